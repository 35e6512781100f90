/-
  An evaluator for closed calls, part 2: it proves that each operation that the evaluator takes does what the evaluator says. No conditions.
-/
import Derived.Test.YtgfbjbdfckgdjaaGreatDoorV1
import Derived.LaidEql
import Derived.Lib.UnsafeStr
import Derived.Lib.MakeNoZero
import Derived.Laws.Externs
import Derived.Scope
import Derived.RangeFuncRecord
import Derived.OrdersIn
set_option linter.unusedSimpArgs false
set_option linter.unusedVariables false

namespace Go.Proofs.YtgfbjbdfckgdjaaGreatDoor.Ev
open Go.RowKit

section
variable {P : Program} {g : G} {β : Ren} {s : S} {w : World}

/-- Entries. -/
def ERel (β : Ren) (es : List ME) (ms : List MapEntry) : Prop :=
  es.length = ms.length ∧ ∀ (j : Nat) (e : ME), es[j]? = some e → ∃ m, ms[j]? = some m ∧ VR β e.key m.key ∧ VR β e.val m.val ∧ m.born = e.born

theorem ERel.nil : ERel β [] [] := ⟨rfl, fun j e h => by simp at h⟩
theorem ERel.tail {e : ME} {es : List ME} {m : MapEntry} {ms : List MapEntry} (h : ERel β (e :: es) (m :: ms)) : ERel β es ms :=
  ⟨by simpa using h.1, fun j x hx => by simpa using h.2 (j + 1) x (by simpa using hx)⟩
theorem ERel.head {e : ME} {es : List ME} {m : MapEntry} {ms : List MapEntry} (h : ERel β (e :: es) (m :: ms)) : VR β e.key m.key ∧ VR β e.val m.val ∧ m.born = e.born := by
  obtain ⟨m', hm, r⟩ := h.2 0 e rfl
  simp only [List.getElem?_cons_zero, Option.some.injEq] at hm
  subst hm
  exact r

theorem same_rel {kd : TypeDesc} {a b : AV} {x y : Value} {r : Bool} (h : sameNow kd a b = some r) (hx : VR β a x) (hy : VR β b y) : Instr.sameNow kd x y = some r := by
  unfold sameNow at h
  split at h
  · simp only [VR] at hx hy
    subst hx; subst hy
    simpa [Instr.sameNow] using h
  · simp only [VR] at hx hy
    subst hx; subst hy
    injection h with h
    subst h
    simp only [Instr.sameNow]
    rw [beq_toListBytes, ByteArray.toList_eq, ByteArray.toList_eq]
  · simp only [VR] at hx hy
    subst hx; subst hy
    simpa [Instr.sameNow] using h
  · cases h

theorem find_rel {kd : TypeDesc} {k : AV} {x : Value} (hx : VR β k x) : ∀ {es : List ME} {ms : List MapEntry} {i : Nat} {r : Option (Nat × AV)}, findNow kd k es i = some r → ERel β es ms →
    match r with
    | none => Instr.findNow kd x ms i = some none
    | some (j, v) => ∃ y, VR β v y ∧ Instr.findNow kd x ms i = some (some (j, y)) ∧ ∃ q e m, j = i + q ∧ es[q]? = some e ∧ ms[q]? = some m ∧ Instr.sameNow kd x m.key = some true
  | [], ms, i, r, h, he => by
    simp only [findNow, Option.some.injEq] at h
    subst h
    have : ms = [] := List.length_eq_zero_iff.1 he.1.symm
    subst this
    rfl
  | e :: es, ms, i, r, h, he => by
    cases ms with
    | nil => simp [ERel] at he
    | cons m ms =>
      obtain ⟨h1, h2, h3⟩ := he.head
      simp only [findNow] at h
      split at h
      · rename_i hs
        injection h with h
        subst h
        have hs' := same_rel hs hx h1
        exact ⟨m.val, h2, by simp [Instr.findNow, hs'], 0, e, m, rfl, rfl, rfl, hs'⟩
      · rename_i hs
        have hs' := same_rel hs hx h1
        have ih := find_rel hx h he.tail
        simp only [Instr.findNow, hs']
        cases r with
        | none => exact ih
        | some p =>
          obtain ⟨j, v⟩ := p
          obtain ⟨y, hy, hf, q, e', m', hj, he', hm', hk⟩ := ih
          exact ⟨y, hy, hf, q + 1, e', m', by omega, by simpa using he', by simpa using hm', hk⟩
      · cases h

theorem run_checkKey (hg : GOK P g) {kt : TypeId} {kd : TypeDesc} (hk : g.und kt = some kd) (hp : plainKind kd = true) (b : Bool) (n : Nat) (x : Value) : (Instr.checkKey b (n + 1) kt x).run P w = .ok () w := by
  simp only [Instr.checkKey, Sem.run_bind, run_und hg hk, Result.andThen_ok]
  cases kd <;> simp [plainKind] at hp <;> rfl

theorem run_findKey (hg : GOK P g) {kt : TypeId} {kd : TypeDesc} (hk : g.und kt = some kd) {x : Value} {ms : List MapEntry} {r : Option (Nat × Value)} (h : Instr.findNow kd x ms 0 = some r) :
    (Instr.findKey kt x ms).run P w = .ok r w := by
  simp [Instr.findKey, run_und hg hk, h]

theorem mapEs_rel (hs : Rel β s w) {m : Option Nat} {es : List ME} {x : Value} (h : mapEs s m = some es) (hx : VR β (.map m) x) :
    ∃ ms : Array MapEntry, ERel β es ms.toList ∧ ((x = .map none ∧ ms = #[]) ∨ ∃ r k, x = .map (some r) ∧ (getObj r).run P w = .ok (.map ms k) w) := by
  cases m with
  | none =>
    simp only [mapEs, Option.some.injEq] at h
    subst h
    simp only [VR] at hx
    exact ⟨#[], ERel.nil, .inl ⟨hx, rfl⟩⟩
  | some b =>
    obtain ⟨i, hi, rfl⟩ := hx
    simp only [mapEs] at h
    split at h
    · rename_i es' k hb
      injection h with h
      subst h
      obtain ⟨_, j, hj, ms, hm, hl, _, he⟩ := hs.obj _ _ hb
      rw [hi] at hj
      injection hj with hj
      subst hj
      exact ⟨ms, ⟨by simpa using hl, fun q e hq => by simpa using he q e hq⟩, .inr ⟨i.blk, k, rfl, by simp [getObj, Sem.run, hm]⟩⟩
    · cases h

theorem ex_lookup0 (hg : GOK P g) (hs : Rel β s w) {t : TypeId} {a k : AV} {ok : Bool} {r : R} {x y : Value} (h : exLookup0 g s t a k ok = some r) (hx : VR β a x) (hy : VR β k y) :
    RV β s w ((Instr.lookup t x y ok).run P w) r := by
  unfold exLookup0 at h
  split at h
  · rename_i kt e m hu
    split at h
    · rename_i kd es z hk hm hz
      split at h
      · rename_i hp
        obtain ⟨ms, he, hr⟩ := mapEs_rel (P := P) hs hm hx
        obtain ⟨zx, hzr, hzx⟩ := run_zero hg (β := β) (w := w) hz
        split at h
        · rename_i j v hf
          injection h with h
          subst h
          obtain ⟨y', hy', hf', _⟩ := find_rel hy hf he
          have hrun : (Instr.lookup t x y ok).run P w = .ok (if ok then .tuple #[y', .bool true] else y') w := by
            rcases hr with ⟨rfl, rfl⟩ | ⟨r, k, rfl, hr⟩
            · simp only [Instr.lookup, Sem.run_bind, run_und hg hu, Result.andThen_ok, run_checkKey hg hk hp, run_findKey hg hk hf', Sem.run_pure]
            · simp only [Instr.lookup, Sem.run_bind, run_und hg hu, Result.andThen_ok, hr, run_checkKey hg hk hp, run_findKey hg hk hf', Sem.run_pure]
          cases ok
          · exact RV.pure hs hy' hrun
          · exact RV.pure hs (x := .tuple #[y', .bool true]) (by exact ⟨[y', .bool true], VRs.cons hy' (VRs.cons rfl VRs.nil), rfl⟩) hrun
        · rename_i hf
          injection h with h
          subst h
          have hf' := find_rel hy hf he
          have hrun : (Instr.lookup t x y ok).run P w = .ok (if ok then .tuple #[zx, .bool false] else zx) w := by
            rcases hr with ⟨rfl, rfl⟩ | ⟨r, k, rfl, hr⟩
            · simp only [Instr.lookup, Sem.run_bind, run_und hg hu, Result.andThen_ok, run_checkKey hg hk hp, run_findKey hg hk hf', hzr, Sem.run_pure]
            · simp only [Instr.lookup, Sem.run_bind, run_und hg hu, Result.andThen_ok, hr, run_checkKey hg hk hp, run_findKey hg hk hf', hzr, Sem.run_pure]
          cases ok
          · exact RV.pure hs hzx hrun
          · exact RV.pure hs (x := .tuple #[zx, .bool false]) (by exact ⟨[zx, .bool false], VRs.cons hzx (VRs.cons rfl VRs.nil), rfl⟩) hrun
        · cases h
      · cases h
    · cases h
  · cases h

/-- Of a key that at most one entry has the order does not matter. -/
theorem litFind_spec {kd : TypeDesc} {k : AV} : ∀ {es : List ME} {r : Option AV}, litFind kd k es = some r →
    (∀ e ∈ es, ∃ b, sameNow kd k e.key = some b) ∧ (r = none → ∀ e ∈ es, sameNow kd k e.key = some false) ∧ ∀ v, r = some v → (∃ e ∈ es, sameNow kd k e.key = some true) ∧ ∀ e ∈ es, sameNow kd k e.key = some true → e.val = v
  | [], r, h => by
    simp only [litFind, Option.some.injEq] at h
    subst h
    exact ⟨(fun e he => by cases he), (fun _ e he => by cases he), (fun v h => by cases h)⟩
  | e :: es, r, h => by
    simp only [litFind] at h
    split at h
    · rename_i h1 h2
      injection h with h
      subst h
      obtain ⟨k1, k2, _⟩ := litFind_spec h2
      refine ⟨fun f hf => ?_, (fun h => by cases h), fun v hv => ⟨⟨e, List.mem_cons_self, h1⟩, fun f hf hft => ?_⟩⟩
      · rcases List.mem_cons.1 hf with rfl | hf
        · exact ⟨_, h1⟩
        · exact k1 f hf
      · rcases List.mem_cons.1 hf with rfl | hf
        · injection hv
        · rw [k2 rfl f hf] at hft
          injection hft with hft
          cases hft
    · rename_i r' h1 h2
      injection h with h
      subst h
      obtain ⟨k1, k2, k3⟩ := litFind_spec h2
      refine ⟨fun f hf => ?_, fun hr f hf => ?_, fun v hv => ?_⟩
      · rcases List.mem_cons.1 hf with rfl | hf
        · exact ⟨_, h1⟩
        · exact k1 f hf
      · rcases List.mem_cons.1 hf with rfl | hf
        · exact h1
        · exact k2 hr f hf
      · obtain ⟨⟨f, hf, hft⟩, hall⟩ := k3 v hv
        refine ⟨⟨f, List.mem_cons_of_mem _ hf, hft⟩, fun f hf hft => ?_⟩
        rcases List.mem_cons.1 hf with rfl | hf
        · rw [h1] at hft
          injection hft with hft
          cases hft
        · exact hall f hf hft
    · cases h

theorem findNow_of {kd : TypeDesc} {k : AV} : ∀ {es : List ME} {i : Nat}, (∀ e ∈ es, ∃ b, sameNow kd k e.key = some b) →
    (findNow kd k es i = some none ∧ ∀ e ∈ es, sameNow kd k e.key = some false) ∨ ∃ j e, findNow kd k es i = some (some (j, e.val)) ∧ e ∈ es ∧ sameNow kd k e.key = some true
  | [], i, _ => .inl ⟨rfl, (fun e he => by cases he)⟩
  | e :: es, i, h => by
    obtain ⟨b, hb⟩ := h e List.mem_cons_self
    cases b with
    | true => exact .inr ⟨i, e, by simp [findNow, hb], List.mem_cons_self, hb⟩
    | false =>
      rcases findNow_of (i := i + 1) (fun f hf => h f (List.mem_cons_of_mem _ hf)) with ⟨h1, h2⟩ | ⟨j, f, h1, h2, h3⟩
      · exact .inl ⟨by simp [findNow, hb, h1], fun f hf => by
          rcases List.mem_cons.1 hf with rfl | hf
          · exact hb
          · exact h2 f hf⟩
      · exact .inr ⟨j, f, by simp [findNow, hb, h1], List.mem_cons_of_mem _ h2, h3⟩

theorem litFind_perm {kd : TypeDesc} {k : AV} {es es' : List ME} {r : Option AV} (h : litFind kd k es = some r) (hp : (es'.map fun e => (e.key, e.val)).Perm (es.map fun e => (e.key, e.val))) :
    match r with
    | none => findNow kd k es' 0 = some none
    | some v => ∃ j, findNow kd k es' 0 = some (some (j, v)) := by
  obtain ⟨k1, k2, k3⟩ := litFind_spec h
  have back : ∀ e ∈ es', ∃ f ∈ es, f.key = e.key ∧ f.val = e.val := by
    intro e he
    have := hp.mem_iff.1 (List.mem_map.2 ⟨e, he, rfl⟩)
    obtain ⟨f, hf, e1⟩ := List.mem_map.1 this
    injection e1 with e1 e2
    exact ⟨f, hf, e1, e2⟩
  have forth : ∀ f ∈ es, ∃ e ∈ es', e.key = f.key ∧ e.val = f.val := by
    intro f hf
    have := hp.mem_iff.2 (List.mem_map.2 ⟨f, hf, rfl⟩)
    obtain ⟨e, he, e1⟩ := List.mem_map.1 this
    injection e1 with e1 e2
    exact ⟨e, he, e1, e2⟩
  rcases findNow_of (kd := kd) (k := k) (es := es') (i := 0) (fun e he => by
    obtain ⟨f, hf, e1, _⟩ := back e he
    rw [← e1]
    exact k1 f hf) with ⟨h1, h2⟩ | ⟨j, e, h1, h2, h3⟩
  · cases r with
    | none => exact h1
    | some v =>
      exfalso
      obtain ⟨⟨f, hf, hft⟩, _⟩ := k3 v rfl
      obtain ⟨e, he, e1, _⟩ := forth f hf
      have := h2 e he
      rw [e1, hft] at this
      injection this with this
      cases this
  · obtain ⟨f, hf, e1, e2⟩ := back e h2
    rw [← e1] at h3
    cases r with
    | none =>
      exfalso
      rw [k2 rfl f hf] at h3
      injection h3 with h3
      cases h3
    | some v =>
      obtain ⟨_, hall⟩ := k3 v rfl
      have := hall f hf h3
      refine ⟨j, ?_⟩
      show findNow kd k es' 0 = some (some (j, v))
      rw [h1, ← e2, this]

theorem ex_lookup (hg : GOK P g) (hs : Rel β s w) {t : TypeId} {a k : AV} {ok : Bool} {r : R} {x y : Value} (h : exLookup g s t a k ok = some r) (hx : VR β a x) (hy : VR β k y) :
    RV β s w ((Instr.lookup t x y ok).run P w) r := by
  unfold exLookup at h
  split at h
  · rename_i b
    split at h
    · rename_i es hb
      obtain ⟨i, hi, rfl⟩ := hx
      obtain ⟨_, j, hj, ms, c, hm, _, es', hp, hl, he⟩ := hs.obj _ _ hb
      rw [hi] at hj
      injection hj with hj
      subst hj
      have her : ERel β es' ms.toList := ⟨by simpa using hl, fun q e hq => by simpa using he q e hq⟩
      have hr : (getObj i.blk).run P w = .ok (.map ms c) w := by simp [getObj, Sem.run, hm]
      unfold lookupLit at h
      split at h
      · rename_i kt e hu
        split at h
        · rename_i kd z hk hz
          split at h
          · rename_i hpl
            obtain ⟨zx, hzr, hzx⟩ := run_zero hg (β := β) (w := w) hz
            split at h
            · rename_i v hf
              injection h with h
              subst h
              obtain ⟨j, hf'⟩ := litFind_perm hf hp
              obtain ⟨y', hy', hf'', _⟩ := find_rel hy hf' her
              have hrun : (Instr.lookup t (.map (some i.blk)) y ok).run P w = .ok (if ok then .tuple #[y', .bool true] else y') w := by
                simp only [Instr.lookup, Sem.run_bind, run_und hg hu, Result.andThen_ok, hr, run_checkKey hg hk hpl, run_findKey hg hk hf'', Sem.run_pure]
              cases ok
              · exact RV.pure hs hy' hrun
              · exact RV.pure hs (x := .tuple #[y', .bool true]) (by exact ⟨[y', .bool true], VRs.cons hy' (VRs.cons rfl VRs.nil), rfl⟩) hrun
            · rename_i hf
              injection h with h
              subst h
              have hf' := litFind_perm hf hp
              have hf'' := find_rel hy hf' her
              have hrun : (Instr.lookup t (.map (some i.blk)) y ok).run P w = .ok (if ok then .tuple #[zx, .bool false] else zx) w := by
                simp only [Instr.lookup, Sem.run_bind, run_und hg hu, Result.andThen_ok, hr, run_checkKey hg hk hpl, run_findKey hg hk hf'', hzr, Sem.run_pure]
              cases ok
              · exact RV.pure hs hzx hrun
              · exact RV.pure hs (x := .tuple #[zx, .bool false]) (by exact ⟨[zx, .bool false], VRs.cons hzx (VRs.cons rfl VRs.nil), rfl⟩) hrun
            · cases h
          · cases h
        · cases h
      · cases h
    · exact ex_lookup0 hg hs h hx hy
  · exact ex_lookup0 hg hs h hx hy

theorem ERel.push {es : List ME} {ms : List MapEntry} (h : ERel β es ms) {k v : AV} {x y : Value} (hx : VR β k x) (hy : VR β v y) (n : Nat) : ERel β (es ++ [⟨k, v, n⟩]) (ms ++ [{ key := x, val := y, born := n }]) := by
  refine ⟨by simp [h.1], fun j e he => ?_⟩
  rcases Nat.lt_or_ge j es.length with hl | hl
  · rw [List.getElem?_append_left hl] at he
    rw [List.getElem?_append_left (h.1 ▸ hl)]
    exact h.2 j e he
  · rw [List.getElem?_append_right hl] at he
    rw [List.getElem?_append_right (h.1 ▸ hl), ← h.1]
    generalize j - es.length = q at he ⊢
    cases q with
    | zero =>
      simp only [List.getElem?_cons_zero, Option.some.injEq] at he
      subst he
      exact ⟨_, rfl, hx, hy, rfl⟩
    | succ q => simp at he

theorem ERel.upd {k v : AV} {x y : Value} (hx : VR β k x) (hy : VR β v y) : ∀ {es : List ME} {ms : List MapEntry} (j : Nat), ERel β es ms → ERel β (updAt es j k v) (ms.modify j fun e => { e with key := x, val := y })
  | [], ms, j, h => by
    have : ms = [] := List.length_eq_zero_iff.1 h.1.symm
    subst this
    cases j <;> exact ERel.nil
  | e :: es, ms, j, h => by
    cases ms with
    | nil => simp [ERel] at h
    | cons m ms =>
      cases j with
      | zero =>
        refine ⟨by simpa [updAt] using h.1, fun q e' he => ?_⟩
        cases q with
        | zero =>
          simp only [updAt, List.getElem?_cons_zero, Option.some.injEq] at he
          subst he
          exact ⟨{ m with key := x, val := y }, by simp, hx, hy, h.head.2.2⟩
        | succ q => simpa [updAt] using h.2 (q + 1) e' (by simpa [updAt] using he)
      | succ j =>
        have ih := ERel.upd hx hy j h.tail
        refine ⟨by simpa [updAt] using ih.1, fun q e' he => ?_⟩
        cases q with
        | zero =>
          simp only [updAt, List.getElem?_cons_zero, Option.some.injEq] at he
          subst he
          exact ⟨m, by simp, h.head⟩
        | succ q => simpa [updAt] using ih.2 q e' (by simpa [updAt] using he)

theorem keyStays {kd : TypeDesc} {x y : Value} (h : Instr.sameNow kd x y = some true) : (Instr.keyThatStays y x).run P w = .ok x w := by
  have : Instr.sameBits 10000 y x = true := by
    unfold Instr.sameNow at h
    split at h
    · split at h
      · rename_i hk
        injection h with h
        simp only [beq_iff_eq] at h
        subst hk; subst h
        simp [Instr.sameBits]
      · cases h
    · injection h with h
      have h' := h
      rw [beq_toListBytes] at h'
      simp only [Instr.sameBits]
      rename_i a b
      have e : b.toList = a.toList := by simpa using (beq_iff_eq.1 h').symm
      rw [beq_toListBytes, e]
      simp
    · injection h with h
      simp only [beq_iff_eq] at h
      subst h
      simp [Instr.sameBits]
    · cases h
  simp [Instr.keyThatStays, this]

theorem ex_mapUpdate (hg : GOK P g) (hs : Rel β s w) {t : TypeId} {a k v : AV} {r : R} {x y z : Value} (h : exMapUpdate g s t a k v = some r) (hx : VR β a x) (hy : VR β k y) (hz : VR β v z) :
    Res P β s w ((Instr.mapUpdate t x y z >>= fun _ => (Pure.pure Next.skip : Sem Next)).run P w) r := by
  unfold exMapUpdate at h
  split at h
  · rename_i kt e b hu
    obtain ⟨i, hi, rfl⟩ := hx
    split at h
    · rename_i kd es c hk hb
      split at h
      · rename_i hp
        obtain ⟨_, j, hj, ms, hm, hl, hxt, he⟩ := hs.obj _ _ hb
        rw [hi] at hj
        injection hj with hj
        subst hj
        have her : ERel β es ms.toList := ⟨by simpa using hl, fun q e hq => by simpa using he q e hq⟩
        have hget : (getObj i.blk).run P w = .ok (.map ms c) w := by simp [getObj, Sem.run, hm]
        have hset : ∀ o, (setObj i.blk o).run P w = .ok () { w with heap := w.heap.setIfInBounds i.blk o } := fun o => by simp [setObj, Sem.run, hm]
        have hlt : i.blk < w.heap.size := (Array.getElem?_eq_some_iff.1 hm).1
        have fin : ∀ (es' : List ME) (ms' : Array MapEntry) (c' : Nat), ERel β es' ms'.toList → (Instr.mapUpdate t (.map (some i.blk)) y z).run P w = .ok () { w with heap := w.heap.setIfInBounds i.blk (.map ms' c') } →
            Res P β s w ((Instr.mapUpdate t (.map (some i.blk)) y z >>= fun _ => (Pure.pure Next.skip : Sem Next)).run P w) (.skip { h := s.h.set b (some (.map es' c')), n := s.n }) := by
          intro es' ms' c' h1 h2
          obtain ⟨h3, h4⟩ := hs.change (o' := .map es' c') (w' := { w with heap := w.heap.setIfInBounds i.blk (.map ms' c') }) hb hi
            ⟨ms', by simp [hlt], by simpa using h1.1, hxt, fun q e hq => by simpa using h1.2 q e hq⟩ (by simp) (fun q hq => by simp [Array.getElem?_setIfInBounds_ne (Ne.symm hq)]) ⟨rfl, rfl, rfl⟩
          exact ⟨β, _, by simp [h2], h3, h4⟩
        split at h
        · rename_i q v' hf
          injection h with h
          subst h
          obtain ⟨y', hy', hf', q', e', m', hq', he', hm', hsame⟩ := find_rel hy hf her
          have hq'' : q = q' := by omega
          subst hq''
          refine fin _ (ms.modify q fun e => { e with key := y, val := z }) c ?_ ?_
          · rw [Array.toList_modify]
            exact her.upd hy hz q
          · have hmq : ms[q]? = some m' := by simpa using hm'
            simp only [Instr.mapUpdate, Sem.run_bind, run_und hg hu, Result.andThen_ok, hget, run_checkKey hg hk hp, run_findKey hg hk hf', hmq, Option.map_some, Option.getD_some, keyStays hsame, hset]
        · rename_i hf
          injection h with h
          subst h
          have hf' := find_rel hy hf her
          refine fin _ (ms.push { key := y, val := z, born := c }) (c + 1) ?_ ?_
          · rw [Array.toList_push]
            exact her.push hy hz c
          · simp only [Instr.mapUpdate, Sem.run_bind, run_und hg hu, Result.andThen_ok, hget, run_checkKey hg hk hp, run_findKey hg hk hf', hset]
        · cases h
      · cases h
    · cases h
  · cases h

/-- An option's value. -/
def OptR (β : Ren) : Option AV → Option Value → Prop
  | none, none => True
  | some v, some x => VR β v x
  | _, _ => False

theorem run_bound {v : AV} {x : Value} {y y' n : Nat} {c : BoundsCode} (h : bound v y = some n) (hx : VR β v x) (hy : y ≤ y') : (Instr.sliceBound x y' c).run P w = .ok n w ∧ n ≤ y := by
  unfold bound at h
  split at h
  · rename_i k i
    simp only [VR] at hx
    subst hx
    split at h
    · rename_i hb
      injection h with h
      subst h
      refine ⟨?_, by omega⟩
      have : 0 ≤ i ∧ i ≤ (y' : Int) := ⟨hb.1, by omega⟩
      simp [Instr.sliceBound, asIntOf, this]
    · cases h
  · cases h

theorem run_bounds {b : Bool} {len cap cap' l h m : Nat} {lo hi mx : Option AV} {lo' hi' mx' : Option Value} (hb : bounds len cap lo hi mx = some (l, h, m)) (h1 : OptR β lo lo') (h2 : OptR β hi hi') (h3 : OptR β mx mx')
    (hc : cap ≤ cap') : (Instr.sliceBounds b len cap' lo' hi' mx').run P w = .ok (l, h, if mx.isNone then cap' else m) w ∧ (mx = none → m = cap) ∧ m ≤ cap := by
  unfold bounds at hb
  cases mx with
  | none =>
    cases mx' with
    | some _ => exact h3.elim
    | none =>
      dsimp only at hb
      cases hi with
      | none =>
        cases hi' with
        | some _ => exact h2.elim
        | none =>
          simp only [Option.isNone_none, if_true] at hb
          cases lo with
          | none =>
            cases lo' with
            | some _ => exact h1.elim
            | none =>
              simp only [Option.some.injEq, Prod.mk.injEq] at hb
              obtain ⟨rfl, rfl, rfl⟩ := hb
              exact ⟨by simp [Instr.sliceBounds], fun _ => rfl, Nat.le_refl _⟩
          | some v =>
            cases lo' with
            | none => exact h1.elim
            | some x =>
              dsimp only at hb
              cases hv : bound v len with
              | none => rw [hv] at hb; cases hb
              | some n =>
                rw [hv] at hb
                simp only [Option.some.injEq, Prod.mk.injEq] at hb
                obtain ⟨rfl, rfl, rfl⟩ := hb
                have := (run_bound (P := P) (w := w) (c := .sliceB) hv h1 (Nat.le_refl _)).1
                exact ⟨by simp [Instr.sliceBounds, this], fun _ => rfl, Nat.le_refl _⟩
      | some u =>
        cases hi' with
        | none => exact h2.elim
        | some y =>
          dsimp only at hb
          cases hu : bound u cap with
          | none => rw [hu] at hb; cases hb
          | some q =>
            rw [hu] at hb
            have hq := fun c => (run_bound (P := P) (w := w) (c := c) hu h2 hc).1
            cases lo with
            | none =>
              cases lo' with
              | some _ => exact h1.elim
              | none =>
                simp only [Option.some.injEq, Prod.mk.injEq] at hb
                obtain ⟨rfl, rfl, rfl⟩ := hb
                exact ⟨by simp [Instr.sliceBounds, hq], fun _ => rfl, Nat.le_refl _⟩
            | some v =>
              cases lo' with
              | none => exact h1.elim
              | some x =>
                dsimp only at hb
                cases hv : bound v q with
                | none => rw [hv] at hb; cases hb
                | some n =>
                  rw [hv] at hb
                  simp only [Option.some.injEq, Prod.mk.injEq] at hb
                  obtain ⟨rfl, rfl, rfl⟩ := hb
                  have := (run_bound (P := P) (w := w) (c := .sliceB) hv h1 (Nat.le_refl _)).1
                  exact ⟨by simp [Instr.sliceBounds, hq, this], fun _ => rfl, Nat.le_refl _⟩
  | some t =>
    cases mx' with
    | none => exact h3.elim
    | some z =>
      dsimp only at hb
      cases ht : bound t cap with
      | none => rw [ht] at hb; cases hb
      | some q' =>
        rw [ht] at hb
        have ht' := fun c => (run_bound (P := P) (w := w) (c := c) ht h3 hc).1
        have hle := (run_bound (P := P) (w := w) (c := .sliceB) ht h3 hc).2
        cases hi with
        | none => simp at hb
        | some u =>
          cases hi' with
          | none => exact h2.elim
          | some y =>
            dsimp only at hb
            cases hu : bound u q' with
            | none => rw [hu] at hb; cases hb
            | some q =>
              rw [hu] at hb
              have hq := fun c => (run_bound (P := P) (w := w) (c := c) hu h2 (Nat.le_refl _)).1
              cases lo with
              | none =>
                cases lo' with
                | some _ => exact h1.elim
                | none =>
                  simp only [Option.some.injEq, Prod.mk.injEq] at hb
                  obtain ⟨rfl, rfl, rfl⟩ := hb
                  exact ⟨by simp [Instr.sliceBounds, hq, ht'], fun h => by simp at h, hle⟩
              | some v =>
                cases lo' with
                | none => exact h1.elim
                | some x =>
                  dsimp only at hb
                  cases hv : bound v q with
                  | none => rw [hv] at hb; cases hb
                  | some n =>
                    rw [hv] at hb
                    simp only [Option.some.injEq, Prod.mk.injEq] at hb
                    obtain ⟨rfl, rfl, rfl⟩ := hb
                    have := (run_bound (P := P) (w := w) (c := .slice3C) hv h1 (Nat.le_refl _)).1
                    exact ⟨by simp [Instr.sliceBounds, hq, ht', this], fun h => by simp at h, hle⟩

theorem ERel.key {k : AV} {x : Value} (hx : VR β k x) : ∀ {es : List ME} {ms : List MapEntry} (j : Nat), ERel β es ms → ERel β (setKey es j k) (ms.modify j fun e => { e with key := x })
  | [], ms, j, h => by
    have : ms = [] := List.length_eq_zero_iff.1 h.1.symm
    subst this
    cases j <;> exact ERel.nil
  | e :: es, ms, j, h => by
    cases ms with
    | nil => simp [ERel] at h
    | cons m ms =>
      cases j with
      | zero =>
        refine ⟨by simpa [setKey] using h.1, fun q e' he => ?_⟩
        cases q with
        | zero =>
          simp only [setKey, List.getElem?_cons_zero, Option.some.injEq] at he
          subst he
          exact ⟨{ m with key := x }, by simp, hx, h.head.2.1, h.head.2.2⟩
        | succ q => simpa [setKey] using h.2 (q + 1) e' (by simpa [setKey] using he)
      | succ j =>
        have ih := ERel.key hx j h.tail
        refine ⟨by simpa [setKey] using ih.1, fun q e' he => ?_⟩
        cases q with
        | zero =>
          simp only [setKey, List.getElem?_cons_zero, Option.some.injEq] at he
          subst he
          exact ⟨m, by simp, h.head⟩
        | succ q => simpa [setKey] using ih.2 q e' (by simpa [setKey] using he)

theorem ERel.val {v : AV} {y : Value} (hy : VR β v y) : ∀ {es : List ME} {ms : List MapEntry} (j : Nat), ERel β es ms → ERel β (setVal es j v) (ms.modify j fun e => { e with val := y })
  | [], ms, j, h => by
    have : ms = [] := List.length_eq_zero_iff.1 h.1.symm
    subst this
    cases j <;> exact ERel.nil
  | e :: es, ms, j, h => by
    cases ms with
    | nil => simp [ERel] at h
    | cons m ms =>
      cases j with
      | zero =>
        refine ⟨by simpa [setVal] using h.1, fun q e' he => ?_⟩
        cases q with
        | zero =>
          simp only [setVal, List.getElem?_cons_zero, Option.some.injEq] at he
          subst he
          exact ⟨{ m with val := y }, by simp, h.head.1, hy, h.head.2.2⟩
        | succ q => simpa [setVal] using h.2 (q + 1) e' (by simpa [setVal] using he)
      | succ j =>
        have ih := ERel.val hy j h.tail
        refine ⟨by simpa [setVal] using ih.1, fun q e' he => ?_⟩
        cases q with
        | zero =>
          simp only [setVal, List.getElem?_cons_zero, Option.some.injEq] at he
          subst he
          exact ⟨m, by simp, h.head⟩
        | succ q => simpa [setVal] using ih.2 q e' (by simpa [setVal] using he)

theorem pairKey_eq {k : AV} {p : (IntKind × Int) × (IntKind × Int)} (h : pairKey k = some p) : k = .agg [.int p.1.1 p.1.2, .int p.2.1 p.2.2] := by
  unfold pairKey at h
  split at h
  · injection h with h
    subst h
    rfl
  · cases h

theorem pair_rel {a b c d : AV} {j k : IntKind} {m n : Int} {x : Value} (h : VR β (.agg [.int j m, .int k n]) x) : x = .agg #[.int j m, .int k n] := by
  obtain ⟨c', hc, rfl⟩ := h
  obtain ⟨y, r, hy, hr, rfl⟩ := hc
  obtain ⟨y2, r2, hy2, hr2, rfl⟩ := hr
  simp only [VR, VRs] at hy hy2 hr2
  subst hy; subst hy2; subst hr2
  rfl

theorem ask_rel (hg : GOK P g) {kt : TypeId} {k : AV} {x : Value} (hx : VR β k x) : ∀ {es : List ME} {ms : List MapEntry} {i : Nat} {r : Option (Nat × AV)}, findAsk g kt k es i = some r → ERel β es ms →
    match r with
    | none => (Instr.findAsking kt x ms i).run P w = .ok none w
    | some (j, v) => ∃ q e m, j = i + q ∧ es[q]? = some e ∧ ms[q]? = some m ∧ e.val = v ∧ (Instr.findAsking kt x ms i).run P w = .ok (some (j, m.val)) w ∧ (Instr.keyThatStays m.key x).run P w = .ok x w
  | [], ms, i, r, h, he => by
    simp only [findAsk, Option.some.injEq] at h
    subst h
    have : ms = [] := List.length_eq_zero_iff.1 he.1.symm
    subst this
    simp [Instr.findAsking]
  | e :: es, ms, i, r, h, he => by
    cases ms with
    | nil => simp [ERel] at he
    | cons m ms =>
      simp only [findAsk] at h
      split at h
      · rename_i p q hp hq
        split at h
        · rename_i heq
          split at h
          · rename_i hpq
            subst hpq
            injection h with h
            subst h
            have h1 := ex_eq hg (w := w) _ _ _ _ _ _ _ heq hx he.head.1
            refine ⟨0, e, m, rfl, rfl, rfl, rfl, by simp [Instr.findAsking, Op.equal, Op.maxDepth, h1], ?_⟩
            have e1 := pairKey_eq hp
            have e2 := pairKey_eq hq
            rw [e1] at hx
            have hk := he.head.1
            rw [e2] at hk
            rw [pair_rel (a := k) (b := k) (c := k) (d := k) hx, pair_rel (a := k) (b := k) (c := k) (d := k) hk]
            simp [Instr.keyThatStays, Instr.sameBits]
          · cases h
        · rename_i heq
          have h1 := ex_eq hg (w := w) _ _ _ _ _ _ _ heq hx he.head.1
          have ih := ask_rel hg hx h he.tail
          cases r with
          | none => simpa [Instr.findAsking, Op.equal, Op.maxDepth, h1] using ih
          | some r =>
            obtain ⟨j, v⟩ := r
            obtain ⟨q', e', m', e1, e2, e3, e4, e5, e6⟩ := ih
            exact ⟨q' + 1, e', m', by omega, by simpa using e2, by simpa using e3, e4, by simpa [Instr.findAsking, Op.equal, Op.maxDepth, h1] using e5, e6⟩
        · cases h
      · cases h

theorem any_rel (hg : GOK P g) {kt : TypeId} {kd : TypeDesc} (hk : g.und kt = some kd) {k : AV} {x : Value} (hx : VR β k x) {es : List ME} {ms : List MapEntry} {r : Option (Nat × AV)} (h : findAny g kt kd k es = some r) (he : ERel β es ms) :
    match r with
    | none => (Instr.findKey kt x ms).run P w = .ok none w
    | some (j, v) => ∃ e m, es[j]? = some e ∧ ms[j]? = some m ∧ (∃ y, VR β v y ∧ (Instr.findKey kt x ms).run P w = .ok (some (j, y)) w) ∧ (Instr.keyThatStays m.key x).run P w = .ok x w := by
  have now : findNow kd k es 0 = some r → match r with
    | none => (Instr.findKey kt x ms).run P w = .ok none w
    | some (j, v) => ∃ e m, es[j]? = some e ∧ ms[j]? = some m ∧ (∃ y, VR β v y ∧ (Instr.findKey kt x ms).run P w = .ok (some (j, y)) w) ∧ (Instr.keyThatStays m.key x).run P w = .ok x w := fun h => by
    have h1 := find_rel hx h he
    cases r with
    | none => exact run_findKey hg hk h1
    | some r =>
      obtain ⟨j, v⟩ := r
      obtain ⟨y, hy, hf, q, e, m, e1, e2, e3, e4⟩ := h1
      have : j = q := by omega
      subst this
      exact ⟨e, m, e2, e3, ⟨y, hy, run_findKey hg hk hf⟩, keyStays e4⟩
  unfold findAny at h
  split at h
  · rename_i fs
    have hfk : (Instr.findKey kt x ms).run P w = (Instr.findAsking kt x ms 0).run P w := by
      cases ms with
      | nil => simp [Instr.findKey, run_und hg hk, Instr.findNow, Instr.findAsking]
      | cons m ms => simp [Instr.findKey, run_und hg hk, Instr.findNow, Instr.sameNow]
    have h1 := ask_rel (w := w) hg hx h he
    cases r with
    | none => rw [hfk]; exact h1
    | some r =>
      obtain ⟨j, v⟩ := r
      obtain ⟨q, e, m, e1, e2, e3, e4, e5, e6⟩ := h1
      have : j = q := by omega
      subst this
      obtain ⟨m', hm', _, hv, _⟩ := he.2 j e e2
      rw [e3] at hm'
      injection hm' with hm'
      subst hm'
      exact ⟨e, m, e2, e3, ⟨m.val, by rw [← e4]; exact hv, by rw [hfk]; exact e5⟩, e6⟩
  · exact now h

theorem run_keyFits (hg : GOK P g) {kt : TypeId} {kd : TypeDesc} (hk : g.und kt = some kd) {k : AV} {x : Value} (hf : keyFits g kd k = true) (hx : VR β k x) : (Instr.checkKey false 10000 kt x).run P w = .ok () w := by
  unfold keyFits at hf
  split at hf
  · rename_i fs
    split at hf
    · rename_i xs
      obtain ⟨c, hc, rfl⟩ := hx
      show (Instr.checkKey false (9999 + 1) kt _).run P w = _
      rw [Instr.checkKey]
      simp only [Sem.run_bind, run_und hg hk, Result.andThen_ok]
      rw [← Array.forIn_toList]
      have hall := fun f hf' => List.all_eq_true.1 hf f hf'
      clear hf
      generalize fs.toList = L at hall
      induction L with
      | nil => simp
      | cons f L ih =>
        have h1 := hall f List.mem_cons_self
        split at h1
        · rename_i kd' v hu hp
          obtain ⟨y, hy, _⟩ := part_row hg (w := w) hp hc
          have h2 := run_checkKey (w := w) hg hu h1 false 9998 y
          by_cases hn : f.name = "_"
          · simp only [List.forIn_cons, Sem.run_bind, hn, ne_eq, not_true_eq_false, if_false, Result.andThen_ok, Sem.run_pure]
            exact ih fun f' h' => hall f' (List.mem_cons_of_mem _ h')
          · simp only [List.forIn_cons, Sem.run_bind, hn, ne_eq, not_false_eq_true, if_true, Result.andThen_ok, hy, h2, Sem.run_pure]
            exact ih fun f' h' => hall f' (List.mem_cons_of_mem _ h')
        · cases h1
    · cases hf
  · exact run_checkKey hg hk hf false 9999 x

theorem ex_mapEntry (hg : GOK P g) (hs : Rel β s w) {t : TypeId} {a k : AV} {r : R} {x y : Value} (h : exMapEntry g s t a k = some r) (hx : VR β a x) (hy : VR β k y) : RV β s w ((Instr.mapEntry t x y).run P w) r := by
  unfold exMapEntry at h
  split at h
  · rename_i kt e b hu
    obtain ⟨i, hi, rfl⟩ := hx
    split at h
    · rename_i kd es c z hk hb hz
      split at h
      · rename_i hp
        obtain ⟨_, j, hj, ms, hm, hl, hxt, he⟩ := hs.obj _ _ hb
        rw [hi] at hj
        injection hj with hj
        subst hj
        have her : ERel β es ms.toList := ⟨by simpa using hl, fun q e hq => by simpa using he q e hq⟩
        have hget : (getObj i.blk).run P w = .ok (.map ms c) w := by simp [getObj, Sem.run, hm]
        have hset : ∀ o, (setObj i.blk o).run P w = .ok () { w with heap := w.heap.setIfInBounds i.blk o } := fun o => by simp [setObj, Sem.run, hm]
        have hlt : i.blk < w.heap.size := (Array.getElem?_eq_some_iff.1 hm).1
        have fin : ∀ (es' : List ME) (ms' : Array MapEntry) (c' : Nat) (v : AV) (y' : Value), ERel β es' ms'.toList → VR β v y' → (Instr.mapEntry t (.map (some i.blk)) y).run P w = .ok y' { w with heap := w.heap.setIfInBounds i.blk (.map ms' c') } →
            RV β s w ((Instr.mapEntry t (.map (some i.blk)) y).run P w) (.val v { h := s.h.set b (some (.map es' c')), n := s.n }) := by
          intro es' ms' c' v y' h1 hv h2
          obtain ⟨h3, h4⟩ := hs.change (o' := .map es' c') (w' := { w with heap := w.heap.setIfInBounds i.blk (.map ms' c') }) hb hi
            ⟨ms', by simp [hlt], by simpa using h1.1, hxt, fun q e hq => by simpa using h1.2 q e hq⟩ (by simp) (fun q hq => by simp [Array.getElem?_setIfInBounds_ne (Ne.symm hq)]) ⟨rfl, rfl, rfl⟩
          exact ⟨β, _, _, h2, hv, h3, h4⟩
        have hck := run_keyFits (w := w) hg hk hp hy
        split at h
        · rename_i q v hf
          split at h
          · rename_i en hen
            injection h with h
            subst h
            obtain ⟨e', m', h1, h2, ⟨y', hy', hf'⟩, hst⟩ := any_rel (w := w) hg hk hy hf her
            rw [hen] at h1
            injection h1 with h1
            subst h1
            have hmq : ms[q]? = some m' := by simpa using h2
            obtain ⟨m2, hm2, _, _, hb2⟩ := her.2 q en hen
            rw [h2] at hm2
            injection hm2 with hm2
            subst hm2
            refine fin _ (ms.modify q fun e => { e with key := y }) c _ (.tuple #[y', goInt m'.born]) ?_ ⟨[y', goInt m'.born], VRs.cons hy' (VRs.cons (by simp only [VR, goInt, hb2]) VRs.nil), rfl⟩ ?_
            · rw [Array.toList_modify]
              exact her.key hy q
            · simp only [Instr.mapEntry, Sem.run_bind, run_und hg hu, Result.andThen_ok, hget, hck, hf', hmq, Option.map_some, Option.getD_some, hst, hset, Sem.run_pure]
          · cases h
        · rename_i hf
          injection h with h
          subst h
          have hf' := any_rel (w := w) hg hk hy hf her
          obtain ⟨zx, hzr, hzx⟩ := run_zero hg (β := β) (w := w) hz
          refine fin _ (ms.push { key := y, val := zx, born := c }) (c + 1) _ (.tuple #[zx, goInt c]) ?_ ⟨[zx, goInt c], VRs.cons hzx (VRs.cons (by simp only [VR, goInt]) VRs.nil), rfl⟩ ?_
          · rw [Array.toList_push]
            exact her.push hy hzx c
          · simp only [Instr.mapEntry, Sem.run_bind, run_und hg hu, Result.andThen_ok, hget, hck, hf', hzr, hset, Sem.run_pure]
        · cases h
      · cases h
    · cases h
  · cases h

theorem bornAt_rel {n : Int} : ∀ {es : List ME} {ms : List MapEntry} {i j : Nat}, bornAt es n i = some j → ERel β es ms → ∃ q, j = i + q ∧ ms.findIdx? (fun e => (e.born : Int) == n) = some q
  | [], ms, i, j, h, he => by simp [bornAt] at h
  | e :: es, ms, i, j, h, he => by
    cases ms with
    | nil => simp [ERel] at he
    | cons m ms =>
      have hb := he.head.2.2
      simp only [bornAt] at h
      split at h
      · rename_i hn
        injection h with h
        exact ⟨0, by omega, by simp [List.findIdx?_cons, hb, hn]⟩
      · rename_i hn
        obtain ⟨q, h1, h2⟩ := bornAt_rel h he.tail
        exact ⟨q + 1, by omega, by simp [List.findIdx?_cons, hb, hn, h2]⟩

theorem ex_entryStore (hs : Rel β s w) {t : TypeId} {a k v : AV} {r : R} {x y z : Value} (h : exEntryStore s a k v = some r) (hx : VR β a x) (hy : VR β k y) (hz : VR β v z) :
    Res P β s w ((Instr.entryStore t x y z >>= fun _ => (Pure.pure Next.skip : Sem Next)).run P w) r := by
  unfold exEntryStore at h
  split at h
  · rename_i b kd n
    obtain ⟨i, hi, rfl⟩ := hx
    simp only [VR] at hy
    subst hy
    split at h
    · rename_i es c hb
      split at h
      · rename_i q hq
        injection h with h
        subst h
        obtain ⟨_, j, hj, ms, hm, hl, hxt, he⟩ := hs.obj _ _ hb
        rw [hi] at hj
        injection hj with hj
        subst hj
        have her : ERel β es ms.toList := ⟨by simpa using hl, fun q e hq => by simpa using he q e hq⟩
        have hget : (getObj i.blk).run P w = .ok (.map ms c) w := by simp [getObj, Sem.run, hm]
        have hset : ∀ o, (setObj i.blk o).run P w = .ok () { w with heap := w.heap.setIfInBounds i.blk o } := fun o => by simp [setObj, Sem.run, hm]
        have hlt : i.blk < w.heap.size := (Array.getElem?_eq_some_iff.1 hm).1
        obtain ⟨q', e1, e2⟩ := bornAt_rel hq her
        have : q = q' := by omega
        subst this
        have hfi : ms.findIdx? (fun e => (e.born : Int) == n) = some q := by
          clear her hget hm hl he
          cases ms
          simpa using e2
        have h1 := her.val hz q
        obtain ⟨h3, h4⟩ := hs.change (o' := .map (setVal es q v) c) (w' := { w with heap := w.heap.setIfInBounds i.blk (.map (ms.modify q fun e => { e with val := z }) c) }) hb hi
          ⟨ms.modify q fun e => { e with val := z }, by simp [hlt], by rw [← Array.toList_modify] at h1; simpa using h1.1, hxt, fun p e hp => by
            have h2 := h1.2 p e hp
            rw [← Array.toList_modify] at h2
            simpa only [Array.getElem?_toList] using h2⟩ (by simp) (fun q hq => by simp [Array.getElem?_setIfInBounds_ne (Ne.symm hq)]) ⟨rfl, rfl, rfl⟩
        exact ⟨β, _, by simp [Instr.entryStore, hget, asInt, asIntOf, hfi, hset], h3, h4⟩
      · cases h
    · cases h
  · cases h
end
end Go.Proofs.YtgfbjbdfckgdjaaGreatDoor.Ev

namespace Go.Proofs.YtgfbjbdfckgdjaaGreatDoor.Ev
open Go.RowKit

/-- Addresses. -/
def AR (β : Ren) : Option (Nat × Nat) → Option Addr → Prop
  | none, x => x = none
  | some (b, o), x => ∃ i, β b = some i ∧ x = some ⟨i.blk, i.off + o, none⟩

/-- An open row, or a window. -/
def Openish (s : S) (b : Nat) (c : List AV) (e : TypeId) (z : Nat) : Prop := s.h.get b = some (.row c e true z) ∨ s.h.get b = some (.win c e z)

section
variable {P : Program} {g : G} {β : Ren} {s : S} {w : World}

theorem openish_at (hs : Rel β s w) {b : Nat} {c : List AV} {e : TypeId} {z : Nat} (h : Openish s b c e z) {i : Info} (hi : β b = some i) :
    ∃ cs, w.heap[i.blk]? = some (.cells cs e (0, 0)) ∧ VRs β c ((cs.toList.drop i.off).take c.length) ∧ i.asz = c.length ∧ i.esz = z ∧ cs.size = i.off + c.length + i.xtra * z := by
  rcases h with h | h
  · obtain ⟨_, j, hj, cs, h1, h2, h3, h4, h5, _, h6⟩ := hs.obj _ _ h
    rw [hi] at hj
    injection hj with hj
    subst hj
    exact ⟨cs, h1, by rw [h6]; exact h2, h3, h4, by rw [h6, Nat.zero_add]; exact h5⟩
  · obtain ⟨_, j, hj, cs, h1, h2, h3, h4, h5⟩ := hs.obj _ _ h
    rw [hi] at hj
    injection hj with hj
    subst hj
    exact ⟨cs, h1, h2, h3, h4, h5⟩

/-- A slice: its capacity is known, or its row is open. -/
theorem slice_open (hs : Rel β s w) {a : Option (Nat × Nat)} {len cap : Nat} {ok : Bool} {x : Value} (h : sure s a cap = some ok) (hx : VR β (.slice a len cap) x) :
    ∃ a' c', x = .slice a' len c' ∧ AR β a a' ∧ cap ≤ c' ∧ (ok = true → c' = cap) ∧
      (ok = false → ∃ b o c e z i, a = some (b, o) ∧ Openish s b c e z ∧ β b = some i ∧ o + cap * z = c.length ∧ c' = cap + i.xtra) := by
  cases a with
  | none =>
    simp only [sure, Option.some.injEq] at h
    subst h
    simp only [VR] at hx
    subst hx
    exact ⟨none, cap, rfl, rfl, Nat.le_refl _, fun _ => rfl, fun h => by cases h⟩
  | some p =>
    obtain ⟨b, o⟩ := p
    obtain ⟨i, hi, rfl⟩ := hx
    unfold sure at h
    dsimp only at h
    split at h
    · rename_i c e op z hb
      obtain ⟨_, j, hj, cs, _, _, ha, hz, _, hop, _⟩ := hs.obj _ _ hb
      rw [hi] at hj
      injection hj with hj
      subst hj
      refine ⟨_, _, rfl, ⟨i, hi, rfl⟩, by split <;> omega, fun hok => ?_, fun hok => ?_⟩
      · split at h
        · have := hop rfl
          split <;> omega
        · injection h with h
          rw [hok] at h
          rw [ha, hz, if_neg]
          intro e'
          rw [e'] at h
          simp at h
      · split at h
        · injection h with h
          rw [hok] at h
          cases h
        · injection h with h
          rw [hok] at h
          have : o + cap * z = c.length := by
            simp only [Bool.not_eq_false'] at h
            exact Nat.eq_of_beq_eq_true h
          exact ⟨b, o, c, e, z, i, rfl, .inl hb, hi, this, by rw [ha, hz, if_pos this]⟩
    · rename_i c e z hb
      obtain ⟨_, j, hj, cs, _, _, ha, hz, _⟩ := hs.obj _ _ hb
      rw [hi] at hj
      injection hj with hj
      subst hj
      refine ⟨_, _, rfl, ⟨i, hi, rfl⟩, by split <;> omega, fun hok => ?_, fun hok => ?_⟩
      · injection h with h
        rw [hok] at h
        rw [ha, hz, if_neg]
        intro e'
        rw [e'] at h
        simp at h
      · injection h with h
        rw [hok] at h
        have : o + cap * z = c.length := by
          simp only [Bool.not_eq_false'] at h
          exact Nat.eq_of_beq_eq_true h
        exact ⟨b, o, c, e, z, i, rfl, .inr hb, hi, this, by rw [ha, hz, if_pos this]⟩
    · cases h

theorem slice_shut (hs : Rel β s w) {a : Option (Nat × Nat)} {a' : Option Addr} {len cap : Nat} {ok : Bool} (h : sure s a cap = some ok) (ha : AR β a a') {c' : Nat} (h1 : ok = true → c' = cap)
    (h2 : ok = false → ∀ b o i, a = some (b, o) → β b = some i → c' = cap + i.xtra) : VR β (.slice a len cap) (.slice a' len c') := by
  cases a with
  | none =>
    simp only [sure, Option.some.injEq] at h
    subst h
    simp only [AR] at ha
    subst ha
    simp [VR, h1]
  | some p =>
    obtain ⟨b, o⟩ := p
    obtain ⟨i, hi, rfl⟩ := ha
    refine ⟨i, hi, ?_⟩
    congr 1
    unfold sure at h
    dsimp only at h
    split at h
    · rename_i c e op z hb
      obtain ⟨_, j, hj, cs, _, _, ha, hz, _, hop, _⟩ := hs.obj _ _ hb
      rw [hi] at hj
      injection hj with hj
      subst hj
      split at h
      · have := hop rfl
        injection h with h
        rw [h1 h.symm]
        split <;> omega
      · injection h with h
        cases ok
        · have : o + cap * z = c.length := by
            simp only [Bool.not_eq_false'] at h
            exact Nat.eq_of_beq_eq_true h
          rw [ha, hz, if_pos this]
          exact h2 rfl b o i rfl hi
        · rw [h1 rfl, ha, hz, if_neg]
          intro e'
          rw [e'] at h
          simp at h
    · rename_i c e z hb
      obtain ⟨_, j, hj, cs, _, _, ha, hz, _⟩ := hs.obj _ _ hb
      rw [hi] at hj
      injection hj with hj
      subst hj
      injection h with h
      cases ok
      · have : o + cap * z = c.length := by
          simp only [Bool.not_eq_false'] at h
          exact Nat.eq_of_beq_eq_true h
        rw [ha, hz, if_pos this]
        exact h2 rfl b o i rfl hi
      · rw [h1 rfl, ha, hz, if_neg]
        intro e'
        rw [e'] at h
        simp at h
    · cases h

theorem shift_rel {a : Option (Nat × Nat)} {a' : Option Addr} {l m m' size : Nat} (h : AR β a a') (hm : m' = m ∨ (m ≤ m' ∧ (l < m ∨ l = 0))) :
    AR β (shift a l m size) (if m' = l then a' else a'.map (·.add (l * size))) := by
  cases a with
  | none => simp only [AR] at h; subst h; simp [shift, AR]
  | some p =>
    obtain ⟨b, o⟩ := p
    obtain ⟨i, hi, rfl⟩ := h
    unfold shift
    dsimp only
    by_cases e1 : m = l <;> by_cases e2 : m' = l
    · rw [if_pos e1, if_pos e2]; exact ⟨i, hi, rfl⟩
    · have hl : l = 0 := by omega
      rw [if_pos e1, if_neg e2, hl]
      exact ⟨i, hi, by simp [add_none]⟩
    · have hl : l = 0 := by omega
      rw [if_neg e1, if_pos e2, hl]
      exact ⟨i, hi, by simp⟩
    · rw [if_neg e1, if_neg e2]
      exact ⟨i, hi, by simp [add_none, Nat.add_assoc]⟩

theorem clip_rel {b o size l m : Nat} {i : Info} (hi : β b = some i) : VR β (.clip (shiftC (b, o) l m size) (m - l)) (.slice (if m = l then some ⟨i.blk, i.off + o, none⟩ else (some ⟨i.blk, i.off + o, none⟩ : Option Addr).map (·.add (l * size))) (m - l) (m - l)) := by
  unfold shiftC
  split
  · exact ⟨i, hi, rfl⟩
  · refine ⟨i, hi, ?_⟩
    simp [add_none, Nat.add_assoc]

theorem ex_slice (hg : GOK P g) (hs : Rel β s w) {t : TypeId} {a : AV} {lo hi mx : Option AV} {lo' hi' mx' : Option Value} {r : R} {x : Value} (h : sliceOp g s t a lo hi mx = some r) (hx : VR β a x)
    (h1 : OptR β lo lo') (h2 : OptR β hi hi') (h3 : OptR β mx mx') : RV β s w ((Instr.sliceAt t x lo' hi' mx').run P w) r := by
  unfold sliceOp at h
  split at h
  · rename_i hu
    split at h
    · rename_i l
      cases mx' with
      | some _ => exact h3.elim
      | none =>
        split at h
        · rename_i a b m hb
          injection h with h
          subst h
          simp only [VR] at hx
          subst hx
          have hr := (run_bounds (P := P) (w := w) (b := false) (cap' := l.length) hb h1 h2 (show OptR β none none from trivial) (Nat.le_refl _)).1
          refine RV.pure hs (x := .string ⟨((l.drop a).take (b - a)).toArray⟩) (by exact rfl) ?_
          have hsz : (ByteArray.mk l.toArray).size = l.length := rfl
          have hex : (ByteArray.mk l.toArray).extract a b = ByteArray.mk ((l.drop a).take (b - a)).toArray := by
            apply ByteArray.ext
            rw [ByteArray.data_extract]
            simp only [List.extract_toArray, List.extract_eq_take_drop]
          simp only [Instr.sliceAt, Sem.run_bind, run_und hg hu, Result.andThen_ok, Instr.slice, Option.isSome_none, Bool.false_eq_true, if_false, hsz, hr, Sem.run_pure, hex]
        · cases h
    · cases h
  · rename_i e hu
    split at h
    · rename_i p len cap
      split at h
      · rename_i l hh m size ok hb hsz hok
        obtain ⟨a', c', rfl, ha, hle, hc1, hc2⟩ := slice_open hs hok hx
        obtain ⟨hr, hm, hml⟩ := run_bounds (P := P) (w := w) (b := true) (cap' := c') hb h1 h2 h3 hle
        have run : (Instr.sliceAt t (.slice a' len c') lo' hi' mx').run P w =
            .ok (.slice (if (if mx.isNone then c' else m) = l then a' else a'.map (·.add (l * size))) (hh - l) ((if mx.isNone then c' else m) - l)) w := by
          simp only [Instr.sliceAt, Sem.run_bind, run_und hg hu, Result.andThen_ok, Instr.slice, hr, run_size hg hsz, Sem.run_pure]
        split at h
        · rename_i ok' hok'
          split at h
          · rename_i hb1
            simp only [Bool.and_eq_true, Bool.not_eq_true', Option.isNone_iff_eq_none] at hb1
            split at h
            · rename_i hb2
              injection h with h
              subst h
              simp only [Bool.and_eq_true, Bool.not_eq_true', Bool.or_eq_true] at hb2
              obtain ⟨b, o, c, e', z, i, hpa, hrow, hi, hlen, hcc⟩ := hc2 hb1.2
              have hmc := hm hb1.1
              have hlm : l < m ∨ l = 0 := by
                rcases hb2.2 with h5 | h5
                · exact .inl (Nat.le_of_ble_eq_true h5)
                · exact .inr (Nat.eq_of_beq_eq_true h5)
              simp only [hb1.1, Option.isNone_none, if_true] at run
              refine RV.pure hs (slice_shut hs hok' (shift_rel ha (.inr ⟨by omega, hlm⟩)) (fun h => by rw [hb2.1] at h; cases h) fun _ b' o' i' hsh hi' => ?_) run
              have : i' = i := by
                subst hpa
                unfold shift at hsh
                split at hsh
                · injection hsh with hsh; injection hsh with hsh1 hsh2; subst hsh1; rw [hi] at hi'; exact (Option.some.inj hi').symm
                · unfold addA at hsh; injection hsh with hsh; injection hsh with hsh1 hsh2; dsimp only at hsh1; subst hsh1; rw [hi] at hi'; exact (Option.some.inj hi').symm
              subst this
              omega
            · split at h
              · rename_i q
                split at h
                case h_2 => cases h
                rename_i hlm
                injection h with h
                subst h
                simp only [Bool.and_eq_true] at hlm
                obtain ⟨⟨hlm, hhl⟩, hrz⟩ := hlm
                have hlm := Nat.eq_of_beq_eq_true hlm
                have hhl := Nat.eq_of_beq_eq_true hhl
                subst hlm; subst hhl
                obtain ⟨b, o, c, e', z, i, hpa, hrow, hi, hlen, hcc⟩ := hc2 hb1.2
                injection hpa with hpa
                subst hpa
                have hmc := hm hb1.1
                have hh1 : hh - hh = 0 := by omega
                have hz : size = z := by
                  unfold rowZ at hrz
                  rcases hrow with hrow | hrow
                  · rw [hrow] at hrz; exact (Nat.eq_of_beq_eq_true hrz).symm
                  · rw [hrow] at hrz; exact (Nat.eq_of_beq_eq_true hrz).symm
                simp only [hb1.1, Option.isNone_none, if_true] at run
                obtain ⟨i', hi', rfl⟩ := ha
                rw [hi] at hi'
                injection hi' with hi'
                subst hi'
                obtain ⟨cs, hcs, hcv, hasz, hesz, hsize⟩ := openish_at hs hrow hi
                rw [hh1] at run
                by_cases hcl : c' = hh
                · rw [if_pos hcl] at run
                  exact RV.pure hs (v := .rest b) ⟨i, hi, _, _, rfl, .inl (by omega)⟩ run
                · rw [if_neg hcl] at run
                  refine RV.pure hs (v := .rest b) ⟨i, hi, i.off + i.asz, c' - hh, ?_, .inr ⟨rfl, by omega⟩⟩ run
                  rw [Option.map_some, add_none, hasz, ← hlen, hz, ← hmc, Nat.add_assoc]
              · cases h
          · rename_i hb1
            cases ok' with
            | false =>
              dsimp only at h
              split at h
              · rename_i q hc
                injection h with h
                subst h
                simp only [Bool.and_eq_true, Bool.not_eq_true'] at hc
                obtain ⟨hhm, hmx⟩ := hc
                have hhm := Nat.eq_of_beq_eq_true hhm
                subst hhm
                obtain ⟨b, o⟩ := q
                obtain ⟨i, hi, rfl⟩ := ha
                refine RV.pure hs (clip_rel (size := size) (l := l) (m := hh) hi) ?_
                rw [run]
                simp only [hmx, Bool.false_eq_true, if_false]
              · cases h
            | true =>
              dsimp only at h
              injection h with h
              subst h
              have hmm : (if mx.isNone then c' else m) = m := by
                cases mx with
                | some _ => rfl
                | none =>
                  simp only [Option.isNone_none, if_true]
                  have : ok = true := by simpa using hb1
                  rw [hc1 this, hm rfl]
              rw [hmm] at run
              exact RV.pure hs (slice_shut hs hok' (shift_rel ha (.inl rfl)) (fun _ => rfl) (fun h => by cases h)) run
        · cases h
      · cases h
    · rename_i q len
      split at h
      · rename_i l hh m size hb hsz
        split at h
        · rename_i hhm
          injection h with h
          subst h
          have hhm := Nat.eq_of_beq_eq_true hhm
          subst hhm
          obtain ⟨b, o⟩ := q
          obtain ⟨i, hi, rfl⟩ := hx
          obtain ⟨hr, hm, hml⟩ := run_bounds (P := P) (w := w) (b := true) (cap' := len) hb h1 h2 h3 (Nat.le_refl _)
          have hmm : (if mx.isNone then len else hh) = hh := by
            cases mx with
            | some _ => rfl
            | none => simp [hm rfl]
          rw [hmm] at hr
          refine RV.pure hs (clip_rel (size := size) (l := l) (m := hh) hi) ?_
          simp only [Instr.sliceAt, Sem.run_bind, run_und hg hu, Result.andThen_ok, Instr.slice, hr, run_size hg hsz, Sem.run_pure]
        · cases h
      · cases h
    · cases h
  · rename_i n e hu
    split at h
    · rename_i p
      split at h
      · rename_i l hh m size hb hsz
        split at h
        · rename_i hok'
          injection h with h
          subst h
          obtain ⟨b, o⟩ := p
          obtain ⟨i, hi, rfl⟩ := hx
          obtain ⟨hr, hm, hml⟩ := run_bounds (P := P) (w := w) (b := false) (cap' := n) hb h1 h2 h3 (Nat.le_refl _)
          have hmm : (if mx.isNone then n else m) = m := by
            cases mx with
            | some _ => rfl
            | none => simp [hm rfl]
          rw [hmm] at hr
          have ha : AR β (some (b, o)) (some ⟨i.blk, i.off + o, none⟩) := ⟨i, hi, rfl⟩
          refine RV.pure hs (slice_shut hs hok' (shift_rel (m' := m) ha (.inl rfl)) (fun _ => rfl) (fun h => by cases h)) ?_
          simp only [Instr.sliceAt, Sem.run_bind, run_und hg hu, Result.andThen_ok, Instr.sureAddr, Sem.run_pure, hr, run_size hg hsz]
          congr 2
          split <;> simp
        · cases h
      · cases h
    · cases h
  · cases h

theorem Rel.drew (hs : Rel β s w) (n : Nat) : Rel β s { w with drawn := n } :=
  ⟨fun b o h => let ⟨h1, i, h2, h3⟩ := hs.obj b o h; ⟨h1, i, h2, h3.keep rfl⟩, hs.inj⟩

theorem Step.drew (n : Nat) : Step β s w β s { w with drawn := n } :=
  ⟨.refl β, Nat.le_refl _, Nat.le_refl _, fun _ _ _ => rfl, fun b o i h k _ => ⟨b, o, i, h, k, rfl⟩, fun _ _ h => .inl h, ⟨rfl, rfl, rfl⟩⟩

theorem first_rel (hs : Rel β s w) {size n : Nat} {y : AV} {l : List AV} {x : Value} (h : firstCells s size n y = some l) (hx : VR β y x) :
    ∃ xs : Array Value, (∀ W : World, W.heap = w.heap → (Builtin.firstCells size n x).run P W = .ok xs W) ∧ VRs β l xs.toList := by
  unfold firstCells at h
  split at h
  · rename_i a _ _
    obtain ⟨b, o⟩ := a
    obtain ⟨i, hi, rfl⟩ := hx
    obtain ⟨j, cs, e, fz, hj, hc, hle, hv⟩ := loadN_row h hs
    dsimp only at hj hle hv
    rw [hi] at hj
    injection hj with hj
    subst hj
    exact ⟨_, fun W hW => by simpa [Builtin.firstCells] using run_cells (w := W) (by rw [hW]; exact hc) hle, by simpa using hv⟩
  · rename_i a _
    obtain ⟨b, o⟩ := a
    obtain ⟨i, hi, rfl⟩ := hx
    obtain ⟨j, cs, e, fz, hj, hc, hle, hv⟩ := loadN_row h hs
    dsimp only at hj hle hv
    rw [hi] at hj
    injection hj with hj
    subst hj
    exact ⟨_, fun W hW => by simpa [Builtin.firstCells] using run_cells (w := W) (by rw [hW]; exact hc) hle, by simpa using hv⟩
  · injection h with h
    subst h
    simp only [VR] at hx
    subst hx
    exact ⟨#[], fun W _ => by simp [Builtin.firstCells], VRs.nil⟩
  · split at h
    · injection h with h
      subst h
      obtain ⟨i, hi, o, c, rfl, _⟩ := hx
      refine ⟨#[], fun W _ => ?_, VRs.nil⟩
      have := run_loadCells_list (P := P) (w := W) ⟨i.blk, o, none⟩ [] (fun j v hj => by simp at hj)
      simpa [Builtin.firstCells] using this
    · cases h
  · rename_i l'
    injection h with h
    subst h
    simp only [VR] at hx
    subst hx
    refine ⟨((l'.take n).map fun b => Value.int .u8 b.toNat).toArray, fun W _ => ?_, ?_⟩
    · simp only [Builtin.firstCells, Sem.run_pure, Result.ok.injEq, and_true]
      rw [ByteArray.data_extract]
      simp
    · rw [List.toList_toArray]
      generalize l'.take n = q
      induction q with
      | nil => exact VRs.nil
      | cons b q ih => exact VRs.cons rfl ih
  · cases h

theorem len_rel {y : AV} {n : Nat} {x : Value} (h : lenOf y = some n) (hx : VR β y x) : (Builtin.lenOf x).run P w = .ok n w := by
  unfold lenOf at h
  split at h
  · rename_i a m _
    injection h with h
    subst h
    rcases a with _ | ⟨b, o⟩
    · simp only [VR] at hx; subst hx; simp [Builtin.lenOf]
    · obtain ⟨i, _, rfl⟩ := hx; simp [Builtin.lenOf]
  · injection h with h
    subst h
    obtain ⟨i, _, rfl⟩ := hx; simp [Builtin.lenOf]
  · injection h with h
    subst h
    obtain ⟨i, _, o, c, rfl, _⟩ := hx; simp [Builtin.lenOf]
  · injection h with h
    subst h
    simp only [VR] at hx
    subst hx
    rfl
  · cases h

theorem slice_parts {a : Option (Nat × Nat)} {len cap : Nat} {x : Value} (hx : VR β (.slice a len cap) x) : ∃ a' c', x = .slice a' len c' ∧ AR β a a' := by
  rcases a with _ | ⟨b, o⟩
  · simp only [VR] at hx; exact ⟨none, cap, hx, rfl⟩
  · obtain ⟨i, hi, rfl⟩ := hx; exact ⟨_, _, rfl, i, hi, rfl⟩

theorem VR.len {a : Option (Nat × Nat)} {len cap : Nat} {a' : Option Addr} {c' m : Nat} (h : VR β (.slice a len cap) (.slice a' len c')) : VR β (.slice a m cap) (.slice a' m c') := by
  rcases a with _ | ⟨b, o⟩
  · simp only [VR, Value.slice.injEq, true_and] at h ⊢
    exact h
  · obtain ⟨i, hi, h⟩ := h
    simp only [Value.slice.injEq, true_and] at h
    exact ⟨i, hi, by simp only [Value.slice.injEq, true_and]; exact h⟩

theorem ex_copy (hg : GOK P g) (hs : Rel β s w) {ts : Array TypeId} {rt : TypeId} {a b : AV} {r : R} {x y : Value} (h : builtin g s .copy ts.toList [a, b] = some r) (hx : VR β a x) (hy : VR β b y) :
    RV β s w ((Builtin.copy_ ts rt #[x, y]).run P w) r := by
  unfold builtin at h
  dsimp only at h
  split at h
  · rename_i t tl p q hts heq
    injection heq with e1 e2
    injection e2 with e2 _
    subst e1; subst e2
    have ht : ts[0]? = some t := by rw [← Array.getElem?_toList, hts]; rfl
    split at h
    · rename_i e base dl cap hu
      split at h
      · rename_i size n hsz hn
        split at h
        · rename_i cs hf
          obtain ⟨a', c', rfl, ha⟩ := slice_parts hx
          obtain ⟨xs, hr, hv⟩ := first_rel (P := P) hs hf hy
          have hr := hr w rfl
          have hl := len_rel (P := P) (w := w) hn hy
          cases base with
          | none =>
            simp only [AR] at ha
            subst ha
            injection h with h
            subst h
            refine RV.pure hs (x := .int .i64 (Nat.min n dl)) (by exact rfl) ?_
            simp [Builtin.copy_, ht, run_und hg hu, hl, run_size hg hsz, hr, goInt]
          | some p =>
            obtain ⟨b', o⟩ := p
            obtain ⟨i, hi, rfl⟩ := ha
            dsimp only at h
            split at h
            · rename_i s' hst
              injection h with h
              subst h
              obtain ⟨j, hj, w', hr', hrel, hstep⟩ := storeN_row (P := P) hst hs hv
              dsimp only at hj hr'
              rw [hi] at hj
              injection hj with hj
              subst hj
              refine ⟨β, .int .i64 (Nat.min n dl), w', ?_, rfl, hrel, hstep⟩
              simp [Builtin.copy_, ht, run_und hg hu, hl, run_size hg hsz, hr, hr', goInt]
            · cases h
        · cases h
      · cases h
    · cases h
  · cases h
end
end Go.Proofs.YtgfbjbdfckgdjaaGreatDoor.Ev

namespace Go.Proofs.YtgfbjbdfckgdjaaGreatDoor.Ev
open Go.RowKit

section
variable {P : Program} {g : G} {β : Ren} {s : S} {w : World}

theorem growBy_le (n : Nat) : ∀ (k c : Nat), c < 2 ^ 31 → n < 2 ^ 30 → Builtin.growBy n k c < 2 ^ 31 + 2 ^ 10
  | 0, c, h, _ => by unfold Builtin.growBy; omega
  | k + 1, c, h, hn => by
    unfold Builtin.growBy
    split
    · omega
    · exact growBy_le n k _ (by omega) hn

theorem next_le {n c : Nat} (hn : n < 2 ^ 30) (hc : c < 2 ^ 30) : Builtin.nextslicecap n c < 2 ^ 32 := by
  unfold Builtin.nextslicecap
  split
  · omega
  · split
    · omega
    · have := growBy_le n 4 c (by omega) hn
      omega

theorem loadN_length {a : Nat × Nat} {n : Nat} {l : List AV} (h : loadN s a n = some l) : l.length = n := by
  unfold loadN at h
  split at h
  · split at h
    · rename_i hle
      injection h with h
      subst h
      have := Nat.le_of_ble_eq_true hle
      simp
      omega
    · cases h
  · split at h
    · rename_i hle
      injection h with h
      subst h
      have := Nat.le_of_ble_eq_true hle
      simp
      omega
    · cases h
  · split at h
    · rename_i hle
      injection h with h
      subst h
      have := Nat.le_of_ble_eq_true hle
      simp
      omega
    · cases h
  · split at h
    · rename_i hle
      injection h with h
      subst h
      have := Nat.le_of_ble_eq_true hle
      simp
      omega
    · cases h
  · cases h


theorem append_in {ts : Array TypeId} {rt t t2 e : TypeId} {i : TypeInfo} {d2 : TypeDesc} {base : Option Addr} {len n c : Nat} {y : Value} {xs : Array Value} {w' : World}
    (ht : ts[0]? = some t) (ht2 : ts[1]? = some t2) (hu : (underlying t).run P w = .ok (.slice e) w) (hu2 : (underlying t2).run P w = .ok d2 w) (hd2 : sOrS d2 = true)
    (hsz : (sizeOf e).run P w = .ok i.size w) (hl : (Builtin.lenOf y).run P w = .ok n w) (hxs : (Builtin.firstCells i.size n y).run P w = .ok xs w) (hle : len + n ≤ c)
    (hst : ∀ a, base = some a → (storeCells (a.add (len * i.size)) xs.toList).run P w = .ok () w') (hno : base = none → w' = w) :
    (Builtin.append_ ts rt #[.slice base len c, y]).run P w = .ok (.slice base (len + n) c) w' := by
  cases d2 <;> simp [sOrS] at hd2
  all_goals
    simp only [Builtin.append_, ht, ht2, List.getElem?_toArray, List.getElem?_cons_zero, List.getElem?_cons_succ, Sem.run_bind, hu, hu2, Result.andThen_ok, hsz, Sem.run_pure, hl,
      Bool.false_eq_true, if_false, hle, if_true, Bool.not_false, hxs]
    cases base with
    | none => rw [hno rfl]; rfl
    | some a => simp only [Sem.run_bind, hst a rfl, Result.andThen_ok, Sem.run_pure]

theorem append_grow {ts : Array TypeId} {rt t t2 e : TypeId} {i : TypeInfo} {d2 : TypeDesc} {base : Option Addr} {len n c : Nat} {y z : Value} {xs os : Array Value}
    (ht : ts[0]? = some t) (ht2 : ts[1]? = some t2) (hu : (underlying t).run P w = .ok (.slice e) w) (hu2 : (underlying t2).run P w = .ok d2 w) (hd2 : sOrS d2 = true)
    (hsz : (sizeOf e).run P w = .ok i.size w) (hti : ∀ W : World, (typeInfo e).run P W = .ok i W) (hl : (Builtin.lenOf y).run P w = .ok n w)
    (hxs : ∀ k, (Builtin.firstCells i.size n y).run P { w with drawn := k } = .ok xs { w with drawn := k }) (hos : ∀ k, (Builtin.firstCells i.size len (.slice base len c)).run P { w with drawn := k } = .ok os { w with drawn := k })
    (hz : ∀ W : World, (zeroValue e).run P W = .ok z W) (hle : ¬ len + n ≤ c) (h1 : ¬ (((len + n : Nat) : Int) > IntKind.i64.max)) (h2 : ¬ (Builtin.nextslicecap (len + n) c * i.bytes > 2 ^ 48)) :
    ∃ m k, len + n ≤ m ∧ (Builtin.append_ ts rt #[.slice base len c, y]).run P w =
      .ok (.slice (some ⟨w.heap.size, 0, none⟩) (len + n) m) { w with drawn := k, heap := w.heap.push (.cells (os ++ xs ++ Builtin.zeroCells z.cells (m - (len + n))) e (0, 0)) } := by
  refine ⟨(Question.appendCap (len + n) c e).cut (w.tape w.drawn (.appendCap (len + n) c e)), w.drawn + 1, by simp [Question.cut], ?_⟩
  cases d2 <;> simp [sOrS] at hd2
  all_goals
    simp only [Builtin.append_, ht, ht2, List.getElem?_toArray, List.getElem?_cons_zero, List.getElem?_cons_succ, Sem.run_bind, hu, hu2, Result.andThen_ok, hsz, Sem.run_pure, hl,
      Bool.false_eq_true, if_false, hle, hti, h1, false_and, h2, run_choose, Question.forced, run_askRoom, hos, Bool.not_false, if_true, hxs, hz, newRow, run_newObj]

theorem zeroCells_size (z : Array Value) (n : Nat) : (Builtin.zeroCells z n).size = n * z.size := by simp [Builtin.zeroCells]

theorem OR.to_win {γ : Ren} {i : Info} {w : World} {c : List AV} {e : TypeId} {o : Bool} {z : Nat} (h : OR γ i w (.row c e o z)) : OR γ i w (.win c e z) := by
  obtain ⟨cs, h1, h2, h3, h4, h5, _, h6⟩ := h
  exact ⟨cs, h1, by rw [h6]; exact h2, h3, h4, by rw [h6, Nat.zero_add]; exact h5⟩

/-- The new row that append makes. -/
theorem grown_row {old new : List AV} {os xs Z : Array Value} {e : TypeId} {size m n k : Nat} {q : AO} (hs : Rel β s w) (hn : β s.n = none) (ho : VRs β old os.toList) (hx : VRs β new xs.toList)
    (hlen : old.length + new.length = n * size) (hZ : Z.size = (m - n) * size) (hm : n ≤ m) {len : Nat} (hq : q = .row (old ++ new) e true size ∨ q = .win (old ++ new) e size) :
    ∃ γ, VR γ (.slice (some (s.n, 0)) len n) (.slice (some ⟨w.heap.size, 0, none⟩) len m) ∧
      Rel γ (Ev.new s q) { w with drawn := k, heap := w.heap.push (.cells (os ++ xs ++ Z) e (0, 0)) } ∧
      Step β s w γ (Ev.new s q) { w with drawn := k, heap := w.heap.push (.cells (os ++ xs ++ Z) e (0, 0)) } := by
  have hrow : os ++ xs ++ Z = ((os.toList ++ xs.toList) ++ Z.toList).toArray := by
    apply Array.ext'
    simp
  have hor := OR.row (w := { w with drawn := k }) (γ := upd β s.n ⟨w.heap.size, (old ++ new).length, size, m - n, 0⟩) (c := old ++ new) (xs := os.toList ++ xs.toList) (rest := Z.toList) (e := e) (o := true) (z := size) (m := m - n)
    ((ho.append hx).mono (upd_le hn) _ _) (by simpa using hZ) (fun h => by cases h)
  rw [← hrow] at hor
  have hor' : OR (upd β s.n ⟨w.heap.size, (old ++ new).length, size, m - n, 0⟩) ⟨w.heap.size, (old ++ new).length, size, m - n, 0⟩ { w with drawn := k, heap := w.heap.push (.cells (os ++ xs ++ Z) e (0, 0)) } q := by
    rcases hq with rfl | rfl
    · exact hor
    · exact hor.to_win
  obtain ⟨h1, h2⟩ := (hs.drew k).new (i := ⟨w.heap.size, (old ++ new).length, size, m - n, 0⟩) (o := q)
    (w' := { w with drawn := k, heap := w.heap.push (.cells (os ++ xs ++ Z) e (0, 0)) }) hn (Nat.le_refl _) hor' (by simp) (fun q hq => by
      dsimp only
      rw [Array.getElem?_push_lt hq, Array.getElem?_eq_getElem hq]) ⟨rfl, rfl, rfl⟩
  refine ⟨_, ⟨_, upd_same .., ?_⟩, h1, (Step.drew k).trans h2⟩
  have : 0 + n * size = (old ++ new).length := by simp [hlen]
  simp only [this, if_true, Value.slice.injEq, true_and]
  omega

/-- A row that goes on in its own memory. -/
theorem regrow_in {b o : Nat} {c old new : List AV} {e : TypeId} {size len n cap c' : Nat} {i : Info} {xs : List Value} {q : AO} (hs : Rel β s w) (hrow : Openish s b c e size) (hi : β b = some i)
    (hcl : o + cap * size = c.length) (hcc : c' = cap + i.xtra) (hold : loadN s (b, o) (len * size) = some old) (hxv : VRs β new xs) (ho2 : new.length = n * size) (hone : new.all AV.one = true) (hin : len + n ≤ c')
    (hnf : β s.n = none) (hq : q = .win (old ++ new) e size ∨ (q = .row (old ++ new) e true size ∧ i.off + o = 0)) :
    ∃ w', (storeCells ⟨i.blk, i.off + o + len * size, none⟩ xs).run P w = .ok () w' ∧
      ∃ γ, VR γ (.slice (some (s.n, 0)) (len + n) (len + n)) (.slice (some ⟨i.blk, i.off + o, none⟩) (len + n) c') ∧
        Rel γ (Ev.new { h := s.h.set b none, n := s.n } q) w' ∧ Step β s w γ (Ev.new { h := s.h.set b none, n := s.n } q) w' := by
  obtain ⟨cs, hcs, hcv, hasz, hesz, hsize⟩ := openish_at hs hrow hi
  obtain ⟨i1, cs1, e1, fz1, hi1, hcs1, hle1, hov⟩ := loadN_row hold hs
  dsimp only at hi1 hle1 hov
  rw [hi] at hi1
  injection hi1 with hi1
  subst hi1
  rw [hcs] at hcs1
  injection hcs1 with hcs1
  injection hcs1 with hcs1 _ _
  subst hcs1
  have hob : ∃ o1, s.h.get b = some o1 := by
    rcases hrow with h | h
    · exact ⟨_, h⟩
    · exact ⟨_, h⟩
  obtain ⟨o1, hob⟩ := hob
  have hxl := hxv.length
  have hol : old.length = len * size := loadN_length hold
  have hcsz : cs.size = i.off + o + c' * size := by rw [hsize, ← hcl, hcc, Nat.add_mul]; omega
  have hmul : (len + n) * size = len * size + n * size := Nat.add_mul ..
  have hfitm : (len + n) * size ≤ c' * size := Nat.mul_le_mul_right _ hin
  have hfit : i.off + o + len * size + xs.length ≤ cs.size := by omega
  have hsto := run_storeCells_at (P := P) i.blk (i.off + o + len * size) e xs 0 cs w hcs (by simpa using hfit) (hxv.one hone)
  simp only [Nat.add_zero] at hsto
  rw [← over_eq cs.toList (i.off + o + len * size) xs (by simpa using hfit)] at hsto
  have hd : ((over cs.toList (i.off + o + len * size) xs).drop (i.off + o)).take (old ++ new).length = (cs.toList.drop (i.off + o)).take (len * size) ++ xs := by
    rw [over_drop, over_eq _ _ _ (by simp; omega)]
    have h4 : (old ++ new).length = ((cs.toList.drop (i.off + o)).take (len * size) ++ xs).length := (hov.append hxv).length
    rw [h4, List.take_left]
  have hall : VRs (upd β s.n ⟨i.blk, (old ++ new).length, size, c' - (len + n), i.off + o⟩) (old ++ new) (((over cs.toList (i.off + o + len * size) xs).drop (i.off + o)).take (old ++ new).length) := by
    rw [hd]
    exact (hov.append hxv).mono (upd_le hnf) _ _
  have hsz2 : (over cs.toList (i.off + o + len * size) xs).toArray.size = i.off + o + (old ++ new).length + (c' - (len + n)) * size := by
    have h5 : (old ++ new).length = (len + n) * size := by simp [hol, ho2, hmul]
    have h6 : (len + n) * size + (c' - (len + n)) * size = c' * size := by rw [← Nat.add_mul]; congr 1; omega
    rw [List.size_toArray, over_length, Array.length_toList, h5, hcsz]
    omega
  have hor : OR (upd β s.n ⟨i.blk, (old ++ new).length, size, c' - (len + n), i.off + o⟩) ⟨i.blk, (old ++ new).length, size, c' - (len + n), i.off + o⟩ (w.setRow i.blk (over cs.toList (i.off + o + len * size) xs).toArray) q := by
    rcases hq with rfl | ⟨rfl, h0⟩
    · exact ⟨_, setRow_heap w i.blk cs _ e _ hcs, by simpa using hall, rfl, rfl, hsz2⟩
    · refine ⟨_, setRow_heap w i.blk cs _ e _ hcs, ?_, rfl, rfl, ?_, fun h => (by cases h), h0⟩
      · have := hall
        rw [h0, List.drop_zero] at this
        simp only [h0] at this ⊢
        simpa using this
      · have := hsz2
        rw [h0] at this ⊢
        simpa using this
  obtain ⟨h1, h2⟩ := hs.regrow (j := ⟨i.blk, (old ++ new).length, size, c' - (len + n), i.off + o⟩) (o' := q) (w' := w.setRow i.blk (over cs.toList (i.off + o + len * size) xs).toArray) hob hi hnf rfl
    hor (by simp) (fun q hq => setRow_other w i.blk q _ hq) ⟨rfl, rfl, rfl⟩
  refine ⟨_, hsto, _, ⟨_, upd_same .., ?_⟩, h1, h2⟩
  have : 0 + (len + n) * size = (old ++ new).length := by simp [hol, ho2, hmul]
  simp only [this, if_true, Value.slice.injEq, true_and]
  refine ⟨?_, by omega⟩
  rfl

theorem zeroCells_repl (z : Array Value) (n : Nat) : (Builtin.zeroCells z n).toList = repl n z.toList := by
  apply List.ext_getElem?
  intro i
  rcases Nat.lt_or_ge i (n * z.size) with h | h
  · have hpos : 0 < z.size := by
      rcases Nat.eq_zero_or_pos z.size with h0 | h0
      · rw [h0] at h; omega
      · exact h0
    rw [repl_get _ _ _ (by simpa using h)]
    have hm : i % z.size < z.size := Nat.mod_lt _ hpos
    simp [Builtin.zeroCells, h, hm]
  · rw [List.getElem?_eq_none (by simpa [zeroCells_size] using h), List.getElem?_eq_none (by rw [repl_length]; simpa using h)]

theorem append_make {ts : Array TypeId} {rt t t2 e : TypeId} {i : TypeInfo} {k2 kk : IntKind} {n : Int} {z : Value}
    (ht : ts[0]? = some t) (ht2 : ts[1]? = some t2) (hu : (underlying t).run P w = .ok (.slice e) w) (hu2 : (underlying t2).run P w = .ok (.int k2) w)
    (hti : ∀ W : World, (typeInfo e).run P W = .ok i W) (hz : ∀ W : World, (zeroValue e).run P W = .ok z W) (hn : 0 < n.toNat) (h30 : n.toNat < 2 ^ 30) (hb : i.bytes < 2 ^ 16) (h0 : 0 < i.size) :
    ∃ m k, n.toNat ≤ m ∧ (Builtin.append_ ts rt #[.slice none 0 0, .int kk n]).run P w =
      .ok (.slice (some ⟨w.heap.size, 0, none⟩) n.toNat m) { w with drawn := k, heap := w.heap.push (.cells (#[] ++ Builtin.zeroCells z.cells n.toNat ++ Builtin.zeroCells z.cells (m - n.toNat)) e (0, 0)) } := by
  refine ⟨(Question.appendCap n.toNat 0 e).cut (w.tape w.drawn (.appendCap n.toNat 0 e)), w.drawn + 1, by simp [Question.cut], ?_⟩
  have hn0 : 0 ≤ n := by omega
  have hw : IntKind.i64.wrap n = n := by
    rw [IntKind.wrap_i64]
    omega
  have hneg : ¬ (n < 0) := by omega
  have hbig : ¬ (n * (i.bytes : Int) > 2 ^ 48) := by
    have h1 : n * (i.bytes : Int) ≤ 2 ^ 30 * 2 ^ 16 := by
      have e1 : n = (n.toNat : Int) := (Int.toNat_of_nonneg hn0).symm
      rw [e1, ← Int.natCast_mul]
      have := Nat.mul_le_mul (Nat.le_of_lt h30) (Nat.le_of_lt hb)
      exact_mod_cast this
    omega
  have hmul : ¬ (n.toNat * i.size = 0) := by
    intro h
    rcases Nat.mul_eq_zero.1 h with h | h <;> omega
  have hmax : ¬ (((n.toNat : Nat) : Int) > IntKind.i64.max) := by
    have : IntKind.i64.max = 2 ^ 63 - 1 := by decide
    rw [this]
    omega
  have hcap : ¬ (Builtin.nextslicecap n.toNat 0 * i.bytes > 2 ^ 48) := by
    have h32 := next_le h30 (by omega : 0 < 2 ^ 30)
    have : Builtin.nextslicecap n.toNat 0 * i.bytes ≤ 2 ^ 32 * 2 ^ 16 := Nat.mul_le_mul (by omega) (by omega)
    omega
  have hle : ¬ (n.toNat ≤ 0) := by omega
  simp only [Builtin.append_, ht, ht2, List.getElem?_toArray, List.getElem?_cons_zero, List.getElem?_cons_succ, Sem.run_bind, hu, hu2, Result.andThen_ok, sizeOf, hti, Sem.run_pure, asInt, asIntOf, hw, hneg, hbig, if_false, if_true,
    Nat.zero_add, hle, hmax, false_and, hcap, run_choose, Question.forced, run_askRoom, Builtin.firstCells, Bool.not_true, Bool.false_eq_true, hmul, hz, newRow, run_newObj]

theorem ex_appendMake (hg : GOK P g) (hs : Rel β s w) {ts : Array TypeId} {rt t t2 : TypeId} {a b : AV} {r : R} {x y : Value} (ht : ts[0]? = some t) (ht2 : ts[1]? = some t2)
    (h : appendMake g s t t2 a b = some r) (hx : VR β a x) (hy : VR β b y) (hf : Free β s r.st) : RV β s w ((Builtin.append_ ts rt #[x, y]).run P w) r := by
  unfold appendMake at h
  split at h
  · rename_i len cap kk n
    split at h
    · rename_i e k2 hu hu2
      split at h
      · rename_i i z hi hz
        split at h
        · rename_i hc
          simp only [Bool.and_eq_true] at hc
          obtain ⟨⟨⟨⟨⟨⟨h1, h2⟩, h3⟩, h4⟩, h5⟩, h6⟩, h7⟩ := hc
          have e1 := Nat.eq_of_beq_eq_true h1
          have e2 := Nat.eq_of_beq_eq_true h2
          subst e1; subst e2
          have h0 : 0 < i.size := Nat.le_of_ble_eq_true h3
          have hb : i.bytes < 2 ^ 16 := Nat.le_of_ble_eq_true h4
          have hzl : z.cells.length = i.size := Nat.eq_of_beq_eq_true h5
          have hn : 0 < n.toNat := Nat.le_of_ble_eq_true h6
          have h30 : n.toNat < 2 ^ 30 := Nat.le_of_ble_eq_true h7
          simp only [VR] at hx hy
          subst hx; subst hy
          obtain ⟨i', zv, hi', hzi, hzr⟩ := hg.zero β hz
          rw [hg.info hi] at hi'
          injection hi' with hi'
          subst hi'
          have hti : ∀ W : World, (typeInfo e).run P W = .ok i W := fun W => run_typeInfo W (hg.info hi)
          have hzv : ∀ W : World, (zeroValue e).run P W = .ok zv W := fun W => by simp [zeroValue, hti, hzi]
          have hzc := hzr.cells
          have hzs : zv.cells.size = i.size := by
            rw [← hzl]
            simpa using hzc.length.symm
          injection h with h
          subst h
          obtain ⟨m, k, hm, hrun⟩ := append_make (rt := rt) (kk := kk) ht ht2 (run_und hg hu) (run_und hg hu2) hti hzv hn h30 hb h0
          obtain ⟨γ, hv, hr, hst⟩ := grown_row (m := m) (n := n.toNat) (k := k) (e := e) (size := i.size) (old := []) (new := repl n.toNat z.cells) (os := #[]) (xs := Builtin.zeroCells zv.cells n.toNat) (Z := Builtin.zeroCells zv.cells (m - n.toNat)) (len := n.toNat) hs (new_free hf)
            (by simp [VRs]) (by rw [zeroCells_repl]; exact hzc.repl _) (by rw [repl_length, hzl]; simp) (by rw [zeroCells_size, hzs]) hm (.inl rfl)
          exact ⟨γ, _, _, hrun, hv, hr, hst⟩
        · cases h
      · cases h
    · cases h
  · cases h

theorem ex_append (hg : GOK P g) (hs : Rel β s w) {ts : Array TypeId} {rt : TypeId} {a b : AV} {r : R} {x y : Value} (h : builtin g s .append ts.toList [a, b] = some r) (hx : VR β a x) (hy : VR β b y) (hf : Free β s r.st) :
    RV β s w ((Builtin.append_ ts rt #[x, y]).run P w) r := by
  unfold builtin at h
  dsimp only at h
  split at h
  · rename_i t t2 tl p q hts heq
    injection heq with e1 e2
    injection e2 with e2 _
    subst e1; subst e2
    have ht : ts[0]? = some t := by rw [← Array.getElem?_toList, hts]; rfl
    have ht2 : ts[1]? = some t2 := by rw [← Array.getElem?_toList, hts]; rfl
    split at h
    · rename_i r' hmk
      injection h with h
      subst h
      exact ex_appendMake hg hs ht ht2 hmk hx hy hf
    rename_i hmk
    clear hmk
    unfold append at h
    split at h
    · rename_i e d2 ca len hu hu2
      split at h
      · rename_i i n hd2 hi hn
        have hii := hg.info hi
        have hti : ∀ W : World, (typeInfo e).run P W = .ok i W := fun W => run_typeInfo W hii
        have hsz : ∀ W : World, (sizeOf e).run P W = .ok i.size W := fun W => by simp [sizeOf, hti]
        split at h
        · rename_i new old hnew hold
          split at h
          · rename_i hcond
            simp only [Bool.and_eq_true] at hcond
            obtain ⟨⟨⟨⟨⟨⟨⟨hn0, h0⟩, hbytes⟩, h30⟩, hzz⟩, ho1⟩, ho2⟩, hone⟩ := hcond
            have hn0 : 0 < n := Nat.le_of_ble_eq_true hn0
            have h0 : 0 < i.size := Nat.le_of_ble_eq_true h0
            have hbytes : i.bytes < 2 ^ 16 := Nat.le_of_ble_eq_true hbytes
            have h30 : len + n < 2 ^ 30 := Nat.le_of_ble_eq_true h30
            have ho1 : old.length = len * i.size := Nat.eq_of_beq_eq_true ho1
            have ho2 : new.length = n * i.size := Nat.eq_of_beq_eq_true ho2
            obtain ⟨b', o⟩ := ca
            obtain ⟨j, hj, rfl⟩ := hx
            obtain ⟨xs, hxs, hxv⟩ := first_rel (P := P) hs hnew hy
            have hl := fun W => len_rel (P := P) (w := W) hn hy
            obtain ⟨i1, cs, e1, fz, hi1, hc, hle, hv⟩ := loadN_row hold hs
            dsimp only at hi1 hle hv
            rw [hj] at hi1
            injection hi1 with hi1
            subst hi1
            have hos : ∀ k, (Builtin.firstCells i.size len (.slice (some ⟨j.blk, j.off + o, none⟩) len len)).run P { w with drawn := k } = .ok ((cs.toList.drop (j.off + o)).take (len * i.size)).toArray { w with drawn := k } := fun k => by
              simpa [Builtin.firstCells] using run_cells (P := P) (w := { w with drawn := k }) hc hle
            have hlenT : old.length + new.length = (len + n) * i.size := by rw [ho1, ho2, Nat.add_mul]
            have hmax : ¬ (((len + n : Nat) : Int) > IntKind.i64.max) := by
              have : IntKind.i64.max = 2 ^ 63 - 1 := by decide
              rw [this]
              omega
            cases hzi : i.zero with
            | none => rw [hzi] at hzz; simp at hzz
            | some zv =>
              rw [hzi] at hzz
              have hzs : zv.cells.size = i.size := Nat.eq_of_beq_eq_true hzz
              have hz : ∀ W : World, (zeroValue e).run P W = .ok zv W := fun W => by simp [zeroValue, hti, hzi]
              injection h with h
              subst h
              obtain ⟨m, k, hm, hrun⟩ := append_grow (rt := rt) ht ht2 (run_und hg hu) (run_und hg hu2) hd2 (hsz w) hti (hl w) (fun k => hxs _ rfl) hos hz (by omega) hmax (by
                have h32 := next_le h30 (by omega : len < 2 ^ 30)
                have : Builtin.nextslicecap (len + n) len * i.bytes ≤ 2 ^ 32 * 2 ^ 16 := Nat.mul_le_mul (by omega) (by omega)
                omega)
              obtain ⟨γ, hv', hr, hst⟩ := grown_row (m := m) (n := len + n) (k := k) (e := e) (Z := Builtin.zeroCells zv.cells (m - (len + n))) (len := len + n) hs (new_free hf) (os := ((cs.toList.drop (j.off + o)).take (len * i.size)).toArray) (by simpa using hv) hxv hlenT (by rw [zeroCells_size, hzs]) hm (.inl rfl)
              exact ⟨γ, _, _, hrun, hv', hr, hst⟩
          · cases h
        · cases h
      · cases h
    · rename_i e d2 bb hu hu2
      split at h
      · rename_i i n hd2 hi hn
        have hii := hg.info hi
        have hti : ∀ W : World, (typeInfo e).run P W = .ok i W := fun W => run_typeInfo W hii
        have hsz : ∀ W : World, (sizeOf e).run P W = .ok i.size W := fun W => by simp [sizeOf, hti]
        split at h
        · rename_i new hnew
          split at h
          · rename_i hcond
            simp only [Bool.and_eq_true] at hcond
            obtain ⟨⟨⟨⟨⟨⟨hn0, h0⟩, hbytes⟩, h30⟩, hzz⟩, ho2⟩, hone⟩ := hcond
            have hn0 : 0 < n := Nat.le_of_ble_eq_true hn0
            have h0 : 0 < i.size := Nat.le_of_ble_eq_true h0
            have hbytes : i.bytes < 2 ^ 16 := Nat.le_of_ble_eq_true hbytes
            have h30 : n < 2 ^ 30 := Nat.le_of_ble_eq_true h30
            have ho2 : new.length = n * i.size := Nat.eq_of_beq_eq_true ho2
            obtain ⟨j, hj, o, c', rfl, hoc⟩ := hx
            obtain ⟨xs, hxs, hxv⟩ := first_rel (P := P) hs hnew hy
            have hl := fun W => len_rel (P := P) (w := W) hn hy
            have hreg : ∃ c, Openish s bb c e i.size ∧ r = .val (.slice (some (s.n, 0)) n n) (Ev.new { h := s.h.set bb none, n := s.n } (.win new e i.size)) := by
              unfold regrowR at h
              split at h
              · rename_i c e' z' hrow
                split at h
                · rename_i hze
                  simp only [Bool.and_eq_true] at hze
                  have hze1 := Nat.eq_of_beq_eq_true hze.1
                  have hze2 := Nat.eq_of_beq_eq_true hze.2
                  subst hze1; subst hze2
                  injection h with h
                  exact ⟨c, .inl hrow, h.symm⟩
                · cases h
              · rename_i c e' z' hrow
                split at h
                · rename_i hze
                  simp only [Bool.and_eq_true] at hze
                  have hze1 := Nat.eq_of_beq_eq_true hze.1
                  have hze2 := Nat.eq_of_beq_eq_true hze.2
                  subst hze1; subst hze2
                  injection h with h
                  exact ⟨c, .inr hrow, h.symm⟩
                · cases h
              · cases h
            obtain ⟨c, hrow, rfl⟩ := hreg
            have hnf : β s.n = none := hf s.n (Nat.le_refl _) (Nat.lt_succ_self _)
            cases hzi : i.zero with
            | none => rw [hzi] at hzz; simp at hzz
            | some zv =>
              rw [hzi] at hzz
              have hzs : zv.cells.size = i.size := Nat.eq_of_beq_eq_true hzz
              have hz : ∀ W : World, (zeroValue e).run P W = .ok zv W := fun W => by simp [zeroValue, hti, hzi]
              by_cases hin : n ≤ c'
              · obtain ⟨rfl, hcx⟩ : o = j.off + j.asz ∧ c' = j.xtra := by
                  rcases hoc with h1 | h1
                  · omega
                  · exact h1
                obtain ⟨_, _, _, hasz, _, _⟩ := openish_at hs hrow hj
                have hold : loadN s (bb, c.length) (0 * i.size) = some [] := by
                  unfold loadN
                  have hb : Nat.ble (c.length + 0) c.length = true := Nat.ble_eq_true_of_le (Nat.le_refl _)
                  rcases hrow with hr | hr
                  · rw [hr]; simp only [Nat.zero_mul, hb, List.take_zero]
                  · rw [hr]; simp only [Nat.zero_mul, hb, List.take_zero]
                obtain ⟨w', hst, γ, hv, hr, hstep⟩ := regrow_in (P := P) (q := .win ([] ++ new) e i.size) (o := c.length) (cap := 0) (len := 0) (c' := c') hs hrow hj (by omega) (by omega) hold hxv ho2 hone (by omega) hnf (.inl rfl)
                rw [Nat.zero_add] at hv
                rw [List.nil_append] at hr hstep
                rw [← hasz] at hst hv
                exact ⟨γ, _, w', append_in ht ht2 (run_und hg hu) (run_und hg hu2) hd2 (hsz w) (hl w) (hxs w rfl) (len := 0) (by omega) (fun a h => by injection h with h; subst h; rw [add_none]; exact hst) (fun h => by cases h), by simpa using hv, hr, hstep⟩
              · have hmax : ¬ (((0 + n : Nat) : Int) > IntKind.i64.max) := by
                  have : IntKind.i64.max = 2 ^ 63 - 1 := by decide
                  rw [this]
                  omega
                have hos : ∀ k, (Builtin.firstCells i.size 0 (.slice (some ⟨j.blk, o, none⟩) 0 c')).run P { w with drawn := k } = .ok #[] { w with drawn := k } := fun k => by
                  have := run_loadCells_list (P := P) (w := { w with drawn := k }) ⟨j.blk, o, none⟩ [] (fun j v hj => by simp at hj)
                  simpa [Builtin.firstCells] using this
                obtain ⟨m, k, hm, hrun⟩ := append_grow (rt := rt) ht ht2 (run_und hg hu) (run_und hg hu2) hd2 (hsz w) hti (hl w) (fun k => hxs _ rfl) hos hz (by omega) hmax (by
                  have h32 := next_le (n := 0 + n) (by omega) (by omega : c' < 2 ^ 30)
                  have : Builtin.nextslicecap (0 + n) c' * i.bytes ≤ 2 ^ 32 * 2 ^ 16 := Nat.mul_le_mul (by omega) (by omega)
                  omega)
                obtain ⟨hk1, hk2⟩ := hs.kill (b := bb)
                obtain ⟨γ, hv, hr, hst⟩ := grown_row (m := m) (n := n) (k := k) (e := e) (size := i.size) (old := []) (new := new) (os := #[]) (xs := xs) (Z := Builtin.zeroCells zv.cells (m - n)) (len := n) (q := .win new e i.size) hk1 hnf (by simp [VRs]) hxv (by simpa using ho2) (by rw [zeroCells_size, hzs]) (by omega) (.inr rfl)
                rw [Nat.zero_add] at hrun
                exact ⟨γ, _, _, hrun, hv, hr, hk2.trans hst⟩
          · cases h
        · cases h
      · cases h
    · rename_i e d2 base len cap hu hu2
      split at h
      · rename_i i n hd2 hi hn
        have hii := hg.info hi
        have hti : ∀ W : World, (typeInfo e).run P W = .ok i W := fun W => run_typeInfo W hii
        have hsz : ∀ W : World, (sizeOf e).run P W = .ok i.size W := fun W => by simp [sizeOf, hti]
        split at h
        · rename_i new ok hnew hok
          obtain ⟨a', c', rfl, ha, hle, hc1, hc2⟩ := slice_open hs hok hx
          obtain ⟨xs, hxs, hxv⟩ := first_rel (P := P) hs hnew hy
          have hl := fun W => len_rel (P := P) (w := W) hn hy
          split at h
          · -- in place
            rename_i hble
            have hle1 : len + n ≤ cap := Nat.le_of_ble_eq_true hble
            have hle2 : len + n ≤ c' := by omega
            cases base with
            | none =>
              simp only [AR] at ha
              subst ha
              dsimp only at h
              injection h with h
              subst h
              exact RV.pure hs (VR.len (m := len + n) hx) (append_in ht ht2 (run_und hg hu) (run_und hg hu2) hd2 (hsz w) (hl w) (hxs w rfl) hle2 (fun a h => by cases h) (fun _ => rfl))
            | some p =>
              obtain ⟨b', o⟩ := p
              obtain ⟨j, hj, rfl⟩ := ha
              dsimp only at h
              split at h
              · rename_i s' hst
                injection h with h
                subst h
                obtain ⟨j', hj', w', hr', hrel, hstep⟩ := storeN_row (P := P) hst hs hxv
                dsimp only [addA] at hj' hr'
                rw [hj] at hj'
                injection hj' with hj'
                subst hj'
                exact ⟨β, _, w', append_in ht ht2 (run_und hg hu) (run_und hg hu2) hd2 (hsz w) (hl w) (hxs w rfl) hle2 (fun a h => by injection h with h; subst h; rw [add_none, Nat.add_assoc]; exact hr') (fun h => by cases h), VR.len (m := len + n) hx, hrel, hstep⟩
              · cases h
          · rename_i hble
            have hgt : ¬ len + n ≤ cap := fun h' => by rw [Nat.ble_eq_true_of_le h'] at hble; cases hble
            split at h
            · rename_i old hold hcond
              split at h
              · rename_i hlen
                simp only [Bool.and_eq_true] at hcond hlen
                obtain ⟨⟨⟨h0, hbytes⟩, h30⟩, hzz⟩ := hcond
                obtain ⟨⟨ho1, ho2⟩, hone⟩ := hlen
                have h0 : 0 < i.size := Nat.le_of_ble_eq_true h0
                have hbytes : i.bytes < 2 ^ 16 := Nat.le_of_ble_eq_true hbytes
                have h30 : len + n < 2 ^ 30 := Nat.le_of_ble_eq_true h30
                have ho1 : old.length = len * i.size := Nat.eq_of_beq_eq_true ho1
                have ho2 : new.length = n * i.size := Nat.eq_of_beq_eq_true ho2
                obtain ⟨os, hos, hov⟩ := first_rel (P := P) hs hold hx
                have hlenT : old.length + new.length = (len + n) * i.size := by rw [ho1, ho2, Nat.add_mul]
                have hmax : ¬ (((len + n : Nat) : Int) > IntKind.i64.max) := by
                  have : IntKind.i64.max = 2 ^ 63 - 1 := by decide
                  rw [this]
                  omega
                cases hzi : i.zero with
                | none => rw [hzi] at hzz; simp at hzz
                | some zv =>
                  rw [hzi] at hzz
                  have hzs : zv.cells.size = i.size := Nat.eq_of_beq_eq_true hzz
                  have hz : ∀ W : World, (zeroValue e).run P W = .ok zv W := fun W => by simp [zeroValue, hti, hzi]
                  have grow : ¬ len + n ≤ c' → ∃ m k, len + n ≤ m ∧ (Builtin.append_ ts rt #[.slice a' len c', y]).run P w =
                      .ok (.slice (some ⟨w.heap.size, 0, none⟩) (len + n) m) { w with drawn := k, heap := w.heap.push (.cells (os ++ xs ++ Builtin.zeroCells zv.cells (m - (len + n))) e (0, 0)) } := fun hgt' => by
                    refine append_grow ht ht2 (run_und hg hu) (run_und hg hu2) hd2 (hsz w) hti (hl w) (fun k => hxs _ rfl) (fun k => hos _ rfl) hz hgt' hmax ?_
                    · have h32 := next_le h30 (by omega : c' < 2 ^ 30)
                      have : Builtin.nextslicecap (len + n) c' * i.bytes ≤ 2 ^ 32 * 2 ^ 16 := Nat.mul_le_mul (by omega) (by omega)
                      omega
                  split at h
                  · -- a row of its own for sure
                    have hcc := hc1 rfl
                    injection h with h
                    subst h
                    obtain ⟨m, k, hm, hrun⟩ := grow (by omega)
                    obtain ⟨γ, hv, hr, hst⟩ := grown_row (m := m) (n := len + n) (k := k) (e := e) (Z := Builtin.zeroCells zv.cells (m - (len + n))) (len := len + n) hs (new_free hf) hov hxv hlenT (by rw [zeroCells_size, hzs]) hm (.inl rfl)
                    exact ⟨γ, _, _, hrun, hv, hr, hst⟩
                  · obtain ⟨bb, o, c, e', z, j, hpa, hrow, hj, hcl, hcc⟩ := hc2 rfl
                    subst hpa
                    dsimp only at h
                    obtain ⟨hze1, hze2, q, hr, hq⟩ : z = i.size ∧ e' = e ∧ ∃ q, r = .val (.slice (some (s.n, 0)) (len + n) (len + n)) (Ev.new { h := s.h.set bb none, n := s.n } q) ∧ (q = .win (old ++ new) e i.size ∨ (q = .row (old ++ new) e true i.size ∧ j.off + o = 0)) := by
                      unfold regrow at h
                      rcases hrow with hrow | hrow
                      · rw [hrow] at h
                        dsimp only at h
                        split at h
                        · rename_i hze
                          simp only [Bool.and_eq_true] at hze
                          refine ⟨Nat.eq_of_beq_eq_true hze.1, Nat.eq_of_beq_eq_true hze.2, ?_⟩
                          obtain ⟨_, j', hj', _, _, _, _, _, _, _, hoff⟩ := hs.obj _ _ hrow
                          rw [hj] at hj'
                          injection hj' with hj'
                          subst hj'
                          split at h
                          · injection h with h
                            exact ⟨_, h.symm, .inr ⟨rfl, by omega⟩⟩
                          · injection h with h
                            exact ⟨_, h.symm, .inl rfl⟩
                        · cases h
                      · rw [hrow] at h
                        dsimp only at h
                        split at h
                        · rename_i hze
                          simp only [Bool.and_eq_true] at hze
                          injection h with h
                          exact ⟨Nat.eq_of_beq_eq_true hze.1, Nat.eq_of_beq_eq_true hze.2, _, h.symm, .inl rfl⟩
                        · cases h
                    subst hze1; subst hze2; subst hr
                    have hnf : β s.n = none := hf s.n (Nat.le_refl _) (Nat.lt_succ_self _)
                    by_cases hin : len + n ≤ c'
                    · -- in place
                      obtain ⟨j'', hj'', ha'⟩ := ha
                      rw [hj] at hj''
                      injection hj'' with hj''
                      subst hj''
                      subst ha'
                      have hold' : loadN s (bb, o) (len * i.size) = some old := hold
                      obtain ⟨w', hst, γ, hv, hr, hstep⟩ := regrow_in (P := P) (q := q) hs hrow hj hcl hcc hold' hxv ho2 hone hin hnf hq
                      exact ⟨γ, _, w', append_in ht ht2 (run_und hg hu) (run_und hg hu2) hd2 (hsz w) (hl w) (hxs w rfl) hin (fun a h => by injection h with h; subst h; rw [add_none]; exact hst) (fun h => by cases h), hv, hr, hstep⟩
                    · obtain ⟨m, k, hm, hrun⟩ := grow hin
                      obtain ⟨hk1, hk2⟩ := hs.kill (b := bb)
                      obtain ⟨γ, hv, hr, hst⟩ := grown_row (m := m) (n := len + n) (k := k) (e := e') (Z := Builtin.zeroCells zv.cells (m - (len + n))) (len := len + n) (q := q) hk1 hnf hov hxv hlenT (by rw [zeroCells_size, hzs]) hm (by rcases hq with h | h; exact .inr h; exact .inl h.1)
                      exact ⟨γ, _, _, hrun, hv, hr, hk2.trans hst⟩
              · cases h
            · cases h
        · cases h
      · cases h
    · cases h
  · cases h
end
end Go.Proofs.YtgfbjbdfckgdjaaGreatDoor.Ev

namespace Go.Proofs.YtgfbjbdfckgdjaaGreatDoor.Ev
open Go.RowKit

section
variable {P : Program} {g : G} {β : Ren} {s : S} {w : World}

theorem ex_len (hg : GOK P g) (hs : Rel β s w) {ts : Array TypeId} {rt : TypeId} {vs : List AV} {r : R} {xs : List Value} (h : builtin g s .len ts.toList vs = some r) (hx : VRs β vs xs) :
    RV β s w ((Builtin.len_ ts rt xs.toArray).run P w) r := by
  unfold builtin at h
  dsimp only at h
  split at h
  · rename_i t tl a hts
    obtain ⟨x, _, hxa, hr, rfl⟩ := hx
    simp only [VRs] at hr
    subst hr
    have ht : ts[0]? = some t := by rw [← Array.getElem?_toList, hts]; rfl
    split at h
    · rename_i hu
      split at h
      · rename_i l
        injection h with h
        subst h
        simp only [VR] at hxa
        subst hxa
        have hsz : (ByteArray.mk l.toArray).size = l.length := rfl
        exact RV.pure hs (by exact rfl) (by simp [Builtin.len_, ht, run_und hg hu, goInt, hsz])
      · cases h
    · rename_i n e hu
      injection h with h
      subst h
      exact RV.pure hs (x := .int .i64 n) (by exact rfl) (by simp [Builtin.len_, ht, run_und hg hu, goInt])
    · rename_i e hu
      split at h
      · rename_i p n c
        injection h with h
        subst h
        obtain ⟨a', c', rfl, _⟩ := slice_parts hxa
        exact RV.pure hs (x := .int .i64 n) (by exact rfl) (by simp [Builtin.len_, ht, run_und hg hu, goInt])
      · rename_i p n
        injection h with h
        subst h
        obtain ⟨b, o⟩ := p
        obtain ⟨i, hi, rfl⟩ := hxa
        exact RV.pure hs (x := .int .i64 n) (by exact rfl) (by simp [Builtin.len_, ht, run_und hg hu, goInt])
      · rename_i b
        injection h with h
        subst h
        obtain ⟨i, hi, o, c, rfl, _⟩ := hxa
        exact RV.pure hs (x := .int .i64 0) (by exact rfl) (by simp [Builtin.len_, ht, run_und hg hu, goInt])
      · cases h
    · rename_i k e hu
      split at h
      · injection h with h
        subst h
        simp only [VR] at hxa
        subst hxa
        exact RV.pure hs (x := .int .i64 0) (by exact rfl) (by simp [Builtin.len_, ht, run_und hg hu, goInt])
      · rename_i b
        split at h
        · rename_i es c hb
          injection h with h
          subst h
          obtain ⟨i, hi, rfl⟩ := hxa
          obtain ⟨_, j, hj, ms, hm, hl, _, _⟩ := hs.obj _ _ hb
          rw [hi] at hj
          injection hj with hj
          subst hj
          have hget : (getObj i.blk).run P w = .ok (.map ms c) w := by simp [getObj, Sem.run, hm]
          exact RV.pure hs (x := .int .i64 es.length) (by exact rfl) (by simp [Builtin.len_, ht, run_und hg hu, goInt, hget, hl])
        · cases h
      · cases h
    · cases h
  · cases h

theorem ex_minmax (hs : Rel β s w) {b : Builtin} (hb : b = .min ∨ b = .max) {ts : Array TypeId} {rt : TypeId} {vs : List AV} {r : R} {xs : List Value} (h : builtin g s b ts.toList vs = some r) (hx : VRs β vs xs) :
    (b = .min → RV β s w ((Builtin.min_ ts rt xs.toArray).run P w) r) ∧ (b = .max → RV β s w ((Builtin.max_ ts rt xs.toArray).run P w) r) := by
  rcases hb with rfl | rfl
  · refine ⟨fun _ => ?_, fun h => by cases h⟩
    unfold builtin at h
    dsimp only at h
    split at h
    · injection h with h
      subst h
      obtain ⟨x, _, hxa, ⟨y, _, hya, hr, rfl⟩, rfl⟩ := hx
      simp only [VRs] at hr
      subst hr
      simp only [VR] at hxa hya
      subst hxa; subst hya
      exact RV.pure hs (by exact rfl) (by simp [Builtin.min_, Builtin.min2])
    · cases h
  · refine ⟨fun h => (by cases h), fun _ => ?_⟩
    unfold builtin at h
    dsimp only at h
    split at h
    · injection h with h
      subst h
      obtain ⟨x, _, hxa, ⟨y, _, hya, hr, rfl⟩, rfl⟩ := hx
      simp only [VRs] at hr
      subst hr
      simp only [VR] at hxa hya
      subst hxa; subst hya
      exact RV.pure hs (by exact rfl) (by simp [Builtin.max_, Builtin.max2])
    · cases h

theorem ex_cap (hg : GOK P g) (hs : Rel β s w) {ts : Array TypeId} {rt : TypeId} {vs : List AV} {r : R} {xs : List Value} (h : builtin g s .cap ts.toList vs = some r) (hx : VRs β vs xs) :
    RV β s w ((Builtin.cap_ ts rt xs.toArray).run P w) r := by
  unfold builtin at h
  dsimp only at h
  split at h
  · rename_i t tl a hts
    obtain ⟨x, _, hxa, hr, rfl⟩ := hx
    simp only [VRs] at hr
    subst hr
    have ht : ts[0]? = some t := by rw [← Array.getElem?_toList, hts]; rfl
    split at h
    · rename_i e p n c hu
      split at h
      · rename_i hok
        injection h with h
        subst h
        obtain ⟨a', c', rfl, _, _, hc, _⟩ := slice_open hs hok hxa
        exact RV.pure hs (x := .int .i64 c) (by exact rfl) (by simp [Builtin.cap_, ht, run_und hg hu, goInt, hc rfl])
      · cases h
    · cases h
  · cases h

theorem ERel.drop : ∀ {es : List ME} {ms : List MapEntry} (j : Nat), ERel β es ms → ERel β (dropAt es j) (ms.eraseIdx j)
  | [], ms, j, h => by
    have : ms = [] := List.length_eq_zero_iff.1 h.1.symm
    subst this
    exact ERel.nil
  | e :: es, [], j, h => by simp [ERel] at h
  | e :: es, m :: ms, 0, h => h.tail
  | e :: es, m :: ms, j + 1, h => by
    have h1 := h.head
    obtain ⟨h2, h3⟩ := ERel.drop j h.tail
    refine ⟨by simp [dropAt, h2], fun q f hq => ?_⟩
    cases q with
    | zero => simp only [dropAt, List.getElem?_cons_zero, Option.some.injEq] at hq; subst hq; exact ⟨m, by simp, h1⟩
    | succ q => simp only [dropAt, List.getElem?_cons_succ] at hq; simpa using h3 q f hq

theorem ex_delete (hg : GOK P g) (hs : Rel β s w) {ts : Array TypeId} {rt : TypeId} {vs : List AV} {r : R} {xs : List Value} (h : builtin g s .delete ts.toList vs = some r) (hx : VRs β vs xs) :
    RV β s w ((Builtin.delete_ ts rt xs.toArray).run P w) r := by
  unfold builtin at h
  dsimp only at h
  split at h
  · rename_i t tl b k hts
    obtain ⟨x, _, hxa, ⟨y, _, hy, hr, rfl⟩, rfl⟩ := hx
    simp only [VRs] at hr
    subst hr
    have ht : ts[0]? = some t := by rw [← Array.getElem?_toList, hts]; rfl
    obtain ⟨i, hi, rfl⟩ := hxa
    split at h
    · rename_i kt e es c hu hb
      split at h
      · rename_i kd hk
        split at h
        · rename_i hp
          obtain ⟨_, j, hj, ms, hm, hl, hxt, he⟩ := hs.obj _ _ hb
          rw [hi] at hj
          injection hj with hj
          subst hj
          have her : ERel β es ms.toList := ⟨by simpa using hl, fun q e hq => by simpa using he q e hq⟩
          have hget : (getObj i.blk).run P w = .ok (.map ms c) w := by simp [getObj, Sem.run, hm]
          have hset : ∀ o, (setObj i.blk o).run P w = .ok () { w with heap := w.heap.setIfInBounds i.blk o } := fun o => by simp [setObj, Sem.run, hm]
          have hlt : i.blk < w.heap.size := (Array.getElem?_eq_some_iff.1 hm).1
          split at h
          · rename_i q v' hf
            injection h with h
            subst h
            obtain ⟨y', hy', hf', q', e', m', hq', he', hm', hsame⟩ := find_rel hy hf her
            have hq'' : q = q' := by omega
            subst hq''
            have hdr := her.drop q
            obtain ⟨h3, h4⟩ := hs.change (o' := .map (dropAt es q) c) (w' := { w with heap := w.heap.setIfInBounds i.blk (.map (ms.eraseIdxIfInBounds q) c) }) hb hi
              ⟨ms.eraseIdxIfInBounds q, by simp [hlt], by
                have := hdr.1
                rw [this, ← Array.toList_eraseIdxIfInBounds, Array.length_toList], hxt, fun r e hr => by
                obtain ⟨m, hm1, hm2⟩ := hdr.2 r e hr
                refine ⟨m, ?_, hm2⟩
                rw [← Array.getElem?_toList, Array.toList_eraseIdxIfInBounds]
                exact hm1⟩ (by simp) (fun q hq => by simp [Array.getElem?_setIfInBounds_ne (Ne.symm hq)]) ⟨rfl, rfl, rfl⟩
            refine ⟨β, .tuple #[], _, ?_, ⟨[], VRs.nil, rfl⟩, h3, h4⟩
            simp only [Builtin.delete_, ht, List.getElem?_toArray, List.getElem?_cons_zero, List.getElem?_cons_succ, Sem.run_bind, run_und hg hu, Result.andThen_ok, hget, run_checkKey hg hk hp, run_findKey hg hk hf', hset, Sem.run_pure]
          · rename_i hf
            injection h with h
            subst h
            have hf' := find_rel hy hf her
            have hsame : w.heap.setIfInBounds i.blk (.map ms c) = w.heap := by
              apply Array.ext_getElem?
              intro q
              rw [Array.getElem?_setIfInBounds]
              split
              · rename_i e; subst e; simp [hlt, hm]; rw [Array.getElem?_eq_getElem hlt] at hm; simpa using hm.symm
              · rfl
            refine RV.pure hs (v := .tuple []) (x := .tuple #[]) ⟨[], VRs.nil, rfl⟩ ?_
            simp only [Builtin.delete_, ht, List.getElem?_toArray, List.getElem?_cons_zero, List.getElem?_cons_succ, Sem.run_bind, run_und hg hu, Result.andThen_ok, hget, run_checkKey hg hk hp, run_findKey hg hk hf', hset, Sem.run_pure, hsame]
          · cases h
        · cases h
      · cases h
    · cases h
  · cases h

theorem ex_sliceData (hs : Rel β s w) {ts : Array TypeId} {rt : TypeId} {vs : List AV} {r : R} {xs : List Value} (h : builtin g s .unsafeSliceData ts.toList vs = some r) (hx : VRs β vs xs) :
    RV β s w ((Builtin.unsafeSliceData_ ts rt xs.toArray).run P w) r := by
  unfold builtin at h
  dsimp only at h
  split at h
  · obtain ⟨x, _, hxa, hr, rfl⟩ := hx
    simp only [VRs] at hr
    subst hr
    simp only [VR] at hxa
    subst hxa
    injection h with h
    subst h
    exact RV.pure hs (x := .pointer none) (by exact rfl) (Lib.run_unsafeSliceData_nil w _ _ _ _)
  · rename_i a n c
    obtain ⟨x, _, hxa, hr, rfl⟩ := hx
    simp only [VRs] at hr
    subst hr
    obtain ⟨b, o⟩ := a
    obtain ⟨i, hi, rfl⟩ := hxa
    injection h with h
    subst h
    exact RV.pure hs (v := .ptr (some (b, o))) (x := .pointer (some ⟨i.blk, i.off + o, none⟩)) ⟨i, hi, rfl⟩ (Lib.run_unsafeSliceData_row w _ _ _ _ _ (by split <;> omega))
  · cases h

theorem bytesL_rel : ∀ {l : List AV} {r : List UInt8} {xs : List Value}, bytesL l = some r → VRs β l xs → l.length = r.length ∧ ∀ (j : Nat) (x : UInt8), r[j]? = some x → xs[j]? = some (Value.int .u8 x.toNat)
  | [], r, xs, h, hv => by simp only [bytesL, Option.some.injEq] at h; subst h; simp
  | v :: l, r, xs, h, hv => by
    unfold bytesL at h
    split at h
    · rename_i heq
      cases heq
    · rename_i n l' heq
      injection heq with h1 h2
      subst h1; subst h2
      split at h
      · rename_i hn
        split at h
        · rename_i r' hr
          injection h with h
          subst h
          obtain ⟨a, q, ha, hq, rfl⟩ := hv
          simp only [VR] at ha
          subst ha
          obtain ⟨h1, h2⟩ := bytesL_rel hr hq
          refine ⟨by simp [h1], fun j x hj => ?_⟩
          cases j with
          | zero =>
            simp only [List.getElem?_cons_zero, Option.some.injEq] at hj
            subst hj
            have : ((UInt8.ofNat n.toNat).toNat : Int) = n := by
              rw [UInt8.toNat_ofNat']
              omega
            rw [List.getElem?_cons_zero, this]
          | succ j => simp only [List.getElem?_cons_succ] at hj; simpa using h2 j x hj
        · cases h
      · cases h
    · cases h

theorem ex_unsafeString (hg : GOK P g) (hs : Rel β s w) {ts : Array TypeId} {rt : TypeId} {vs : List AV} {r : R} {xs : List Value} (h : builtin g s .unsafeString ts.toList vs = some r) (hx : VRs β vs xs) :
    RV β s w ((Builtin.unsafeString_ ts rt xs.toArray).run P w) r := by
  unfold builtin at h
  dsimp only at h
  split at h
  · rename_i t it p n hts
    have hts' : ts = #[t, it] := by apply Array.ext'; rw [hts]
    subst hts'
    obtain ⟨x, _, hxa, ⟨y, _, hy, hr, rfl⟩, rfl⟩ := hx
    simp only [VRs] at hr
    subst hr
    simp only [VR] at hy
    subst hy
    split at h
    · split at h
      · rename_i hn
        subst hn
        injection h with h
        subst h
        simp only [VR] at hxa
        subst hxa
        exact RV.pure hs (v := .str []) (x := .string ⟨#[]⟩) rfl (Lib.run_unsafeString_none w t it rt none)
      · cases h
    · rename_i a
      obtain ⟨b, o⟩ := a
      obtain ⟨i, hi, rfl⟩ := hxa
      split at h
      · rename_i hn
        subst hn
        injection h with h
        subst h
        exact RV.pure hs (v := .str []) (x := .string ⟨#[]⟩) rfl (Lib.run_unsafeString_none w t it rt _)
      · rename_i hn0
        split at h
        · cases h
        · rename_i hrange
          dsimp only at h
          split at h
          · rename_i u c e op z hu hrow
            split at h
            · rename_i l hc hl
              split at h
              · rename_i l' hb
                injection h with h
                subst h
                simp only [Bool.and_eq_true] at hc
                obtain ⟨⟨⟨ho, hue⟩, hz⟩, hce⟩ := hc
                have ho := Nat.eq_of_beq_eq_true ho
                have hue := Nat.eq_of_beq_eq_true hue
                have hz := Nat.eq_of_beq_eq_true hz
                have hce := Nat.eq_of_beq_eq_true hce
                subst ho; subst hue; subst hz
                rw [hg.prog] at hce
                obtain ⟨_, j, hj, cs, hcs, hcv, hasz, hesz, hsize, _, hoff⟩ := hs.obj _ _ hrow
                rw [hi] at hj
                injection hj with hj
                subst hj
                obtain ⟨i1, cs1, e1, fz1, hi1, hcs1, hle3, hov1⟩ := loadN_row hl hs
                dsimp only at hi1 hov1 hle3
                rw [hi] at hi1
                injection hi1 with hi1
                subst hi1
                rw [hcs] at hcs1
                injection hcs1 with hcs1
                injection hcs1 with hcs1 _ _
                subst hcs1
                have hll := loadN_length hl
                simp only [hoff, Nat.zero_add, Nat.add_zero] at hov1 hle3 ⊢
                obtain ⟨hlen, hby⟩ := bytesL_rel hb hov1
                have hnn : (l'.length : Int) = n := by omega
                have hne : l' ≠ [] := fun e => by rw [e] at hnn; simp at hnn; omega
                have hsh : w.shape? i.blk = some (u, cs.size) := by simp [World.shape?, hcs]
                have hrun := Lib.run_unsafeString_row (P := P) w t it rt u (hg.und hu) hce i.blk cs.size hsh l' hne (by omega) (by omega) (fun j x hj => by
                  have := hby j x hj
                  rw [add_none, Nat.zero_add]
                  rw [List.drop_zero, List.getElem?_take] at this
                  split at this
                  · simpa [World.cell?, hcs] using this
                  · cases this)
                rw [hnn] at hrun
                obtain ⟨fz, hfz⟩ := freeze_at w ⟨i.blk, 0, none⟩ l'.length cs u (0, 0) hcs
                obtain ⟨h3, h4⟩ := hs.change (o' := .ro c 1) (w' := w.freeze ⟨i.blk, 0, none⟩ l'.length) hrow hi ⟨cs, u, fz, hfz, hcv, hasz, hesz, hsize, hoff⟩ (freeze_size ..) (fun q hq => freeze_other _ _ _ _ hq) (freeze_same ..)
                exact ⟨β, _, _, hrun, rfl, h3, h4⟩
              · cases h
            · cases h
          · cases h
  · cases h

theorem find_noEscape {fn : Func} (h1 : fn.name = "internal/abi.NoEscape") (h2 : fn.origin = "") : Extern.findNext fn = none ∧ Extern.find fn = some Extern.AbiNoEscape.same := by
  have a1 : Extern.allNextRows.lookup "internal/abi.NoEscape" = none := by kernel_rfl
  have a2 : Extern.allNextRows.lookup "" = none := by kernel_rfl
  have a3 : Extern.allGenericRows.lookup "internal/abi.NoEscape" = none := by kernel_rfl
  have a4 : Extern.allTypedRows.lookup "internal/abi.NoEscape" = none := by kernel_rfl
  have a5 : Extern.allRows.lookup "internal/abi.NoEscape" = some Extern.AbiNoEscape.same := by kernel_rfl
  unfold Extern.findNext Extern.find
  simp only [h1, h2, a1, a2, a3, a4, a5]
  exact ⟨rfl, rfl⟩

theorem find_makeNoZero {fn : Func} (h1 : fn.name = "internal/bytealg.MakeNoZero") (h2 : fn.origin = "") : Extern.findNext fn = none ∧ Extern.find fn = some (Extern.BytealgMakeNoZero.makeNoZero fn.params fn.resultTypes) := by
  have a1 : Extern.allNextRows.lookup "internal/bytealg.MakeNoZero" = none := by kernel_rfl
  have a2 : Extern.allNextRows.lookup "" = none := by kernel_rfl
  have a3 : Extern.allGenericRows.lookup "internal/bytealg.MakeNoZero" = none := by kernel_rfl
  have a4 : Extern.allTypedRows.lookup "internal/bytealg.MakeNoZero" = some Extern.BytealgMakeNoZero.makeNoZero := by kernel_rfl
  unfold Extern.findNext Extern.find
  simp only [h1, h2, a1, a2, a3, a4]
  exact ⟨rfl, rfl⟩

theorem ixB_eq (c : UInt8) : ∀ (l : List UInt8) (n : Nat), ixB c l n = if Lib.indexByte l c = -1 then -1 else Lib.indexByte l c + n
  | [], n => by simp [ixB, Lib.indexByte]
  | b :: l, n => by
    have hge := Lib.indexByte_ge l c
    unfold ixB Lib.indexByte
    cases hb : (b == c)
    · simp only [hb, Bool.false_eq_true, if_false, ixB_eq c l (n + 1)]
      by_cases e : Lib.indexByte l c = -1
      · simp [e]
      · simp only [e, if_false, beq_iff_eq]
        rw [if_neg (by omega)]
        omega
    · simp [hb]

theorem find_plainRow {fn : Func} {nm : String} {e : Array Value → Sem Value} (h1 : fn.name = nm) (h2 : fn.origin = "") (a1 : Extern.allNextRows.lookup nm = none) (a2 : Extern.allNextRows.lookup "" = none)
    (a3 : Extern.allGenericRows.lookup nm = none) (a4 : Extern.allTypedRows.lookup nm = none) (a5 : Extern.allRows.lookup nm = some e) : Extern.findNext fn = none ∧ Extern.find fn = some e := by
  unfold Extern.findNext Extern.find
  simp only [h1, h2, a1, a2, a3, a4, a5]
  exact ⟨rfl, rfl⟩

theorem run_maps_clone {r : Nat} {es : Array MapEntry} {clock : Nat} (t : TypeId) (hb : w.heap[r]? = some (.map es clock)) :
    (Extern.MapsClone.clone #[.iface t (.map (some r))]).run P w = .ok (.iface t (.map (some w.heap.size))) (w.alloc (.map es clock)) := by
  have e : Extern.MapsClone.clone #[.iface t (.map (some r))] = (getObj r >>= fun o => match o with
      | .map entries clock => (newObj (.map entries clock) >>= fun n => pure (.iface t (.map (some n))))
      | _ => stuck "maps.clone: a map expected") := rfl
  have hg : (getObj r).run P w = .ok (.map es clock) w := by simp [getObj, Sem.run, hb]
  rw [e]
  simp [hg, Result.andThen, go_sem]

theorem ex_extern (hg : GOK P g) (hs : Rel β s w) {f : FuncId} {fn : Func} (hf : P.funcs[f]? = some fn) (hb : fn.body = none) {args : List AV} {r : R} {xs : List Value} (h : extern g s fn args = some r) (hx : VRs β args xs) (hfr : Free β s r.st) :
    Res P β s w ((Go.callFunc f xs.toArray).run P w) r := by
  have run : ∀ {e : Array Value → Sem Value}, (fn.name == "runtime.NumGoroutine") = false → Extern.findNext fn = none → Extern.find fn = some e → RV β s w ((e xs.toArray).run P w) r → Res P β s w ((Go.callFunc f xs.toArray).run P w) r := by
    intro e hname h1 h2 h3
    rw [run_callFunc_extern hf hname (by rw [hb]; rfl) h1 h2]
    have := RV.res (P := P) h3
    simpa using this
  unfold extern at h
  split at h
  · rename_i hn
    simp only [Bool.and_eq_true, beq_iff_eq] at hn
    obtain ⟨h1, h2⟩ := find_noEscape hn.1 hn.2
    split at h
    · injection h with h
      subst h
      obtain ⟨x, _, hxa, hr, rfl⟩ := hx
      simp only [VRs] at hr
      subst hr
      exact run (by rw [hn.1]; decide) h1 h2 (RV.pure hs hxa rfl)
    · cases h
  · split at h
    · rename_i hn
      simp only [Bool.and_eq_true, beq_iff_eq] at hn
      obtain ⟨h1, h2⟩ := find_makeNoZero hn.1 hn.2
      split at h
      · rename_i n t hrt
        split at h
        · rename_i e hu
          split at h
          · rename_i hrange
            injection h with h
            subst h
            obtain ⟨x, _, hxa, hr, rfl⟩ := hx
            simp only [VRs] at hr
            subst hr
            simp only [VR] at hxa
            subst hxa
            have hrt' : fn.resultTypes = #[t] := by apply Array.ext'; rw [hrt]
            refine run (by rw [hn.1]; decide) h1 h2 ?_
            rw [hrt']
            obtain ⟨cs, hrun, hge, _⟩ := Lib.run_makeNoZero (P := P) w fn.params t e (hg.und hu) n.toNat (by omega)
            have hnn : (n.toNat : Int) = n := by omega
            rw [hnn] at hrun
            obtain ⟨h3, h4⟩ := hs.new (i := ⟨w.heap.size, 0, 1, cs.size, 0⟩) (o := .row [] e true 1) (w' := w.drew.drew.alloc (.cells cs e)) (new_free hfr) (Nat.le_refl _)
              ⟨cs, (by
                show (w.heap.push _)[w.heap.size]? = _
                simp), by simpa using VRs.nil, rfl, rfl, by simp, (fun h => by cases h), rfl⟩ (by
                show w.heap.size ≤ (w.heap.push _).size
                simp) (fun k hk => by
                show (w.heap.push _)[k]? = _
                rw [Array.getElem?_push_lt hk, Array.getElem?_eq_getElem hk]) ⟨rfl, rfl, rfl⟩
            exact ⟨_, _, _, hrun, ⟨_, upd_same .., by simp⟩, h3, h4⟩
          · cases h
        · cases h
      · cases h
    · split at h
      · rename_i hn
        simp only [Bool.and_eq_true, beq_iff_eq] at hn
        obtain ⟨h1, h2⟩ := find_plainRow (e := Extern.BytealgIndexByte.indexByte) hn.1 hn.2 (by kernel_rfl) (by kernel_rfl) (by kernel_rfl) (by kernel_rfl) (by kernel_rfl)
        split at h
        · rename_i l c
          injection h with h
          subst h
          obtain ⟨x, _, hxa, ⟨y, _, hya, hr, rfl⟩, rfl⟩ := hx
          simp only [VRs] at hr
          subst hr
          simp only [VR] at hxa hya
          subst hxa; subst hya
          refine run (by rw [hn.1]; decide) h1 h2 (RV.pure hs (x := .int .i64 (Lib.indexByte l c.toNat.toUInt8)) ?_ (Lib.run_indexByteString _ c w))
          simp only [VR, ixB_eq]
          split
          · rename_i e; rw [e]
          · simp
        · cases h
      · split at h
        · rename_i hn
          simp only [Bool.and_eq_true, beq_iff_eq] at hn
          obtain ⟨h1, h2⟩ := find_plainRow (e := Extern.BytealgCount.count) hn.1 hn.2 (by kernel_rfl) (by kernel_rfl) (by kernel_rfl) (by kernel_rfl) (by kernel_rfl)
          split at h
          · rename_i l c
            injection h with h
            subst h
            obtain ⟨x, _, hxa, ⟨y, _, hya, hr, rfl⟩, rfl⟩ := hx
            simp only [VRs] at hr
            subst hr
            simp only [VR] at hxa hya
            subst hxa; subst hya
            exact run (by rw [hn.1]; decide) h1 h2 (RV.pure hs (x := .int .i64 (Lib.countByte l c.toNat.toUInt8)) (by simp [VR]) (Lib.run_countString _ c w))
          · cases h
        · split at h
          · rename_i hn
            simp only [Bool.and_eq_true, beq_iff_eq] at hn
            obtain ⟨h1, h2⟩ := find_plainRow (e := Extern.MapsClone.clone) hn.1 hn.2 (by kernel_rfl) (by kernel_rfl) (by kernel_rfl) (by kernel_rfl) (by kernel_rfl)
            split at h
            · rename_i t b
              split at h
              · rename_i es k hmap
                injection h with h
                subst h
                obtain ⟨x, _, hxa, hr, rfl⟩ := hx
                simp only [VRs] at hr
                subst hr
                obtain ⟨v', ⟨i, hi, rfl⟩, rfl⟩ := hxa
                obtain ⟨_, j, hj, ms, hm, hlen, hxt, he⟩ := hs.obj _ _ hmap
                rw [hi] at hj
                injection hj with hj
                subst hj
                have hnf := new_free hfr
                refine run (by rw [hn.1]; decide) h1 h2 ?_
                obtain ⟨h3, h4⟩ := hs.new (i := ⟨w.heap.size, 0, 0, 0, 0⟩) (o := .map es k) (w' := w.alloc (.map ms k)) hnf (Nat.le_refl _)
                  ⟨ms, (by
                    show (w.heap.push _)[w.heap.size]? = _
                    simp), hlen, rfl, fun j e hj => by
                    obtain ⟨m, a1, a2, a3, a4⟩ := he j e hj
                    exact ⟨m, a1, a2.mono (upd_le hnf) _ _, a3.mono (upd_le hnf) _ _, a4⟩⟩ (by
                    show w.heap.size ≤ (w.heap.push _).size
                    simp) (fun k hk => by
                    show (w.heap.push _)[k]? = _
                    rw [Array.getElem?_push_lt hk, Array.getElem?_eq_getElem hk]) ⟨rfl, rfl, rfl⟩
                exact ⟨_, _, _, run_maps_clone t hm, ⟨_, ⟨_, upd_same .., rfl⟩, rfl⟩, h3, h4⟩
              · cases h
            · cases h
          · cases h

theorem isRow_spec {o : Option AO} (h : isRow o = true) : ∃ c e r z, o = some (.row c e r z) := by
  unfold isRow at h
  split at h
  · exact ⟨_, _, _, _, rfl⟩
  · cases h

theorem ex_ptrApart (hg : GOK P g) (hs : Rel β s w) {op : BinOp} {t : TypeId} {ox oy : Operand} {a b v : AV} {x y : Value} (h : ptrApart g s op t a b = some v) (hx : VR β a x) (hy : VR β b y) :
    RV β s w ((do eqGuard op t ox oy x y; Go.binOp op t x y : Sem Value).run P w) (.val v s) := by
  unfold ptrApart at h
  split at h
  case h_2 => cases h
  rename_i b o c q
  split at h
  · cases h
  rename_i hbc
  have hne := Nat.ne_of_beq_eq_false hbc
  split at h
  case h_2 => cases h
  rename_i e hu hrow
  simp only [Bool.and_eq_true] at hrow
  obtain ⟨c1, e1, r1, z1, h1⟩ := isRow_spec hrow.1
  obtain ⟨c2, e2, r2, z2, h2⟩ := isRow_spec hrow.2
  obtain ⟨i, hi, rfl⟩ := hx
  obtain ⟨j, hj, rfl⟩ := hy
  obtain ⟨_, i', hi', cs1, k1, _⟩ := hs.obj _ _ h1
  obtain ⟨_, j', hj', cs2, k2, _⟩ := hs.obj _ _ h2
  rw [hi] at hi'
  injection hi' with hi'
  subst hi'
  rw [hj] at hj'
  injection hj' with hj'
  subst hj'
  have hblk : i.blk ≠ j.blk := fun e => hne (hs.inj _ _ _ _ _ _ h1 h2 hi hj e)
  have hsa : (sameAddr ⟨i.blk, i.off + o, none⟩ ⟨j.blk, j.off + q, none⟩).run P w = .ok false w := run_sameAddr_other w (fun e => hblk (congrArg Addr.block e)) k1 k2
  split at h
  · rename_i n hsz
    injection h with h
    subst h
    have hd : ∀ d : Nat, (Op.equalIn (d + 1) t (.pointer (some ⟨i.blk, i.off + o, none⟩)) (.pointer (some ⟨j.blk, j.off + q, none⟩))).run P w = .ok false w := fun d => by
      simp [Op.equalIn, run_und hg hu, run_size hg hsz, hsa]
    have he : (Op.equal t (.pointer (some ⟨i.blk, i.off + o, none⟩)) (.pointer (some ⟨j.blk, j.off + q, none⟩))).run P w = .ok false w := hd 9999
    exact RV.pure hs (v := .bool false) (x := .bool false) rfl (by simp [eqGuard, Go.binOp, he])
  · rename_i n hsz
    injection h with h
    subst h
    have hd : ∀ d : Nat, (Op.equalIn (d + 1) t (.pointer (some ⟨i.blk, i.off + o, none⟩)) (.pointer (some ⟨j.blk, j.off + q, none⟩))).run P w = .ok false w := fun d => by
      simp [Op.equalIn, run_und hg hu, run_size hg hsz, hsa]
    have he : (Op.equal t (.pointer (some ⟨i.blk, i.off + o, none⟩)) (.pointer (some ⟨j.blk, j.off + q, none⟩))).run P w = .ok false w := hd 9999
    exact RV.pure hs (v := .bool true) (x := .bool true) rfl (by simp [eqGuard, Go.binOp, he])
  · cases h

theorem ex_clear (hg : GOK P g) (hs : Rel β s w) {ts : Array TypeId} {rt : TypeId} {a : AV} {r : R} {x : Value} (h : builtin g s .clear ts.toList [a] = some r) (hx : VR β a x) : RV β s w ((Builtin.clear_ ts rt #[x]).run P w) r := by
  unfold builtin at h
  dsimp only at h
  split at h
  case h_2 => cases h
  rename_i t tl p hts heq
  injection heq with e1 _
  subst e1
  have ht : ts[0]? = some t := by rw [← Array.getElem?_toList, hts]; rfl
  split at h
  · rename_i e base n cap hu
    obtain ⟨a', c', rfl, ha⟩ := slice_parts hx
    split at h
    · simp only [AR] at ha
      subst ha
      injection h with h
      subst h
      exact RV.pure hs (v := .tuple []) (x := .tuple #[]) ⟨[], VRs.nil, rfl⟩ (by simp [Builtin.clear_, ht, run_und hg hu])
    · rename_i z b hz
      obtain ⟨b, o⟩ := b
      obtain ⟨i, hi, rfl⟩ := ha
      split at h
      · injection h with h
        subst h
        exact RV.pure hs (v := .tuple []) (x := .tuple #[]) ⟨[], VRs.nil, rfl⟩ (by simp [Builtin.clear_, ht, run_und hg hu])
      · rename_i n
        split at h
        · rename_i s' hst
          injection h with h
          subst h
          obtain ⟨zx, hz1, hz2⟩ := run_zero (P := P) hg (β := β) (w := w) hz
          have hv : VRs β (repl (n + 1) z.cells) (Builtin.zeroCells zx.cells (n + 1)).toList := by
            rw [zeroCells_repl]
            exact hz2.cells.repl (n + 1)
          obtain ⟨j, hj, w', hr', hrel, hstep⟩ := storeN_row (P := P) hst hs hv
          dsimp only at hj hr'
          rw [hi] at hj
          injection hj with hj
          subst hj
          refine ⟨β, .tuple #[], w', ?_, ⟨[], VRs.nil, rfl⟩, hrel, hstep⟩
          simp [Builtin.clear_, ht, run_und hg hu, hz1, hr']
        · cases h
    · cases h
  · rename_i kt et hu
    injection h with h
    subst h
    simp only [VR] at hx
    subst hx
    exact RV.pure hs (v := .tuple []) (x := .tuple #[]) ⟨[], VRs.nil, rfl⟩ (by simp [Builtin.clear_, ht, run_und hg hu])
  · cases h

theorem ex_builtin (hg : GOK P g) (hs : Rel β s w) {b : Builtin} {ts : Array TypeId} {rt : TypeId} {cs : Array Bool} {vs : List AV} {r : R} {xs : List Value} (h : builtin g s b ts.toList vs = some r) (hx : VRs β vs xs) (hf : Free β s r.st) :
    Res P β s w ((Go.builtin b ts rt cs xs.toArray).run P w) r := by
  cases b
  case len => exact RV.res (ex_len hg hs h hx)
  case append =>
    have h' := h
    unfold builtin at h'
    dsimp only at h'
    split at h'
    · obtain ⟨x, _, hxa, ⟨y, _, hya, hr, rfl⟩, rfl⟩ := hx
      simp only [VRs] at hr
      subst hr
      exact RV.res (ex_append hg hs h hxa hya hf)
    · cases h'
  case copy =>
    have h' := h
    unfold builtin at h'
    dsimp only at h'
    split at h'
    · obtain ⟨x, _, hxa, ⟨y, _, hya, hr, rfl⟩, rfl⟩ := hx
      simp only [VRs] at hr
      subst hr
      exact RV.res (ex_copy hg hs h hxa hya)
    · cases h'
  case clear =>
    have h' := h
    unfold builtin at h'
    dsimp only at h'
    split at h'
    · obtain ⟨x, _, hxa, hr, rfl⟩ := hx
      simp only [VRs] at hr
      subst hr
      exact RV.res (ex_clear hg hs h hxa)
    · cases h'
  case min => exact RV.res ((ex_minmax hs (.inl rfl) h hx).1 rfl)
  case max => exact RV.res ((ex_minmax hs (.inr rfl) h hx).2 rfl)
  case cap => exact RV.res (ex_cap hg hs h hx)
  case delete => exact RV.res (ex_delete hg hs h hx)
  case unsafeSliceData => exact RV.res (ex_sliceData hs h hx)
  case unsafeString => exact RV.res (ex_unsafeString hg hs h hx)
  all_goals (simp [builtin] at h)

theorem ex_callFn (hg : GOK P g) (hs : Rel β s w) {f : FuncId} {args : List AV} {r : R} {xs : List Value} (h : callFn g s f args = some r) (hx : VRs β args xs) (hf : Free β s r.st) : Res P β s w ((Go.callFunc f xs.toArray).run P w) r := by
  unfold callFn at h
  split at h
  · rename_i fn hfn
    split at h
    · rename_i c hc
      split at h
      · cases h
      · rename_i hname
        injection h with h
        subst h
        have := hg.fns _ _ hfn
        have hname' : ¬ fn.name = "runtime.NumGoroutine" := by simpa using hname
        exact ⟨xs, by simp [Go.callFunc, this, hname', hc], hx, rfl⟩
    · rename_i hc
      exact ex_extern hg hs (hg.fns _ _ hfn) hc h hx hf
  · cases h

theorem toArray_cons {α : Type} (x : α) (l : List α) : #[x] ++ l.toArray = (x :: l).toArray := by simp

theorem ex_call (hg : GOK P g) (hs : Rel β s w) {c : Call} {rt : TypeId} {vs : List AV} {r : R} {ρ : Operand → Value} (h : exCall g s c vs = some r) (hv : VRs β vs (c.operands.toList.map ρ)) (hf : Free β s r.st) :
    Res P β s w ((do let d ← resolve ρ c rt; Go.invoke d.target d.args : Sem Next).run P w) r := by
  obtain ⟨callee, args, ats⟩ := c
  have hargs : args.map ρ = (args.toList.map ρ).toArray := by apply Array.ext'; simp
  unfold exCall at h
  cases callee with
  | builtin b =>
    dsimp only at h
    have hx : VRs β vs (args.toList.map ρ) := by simpa [Call.operands] using hv
    have := ex_builtin (rt := rt) (cs := args.map fun | .const _ => true | _ => false) hg hs h hx hf
    simp only [resolve, Sem.run_bind, Sem.run_pure, Result.andThen_ok, Go.invoke, hargs]
    exact this
  | invoke x m =>
    dsimp only at h
    have hx : VRs β vs (ρ x :: args.toList.map ρ) := by simpa [Call.operands] using hv
    split at h
    · rename_i t v as
      obtain ⟨y, ys, hy, hys, e⟩ := hx
      injection e with e e'
      subst e'
      obtain ⟨v', hv', e2⟩ := hy
      rw [e2] at e
      split at h
      · rename_i ti hti
        have htr := run_typeInfo w (hg.info hti)
        split at h
        · rename_i mm hmm
          split at h
          · rename_i fid ptr hpath hfun
            have hpe : mm.path.isEmpty = true := by
              rw [Array.isEmpty_iff]
              apply Array.ext'
              exact hpath
            have key : (receiverAt t (.val v') ptr (some ((m.splitOn ".").getLastD m))).run P w = .ok v' w → Res P β s w ((Go.callFunc fid (#[v'] ++ args.map ρ)).run P w) r →
                Res P β s w ((do let d ← resolve ρ { callee := .invoke x m, args := args, argTypes := ats } rt; Go.invoke d.target d.args : Sem Next).run P w) r := by
              intro h1 h2
              have hfuel : P.types.size + Made.depth = (P.types.size + (Made.depth - 1)) + 1 := rfl
              have hA : #[ρ x] ++ args.map ρ = (ρ x :: args.toList.map ρ).toArray := by rw [hargs, toArray_cons]
              have hex : (ρ x :: args.toList.map ρ).toArray.extract 1 (ρ x :: args.toList.map ρ).toArray.size = (args.toList.map ρ).toArray := by
                apply Array.ext'
                simp
                exact List.take_of_length_le (by simp)
              have h0 : (ρ x :: args.toList.map ρ).toArray[0]? = some (ρ x) := by simp
              rw [hargs] at h2
              simp only [resolve, Sem.run_bind, Sem.run_pure, Result.andThen_ok, Go.invoke, hA, h0]
              rw [e]
              rw [e] at hex
              simp only [callMethod, Sem.run_bind, run_program, Result.andThen_ok, hfuel, method, htr, hmm, hpath, follow, Sem.run_pure, hfun, hpe, if_true, h1, hex]
              exact h2
            split at h
            · rename_i el hu
              exact key (by simp [receiverAt, run_und hg hu, Place.get]) (by rw [hargs, toArray_cons]; exact ex_callFn hg hs h (VRs.cons hv' hys) hf)
            · cases h
            · rename_i d hnp hu
              refine key ?_ (by rw [hargs, toArray_cons]; exact ex_callFn hg hs h (VRs.cons hv' hys) hf)
              simp only [receiverAt, Sem.run_bind, run_und hg hu, Result.andThen_ok]
              cases d <;> first | rfl | exact absurd rfl (hnp _)
            · cases h
          · cases h
        · cases h
      · cases h
    · cases h
  | value f =>
    dsimp only at h
    have hx : VRs β vs (ρ f :: args.toList.map ρ) := by simpa [Call.operands] using hv
    split at h
    · rename_i fid first captured as
      obtain ⟨x, xs, hfx, hxs, e⟩ := hx
      injection e with e e'
      subst e'
      obtain ⟨a', c', ha, hc, e2⟩ := hfx
      rw [e2] at e
      have := ex_callFn (w := w) hg hs h ((ha.append hxs).append hc) hf
      simp only [resolve, e, Deferred.ofValue, Sem.run_bind, Sem.run_pure, Result.andThen_ok, Go.invoke, hargs]
      simpa using this
    · rename_i t path fid ptr first as
      obtain ⟨x, xs, hfx, hxs, e⟩ := hx
      injection e with e e'
      subst e'
      obtain ⟨a', c', ha, hc, e2⟩ := hfx
      simp only [VRs] at hc
      subst hc
      rw [e2] at e
      split at h
      · rename_i v rest hp hfa
        have hall := ha.append hxs
        rw [hfa] at hall
        obtain ⟨y, ys, hy, hys, e3⟩ := hall
        have e3' : a'.toArray ++ args.map ρ = (y :: ys).toArray := by rw [hargs, ← e3]; simp
        have hpath : path.toList = [] := hp
        have h0 : (y :: ys).toArray[0]? = some y := by simp
        have hex : (y :: ys).toArray.extract 1 (y :: ys).toArray.size = ys.toArray := by apply Array.ext'; simp
        have via : (receiverVia t y path ptr).run P w = .ok y w → Res P β s w ((Go.callFunc fid (y :: ys).toArray).run P w) r → Res P β s w ((do let d ← resolve ρ { callee := .value f, args := args, argTypes := ats } rt; Go.invoke d.target d.args : Sem Next).run P w) r := by
          intro hrv hc
          simp only [resolve, e, Deferred.ofValue, Sem.run_bind, Sem.run_pure, Result.andThen_ok, Go.invoke, e3', h0, hrv, hex, toArray_cons]
          exact hc
        split at h
        · rename_i el hu
          exact via (by simp [receiverVia, hpath, follow, receiverAt, run_und hg hu, Place.get]) (ex_callFn hg hs h (VRs.cons hy hys) hf)
        · cases h
        · rename_i d hnp hu
          refine via ?_ (ex_callFn hg hs h (VRs.cons hy hys) hf)
          simp only [receiverVia, hpath, follow, Sem.run_bind, Sem.run_pure, Result.andThen_ok, receiverAt, run_und hg hu]
          cases d <;> first | rfl | exact absurd rfl (hnp _)
        · cases h
      · cases h
    · rename_i b as
      obtain ⟨x, xs, hfx, hxs, e⟩ := hx
      injection e with e e'
      subst e'
      obtain ⟨i, hi, e2⟩ := hfx
      rw [e2] at e
      injection h with h
      subst h
      refine ⟨args.toList.map ρ, i, hi, ?_, hxs, rfl⟩
      simp only [resolve, e, Deferred.ofValue, Sem.run_bind, Sem.run_pure, Result.andThen_ok, Go.invoke, hargs, Array.empty_append]
    · cases h

theorem ex_newMap (hs : Rel β s w) (hn : β s.n = none) {X : Sem Value} (hr : X.run P w = .ok (.map (some w.heap.size)) { w with heap := w.heap.push (.map #[] 0) }) :
    RV β s w (X.run P w) (.val (.map (some s.n)) (Ev.new s (.map [] 0))) := by
  obtain ⟨h1, h2⟩ := hs.new (i := ⟨w.heap.size, 0, 0, 0, 0⟩) (o := .map [] 0) (w' := { w with heap := w.heap.push (.map #[] 0) }) hn (Nat.le_refl _)
    ⟨#[], by simp, rfl, rfl, fun j e h => by simp at h⟩ (by simp) (fun k hk => by
      dsimp only
      rw [Array.getElem?_push_lt hk, Array.getElem?_eq_getElem hk]) ⟨rfl, rfl, rfl⟩
  exact ⟨_, _, _, hr, ⟨_, upd_same .., rfl⟩, h1, h2⟩

theorem opts_rel {ρ : Operand → Value} {lo hi mx : Option Operand} {vs : List AV} {a b c : Option AV} (h : opts lo.isSome hi.isSome mx.isSome vs = some (a, b, c)) (hv : VRs β vs ((lo.toList ++ hi.toList ++ mx.toList).map ρ)) :
    OptR β a (lo.map ρ) ∧ OptR β b (hi.map ρ) ∧ OptR β c (mx.map ρ) := by
  cases lo <;> cases hi <;> cases mx <;> simp only [Option.isSome] at h <;> unfold opts at h <;> split at h <;>
    first
      | contradiction
      | (cases h <;> first
           | exact ⟨trivial, trivial, trivial⟩
           | exact ⟨vr1 hv, trivial, trivial⟩
           | exact ⟨trivial, vr1 hv, trivial⟩
           | exact ⟨(vr2 hv).1, (vr2 hv).2, trivial⟩
           | exact ⟨trivial, (vr2 hv).1, (vr2 hv).2⟩
           | exact ⟨(vr3 hv).1, (vr3 hv).2.1, (vr3 hv).2.2⟩)

theorem ex_range (hg : GOK P g) (hs : Rel β s w) {t : TypeId} {a : AV} {r : R} {x : Value} (h : exRange g s t a = some r) (hx : VR β a x) (hf : Free β s r.st) : RV β s w ((Instr.range t x).run P w) r := by
  have fin : ∀ (m : Option Nat) (mb : Option Nat) (c : Nat), r = .val (.ptr (some (s.n, 0))) (Ev.new s (.iter m c [] c)) → IR β m mb → (Instr.range t x).run P w = .ok (.pointer (some ⟨w.heap.size, 0, none⟩)) { w with heap := w.heap.push (.mapIter mb c #[] c) } → RV β s w ((Instr.range t x).run P w) r := by
    intro m mb c hr hm hrun
    subst hr
    obtain ⟨h1, h2⟩ := hs.new (i := ⟨w.heap.size, 0, 0, 0, 0⟩) (o := .iter m c [] c) (w' := { w with heap := w.heap.push (.mapIter mb c #[] c) }) (new_free hf) (Nat.le_refl _)
      ⟨mb, by simp, hm.mono (upd_le (new_free hf)), rfl, rfl⟩ (by simp) (fun k hk => by
        dsimp only
        rw [Array.getElem?_push_lt hk, Array.getElem?_eq_getElem hk]) ⟨rfl, rfl, rfl⟩
    exact ⟨_, _, _, hrun, ⟨_, upd_same .., rfl⟩, h1, h2⟩
  unfold exRange at h
  split at h
  · rename_i k e hu
    injection h with h
    subst h
    simp only [VR] at hx
    subst hx
    exact fin none none 0 rfl rfl (by simp [Instr.range, run_und hg hu])
  · rename_i k e b hu
    split at h
    · rename_i es c hb
      injection h with h
      subst h
      obtain ⟨i, hi, rfl⟩ := hx
      obtain ⟨_, j, hj, ms, hm, _⟩ := hs.obj _ _ hb
      rw [hi] at hj
      injection hj with hj
      subst hj
      have hget : (getObj i.blk).run P w = .ok (.map ms c) w := by simp [getObj, Sem.run, hm]
      exact fin (some b) (some i.blk) c rfl ⟨i, hi, rfl⟩ (by simp [Instr.range, run_und hg hu, hget])
    · cases h
  · cases h

theorem ex_next (hs : Rel β s w) {a : AV} {r : R} {x : Value} {ty : TypeId} (h : exNext s a = some r) (hx : VR β a x) : RV β s w ((Instr.next x false ty).run P w) r := by
  unfold exNext at h
  split at h
  · rename_i b
    obtain ⟨i, hi, rfl⟩ := hx
    split at h
    · rename_i since seen last hb
      injection h with h
      subst h
      obtain ⟨_, j, hj, mb, hm, hmb, hxt⟩ := hs.obj _ _ hb
      rw [hi] at hj
      injection hj with hj
      subst hj
      simp only [hxt.2, Nat.add_zero]
      simp only [IR] at hmb
      subst hmb
      have hget : (getObj i.blk).run P w = .ok (.mapIter none since seen.toArray last) w := by simp [getObj, Sem.run, hm]
      exact RV.pure hs (v := .tuple [.bool false]) (x := .tuple #[.bool false]) ⟨[.bool false], VRs.cons rfl VRs.nil, rfl⟩ (by simp [Instr.next, hget])
    · rename_i m since seen last hb
      split at h
      · rename_i es c hmap
        obtain ⟨_, j, hj, mb, hm, hmb, hxt⟩ := hs.obj _ _ hb
        rw [hi] at hj
        injection hj with hj
        subst hj
        simp only [hxt.2, Nat.add_zero]
        obtain ⟨im, him, rfl⟩ := hmb
        obtain ⟨_, jm, hjm, ms, hms, hl, _, he⟩ := hs.obj _ _ hmap
        rw [him] at hjm
        injection hjm with hjm
        subst hjm
        have hget : (getObj i.blk).run P w = .ok (.mapIter (some im.blk) since seen.toArray last) w := by simp [getObj, Sem.run, hm]
        have hgetm : (getObj im.blk).run P w = .ok (.map ms c) w := by simp [getObj, Sem.run, hms]
        have hover : VR β (.tuple [.bool false]) (.tuple #[.bool false]) := ⟨[.bool false], VRs.cons rfl VRs.nil, rfl⟩
        split at h
        · injection h with h
          subst h
          have hms0 : ms = #[] := Array.eq_empty_of_size_eq_zero (by simpa using hl.symm)
          subst hms0
          exact RV.pure hs (v := .tuple [.bool false]) (x := .tuple #[.bool false]) hover (by simp [Instr.next, hget, hgetm, Question.forced])
        · injection h with h
          subst h
          have hms0 : ms = #[] := Array.eq_empty_of_size_eq_zero (by simpa using hl.symm)
          subst hms0
          exact RV.pure hs (v := .tuple [.bool false]) (x := .tuple #[.bool false]) hover (by simp [Instr.next, hget, hgetm, Question.forced])
        · rename_i e
          split at h
          · rename_i hlt
            injection h with h
            subst h
            have hlt := Nat.le_of_ble_eq_true hlt
            obtain ⟨m0, hm0, hk, hv, hborn⟩ := he 0 e rfl
            have hms1 : ms = #[m0] := by
              have h1 : ms.size = 1 := by simpa using hl.symm
              obtain ⟨y, rfl⟩ := Array.size_eq_one_iff.1 h1
              simpa using hm0
            subst hms1
            have hset : ∀ o, (setObj i.blk o).run P w = .ok () { w with heap := w.heap.setIfInBounds i.blk o } := fun o => by simp [setObj, Sem.run, hm]
            have hlt' : i.blk < w.heap.size := (Array.getElem?_eq_some_iff.1 hm).1
            obtain ⟨h3, h4⟩ := hs.change (o' := .iter (some m) since [e.born] c) (w' := { w with heap := w.heap.setIfInBounds i.blk (.mapIter (some im.blk) since #[m0.born] c) }) hb hi
              ⟨some im.blk, by simp [hlt', hborn], ⟨im, him, rfl⟩, hxt⟩ (by simp) (fun q hq => by simp [Array.getElem?_setIfInBounds_ne (Ne.symm hq)]) ⟨rfl, rfl, rfl⟩
            refine ⟨β, .tuple #[.bool true, m0.key, m0.val], _, ?_, ⟨[.bool true, m0.key, m0.val], VRs.cons rfl (VRs.cons hk (VRs.cons hv VRs.nil)), rfl⟩, h3, h4⟩
            have hb1 : m0.born < since := by omega
            have hb2 : ¬ since ≤ m0.born := by omega
            simp [Instr.next, hget, hgetm, hb1, hb2, Question.forced, hset]
          · cases h
        · rename_i e q
          split at h
          · rename_i hc
            simp only [Bool.and_eq_true] at hc
            injection h with h
            subst h
            have hq := Nat.eq_of_beq_eq_true hc.1
            have hlast := Nat.le_of_ble_eq_true hc.2
            subst hq
            obtain ⟨m0, hm0, hk, hv, hborn⟩ := he 0 e rfl
            have hms1 : ms = #[m0] := by
              have h1 : ms.size = 1 := by simpa using hl.symm
              obtain ⟨y, rfl⟩ := Array.size_eq_one_iff.1 h1
              simpa using hm0
            subst hms1
            have hb2 : ¬ last ≤ m0.born := by omega
            exact RV.pure hs (v := .tuple [.bool false]) (x := .tuple #[.bool false]) hover (by simp [Instr.next, hget, hgetm, hb2, Question.forced, hborn]; omega)
          · cases h
        · cases h
      · cases h
    · cases h
  · cases h

theorem ex_entry (hs : Rel β s w) {a : AV} {r : R} {x : Value} (h : exEntry s a = some r) (hx : VR β a x) : RV β s w ((Instr.entry x).run P w) r := by
  unfold exEntry at h
  split at h
  · rename_i b
    obtain ⟨i, hi, rfl⟩ := hx
    split at h
    · rename_i m since q last hb
      split at h
      · rename_i es c hmap
        obtain ⟨_, j, hj, mb, hm, hmb, hxt⟩ := hs.obj _ _ hb
        rw [hi] at hj
        injection hj with hj
        subst hj
        simp only [hxt.2, Nat.add_zero]
        obtain ⟨im, him, rfl⟩ := hmb
        obtain ⟨_, jm, hjm, ms, hms, hl, _, he⟩ := hs.obj _ _ hmap
        rw [him] at hjm
        injection hjm with hjm
        subst hjm
        have hget : (getObj i.blk).run P w = .ok (.mapIter (some im.blk) since #[q] last) w := by simp [getObj, Sem.run, hm]
        have hgetm : (getObj im.blk).run P w = .ok (.map ms c) w := by simp [getObj, Sem.run, hms]
        split at h
        · rename_i e hc
          have hc := Nat.eq_of_beq_eq_true hc
          subst hc
          split at h
          · rename_i hq
            have hq := Nat.eq_of_beq_eq_true hq
            injection h with h
            subst h
            obtain ⟨m0, hm0, hk, hv, hborn⟩ := he 0 e rfl
            have hms1 : ms = #[m0] := by
              have h1 : ms.size = 1 := by simpa using hl.symm
              obtain ⟨y, rfl⟩ := Array.size_eq_one_iff.1 h1
              simpa using hm0
            subst hms1
            have hbq : m0.born = q := by omega
            exact RV.pure hs (v := .tuple [e.key, e.val]) (x := .tuple #[m0.key, m0.val]) ⟨[m0.key, m0.val], VRs.cons hk (VRs.cons hv VRs.nil), rfl⟩ (by simp [Instr.entry, hget, hgetm, hbq])
          · cases h
        · cases h
      · cases h
    · cases h
  · cases h

theorem exec_sound (hg : GOK P g) (hs : Rel β s w) {o : Oper} {vs : List AV} {r : R} {ρ : Operand → Value} (h : exec g s o.op vs = some r) (hv : VRs β vs (o.op.operands.toList.map ρ)) (hf : Free β s r.st) :
    Res P β s w ((Go.execOp ρ o).run P w) r := by
  obtain ⟨dst, op, type, pos, after, guard⟩ := o
  cases op <;> simp only [exec] at h
  case move x =>
    split at h
    · injection h with h
      subst h
      exact Res.pure hs (vr1 hv) rfl
    · cases h
  case assign x =>
    split at h
    · injection h with h
      subst h
      exact Res.pure hs (vr1 hv) rfl
    · cases h
  case pick c a b =>
    split at h
    · rename_i t a' b'
      injection h with h
      subst h
      obtain ⟨h1, h2, h3⟩ := vr3 hv
      simp only [VR] at h1
      have : (Go.execOp ρ ⟨dst, .pick c a b, type, pos, after, guard⟩).run P w = .ok (.value (if t = true then ρ a else ρ b)) w := by simp [Go.execOp, h1, asBool]
      cases t
      · exact Res.pure hs h3 this
      · exact Res.pure hs h2 this
    · cases h
  case alloc t =>
    split at h
    · rename_i z hz
      injection h with h
      subst h
      exact RV.res (ex_alloc hg hs hz (new_free hf))
    · cases h
  case box t x =>
    split at h
    · injection h with h
      subst h
      exact RV.res (ex_box hs (vr1 hv) (new_free hf))
    · cases h
  case build t ps => exact RV.res (ex_build hg hs h (by simpa [Op.operands] using hv))
  case buildSlice t n ps => exact RV.res (ex_buildSlice hg hs h (by simpa [Op.operands] using hv) hf)
  case load t a =>
    split at h
    · unfold valO at h
      split at h
      · rename_i v hl
        injection h with h
        subst h
        exact RV.res (ex_load hg hs hl (vr1 hv))
      · cases h
    · cases h
  case store t a x =>
    split at h
    · exact ex_store hg hs h (vr2 hv).1 (vr2 hv).2
    · cases h
  case nilCheck x =>
    split at h
    · rename_i v
      have hx := vr1 hv
      split at h
      · cases h
      · cases h
      · cases h
      · cases h
      · rename_i n1 n2 n3 n4
        injection h with h
        subst h
        refine Res.pure hs hx ?_
        simp only [Go.execOp]
        generalize ρ x = y at hx
        cases v with
        | ptr a =>
          rcases a with _ | ⟨b, o⟩
          · exact absurd rfl n1
          · obtain ⟨i, hi, rfl⟩ := hx; rfl
        | slice a l c => rcases a with _ | ⟨b, o⟩ <;> simp only [VR] at hx <;> first | (subst hx; rfl) | (obtain ⟨i, hi, rfl⟩ := hx; rfl)
        | map a => rcases a with _ | b <;> simp only [VR] at hx <;> first | (subst hx; rfl) | (obtain ⟨i, hi, rfl⟩ := hx; rfl)
        | func fn a c =>
          obtain ⟨a', c', _, _, rfl⟩ := hx
          cases fn <;> first | rfl | exact absurd rfl (n4 _ _ _)
        | iface t v => obtain ⟨v', _, rfl⟩ := hx; rfl
        | agg c => obtain ⟨c', _, rfl⟩ := hx; rfl
        | tuple c => obtain ⟨c', _, rfl⟩ := hx; rfl
        | bool b => simp only [VR] at hx; subst hx; rfl
        | int k n => simp only [VR] at hx; subst hx; rfl
        | str l => simp only [VR] at hx; subst hx; rfl
        | nilFunc => exact absurd rfl n3
        | nilIface => exact absurd rfl n2
        | yield b => obtain ⟨i, hi, rfl⟩ := hx; rfl
        | clip a l => obtain ⟨i, hi, rfl⟩ := hx; rfl
        | rest b => obtain ⟨i, hi, o, c, rfl, _⟩ := hx; rfl
    · cases h
  case binOp op t x y yt =>
    split at h
    · split at h
      · rename_i v hl
        split at hl
        case h_2 => cases hl
        injection h with h
        subst h
        exact RV.res (ex_ptrApart hg hs hl (vr2 hv).1 (vr2 hv).2)
      unfold valO at h
      split at h
      · rename_i v hl
        injection h with h
        subst h
        exact RV.res (ex_binOp hg hs hl (vr2 hv).1 (vr2 hv).2)
      · cases h
    · cases h
  case unOp op t x =>
    split at h
    · injection h with h
      subst h
      have hx := (vr1 hv).int_iff
      exact Res.pure hs (by exact rfl) (by simp [Go.execOp, hx, Op.unary, Op.intArith])
    · rename_i b
      injection h with h
      subst h
      have hx := vr1 hv
      simp only [VR] at hx
      exact Res.pure hs (by exact rfl) (by simp [Go.execOp, hx, Op.unary])
    · cases h
  case convert a b x =>
    split at h
    · split at h
      · rename_i v t hl
        injection h with h
        subst h
        exact RV.res (ex_convS hg hs hl (vr1 hv) hf)
      · cases h
    · cases h
  case makeInterface t x =>
    split at h
    · split at h
      · cases h
      · rename_i d hnd hu
        injection h with h
        subst h
        refine Res.pure hs (by exact ⟨_, vr1 hv, rfl⟩) ?_
        simp only [Go.execOp, Sem.run_bind, Instr.makeInterface, run_und hg hu, Result.andThen_ok]
        cases d <;> first | rfl | exact absurd rfl (hnd _)
      · cases h
    · cases h
  case makeFunc fn first captured =>
    injection h with h
    subst h
    have hx : VRs β vs (first.toList.map ρ ++ captured.toList.map ρ) := by simpa [Op.operands] using hv
    have h1 := hx.take first.size
    have h2 := hx.drop first.size
    have hl : (first.toList.map ρ).length = first.size := by simp
    rw [← hl, List.take_left, hl] at h1
    rw [← hl, List.drop_left, hl] at h2
    refine Res.pure hs (by exact ⟨_, _, h1, h2, rfl⟩) ?_
    simp only [Go.execOp, Instr.makeFunc, Sem.run_bind, Sem.run_pure, Result.andThen_ok]
    congr 3
    · apply Array.ext'; simp
    · apply Array.ext'; simp
  case makeMap t r' =>
    split at h
    · injection h with h
      subst h
      exact RV.res (ex_newMap hs (new_free hf) (by simp [Instr.makeMap]))
    · rename_i x k e k' n hu
      injection h with h
      subst h
      have hx := vr1 (v := .int k' n) (x := ρ x) hv
      simp only [VR] at hx
      exact RV.res (ex_newMap hs (new_free hf) (by simp [Instr.makeMap, run_und hg hu, hx, asInt, asIntOf]))
    · cases h
  case makeSlice t l c =>
    split at h
    · exact RV.res (ex_makeSlice hg hs h (vr2 hv).1 (vr2 hv).2 hf)
    · cases h
  case slice t x lo hi mx =>
    split at h
    · rename_i a rest
      split at h
      · rename_i a1 a2 a3 ho
        have hx : VRs β (a :: rest) (ρ x :: ((lo.toList ++ hi.toList ++ mx.toList).map ρ)) := by
          have e : (#[x] ++ lo.toArray ++ hi.toArray ++ mx.toArray).toList.map ρ = ρ x :: ((lo.toList ++ hi.toList ++ mx.toList).map ρ) := by
            cases lo <;> cases hi <;> cases mx <;> rfl
          rw [← e]
          exact hv
        obtain ⟨y, ys, hy, hys, e⟩ := hx
        injection e with e e'
        subst e; subst e'
        obtain ⟨h1, h2, h3⟩ := opts_rel ho hys
        exact RV.res (ex_slice hg hs h hy h1 h2 h3)
      · cases h
    · cases h
  case fieldAddr t x f =>
    split at h
    · exact RV.res (ex_fieldAddr hg hs h (vr1 hv))
    · cases h
  case field t x f =>
    split at h
    · exact RV.res (ex_field hg hs h (vr1 hv))
    · cases h
  case indexAddr t x i =>
    split at h
    · exact RV.res (ex_indexAddr hg hs h (vr2 hv).1 (vr2 hv).2)
    · cases h
  case index t x i =>
    split at h
    · exact RV.res (ex_index hg hs h (vr2 hv).1 (vr2 hv).2)
    · cases h
  case lookup t x i ok =>
    split at h
    · exact RV.res (ex_lookup hg hs h (vr2 hv).1 (vr2 hv).2)
    · cases h
  case mapUpdate t m k v =>
    split at h
    · exact ex_mapUpdate hg hs h (vr3 hv).1 (vr3 hv).2.1 (vr3 hv).2.2
    · cases h
  case insert t m k v =>
    split at h
    · exact ex_mapUpdate hg hs h (vr3 hv).1 (vr3 hv).2.1 (vr3 hv).2.2
    · cases h
  case typeAssert x xt t ok =>
    split at h
    · exact RV.res (ex_assert hg hs h (vr1 hv))
    · cases h
  case extract x i =>
    split at h
    · rename_i l
      unfold valO at h
      split at h
      · rename_i v hl
        injection h with h
        subst h
        obtain ⟨c', hc, e⟩ := vr1 hv
        obtain ⟨y, hy, hvy⟩ := hc.get i v hl
        exact Res.pure hs hvy (by simp [Go.execOp, e, Instr.extract, hy])
      · cases h
    · cases h
  case call c => exact ex_call hg hs h hv hf
  case range t x =>
    split at h
    · exact RV.res (ex_range hg hs h (vr1 hv) hf)
    · cases h
  case next x st =>
    split at h
    · exact RV.res (ex_next hs h (vr1 hv))
    · cases h
  case entry x =>
    split at h
    · exact RV.res (ex_entry hs h (vr1 hv))
    · cases h
  case mapEntry t m k =>
    split at h
    · exact RV.res (ex_mapEntry hg hs h (vr2 hv).1 (vr2 hv).2)
    · cases h
  case entryStore t m st v =>
    split at h
    · exact ex_entryStore hs h (vr3 hv).1 (vr3 hv).2.1 (vr3 hv).2.2
    · cases h
  all_goals (cases h)
end
end Go.Proofs.YtgfbjbdfckgdjaaGreatDoor.Ev

namespace Go.Proofs.YtgfbjbdfckgdjaaGreatDoor.Ev
open Go.RowKit

/-- What is to be evaluated: a function's call; a round of a loop over a function. -/
inductive Job where
  | fn (f : FuncId) (args : List AV)
  | rnd (b : Nat) (args : List AV)

/-- What the evaluator does for calls. -/
abbrev CF := Job → S → Option (AV × S)

/-- One operation, calls and all. -/
def stepE (g : G) (cf : CF) (s : S) (o : Op) (vs : List AV) : Option (AV × S) :=
  match exec g s o vs with
  | some (.val v t) => some (v, t)
  | some (.skip t) => some (undef, t)
  | some (.enter f args t) => cf (.fn f args) t
  | some (.round b args t) => cf (.rnd b args) t
  | none => none

/-- The deferred call that a 'defer' makes. -/
def deferOf : Op → List AV → Option AD
  | .defer c, vs => match c.callee with
    | .value _ => match vs with
      | .func (.func f) first captured :: args => some (.fn f (first ++ args) captured)
      | _ => none
    | _ => none
  | _, _ => none

/-- A region's operations in the text's order ('rd': in a round of that loop). -/
def ops (g : G) (cf : CF) (rd : Option Nat) (nt : Nat) (all : Array Oper) : List Oper → A → Option A
  | [], a => some a
  | o :: rest, a => match dstOk nt o.dst with
    | false => none
    | true => match wants all a.r o with
      | false => ops g cf rd nt all rest { r := put a.r o.dst undef, s := a.s, d := a.d }
      | true => match vals g a.r o.op.operands.toList with
        | none => none
        | some vs => match deferOf o.op vs with
          | some ad => match rd with
            | none => ops g cf rd nt all rest { r := put a.r o.dst undef, s := a.s, d := ad :: a.d }
            | some _ => none
          | none => match stepE g cf a.s o.op vs with
            | some (v, t) => ops g cf rd nt all rest { r := put a.r o.dst v, s := t, d := a.d }
            | none => none

/-- A walk within no fence, in a round of a loop or in none. -/
def Wd (ro : Option Nat) : Fence := { Fence.wide with round := ro }

/-- What a call or a round ends with. -/
def EndR (β : Ren) (s : S) (w : World) (v : AV) (t : S) (e : Ending) (w' : World) : Prop := ∃ γ x, e = .returned x ∧ VR γ v x ∧ Rel γ t w' ∧ Step β s w γ t w'

/-- The evaluator's calls are right. -/
def CS (P : Program) (g : G) (cf : CF) : Prop :=
  ∀ j s v t, cf j s = some (v, t) → s.n ≤ t.n ∧ ∀ β w, Rel β s w → GloOK g β → Free β s t → match j with
    | .fn fn args => ∀ args', VRs β args args' → Calls P fn args'.toArray w (EndR β s w v t)
    | .rnd b args => ∀ args' i, VRs β args args' → β b = some i → ∃ l f tmps assign body, (Instr.yield i.blk args'.toArray).run P w = .ok (.round l f tmps assign body) w ∧ RoundIn Fence.wide 0 P l f tmps assign body w (EndR β s w v t)

theorem storeN_n {s t : S} {a : Nat × Nat} {vs : List AV} (h : storeN s a vs = some t) : t.n = s.n := by
  unfold storeN at h
  split at h
  · split at h
    · injection h with h; subst h; rfl
    · cases h
  · split at h
    · injection h with h; subst h; rfl
    · cases h
  · cases h

theorem regrow_n {s : S} {b o : Nat} {c : List AV} {e : TypeId} {z n : Nat} {r : R} (h : regrow s b o c e z n = some r) : s.n ≤ r.st.n := by
  unfold regrow at h
  repeat' (split at h)
  all_goals first
    | (cases h; done)
    | (injection h with h; subst h; simp only [R.st, Ev.new]; omega)

theorem regrowR_n {s : S} {b : Nat} {c : List AV} {e : TypeId} {z n : Nat} {r : R} (h : regrowR s b c e z n = some r) : s.n ≤ r.st.n := by
  unfold regrowR at h
  repeat' (split at h)
  all_goals first
    | (cases h; done)
    | (injection h with h; subst h; simp only [R.st, Ev.new]; omega)

theorem valO_n {s : S} {o : Option AV} {r : R} (h : valO s o = some r) : s.n ≤ r.st.n := by
  unfold valO at h
  split at h
  · injection h with h; subst h; exact Nat.le_refl _
  · cases h

theorem builtin_n {g : G} {s : S} {b : Builtin} {ts : List TypeId} {vs : List AV} {r : R} (h : builtin g s b ts vs = some r) : s.n ≤ r.st.n := by
  have none_ : ∀ {x : Option R}, x = none → x = some r → s.n ≤ r.st.n := fun h1 h2 => by rw [h1] at h2; cases h2
  cases b <;> simp only [builtin] at h
  case append =>
    split at h
    · split at h
      · rename_i r' hmk
        injection h with h
        subst h
        unfold appendMake at hmk
        repeat' (split at hmk)
        all_goals first
          | exact none_ rfl hmk
          | (injection hmk with hmk; subst hmk; simp only [R.st, Ev.new]; omega)
      rename_i hmk
      clear hmk
      unfold append at h
      repeat' (split at h)
      all_goals first
        | exact none_ rfl h
        | exact regrow_n h
        | exact regrowR_n h
        | (injection h with h; subst h; simp only [R.st, Ev.new]; first | omega | (rename_i hst; have := storeN_n hst; omega))
    · exact none_ rfl h
  all_goals
    repeat' (split at h)
    all_goals first
      | exact none_ rfl h
      | (injection h with h; subst h; simp only [R.st, Ev.new]; first | omega | (rename_i hst; have := storeN_n hst; omega))

theorem extern_n {g : G} {s : S} {fn : Func} {vs : List AV} {r : R} (h : extern g s fn vs = some r) : s.n ≤ r.st.n := by
  have none_ : ∀ {x : Option R}, x = none → x = some r → s.n ≤ r.st.n := fun h1 h2 => by rw [h1] at h2; cases h2
  unfold extern at h
  repeat' (split at h)
  all_goals first
    | exact none_ rfl h
    | (injection h with h; subst h; simp only [R.st, Ev.new]; omega)

theorem callFn_n {g : G} {s : S} {f : FuncId} {vs : List AV} {r : R} (h : callFn g s f vs = some r) : s.n ≤ r.st.n := by
  have none_ : ∀ {x : Option R}, x = none → x = some r → s.n ≤ r.st.n := fun h1 h2 => by rw [h1] at h2; cases h2
  unfold callFn at h
  repeat' (split at h)
  all_goals first
    | exact none_ rfl h
    | exact extern_n h
    | (injection h with h; subst h; exact Nat.le_refl _)

theorem convS_n {g : G} {s t : S} {a b : TypeId} {x v : AV} (h : convS g s a b x = some (v, t)) : s.n ≤ t.n := by
  have none_ : ∀ {x : Option (AV × S)}, x = none → x = some (v, t) → s.n ≤ t.n := fun h1 h2 => by rw [h1] at h2; cases h2
  unfold convS at h
  repeat' (split at h)
  all_goals first
    | exact none_ rfl h
    | (injection h with h; injection h with h1 h2; subst h2; first | exact Nat.le_refl _ | exact Nat.le_succ _)

theorem range_n {g : G} {s : S} {t : TypeId} {x : AV} {r : R} (h : exRange g s t x = some r) : s.n ≤ r.st.n := by
  have none_ : ∀ {x : Option R}, x = none → x = some r → s.n ≤ r.st.n := fun h1 h2 => by rw [h1] at h2; cases h2
  unfold exRange at h
  repeat' (split at h)
  all_goals first
    | exact none_ rfl h
    | (injection h with h; subst h; exact Nat.le_succ _)

theorem next_n {s : S} {x : AV} {r : R} (h : exNext s x = some r) : s.n ≤ r.st.n := by
  have none_ : ∀ {x : Option R}, x = none → x = some r → s.n ≤ r.st.n := fun h1 h2 => by rw [h1] at h2; cases h2
  unfold exNext at h
  repeat' (split at h)
  all_goals first
    | exact none_ rfl h
    | (injection h with h; subst h; exact Nat.le_refl _)

theorem entry_n {s : S} {x : AV} {r : R} (h : exEntry s x = some r) : s.n ≤ r.st.n := by
  have none_ : ∀ {x : Option R}, x = none → x = some r → s.n ≤ r.st.n := fun h1 h2 => by rw [h1] at h2; cases h2
  unfold exEntry at h
  repeat' (split at h)
  all_goals first
    | exact none_ rfl h
    | (injection h with h; subst h; exact Nat.le_refl _)

theorem sliceOp_n {g : G} {s : S} {t : TypeId} {x : AV} {a b c : Option AV} {r : R} (h : sliceOp g s t x a b c = some r) : s.n ≤ r.st.n := by
  have none_ : ∀ {x : Option R}, x = none → x = some r → s.n ≤ r.st.n := fun h1 h2 => by rw [h1] at h2; cases h2
  unfold sliceOp at h
  repeat' (split at h)
  all_goals first
    | exact none_ rfl h
    | (injection h with h; subst h; exact Nat.le_refl _)

theorem lookup_val {g : G} {s : S} {t : TypeId} {x k : AV} {ok : Bool} {r : R} (h : exLookup g s t x k ok = some r) : ∃ v, r = .val v s := by
  have one : ∀ {x k : AV}, exLookup0 g s t x k ok = some r → ∃ v, r = .val v s := by
    intro x k h
    unfold exLookup0 at h
    repeat' (split at h)
    all_goals first
      | (injection h with h; exact ⟨_, h.symm⟩)
      | cases h
  unfold exLookup at h
  split at h
  · split at h
    · unfold lookupLit at h
      repeat' (split at h)
      all_goals first
        | (injection h with h; exact ⟨_, h.symm⟩)
        | cases h
    · exact one h
  · exact one h

theorem exec_n {g : G} {s : S} {o : Op} {vs : List AV} {r : R} (h : exec g s o vs = some r) : s.n ≤ r.st.n := by
  have none_ : ∀ {x : Option R}, x = none → x = some r → s.n ≤ r.st.n := fun h1 h2 => by rw [h1] at h2; cases h2
  cases o <;> simp only [exec] at h
  case convert a b x =>
    split at h
    · split at h
      · rename_i hc
        injection h with h
        subst h
        exact convS_n hc
      · cases h
    · cases h
  case range t x =>
    split at h
    · exact range_n h
    · cases h
  case next x st =>
    split at h
    · exact next_n h
    · cases h
  case entry x =>
    split at h
    · exact entry_n h
    · cases h
  case lookup t x k ok =>
    split at h
    · obtain ⟨v, rfl⟩ := lookup_val h
      exact Nat.le_refl _
    · cases h
  case call c =>
    unfold exCall at h
    repeat' (split at h)
    all_goals first
      | exact none_ rfl h
      | exact builtin_n h
      | exact callFn_n h
      | (injection h with h; subst h; exact Nat.le_refl _)
  all_goals first
    | exact none_ rfl h
    | (injection h with h; subst h; simp only [R.st, Ev.new]; omega)
    | (try simp only [exBuild, exBuildSlice, exStore, exFieldAddr, exField, exIndexAddr, exIndex, exLookup, exMapUpdate, exMapEntry, exEntryStore, exAssert, exMakeSlice] at h
       repeat' (split at h)
       all_goals first
         | exact none_ rfl h
         | exact valO_n h
         | exact sliceOp_n h
         | (injection h with h; subst h; simp only [R.st, Ev.new]; first | omega | (rename_i hst; have := storeN_n hst; omega)))

theorem stepE_n {P : Program} {g : G} {cf : CF} (hcf : CS P g cf) {s t : S} {o : Op} {vs : List AV} {v : AV} (h : stepE g cf s o vs = some (v, t)) : s.n ≤ t.n := by
  unfold stepE at h
  split at h
  · rename_i v' t' he
    injection h with h
    injection h with h1 h2
    subst h2
    exact exec_n he
  · rename_i t' he
    injection h with h
    injection h with h1 h2
    subst h2
    exact exec_n he
  · rename_i f args t' he
    have h1 : s.n ≤ t'.n := exec_n he
    exact Nat.le_trans h1 (hcf _ _ _ _ h).1
  · rename_i f args t' he
    have h1 : s.n ≤ t'.n := exec_n he
    exact Nat.le_trans h1 (hcf _ _ _ _ h).1
  · cases h

section
variable {P : Program} {g : G} {β : Ren} {s : S} {w : World}

theorem VR.undef : VR β undef Go.undef := ⟨[], VRs.nil, rfl⟩

theorem val_rel (hgl : GloOK g β) {r : Regs} {a : Act} (hr : RR β r a.tmps) {x : Operand} {v : AV} (h : val g r x = some v) : VR β v (a.eval x) := by
  cases x with
  | tmp t =>
    simp only [val] at h
    split at h
    · rename_i u hu
      injection h with h
      subst h
      exact (hr t).1 _ hu
    · rename_i hu
      injection h with h
      subst h
      show VR β undef (a.tmps.getD t Go.undef)
      rw [(hr t).2 hu]
      exact VR.undef
  | const v' => exact ofV_rel β v' v h
  | global x =>
    simp only [val] at h
    split at h
    · rename_i b hb
      injection h with h
      subst h
      obtain ⟨i, hi, e⟩ := hgl x b hb
      exact ⟨i, hi, by rw [e.1, e.2]; rfl⟩
    · cases h
  | func f =>
    simp only [val, Option.some.injEq] at h
    subst h
    exact ⟨[], [], VRs.nil, VRs.nil, rfl⟩

theorem vals_rel (hgl : GloOK g β) {r : Regs} {a : Act} (hr : RR β r a.tmps) : ∀ {l : List Operand} {vs : List AV}, vals g r l = some vs → VRs β vs (l.map a.eval)
  | [], vs, h => by simp only [vals, Option.some.injEq] at h; subst h; exact VRs.nil
  | x :: l, vs, h => by
    simp only [vals] at h
    split at h
    · rename_i v vs' h1 h2
      injection h with h
      subst h
      exact VRs.cons (val_rel hgl hr h1) (vals_rel hgl hr h2)
    · cases h

theorem RR.put {r : Regs} {tmps : Array Value} (hr : RR β r tmps) {v : AV} {x : Value} (hv : VR β v x) {d : Tmp} (hd : d < tmps.size) : RR β (T.set r d (some v)) (tmps.setIfInBounds d x) := by
  intro t
  rw [T.get_set]
  split
  · rename_i e
    subst e
    refine ⟨fun u hu => ?_, fun h => by cases h⟩
    injection hu with hu
    subst hu
    simpa [hd] using hv
  · rename_i e
    have e' : d ≠ t := fun h => e h.symm
    simpa [Array.getElem?_setIfInBounds_ne e'] using hr t

theorem RR.put' {r : Regs} {a : Act} (hr : RR β r a.tmps) {v : AV} {x : Value} (hv : VR β v x) {d : Option Tmp} {nt : Nat} (hd : dstOk nt d = true) (hn : nt ≤ a.tmps.size) : RR β (Ev.put r d v) (a.put d x).tmps := by
  cases d with
  | none => exact hr
  | some d =>
    have : d < nt := Nat.le_of_ble_eq_true hd
    exact RR.put hr hv (Nat.lt_of_lt_of_le this hn)

theorem put_size (a : Act) (d : Option Tmp) (x : Value) : (a.put d x).tmps.size = a.tmps.size := by cases d <;> simp [Act.put]
theorem put_defers (a : Act) (d : Option Tmp) (x : Value) : (a.put d x).defers = a.defers := by cases d <;> rfl

theorem VR.bool_iff {v : AV} {x : Value} {b : Bool} (h : VR β v x) : v = .bool b ↔ x = .bool b := by
  cases v with
  | ptr a => rcases a with _ | ⟨c, o⟩ <;> simp only [VR] at h <;> first | (subst h; simp) | (obtain ⟨i, hi, rfl⟩ := h; simp)
  | slice a l c => rcases a with _ | ⟨c, o⟩ <;> simp only [VR] at h <;> first | (subst h; simp) | (obtain ⟨i, hi, rfl⟩ := h; simp)
  | map a => rcases a with _ | c <;> simp only [VR] at h <;> first | (subst h; simp) | (obtain ⟨i, hi, rfl⟩ := h; simp)
  | func fn a c => obtain ⟨a', c', _, _, rfl⟩ := h; simp
  | iface t v => obtain ⟨v', _, rfl⟩ := h; simp
  | agg c => obtain ⟨c', _, rfl⟩ := h; simp
  | tuple c => obtain ⟨c', _, rfl⟩ := h; simp
  | bool b => simp only [VR] at h; subst h; simp
  | int k n => simp only [VR] at h; subst h; simp
  | str l => simp only [VR] at h; subst h; simp
  | nilFunc => simp only [VR] at h; subst h; simp
  | nilIface => simp only [VR] at h; subst h; simp
  | yield b => obtain ⟨i, hi, rfl⟩ := h; simp
  | clip a l => obtain ⟨i, hi, rfl⟩ := h; simp
  | rest b => obtain ⟨i, hi, o, c, rfl, _⟩ := h; simp

/-- What a guard reads. -/
theorem yielded_at {tmps : Array Value} {all : Array Oper} {j : Nat} {f : Option AV} {o : Oper} {d : Tmp} (ho : all[j]? = some o) (hd : o.dst = some d) (h1 : ∀ v, f = some v → VR β v (tmps.getD d Go.undef))
    (h2 : f = none → tmps.getD d Go.undef = Go.undef) : Go.yielded all tmps j = asB f := by
  have key : ∀ x : Value, (∀ v, f = some v → VR β v x) → (f = none → x = Go.undef) → (match some x with | some (.bool b) => some b | _ => none : Option Bool) = asB f := by
    intro x h1 h2
    cases f with
    | none => rw [h2 rfl]; rfl
    | some v =>
      have hv := h1 v rfl
      cases v with
      | bool b => simp only [VR] at hv; subst hv; rfl
      | ptr a => rcases a with _ | ⟨c, o⟩ <;> simp only [VR] at hv <;> first | (subst hv; rfl) | (obtain ⟨i, hi, rfl⟩ := hv; rfl)
      | slice a l c => rcases a with _ | ⟨c, o⟩ <;> simp only [VR] at hv <;> first | (subst hv; rfl) | (obtain ⟨i, hi, rfl⟩ := hv; rfl)
      | map a => rcases a with _ | c <;> simp only [VR] at hv <;> first | (subst hv; rfl) | (obtain ⟨i, hi, rfl⟩ := hv; rfl)
      | func fn a c => obtain ⟨a', c', _, _, rfl⟩ := hv; rfl
      | iface t v => obtain ⟨v', _, rfl⟩ := hv; rfl
      | agg c => obtain ⟨c', _, rfl⟩ := hv; rfl
      | tuple c => obtain ⟨c', _, rfl⟩ := hv; rfl
      | int k n => simp only [VR] at hv; subst hv; rfl
      | str l => simp only [VR] at hv; subst hv; rfl
      | nilFunc => simp only [VR] at hv; subst hv; rfl
      | nilIface => simp only [VR] at hv; subst hv; rfl
      | yield b => obtain ⟨i, hi, rfl⟩ := hv; rfl
      | clip a l => obtain ⟨i, hi, rfl⟩ := hv; rfl
      | rest b => obtain ⟨i, hi, o, c, rfl, _⟩ := hv; rfl
  unfold Go.yielded
  simp only [ho, Option.bind_some, hd]
  rcases Nat.lt_or_ge d tmps.size with hlt | hge
  · have hget : tmps[d]? = some (tmps.getD d Go.undef) := by simp [hlt]
    rw [hget]
    exact key _ h1 h2
  · have hget : tmps[d]? = none := Array.getElem?_eq_none hge
    have hu : tmps.getD d Go.undef = Go.undef := by simp [hget]
    rw [hget]
    have := key Go.undef (fun v hv => hu ▸ h1 v hv) (fun _ => rfl)
    rw [← this]
    rfl

theorem wants_rel {r : Regs} {tmps : Array Value} (hr : RR β r tmps) (all : Array Oper) (o : Oper) : Region.wanted o (Go.yielded all tmps) = wants all r o := by
  unfold Region.wanted wants
  cases hgd : o.guard with
  | none => rfl
  | some p =>
    obtain ⟨j, want⟩ := p
    have : Go.yielded all tmps j = yields all r j := by
      unfold yields
      cases ho : all[j]? with
      | none => simp [Go.yielded, ho]
      | some oj =>
        cases hd : oj.dst with
        | none => simp [Go.yielded, ho, hd]
        | some d => rw [yielded_at ho hd (hr d).1 (hr d).2]; simp only [hd]
    dsimp only
    rw [this]
    cases yields all r j with
    | none => rfl
    | some b => cases b <;> cases want <;> rfl

theorem calls_wd {ro : Option Nat} {n : Nat} {f : FuncId} {args : Array Value} {R : Ending → World → Prop} (h : Calls P f args w R) : CallsIn (Wd ro) n P f args w R :=
  callsIn_wide.2 h

theorem round_wd {ro : Option Nat} {n l : Nat} {f : FuncId} {tmps : Array Value} {assign body : Code} {R : Ending → World → Prop} (h : RoundIn Fence.wide 0 P l f tmps assign body w R) : RoundIn (Wd ro) n P l f tmps assign body w R :=
  ⟨h.1, fun c cs _ => h.2 c cs (room_wide _)⟩

theorem not_defer {o : Op} {vs : List AV} {r : R} (h : exec g s o vs = some r) : ∀ c, o ≠ .defer c := by
  rintro c rfl
  simp [exec] at h

/-- A step of the evaluator's is the operation's. -/
theorem stepE_sound {cf : CF} (hg : GOK P g) (hcf : CS P g cf) {ro : Option Nat} {n : Nat} {o : Oper} {vs : List AV} {t : S} {v : AV} {a : Act} (h : stepE g cf s o.op vs = some (v, t)) (hv : VRs β vs (o.op.operands.toList.map a.eval)) (hs : Rel β s w)
    (hgl : GloOK g β) (hf : Free β s t) {K : Act → World → Prop} {Q : Exit → Act → World → Prop} (hK : ∀ γ x w', VR γ v x → Rel γ t w' → Step β s w γ t w' → K (a.put o.dst x) w') : o.wpIn (Wd ro) n P a w K Q := by
  refine ⟨fun _ _ => trivial, ?_⟩
  unfold stepE at h
  split at h
  · rename_i v' t' he
    rw [Oper.semAt_eq _ _ _ (not_defer he)]
    injection h with h
    injection h with h1 h2
    subst h1; subst h2
    obtain ⟨γ, x, w', hr, hx, hrel, hst⟩ := exec_sound hg hs he hv hf
    rw [hr]
    exact hK γ x w' hx hrel hst
  · rename_i t' he
    rw [Oper.semAt_eq _ _ _ (not_defer he)]
    injection h with h
    injection h with h1 h2
    subst h1; subst h2
    obtain ⟨γ, w', hr, hrel, hst⟩ := exec_sound hg hs he hv hf
    rw [hr]
    exact hK γ Go.undef w' VR.undef hrel hst
  · rename_i f args t' he
    rw [Oper.semAt_eq _ _ _ (not_defer he)]
    obtain ⟨hn, hc⟩ := hcf _ _ _ _ h
    obtain ⟨args', hr, hva, rfl⟩ := exec_sound hg hs he hv (fun b h1 h2 => hf b h1 (Nat.lt_of_lt_of_le h2 hn))
    rw [hr]
    refine ⟨fun h => by simp [Wd, Fence.wide] at h, calls_wd ((hc β w hs hgl hf args' hva).mono ?_)⟩
    rintro e w' ⟨γ, x, rfl, hx, hrel, hst⟩
    exact hK γ x w' hx hrel hst
  · rename_i b args t' he
    rw [Oper.semAt_eq _ _ _ (not_defer he)]
    obtain ⟨hn, hc⟩ := hcf _ _ _ _ h
    obtain ⟨args', i, hi, hr, hva, rfl⟩ := exec_sound hg hs he hv (fun b h1 h2 => hf b h1 (Nat.lt_of_lt_of_le h2 hn))
    obtain ⟨l, f, tmps, assign, body, hy, hrd⟩ := hc β w hs hgl hf args' i hva hi
    rw [hr, hy]
    refine ⟨fun h => by simp [Wd, Fence.wide] at h, round_wd (hrd.mono ?_)⟩
    rintro e w' ⟨γ, x, rfl, hx, hrel, hst⟩
    exact hK γ x w' hx hrel hst
  · cases h

theorem deferOf_sound {o : Oper} {vs : List AV} {ad : AD} {a : Act} (h : deferOf o.op vs = some ad) (hv : VRs β vs (o.op.operands.toList.map a.eval)) :
    ∃ d, DR1 β ad d ∧ (Go.execOp a.eval o).run P w = .ok (.defer d) w := by
  obtain ⟨dst, op, type, pos, after, guard⟩ := o
  cases op <;> simp only [deferOf] at h <;> try cases h
  rename_i c
  obtain ⟨callee, args, ats⟩ := c
  cases callee with
  | builtin b => cases h
  | invoke x m => cases h
  | value f =>
    dsimp only at h
    have hargs : args.map a.eval = (args.toList.map a.eval).toArray := by apply Array.ext'; simp
    have hx : VRs β vs (a.eval f :: args.toList.map a.eval) := by simpa [Op.operands, Call.operands] using hv
    split at h
    · rename_i fid first captured as
      injection h with h
      subst h
      obtain ⟨x, xs, hfx, hxs, e⟩ := hx
      injection e with e e'
      subst e'
      obtain ⟨a', c', ha, hc, e2⟩ := hfx
      rw [e2] at e
      refine ⟨_, ⟨a' ++ args.toList.map a.eval, c', ha.append hxs, hc, rfl⟩, ?_⟩
      simp only [Go.execOp, resolve, e, Deferred.ofValue, Sem.run_bind, Sem.run_pure, Result.andThen_ok, hargs]
      simp
    · cases h

/-- The region's operations, in the text's order. -/
theorem ops_sound {cf : CF} (hg : GOK P g) (hcf : CS P g cf) {rd : Option Nat} {nt n : Nat} {all : Array Oper} : ∀ {rest : List Oper} {k : Nat}, all.toList.drop k = rest → ∀ {a a1 : A}, ops g cf rd nt all rest a = some a1 → a.s.n ≤ a1.s.n ∧ ∀ {ro : Option Nat} {β : Ren} {w : World} {act : Act},
    IR β rd ro → RR β a.r act.tmps → Rel β a.s w → GloOK g β → Free β a.s a1.s → DR β a.d act.defers → nt ≤ act.tmps.size → ∀ {Q : Exit → Act → World → Prop},
    (∀ γ w' act', RR γ a1.r act'.tmps → Rel γ a1.s w' → Step β a.s w γ a1.s w' → DR γ a1.d act'.defers → act'.tmps.size = act.tmps.size → Q .normal act' w') →
    wpOpsIn (Wd ro) n P all Q ((List.range all.size).drop k) act w
  | [], k, hk, a, a1, h => by
    simp only [ops, Option.some.injEq] at h
    subst h
    refine ⟨Nat.le_refl _, fun _ hr hs _ _ hd _ Q hQ => ?_⟩
    have hle : all.size ≤ k := by
      have := List.drop_eq_nil_iff.1 hk
      simpa using this
    rw [List.drop_eq_nil_of_le (by simpa using hle)]
    exact hQ _ _ _ hr hs .refl hd rfl
  | o :: rest, k, hk, a, a1, h => by
    have hlt : k < all.size := by
      rcases Nat.lt_or_ge k all.size with h' | h'
      · exact h'
      · rw [List.drop_eq_nil_of_le (by simpa using h')] at hk; cases hk
    have hcons : (List.range all.size).drop k = k :: (List.range all.size).drop (k + 1) := by
      rw [List.drop_eq_getElem_cons (by simpa using hlt)]
      simp
    have hk' := hk
    rw [List.drop_eq_getElem_cons (by simpa using hlt)] at hk'
    injection hk' with ho hrest
    have hoo : all[k]? = some o := by rw [← ho]; simp [hlt]
    simp only [ops] at h
    split at h
    · cases h
    · rename_i hd
      split at h
      · rename_i hw
        obtain ⟨hn, ih⟩ := ops_sound hg hcf hrest h
        refine ⟨hn, fun {ro β w act} hro hr hs hgl hf hdr hnt Q hQ => ?_⟩
        rw [hcons, wpOpsIn_cons]
        unfold wpOpIn
        simp only [hoo, wants_rel hr, hw, Bool.false_eq_true, if_false]
        refine ⟨fun _ _ => trivial, ih hro (hr.put' VR.undef hd hnt) hs hgl hf (by rw [put_defers]; exact hdr) (by rw [put_size]; exact hnt) fun γ w' act' h1 h2 h3 h4 h5 => hQ γ w' act' h1 h2 h3 h4 (by rw [h5, put_size])⟩
      · rename_i hw
        split at h
        · cases h
        · rename_i vs hvs
          split at h
          · rename_i ad had
            split at h
            · obtain ⟨hn, ih⟩ := ops_sound hg hcf hrest h
              refine ⟨hn, fun {ro β w act} hro hr hs hgl hf hdr hnt Q hQ => ?_⟩
              simp only [IR] at hro
              subst hro
              rw [hcons, wpOpsIn_cons]
              unfold wpOpIn
              simp only [hoo, wants_rel hr, hw, if_true]
              obtain ⟨d, hd1, hrun⟩ := deferOf_sound (P := P) (w := w) had (vals_rel hgl hr hvs)
              refine ⟨fun _ _ => trivial, ?_⟩
              show o.uponIn (Wd none) n P act _ Q ((Go.execOp act.eval o).run P w)
              rw [hrun]
              exact ih rfl (RR.put' (a := { act with defers := d :: act.defers }) hr VR.undef hd hnt) hs hgl hf (by rw [put_defers]; exact ⟨d, _, hd1, hdr, rfl⟩) (by rw [put_size]; exact hnt) fun γ w' act' h1 h2 h3 h4 h5 => hQ γ w' act' h1 h2 h3 h4 (by rw [h5, put_size])
            · cases h
          · split at h
            · rename_i v t hst
              have hn1 := stepE_n hcf hst
              obtain ⟨hn, ih⟩ := ops_sound hg hcf hrest h
              dsimp only at hn
              refine ⟨Nat.le_trans hn1 hn, fun {ro β w act} hro hr hs hgl hf hdr hnt Q hQ => ?_⟩
              rw [hcons, wpOpsIn_cons]
              unfold wpOpIn
              simp only [hoo, wants_rel hr, hw, if_true]
              refine stepE_sound hg hcf hst (vals_rel hgl hr hvs) hs hgl (fun b h1 h2 => hf b h1 (Nat.lt_of_lt_of_le h2 hn)) fun γ x w' hx hrel hstep => ?_
              refine ih (hro.mono hstep.le) ((hr.mono hstep.le).put' hx hd hnt) hrel (hgl.mono hstep.le) (fun b h1 h2 => ?_) (by rw [put_defers]; exact hdr.mono hstep.le) (by rw [put_size]; exact hnt) fun δ w'' act' h1 h2 h3 h4 h5 => hQ δ w'' act' h1 h2 (hstep.trans h3) h4 (by rw [h5, put_size])
              dsimp only at h1
              cases hb : γ b with
              | none => rfl
              | some i =>
                rcases hstep.dom b i hb with h3 | h3
                · rw [hf b (Nat.le_trans hn1 h1) h2] at h3; cases h3
                · omega
            · cases h
end
end Go.Proofs.YtgfbjbdfckgdjaaGreatDoor.Ev
