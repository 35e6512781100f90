/-
  The well, part 71: reading noted; what holds between two acts of the law WellOnce. Conditions: the wells and the noted marks lie in the world as the words say.
-/
import Derived.Test.YtimahogkcmmcnaaGreatDoorK36
import Derived.Test.YtimahogkcmmcnaaGreatDoorK34
set_option linter.unusedSimpArgs false
set_option linter.unusedVariables false

namespace Go.Proofs.YtimahogkcmmcnaaGreatDoor
open Go.RowKit Go.Proofs.YtimahogkcmmcnaaGreatDoor.Cmps

theorem f20_any (hm : Tryz.prog.follows .mixedOrders = true) (w : World) (col : Nat → Nat) (D : Nat → Prop) (s : List Col) (ws : WS) (m : WlM) (p : RS) (r late : Int) (bm : Nat) (hD : ∀ b, D b → Calm w col b) (h : WAt w col s ws m) (hr : RefAt w D s m p) (hg : Good m) (hu : Uniq m) (hb : IntsB w bm m.marks) (hc : col bm = 0) (hl0 : 0 ≤ late) (hl1 : late ≤ 1000) :
    Calls Tryz.prog 20 #[ptr ws.W, refV m p, .int .i64 r, .slice (some ⟨bm, 0, none⟩) m.marks.length m.marks.length, .int .i64 late] w fun e w' => ∃ p', e = .returned (.tuple #[refV (readR m r).1 p', .int .i64 (lateI m r late), .bool ((readR m r).2.2 == 0), .bool true]) ∧ DidTo w col D s ws.W (readR m r).1 p' w' := by
  rcases readR_or m r with hne | ⟨q, k, hq, hk, hlt, mk2, rfl, how, hmk, h1, h2⟩
  · exact f20_err hm w col D s ws m p r late bm hD h hr hg hne hb hc hl0 hl1
  · cases hL : decide ((m.splits[k].evs[m.splits[k].read]).t < m.marks[q])
    · rw [hL] at h2
      exact f20_intime hm w col D s ws m p late bm hD h hr hg hu q k hq hk hlt mk2 hmk h2 hL hb hc hl0 hl1
    · rw [hL] at h2
      exact f20_late hm w col D s ws m p late bm hD h hr hg hu q k hq hk hlt mk2 hmk h2 hL hb hc hl0 hl1

/-- What holds between two acts: both wells, the reference's box, the noted marks. -/
structure OnceSt (w0 wr : World) (gs bm W n : Nat) (s : List Col) (col : Nat → Nat) (ws : WS) (m : WlM) (p : RS) (bx : Array Value) (mk : List Int) : Prop where
  hW : ws.W = W
  wat : WAt wr col s ws m
  ref : RefAt wr (fun x => Calm wr col x ∧ x ≠ gs ∧ x ≠ bm) s m p
  good : Good m
  uniq : Uniq m
  box : wr.heap[gs]? = some (.cells bx 45 (0, 0))
  mute : Mute wr gs
  ints : IntsB wr bm mk
  len : mk.length = n
  num : m.marks.length = n
  below : Below w0.heap.size w0 wr
  c0 : ∀ x, x < w0.heap.size → col x = 0
  cg : col gs = 0
  cm : col bm = 0
  ne : gs ≠ bm
  og : w0.heap.size ≤ gs
  om : w0.heap.size ≤ bm

section once
variable {w0 wr W' : World} {gs bm W n : Nat} {s : List Col} {col : Nat → Nat} {ws : WS} {m : WlM} {p : RS} {bx : Array Value} {mk : List Int}

theorem OnceSt.lt (h : OnceSt w0 wr gs bm W n s col ws m p bx mk) : gs < wr.heap.size ∧ bm < wr.heap.size := ⟨heap_lt h.box, heap_lt h.ints⟩

theorem Mute.keep {w w' : World} {b : Nat} (h : Mute w b) (e : w'.heap[b]? = w.heap[b]?) : Mute w' b := by
  obtain ⟨cs, t, fr, h1, h2⟩ := h
  exact ⟨cs, t, fr, e.trans h1, h2⟩

theorem OnceSt.to (h : OnceSt w0 wr gs bm W n s col ws m p bx mk) (hb : Below wr.heap.size wr W') : OnceSt w0 W' gs bm W n s col ws m p bx mk := by
  obtain ⟨hg, hi⟩ := h.lt
  exact ⟨h.hW, h.wat.below hb, (h.ref.below hb).mono fun x hx => ⟨⟨Nat.lt_of_lt_of_le hx.1.1 hb.size, hx.1.2⟩, hx.2⟩, h.good, h.uniq, (hb.block _ hg).trans h.box, h.mute.keep (hb.block _ hg), (hb.block _ hi).trans h.ints, h.len, h.num, h.below.trans (hb.mono h.below.size), h.c0, h.cg, h.cm, h.ne, h.og, h.om⟩

theorem OnceSt.form (h : OnceSt w0 wr gs bm W n s col ws m p bx mk) : ∃ (sha sa ma ba : Option Addr) (shc sc mc bc : Nat), p = ⟨.slice sha s.length shc, (sa, sc), (ma, mc), .slice ba m.late.length bc⟩ := by
  obtain ⟨sch, ⟨sa, sc⟩, ⟨ma, mc⟩, back⟩ := p
  obtain ⟨sha, shc, rfl⟩ : ∃ a c, sch = .slice a s.length c := by obtain ⟨a, c, e, _⟩ := h.ref.sch; exact ⟨a, c, e⟩
  obtain ⟨ba, bc, rfl⟩ : ∃ a c, back = .slice a m.late.length c := by obtain ⟨a, c, e, _⟩ := h.ref.back; exact ⟨a, c, e⟩
  exact ⟨sha, sa, ma, ba, shc, sc, mc, bc, rfl⟩

/-- A step of both wells. -/
theorem OnceSt.did (h : OnceSt w0 wr gs bm W n s col ws m p bx mk) {m' : WlM} {p' : RS} {w5 : World} (hd : DidTo wr col (fun x => Calm wr col x ∧ x ≠ gs ∧ x ≠ bm) s W m' p' w5) (hl : Later m m') (hu : Uniq m') (hg : Good m') :
    ∃ col' ws', OnceSt w0 w5 gs bm W n s col' ws' m' p' bx mk := by
  obtain ⟨col', ws', e, hwa, hra, hwent⟩ := hd
  obtain ⟨h1, h2⟩ := h.lt
  have hz := h.below.size
  have hbl : ∀ y, y < wr.heap.size → col y = 0 → w5.heap[y]? = wr.heap[y]? := fun y hy h0 => hwent.only.block y hy (fun hn => hn h0)
  refine ⟨col', ws', e, hwa, hra.mono fun x hx => ⟨hx.1, ?_, ?_⟩, hg, hu, (hbl _ h1 h.cg).trans h.box, h.mute.keep (hbl _ h1 h.cg), (hbl _ h2 h.cm).trans h.ints, h.len, hl.len.trans h.num, ?_, fun x hx => (hwent.colE x (by omega)).trans (h.c0 x hx), (hwent.colE _ h1).trans h.cg, (hwent.colE _ h2).trans h.cm, h.ne, h.og, h.om⟩
  · rcases hx.2 with hx | hx
    · exact hx.2.1
    · omega
  · rcases hx.2 with hx | hx
    · exact hx.2.2
    · omega
  · exact h.below.trans (hwent.only.below hz fun x hx => by
      by_cases hq : w0.heap.size ≤ x
      · exact hq
      · exact absurd (h.c0 x (by omega)) hx)

/-- The box is filled. -/
theorem OnceSt.fill (h : OnceSt w0 wr gs bm W n s col ws m p bx mk) {a b c d e f : Value} (hb : wr.heap[gs]? = some (.cells #[a, b, c, d, e, f] 45 (0, 0))) {a1 a2 a3 a4 : Option Addr} {n1 n2 n3 n4 c1 c2 c3 c4 : Nat} {i : Int} {q : Bool} :
    OnceSt w0 (fill45 wr gs (.slice a1 n1 c1) (.int .i64 i) (.slice a2 n2 c2) (.slice a3 n3 c3) (.bool q) (.slice a4 n4 c4)) gs bm W n s col ws m p #[.slice a1 n1 c1, .int .i64 i, .slice a2 n2 c2, .slice a3 n3 c3, .bool q, .slice a4 n4 c4] mk := by
  obtain ⟨h1, h2⟩ := h.lt
  have o : Only (fun y => y = gs) wr (fill45 wr gs (.slice a1 n1 c1) (.int .i64 i) (.slice a2 n2 c2) (.slice a3 n3 c3) (.bool q) (.slice a4 n4 c4)) := (Only.refl (fun y => y = gs) wr).fill (g := gs) (fun _ => rfl) _ _ _ _ _ _
  have hbx := box45_fill (w := wr) (g := gs) hb (.slice a1 n1 c1) (.int .i64 i) (.slice a2 n2 c2) (.slice a3 n3 c3) (.bool q) (.slice a4 n4 c4)
  have hog := h.og
  exact ⟨h.hW, h.wat.turn h.mute h.cg h1 o, (h.ref.keep fun y hy hl => o.block y hl hy.2.1).mono fun y hy => ⟨⟨Nat.lt_of_lt_of_le hy.1.1 o.size, hy.1.2⟩, hy.2⟩, h.good, h.uniq, hbx, mute45v hbx, (o.block _ h2 (fun e => h.ne e.symm)).trans h.ints, h.len, h.num, h.below.trans (o.below h.below.size (fun y hy => by omega)), h.c0, h.cg, h.cm, h.ne, h.og, h.om⟩

/-- The marks are noted anew. -/
theorem OnceSt.noted (h : OnceSt w0 wr gs bm W n s col ws m p bx mk) {mk' : List Int} (hl : mk'.length = n) (hi : IntsB W' bm mk') (o : Only (fun x => x = bm) wr W') : OnceSt w0 W' gs bm W n s col ws m p bx mk' := by
  obtain ⟨h1, h2⟩ := h.lt
  have hom := h.om
  exact ⟨h.hW, h.wat.turn h.ints.mute h.cm h2 o, (h.ref.keep fun y hy hl => o.block y hl hy.2.2).mono fun y hy => ⟨⟨Nat.lt_of_lt_of_le hy.1.1 o.size, hy.1.2⟩, hy.2⟩, h.good, h.uniq, (o.block _ h1 h.ne).trans h.box, h.mute.keep (o.block _ h1 h.ne), hi, hl, h.num, h.below.trans (o.below h.below.size (fun y hy => by omega)), h.c0, h.cg, h.cm, h.ne, h.og, h.om⟩

theorem once_19 (hm : Tryz.prog.follows .mixedOrders = true) (h : OnceSt w0 wr gs bm W n s col ws m p bx mk) (x : ActM) (ev : Value) (he : EvtsAt wr (fun b => b < w0.heap.size) ev x.evs) (hn : x.name.size ≤ 9223372036854775807) (hk0 : 0 ≤ kindI x) (hk : kindI x < 4) :
    Calls Tryz.prog 19 #[ptr W, refV m p, .agg #[.int .u8 x.kind, .int .i64 x.reader, .string x.name, ev]] wr fun e w' => ∃ p' col' ws', e = .returned (.tuple #[refV (actR s m x) p', .bool true]) ∧ OnceSt w0 w' gs bm W n s col' ws' (actR s m x) p' bx mk ∧ Later m (actR s m x) ∧ (actR s m x).late.length = m.late.length := by
  have hz := h.below.size
  have h19 := f19_any hm wr col s ws m p x ev (fun x => Calm wr col x ∧ x ≠ gs ∧ x ≠ bm) (fun y hy => hy.1) h.wat h.ref h.good (he.mono fun y hy => ⟨⟨by omega, h.c0 y hy⟩, by have := h.og; omega, by have := h.om; omega⟩) hn
  rw [h.hW] at h19
  refine h19.mono ?_
  rintro e w' ⟨p', rfl, hd⟩
  have hst := act_step (s := s) (m := m) hk hk0
  obtain ⟨col', ws', ho⟩ := h.did hd hst.later (hst.uniq h.uniq) (actR_good h.good)
  exact ⟨p', col', ws', rfl, ho, hst.later, by rw [hst.late]⟩

theorem once_20 (hm : Tryz.prog.follows .mixedOrders = true) (h : OnceSt w0 wr gs bm W n s col ws m p bx m.marks) (r : Int) :
    Calls Tryz.prog 20 #[ptr W, refV m p, .int .i64 r, .slice (some ⟨bm, 0, none⟩) n n, .int .i64 m.late.length] wr fun e w' => ∃ p' col' ws', e = .returned (.tuple #[refV (readR m r).1 p', .int .i64 (readR m r).1.late.length, .bool ((readR m r).2.2 == 0), .bool true]) ∧ OnceSt w0 w' gs bm W n s col' ws' (readR m r).1 p' bx m.marks ∧ Later m (readR m r).1 := by
  have hb := h.good.row.bound h.good.ok
  have h20 := f20_any hm wr col (fun x => Calm wr col x ∧ x ≠ gs ∧ x ≠ bm) s ws m p r m.late.length bm (fun y hy => hy.1) h.wat h.ref h.good h.uniq h.ints h.cm (by omega) (by omega)
  rw [h.hW, h.num] at h20
  refine h20.mono ?_
  rintro e w' ⟨p', rfl, hd⟩
  have hst := read_step m r m.late.length
  obtain ⟨col', ws', ho⟩ := h.did hd hst.later (hst.uniq h.uniq) (readR_good h.good)
  rw [hst.late rfl]
  exact ⟨p', col', ws', rfl, ho, hst.later⟩

theorem once_21 (hm : Tryz.prog.follows .mixedOrders = true) (h : OnceSt w0 wr gs bm W n s col ws m p bx mk) (hle : ∀ i (h1 : i < mk.length) (h2 : i < m.marks.length), mk[i] ≤ m.marks[i]) :
    Calls Tryz.prog 21 #[ptr W, .slice (some ⟨bm, 0, none⟩) n n] wr fun e w' => e = .returned (.bool true) ∧ OnceSt w0 w' gs bm W n s col ws m p bx m.marks ∧ Only (fun x => x = bm) wr w' := by
  have h21 := f21_any hm wr col s ws m bm mk h.wat h.good.ok h.ints h.cm (h.len.trans h.num.symm) hle
  rw [h.hW, h.len] at h21
  refine h21.mono ?_
  rintro e w' ⟨rfl, hi, ho⟩
  exact ⟨rfl, h.noted h.num hi ho, ho⟩

theorem once_22 (h : OnceSt w0 wr gs bm W n s col ws m p bx mk) (r : Int) :
    Calls Tryz.prog 22 #[ptr W, .int .i64 r] wr fun e w' => e = .returned (.int .i64 (leftI m.splits r)) ∧ OnceSt w0 w' gs bm W n s col ws m p bx mk := by
  have h22 := f22_any wr col s ws m r h.wat h.good.ok
  rw [h.hW] at h22
  refine h22.mono ?_
  rintro e w' ⟨rfl, hb⟩
  exact ⟨rfl, h.to hb⟩

theorem once_18 (h : OnceSt w0 wr gs bm W n s col ws m p bx mk) (r : Int) :
    Calls Tryz.prog 18 #[ptr W, .int .i64 r] wr fun e w' => e = .returned (.int .i64 (markI m r)) ∧ wr = w' := by
  have h18 := f18_any wr col s ws m r h.wat h.good.ok
  rwa [h.hW] at h18

theorem once_23 (hm : Tryz.prog.follows .mixedOrders = true) (h : OnceSt w0 wr gs bm W n s col ws m p bx mk) :
    Calls Tryz.prog 23 #[ptr W] wr fun e w' => ∃ a c, e = .returned (.slice a m.late.length c) ∧ Below wr.heap.size wr w' := by
  have h23 := f23_any hm wr col s ws m h.wat h.good.ok h.good.row
  rw [h.hW] at h23
  refine h23.mono ?_
  rintro e w' ⟨r, blk, rfl, ho⟩
  obtain ⟨a, c, rfl⟩ := ho.own.form
  exact ⟨a, c, rfl, ho.below⟩

theorem ints_made (w : World) (n : Nat) : IntsB (w.alloc (.cells (madeCells #[.int .i64 0] n) 3)) w.heap.size (List.replicate n 0) := by
  have h : madeCells #[Value.int .i64 0] n = ((List.replicate n (0 : Int)).map (Value.int .i64)).toArray := by
    apply Array.ext
    · simp [size_madeCells]
    · intro i h1 h2
      simp [madeCells, Nat.mod_one]
  unfold IntsB
  rw [← h]
  exact heap_alloc_new w _

/-- The last numbers noted. -/
theorem note_next {a b : List Int} {k : Nat} (ha : k < a.length) (hb : k < b.length) (e : a.length = b.length) : a.take (k + 1) ++ b.drop (k + 1) = (a.take k ++ b.drop k).set k a[k] := by
  rw [List.set_append_right _ _ (by simp; omega), ← List.take_append_getElem ha]
  have : (a.take k).length = k := by simp; omega
  rw [this, Nat.sub_self, List.append_assoc]
  congr 1
  rw [List.drop_eq_getElem_cons hb]
  rfl
end once
end Go.Proofs.YtimahogkcmmcnaaGreatDoor

