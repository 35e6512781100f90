import Derived.Test.YtdnkfgnjeibjeaaN6
namespace Go.Proofs.Ytdnkfgnjeibjeaa
open Go.RowKit Go.Shelf

/-- No block. -/
abbrev NoB : Nat → Prop := fun _ => False

/-- What passed, as a slice; its blocks are of S. -/
structure OutV (w : World) (S : Nat → Prop) (v : Value) (outs : List OV) : Prop where
  own : ∃ blk, SlOwn w 44 6 v outs.length (outs.flatMap ocl) blk ∧ ∀ g, blk = some g → S g
  rows : ∀ o ∈ outs, RowAt w S o.2.2 o.2.1.row

theorem OutV.keep {w w' : World} {S : Nat → Prop} {v : Value} {outs : List OV} (h : OutV w S v outs) (hk : ∀ b, S b → b < w.heap.size → w'.heap[b]? = w.heap[b]?) : OutV w' S v outs := by
  obtain ⟨⟨blk, h1, h2⟩, h3⟩ := h
  exact ⟨⟨blk, h1.keep fun g hg => hk g (h2 g hg) (by subst hg; exact h1.blk_lt), h2⟩, fun o ho => (h3 o ho).keep hk⟩

theorem OutV.below {w w' : World} {S : Nat → Prop} {v : Value} {outs : List OV} (h : OutV w S v outs) (hb : Below w.heap.size w w') : OutV w' S v outs := h.keep fun b _ hl => hb.block b hl

theorem OutV.imp {w : World} {S S' : Nat → Prop} {v : Value} {outs : List OV} (h : OutV w S v outs) (hs : ∀ b, b < w.heap.size → S b → S' b) : OutV w S' v outs := by
  obtain ⟨⟨blk, h1, h2⟩, h3⟩ := h
  exact ⟨⟨blk, h1, fun g hg => hs g (by subst hg; exact h1.blk_lt) (h2 g hg)⟩, fun o ho => (h3 o ho).imp hs⟩

theorem RowAt.form {w : World} {D : Nat → Prop} {r : Value} {row : List Val} (h : RowAt w D r row) : ∃ a n c, r = .slice a n c := by
  obtain ⟨a, c, h, _⟩ := h
  exact ⟨a, _, c, h⟩

theorem OutV.call15 {w : World} {S : Nat → Prop} {v : Value} {outs : List OV} (h : OutV w S v outs) (hl : outs.length ≤ 1000000) :
    Calls Try.prog 15 #[v] w fun e w' => (∃ v' blk, e = .returned v' ∧ SlOwn w' 57 6 v' outs.length (outs.flatMap ocl) blk ∧ (∀ g, blk = some g → w.heap.size ≤ g)) ∧ (∀ o ∈ outs, RowAt w' S o.2.2 o.2.1.row) ∧ Below w.heap.size w w' := by
  obtain ⟨⟨blk, h1, h2⟩, h3⟩ := h
  refine (f15_any w v outs h1.src (fun o ho => (h3 o ho).form) hl h1.form).mono ?_
  rintro e w' ⟨v', blk', he, hs, hb, hbl⟩
  exact ⟨⟨v', blk', he, hs, hb⟩, fun o ho => (h3 o ho).below hbl, hbl⟩

/-- A gate without barriers, whatever else turns. -/
theorem GateAt.keepOwn {w w' : World} {gs : GS} {m : Gm} (h : GateAt w NoB gs m) (hk : ∀ b, gs.own m.n b → w'.heap[b]? = w.heap[b]?) : GateAt w' NoB gs m := by
  have hl : ∀ {b o}, gs.own m.n b → w.heap[b]? = some o → w'.heap[b]? = some o := fun ho hb => (hk _ ho).trans hb
  refine ⟨h.pos, h.le, hl (own_G gs _) h.hG, ?_, fun i hi => hl (own_ib gs hi) (h.hib i hi), h.inj, fun i hi => (h.hq i hi).keep fun g hg => hk g (own_qb gs hi hg), h.qinj, fun i hi p hp => (h.hrow i hi p hp).keep fun b hb _ => hb.elim, h.hD, hl (.inr (.inr (.inl rfl))) h.hmap⟩
  obtain ⟨cs, hc, hcs⟩ := h.harr
  exact ⟨cs, hl (.inr (.inl rfl)) hc, hcs⟩

theorem GateAt.fresh {w : World} {D : Nat → Prop} {gs : GS} {n : Nat} {al : Bool} (h : GateAt w D gs (Gm.new n al)) : GateAt w NoB gs (Gm.new n al) :=
  ⟨h.pos, h.le, h.hG, h.harr, h.hib, h.inj, h.hq, h.qinj, (fun i hi p hp => by cases hp), (fun b hb => hb.elim), h.hmap⟩

def freshErr (n : Nat) (i : Int) (x : Elem) : Int := if validElem x then (if i < 0 ∨ (n : Int) ≤ i then 7 else 0) else 1
def freshOuts (n : Nat) (i : Int) (x : Elem) (r : Value) : List OV := if freshErr n i x = 0 then [(i.toNat, (x, r))] else []

def Fresh (w : World) (gs : GS) (n : Nat) (al : Bool) (i : Int) (x : Elem) (e : Ending) (w' : World) : Prop :=
  ∃ v r gs', e = .returned (.tuple #[v, .int .i64 (freshErr n i x)]) ∧ OutV w' (fun b => w.heap.size ≤ b) v (freshOuts n i x r) ∧ GateAt w' NoB gs' (Gm.new n al) ∧ gs'.G = gs.G ∧ (∀ b, gs'.own n b → gs.own n b ∨ w.heap.size ≤ b) ∧ Only (gs.own n) w w'

theorem Fresh.no {w w' : World} {gs : GS} {n : Nat} {al : Bool} {i : Int} {x : Elem} {e : Ending} {err : Int} (hg : GateAt w NoB gs (Gm.new n al)) (he : freshErr n i x = err) (hne : err ≠ 0) (h : e = .returned (.tuple #[.slice none 0 0, .int .i64 err])) (hb : Below w.heap.size w w') : Fresh w gs n al i x e w' := by
  refine ⟨.slice none 0 0, .slice none 0 0, gs, by rw [he]; exact h, ?_, hg.below hb, rfl, fun b hb => .inl hb, Only.of_below hb⟩
  have : freshOuts n i x (.slice none 0 0) = [] := by simp [freshOuts, he, hne]
  rw [this]
  exact ⟨⟨none, SlOwn.nil _ _ _, fun g hg => by cases hg⟩, fun o ho => by cases ho⟩

theorem f13_fresh (w : World) (D0 : Nat → Prop) (gs : GS) (n : Nat) (al : Bool) (i : Int) (x : Elem) (r : Value) (h : GateAt w NoB gs (Gm.new n al)) (hr : RowAt w D0 r x.row) (hsm : x.row.length ≤ 1000000) (hk : (x.k == 3) = false) :
    Calls Try.prog 13 #[.pointer (some ⟨gs.G, 0, none⟩), .int .i64 i, ev x r] w (Fresh w gs n al i x) := by
  cases hv : validElem x
  · refine (f13_inv w D0 ⟨gs.G, 0, none⟩ i x r hr hv).mono ?_
    rintro e w' ⟨he, hb⟩
    exact Fresh.no h (by simp [freshErr, hv]) (by decide) he hb
  · by_cases hi : i < 0 ∨ (n : Int) ≤ i
    · refine (f13_rng w D0 gs (Gm.new n al) h i x r hr hv hi).mono ?_
      rintro e w' ⟨he, hb⟩
      exact Fresh.no h (by simp [freshErr, hv, hi]) (by decide) he hb
    · obtain ⟨j, rfl⟩ : ∃ j : Nat, i = j := ⟨i.toNat, by omega⟩
      have hj : j < n := by omega
      have he : freshErr n j x = 0 := by simp only [freshErr, hv, if_true, if_neg hi]
      refine (f13_pass w NoB D0 gs (Gm.new n al) j x r (fun _ => Gm.new n al) (fun r => [(j, (x, r))]) h (fun b hb => hb.elim) hr hsm hv hj rfl hk (by simp [Gm.blocked, Gm.new]) (fun D r => f44_pass D j (x, r) (Gm.new n al) hj (by simp [EV.plain, bne, hk]))).mono ?_
      rintro e w' ⟨D', r', gs', v, blk, hD1, hD2, hD3, he', hn, hs, hb, hg, hG', ho', hrr, hon⟩
      refine ⟨v, r', gs', by rw [he]; exact he', ?_, hg.fresh, hG', ho', hon⟩
      have e1 : freshOuts n j x r' = [(j, (x, r'))] := by simp [freshOuts, he]
      rw [e1]
      exact ⟨⟨blk, hs, hb⟩, fun o ho => (hrr o ho).mono fun b hb => (hD2 b hb).resolve_left (fun h => h.elim)⟩

/-- Two gates without barriers, one of each kind, made since w. -/
structure TwoAt (w W : World) (n A B : Nat) (ga gb : GS) : Prop where
  a : GateAt W NoB ga (Gm.new n true)
  b : GateAt W NoB gb (Gm.new n false)
  hA : ga.G = A
  hB : gb.G = B
  oa : ∀ b, ga.own n b → w.heap.size ≤ b
  ob : ∀ b, gb.own n b → w.heap.size ≤ b
  apart : ∀ b, ga.own n b → ¬ gb.own n b
  below : Below w.heap.size w W

def Two (w W : World) (n A B : Nat) : Prop := ∃ ga gb, TwoAt w W n A B ga gb
def TwoV (w W : World) (n A B : Nat) (v : Value) (outs : List OV) : Prop := ∃ ga gb, TwoAt w W n A B ga gb ∧ OutV W (fun b => w.heap.size ≤ b ∧ ¬ gb.own n b) v outs

theorem Two.bl {w W : World} {n A B : Nat} (h : Two w W n A B) : Below w.heap.size w W := by
  obtain ⟨_, _, h⟩ := h
  exact h.below

theorem TwoV.bl {w W : World} {n A B : Nat} {v : Value} {outs : List OV} (h : TwoV w W n A B v outs) : Below w.heap.size w W := by
  obtain ⟨_, _, h, _⟩ := h
  exact h.below

theorem TwoAt.next {w W W' : World} {n A B : Nat} {ga gb : GS} (h : TwoAt w W n A B ga gb) (hb : Below W.heap.size W W') : TwoAt w W' n A B ga gb :=
  ⟨h.a.below hb, h.b.below hb, h.hA, h.hB, h.oa, h.ob, h.apart, h.below.trans (hb.mono h.below.size)⟩

theorem Two.next {w W W' : World} {n A B : Nat} (h : Two w W n A B) (hb : Below W.heap.size W W') : Two w W' n A B := by
  obtain ⟨ga, gb, h⟩ := h
  exact ⟨ga, gb, h.next hb⟩

theorem TwoV.next {w W W' : World} {n A B : Nat} {v : Value} {outs : List OV} (h : TwoV w W n A B v outs) (hb : Below W.heap.size W W') : TwoV w W' n A B v outs := by
  obtain ⟨ga, gb, h, ho⟩ := h
  exact ⟨ga, gb, h.next hb, ho.below hb⟩

/-- What the first gate's 'Arrive' gives. -/
def ArrA (w : World) (n A B : Nat) (i : Int) (x : Elem) (e : Ending) (w' : World) : Prop :=
  ∃ a c r, e = .returned (.tuple #[.slice a (freshOuts n i x r).length c, .int .i64 (freshErr n i x)]) ∧ TwoV w w' n A B (.slice a (freshOuts n i x r).length c) (freshOuts n i x r)

def ArrB (w : World) (n A B : Nat) (i : Int) (x : Elem) (v1 : Value) (outs1 : List OV) (e : Ending) (w' : World) : Prop :=
  ∃ a c r, e = .returned (.tuple #[.slice a (freshOuts n i x r).length c, .int .i64 (freshErr n i x)]) ∧ Two w w' n A B ∧ OutV w' (fun b => w.heap.size ≤ b) v1 outs1 ∧ OutV w' (fun b => w.heap.size ≤ b) (.slice a (freshOuts n i x r).length c) (freshOuts n i x r)

theorem OutV.form {w : World} {S : Nat → Prop} {v : Value} {outs : List OV} (h : OutV w S v outs) : ∃ a c, v = .slice a outs.length c := by
  obtain ⟨⟨blk, h1, _⟩, _⟩ := h
  exact h1.form

theorem arrA (w W : World) (n A B : Nat) (D0 : Nat → Prop) (i : Int) (x : Elem) (r : Value) (h : Two w W n A B) (hr : RowAt W D0 r x.row) (hsm : x.row.length ≤ 1000000) (hk : (x.k == 3) = false) :
    Calls Try.prog 13 #[.pointer (some ⟨A, 0, none⟩), .int .i64 i, ev x r] W (ArrA w n A B i x) := by
  obtain ⟨ga, gb, h⟩ := h
  have hc := f13_fresh W D0 ga n true i x r h.a hr hsm hk
  rw [h.hA] at hc
  refine hc.mono ?_
  rintro e w' ⟨v, r', gs', he, ho, hg, hG, hown, hon⟩
  obtain ⟨a, c, rfl⟩ := ho.form
  have hbl := h.below.size
  refine ⟨a, c, r', he, gs', gb, ⟨hg, h.b.keepOwn fun b hb => hon.block b (h.b.lt hb) (fun ha => h.apart b ha hb), hG.trans h.hA, h.hB, fun b hb => ?_, h.ob, fun b hb hb' => ?_, ?_⟩, ?_⟩
  · rcases hown b hb with h1 | h1
    · exact h.oa b h1
    · omega
  · rcases hown b hb with h1 | h1
    · exact h.apart b h1 hb'
    · have := h.b.lt hb'; omega
  · exact h.below.trans (hon.below hbl h.oa)
  · exact ho.imp fun b _ hb => ⟨by omega, fun hb' => by have := h.b.lt hb'; omega⟩

theorem arrB (w W : World) (n A B : Nat) (D0 : Nat → Prop) (i : Int) (x : Elem) (r : Value) (v1 : Value) (outs1 : List OV) (h : TwoV w W n A B v1 outs1) (hr : RowAt W D0 r x.row) (hsm : x.row.length ≤ 1000000) (hk : (x.k == 3) = false) :
    Calls Try.prog 13 #[.pointer (some ⟨B, 0, none⟩), .int .i64 i, ev x r] W (ArrB w n A B i x v1 outs1) := by
  obtain ⟨ga, gb, h, ho1⟩ := h
  have hc := f13_fresh W D0 gb n false i x r h.b hr hsm hk
  rw [h.hB] at hc
  refine hc.mono ?_
  rintro e w' ⟨v, r', gs', he, ho, hg, hG, hown, hon⟩
  obtain ⟨a, c, rfl⟩ := ho.form
  have hbl := h.below.size
  refine ⟨a, c, r', he, ⟨ga, gs', h.a.keepOwn fun b hb => hon.block b (h.a.lt hb) (fun ha => h.apart b hb ha), hg, h.hA, hG.trans h.hB, h.oa, fun b hb => ?_, fun b hb hb' => ?_, ?_⟩, ?_, ?_⟩
  · rcases hown b hb with h1 | h1
    · exact h.ob b h1
    · omega
  · rcases hown b hb' with h1 | h1
    · exact h.apart b hb h1
    · have := h.a.lt hb; omega
  · exact h.below.trans (hon.below hbl h.ob)
  · exact (ho1.keep fun b hb hl => hon.block b hl hb.2).imp fun b _ hb => hb.1
  · exact ho.imp fun b _ hb => by omega

/-- Both gates are made. -/
theorem f12_a (w : World) (n : Nat) (h1 : 1 ≤ n) (h2 : n ≤ 200) :
    Calls Try.prog 12 #[.int .i64 n, .bool true] w fun e w' => ∃ A, e = .returned (.tuple #[.pointer (some ⟨A, 0, none⟩), .int .i64 0]) ∧ ∃ ga, GateAt w' NoB ga (Gm.new n true) ∧ ga.G = A ∧ (∀ b, ga.own n b → w.heap.size ≤ b) ∧ Below w.heap.size w w' := by
  refine (f12_ok w n true h1 h2).mono ?_
  rintro e w' ⟨he, v, ib, hN⟩
  obtain ⟨gs, hG, hg, ho⟩ := hN.gate h1 h2 NoB (fun b hb => hb.elim)
  exact ⟨_, he, gs, hg, hG, ho, hN.below⟩

theorem f12_b (w W : World) (n A : Nat) (h1 : 1 ≤ n) (h2 : n ≤ 200) (h : ∃ ga, GateAt W NoB ga (Gm.new n true) ∧ ga.G = A ∧ (∀ b, ga.own n b → w.heap.size ≤ b) ∧ Below w.heap.size w W) :
    Calls Try.prog 12 #[.int .i64 n, .bool false] W fun e w' => ∃ B, e = .returned (.tuple #[.pointer (some ⟨B, 0, none⟩), .int .i64 0]) ∧ Two w w' n A B := by
  obtain ⟨ga, hga, hA, hoa, hbl⟩ := h
  refine (f12_ok W n false h1 h2).mono ?_
  rintro e w' ⟨he, v, ib, hN⟩
  obtain ⟨gs, hG, hg, ho⟩ := hN.gate h1 h2 NoB (fun b hb => hb.elim)
  refine ⟨_, he, ga, gs, hga.below hN.below, hg, hA, hG, hoa, fun b hb => ?_, fun b hb hb' => ?_, hbl.trans (hN.below.mono hbl.size)⟩
  · have h3 := ho b hb
    have h4 := hbl.size
    omega
  · have h3 := ho b hb'
    have h4 : b < W.heap.size := hga.lt hb
    omega

theorem bytesLess_self (l : List UInt8) : Op.bytesLess l l = false := by
  induction l with
  | nil => rfl
  | cons x xs ih => simp [Op.bytesLess, ih]

theorem cmpVal_self (v : Val) : cmpVal v v = 0 := by
  unfold cmpVal
  simp [bytesLess_self]

theorem cmpRow_self (l : List Val) : cmpRow l l = 0 := by
  induction l with
  | nil => rfl
  | cons x xs ih => simp [cmpRow, cmpVal_self, ih]

theorem sameElem_self (x : Elem) : sameElem x x = true := by simp [sameElem, cmpRow_self]

theorem sameOuts_self (l : List (Int × Elem)) : sameOuts l l = true := by
  induction l with
  | nil => rfl
  | cons x xs ih => simp [sameOuts, sameElem_self, ih]

theorem freshOuts_bare (n : Nat) (i : Int) (x : Elem) (r r' : Value) : (freshOuts n i x r).map bare = (freshOuts n i x r').map bare := by
  unfold freshOuts
  split <;> rfl

theorem freshOuts_len (n : Nat) (i : Int) (x : Elem) (r : Value) : (freshOuts n i x r).length ≤ 1 := by
  unfold freshOuts
  split <;> simp

/-- f14 at what two gates passed. -/
theorem f14_fresh (w : World) (S S' : Nat → Prop) (n : Nat) (i : Int) (x : Elem) (r r' : Value) (v1 v2 : Value) (b1 b2 : Option Nat) (h1 : SlOwn w 57 6 v1 (freshOuts n i x r).length ((freshOuts n i x r).flatMap ocl) b1) (h2 : SlOwn w 57 6 v2 (freshOuts n i x r').length ((freshOuts n i x r').flatMap ocl) b2)
    (g1 : ∀ o ∈ freshOuts n i x r, RowAt w S o.2.2 o.2.1.row) (g2 : ∀ o ∈ freshOuts n i x r', RowAt w S' o.2.2 o.2.1.row) :
    Calls Try.prog 14 #[v1, v2] w fun e w' => e = .returned (.bool true) ∧ Below w.heap.size w w' := by
  have l1 := freshOuts_len n i x r
  have l2 := freshOuts_len n i x r'
  have a1 := OutsAt.of_own (D := fun _ => True) h1 (by omega) (fun o ho => (g1 o ho).mono fun _ _ => trivial) (fun _ _ => trivial)
  have a2 := OutsAt.of_own (D := fun _ => True) h2 (by omega) (fun o ho => (g2 o ho).mono fun _ _ => trivial) (fun _ _ => trivial)
  have := f14_any w v1 v2 _ _ _ _ a1 a2
  rw [freshOuts_bare n i x r r', sameOuts_self] at this
  exact this

end Go.Proofs.Ytdnkfgnjeibjeaa
