import Derived.Test.YtdnkfgnjeibjeaaH9
namespace Go.Proofs.Ytdnkfgnjeibjeaa
open Go.RowKit Go.Shelf

theorem upd_last (m : Gm) (i : Nat) : m.upd i { m.inp i with last := (m.inp i).last } = m := by
  cases m
  simp only [Gm.upd, Gm.mk.injEq, true_and, and_true]
  funext j
  by_cases e : j = i
  · subst e; simp
  · simp [e]

/-- What 'Arrive' gives. -/
def ArriveTo (w2 wr : World) (n G B : Nat) (m : Gm) (us : Nat → Value) (evs : Nat → List EV) (qb : Nat → Option Nat) (ov : Value) (oblk : Option Nat) (outs : List OV) (ins : Nat → List Elem) (c : Nat) (oi : Int) (x : Elem) (e : Ending) (w' : World) : Prop :=
  ∃ D' gs' m' v blk news err, e = .returned (.tuple #[v, .int .i64 err]) ∧ LSt w2 w' n G B D' gs' m' us evs qb ov oblk outs ∧ SlOwn w' 44 6 v news.length (news.flatMap ocl) blk ∧ (∀ g, blk = some g → wr.heap.size ≤ g) ∧ (∀ o ∈ news, RowAt w' D' o.2.2 o.2.1.row) ∧ wr.heap.size ≤ w'.heap.size ∧
    ((err ≠ 0 ∧ m' = m) ∨ (err = 0 ∧ news.length ≤ 1000 ∧ ∃ i : Nat, oi = i ∧ i < n ∧ AOk m' (setH ins i (ins i ++ [x])) (outs ++ news) (c + 1)))

section
variable {w2 wr w' : World} {n G B : Nat} {D : Nat → Prop} {gs : GS} {m : Gm} {us : Nat → Value} {evs : Nat → List EV} {qb : Nat → Option Nat} {ov : Value} {oblk : Option Nat} {outs : List OV} {ins : Nat → List Elem} {c : Nat}

theorem ArriveTo.no (h : LSt w2 wr n G B D gs m us evs qb ov oblk outs) {oi : Int} {x : Elem} {e : Ending} {err : Int} (he : e = .returned (.tuple #[.slice none 0 0, .int .i64 err])) (h0 : err ≠ 0) (hb : Below wr.heap.size wr w') : ArriveTo w2 wr n G B m us evs qb ov oblk outs ins c oi x e w' :=
  ⟨D, gs, m, _, none, [], err, he, h.next hb, SlOwn.nil _ _ _, (fun g hg => by cases hg), (fun o ho => by cases ho), hb.size, .inl ⟨h0, rfl⟩⟩

theorem ArriveTo.yes (h : LSt w2 wr n G B D gs m us evs qb ov oblk outs) {i : Nat} (hi : i < n) {x : Elem} {e : Ending} {m' : Value → Gm} {news : Value → List OV} (ha : Arr wr D gs n m' news 0 e w') (hl : ∀ r, (news r).length ≤ 1000)
    (hok : ∀ r, AOk (m' r) (setH ins i (ins i ++ [x])) (outs ++ news r) (c + 1)) : ArriveTo w2 wr n G B m us evs qb ov oblk outs ins c i x e w' := by
  obtain ⟨D', r, gs', v, blk, he, hL, hs, hb, hr, hsz⟩ := h.arr ha
  exact ⟨D', gs', m' r, v, blk, news r, 0, he, hL, hs, hb, hr, hsz, .inr ⟨rfl, hl r, i, rfl, hi, hok r⟩⟩

theorem arrive_any (h : LSt w2 wr n G B D gs m us evs qb ov oblk outs) (ok : AOk m ins outs c) (hc : c ≤ 400) (x : Elem) (r : Value) (hr : RowAt wr (fun b => b < w2.heap.size) r x.row) (hsm : x.row.length ≤ 1000000) (oi : Int) :
    Calls Try.prog 13 #[.pointer (some ⟨G, 0, none⟩), .int .i64 oi, ev x r] wr (ArriveTo w2 wr n G B m us evs qb ov oblk outs ins c oi x) := by
  have hG := h.hG
  subst hG
  have hcnt := ok.cnt
  have hn := h.hn
  subst hn
  cases hv : validElem x with
  | false => exact (f13_inv wr _ _ oi x r hr hv).mono fun e w' ⟨he, hb⟩ => ArriveTo.no h he (by decide) hb
  | true =>
    by_cases hi : oi < 0 ∨ (m.n : Int) ≤ oi
    · exact (f13_rng wr _ gs m h.gate oi x r hr hv hi).mono fun e w' ⟨he, hb⟩ => ArriveTo.no h he (by decide) hb
    · obtain ⟨i, rfl⟩ : ∃ i : Nat, oi = i := ⟨oi.toNat, by omega⟩
      have hi' : i < m.n := by omega
      have hcl := ok.good.opened i hi'
      have hn0 : ∀ b, b < w2.heap.size → ¬ gs.own m.n b := fun b hb ho => by have := h.newG b ho; omega
      cases hk : (x.k == 3) with
      | false =>
        have hk3 : x.k ≠ 3 := by simpa using hk
        cases hb : m.blocked i with
        | true =>
          refine (f13_wait wr D _ gs m i x r h.gate h.hD hr hsm hv hi' hcl hk hb (by omega) (by omega)).mono fun e w' ha => ?_
          refine ArriveTo.yes h hi' ha (fun _ => by simp) fun r => ?_
          rw [List.append_nil]
          exact ok.wait (x := (x, r)) hi' hv (fun e => absurd e hk3) hb (Int.le_refl _) (fun e => absurd e hk3)
        | false =>
          have hex : ∀ r : Value, ∃ m' o, Runs (.look i (x, r)) m m' o := fun r => (runs_all _ m rfl ok.under ok.done).2.2 i _ hi'
          refine (f13_pass wr D _ gs m i x r (fun r => (hex r).choose) (fun r => (hex r).choose_spec.choose) h.gate h.hD hr hsm hv hi' hcl hk hb (fun D r => ((hex r).choose_spec.choose_spec).to D ok.al (by omega))).mono fun e w' ha => ?_
          refine ArriveTo.yes h hi' ha (fun r => ?_) fun r => ?_
          · have := ((hex r).choose_spec.choose_spec).bound
            simp only [Job.extra] at this
            omega
          · exact ok.look (x := (x, r)) hi' hv (fun e => absurd e hk3) hb (L := (m.inp i).last) (Int.le_refl _) (fun e => absurd e hk3) (by rw [upd_last]; exact (hex r).choose_spec.choose_spec)
      | true =>
        have hk3 : x.k = 3 := by simpa using hk
        by_cases hl : x.n ≤ (m.inp i).last
        · exact (f13_old wr D _ gs m i x r h.gate hr hv hi' hcl hk3 hl).mono fun e w' ⟨he, hb⟩ => ArriveTo.no h he (by decide) hb
        · have hl' : (m.inp i).last < x.n := by omega
          cases hb : m.blocked i with
          | true =>
            refine (f13_waitbar wr D _ gs m i x r h.gate h.hD hr hsm hv hi' hcl hk3 hl' hn0 hb (by omega) (by omega)).mono fun e w' ha => ?_
            refine ArriveTo.yes h hi' ha (fun _ => by simp) fun r => ?_
            rw [List.append_nil]
            exact ok.wait (x := (x, r)) hi' hv (fun _ => hl') hb (L := x.n) (by omega) (fun _ => Int.le_refl _)
          | false =>
            have hs : qsum (m.upd i { m.inp i with last := x.n }) m.n = qsum m m.n := qsum_same (m := m) (i := i) (x := { m.inp i with last := x.n }) rfl m.n
            have hex : ∀ r : Value, ∃ m' o, Runs (.look i (x, r)) (m.upd i { m.inp i with last := x.n }) m' o := fun r => (runs_all _ (m.upd i { m.inp i with last := x.n }) rfl ok.under ok.done).2.2 i _ hi'
            refine (f13_bar wr D _ gs m i x r (fun r => (hex r).choose) (fun r => (hex r).choose_spec.choose) h.gate h.hD hr hsm hv hi' hcl hk3 hl' hn0 hb (fun D r => ((hex r).choose_spec.choose_spec).to D ok.al (by rw [show (m.upd i { m.inp i with last := x.n }).n = m.n from rfl, hs]; omega))).mono fun e w' ha => ?_
            refine ArriveTo.yes h hi' ha (fun r => ?_) fun r => ?_
            · have := ((hex r).choose_spec.choose_spec).bound
              rw [show (m.upd i { m.inp i with last := x.n }).n = m.n from rfl, hs] at this
              simp only [Job.extra] at this
              omega
            · exact ok.look (x := (x, r)) hi' hv (fun _ => hl') hb (L := x.n) (by omega) (fun _ => Int.le_refl _) (hex r).choose_spec.choose_spec
end
end Go.Proofs.Ytdnkfgnjeibjeaa
