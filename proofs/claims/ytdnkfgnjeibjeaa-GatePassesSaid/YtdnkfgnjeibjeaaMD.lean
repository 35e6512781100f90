import Derived.Test.YtdnkfgnjeibjeaaMC
import Derived.Laws.IdiomRangeMap
import Derived.StillTail

namespace Go.Proofs.Ytdnkfgnjeibjeaa
open Go.RowKit Go.Shelf

theorem next_empty {P : Program} (w : World) (ty : TypeId) (bm clock : Nat) (hb : w.heap[bm]? = some (.map #[] clock)) :
    (Instr.next (.pointer (some ⟨w.heap.size, 0, none⟩)) false ty).run P (w.alloc (.mapIter (some bm) clock #[] clock)) = .ok (.tuple #[.bool false]) (w.alloc (.mapIter (some bm) clock #[] clock)) := by
  rcases run_next_map (P := P) w ty bm clock clock #[] #[] clock hb (fun x hx => by cases hx) (Nat.le_refl _) with ⟨_, h⟩ | ⟨e, he, _⟩
  · exact h
  · simp [leftOf] at he

section walks
set_option maxHeartbeats 1000000
set_option maxRecDepth 100000

theorem f42_any (w : World) {D : Nat → Prop} (gs : GS) (m : Gm) (h : GateAt w D gs m) (hq : qsum m m.n ≤ 1000000) :
    Calls Try.prog 42 #[.pointer (some ⟨gs.G, 0, none⟩)] w fun e w' => e = .returned (.int .i64 (qsum m m.n)) ∧ Below w.heap.size w w' := by
  obtain ⟨g0, g1, g2, g3, g4, gf⟩ := h.cells
  have hm := h.hmap
  have hle := h.le
  have hr := run_range_map (P := Try.prog) w 83 3 93 gs.map #[] gs.clock Try.underlying83 hm
  have hn := fun ty => next_empty (P := Try.prog) w ty gs.map gs.clock hm
  have H := Lib.hid h
  clear h hm
  go_enter Try.func42, Try.ntmps42
  go_wp2_with fail
  go_loopw [3, 13] (fun s i wr => ∃ k : Nat, k ≤ m.n ∧ i = .int .i64 k ∧ s = .int .i64 (qsum m k) ∧ wr = w) (fun _ i _ => m.n - (intOf i).toNat)
  case atStart => exact ⟨0, Nat.zero_le _, rfl, rfl, rfl⟩
  case round =>
    obtain ⟨k, hk, rfl, rfl, rfl⟩ := hrel
    by_cases hlt : k < m.n
    · obtain ⟨ia, x0, x1, x2, x3, x4, xf⟩ := H.out.lcells (GS.like.refl gs) hlt
      obtain ⟨qa, qc, x2⟩ := x2
      have hs : qsum m (k + 1) ≤ qsum m m.n := qsum_mono m hlt
      have hs' : qsum m (k + 1) = qsum m k + (m.inp k).queue.length := rfl
      have hw1 : ((qsum m k : Int) + ((m.inp k).queue.length : Int)) = ((qsum m (k + 1) : Nat) : Int) := by omega
      have hwr : IntKind.i64.wrap ((qsum m k : Int) + ((m.inp k).queue.length : Int)) = ((qsum m (k + 1) : Nat) : Int) := by rw [IntKind.wrap_i64]; omega
      clear hw1 hs' hs
      go_wp2_with fail
      go_roundw
      case rel => exact ⟨k + 1, by omega, by go_num, rfl, by first | trivial | rfl⟩
      case measure => simp [intOf]; omega
    · have hkn : k = m.n := by omega
      subst hkn
      go_wp2_with fail
      go_loopw [3] (fun s wx => s = .int .i64 (qsum m m.n) ∧ wx = wr.alloc (.mapIter (some gs.map) gs.clock #[] gs.clock)) (fun _ _ => 0)
      case atStart => exact ⟨rfl, rfl⟩
      case round =>
        obtain ⟨rfl, rfl⟩ := hrel
        go_wp2_with fail
        go_ret
        exact ⟨rfl, (Below.refl _ _).alloc (Nat.le_refl _) _⟩
end walks
end Go.Proofs.Ytdnkfgnjeibjeaa

namespace Go.Proofs.Ytdnkfgnjeibjeaa
open Go.RowKit Go.Shelf

/-- What 'Arrive' gives. -/
def Arr (w : World) (D : Nat → Prop) (gs : GS) (n : Nat) (m' : Value → Gm) (outs : Value → List OV) (err : Int) (e : Ending) (w' : World) : Prop :=
  ∃ D' r gs' v blk, (∀ b, D b → D' b) ∧ (∀ b, D' b → D b ∨ w.heap.size ≤ b) ∧ (∀ b, D' b → b < w'.heap.size) ∧ e = .returned (.tuple #[v, .int .i64 err]) ∧ (m' r).n = n ∧
    SlOwn w' 44 6 v (outs r).length ((outs r).flatMap ocl) blk ∧ (∀ g, blk = some g → w.heap.size ≤ g) ∧ GateAt w' D' gs' (m' r) ∧ gs'.G = gs.G ∧ (∀ b, gs'.own n b → gs.own n b ∨ w.heap.size ≤ b) ∧
    (∀ o ∈ outs r, RowAt w' D' o.2.2 o.2.1.row) ∧ Only (gs.own n) w w'

theorem GateAt.widen {w : World} {D D' : Nat → Prop} {gs : GS} {m : Gm} (h : GateAt w D gs m) (hd : ∀ b, D b → D' b) (hn : ∀ b, D' b → ¬ gs.own m.n b) : GateAt w D' gs m :=
  ⟨h.pos, h.le, h.hG, h.harr, h.hib, h.inj, h.hq, h.qinj, fun i hi p hp => (h.hrow i hi p hp).mono hd, hn, h.hmap⟩

theorem Gives.from {w W w' : World} {D : Nat → Prop} {gs : GS} {n : Nat} {m' : Gm} {outs : List OV} {e : Ending} (h : Gives W D gs n m' outs e w') (ho : Only (gs.own n) w W) : Gives w D gs n m' outs e w' := by
  obtain ⟨gs', v, blk, he, hn, hs, hb, hg, hl, hr, hon⟩ := h
  exact ⟨gs', v, blk, he, hn, hs, fun g hg' => Nat.le_trans ho.size (hb g hg'), hg, hl, hr, ho.trans hon (fun _ _ h => h)⟩

/-- The gate and the element's box, while 'Arrive' asks. -/
structure AF (w W : World) (D : Nat → Prop) (gs : GS) (m : Gm) (x : Elem) (r : Value) : Prop where
  below : Below w.heap.size w W
  gate : GateAt W D gs m
  box : W.heap[w.heap.size]? = some (.cells #[.int .i64 x.k, .int .i64 x.n, .int .i64 x.t, r, .int .i64 x.c] 34 (0, 0))

theorem AF.next {w W W' : World} {D : Nat → Prop} {gs : GS} {m : Gm} {x : Elem} {r : Value} (h : AF w W D gs m x r) (hb : Below W.heap.size W W') : AF w W' D gs m x r :=
  ⟨h.below.trans (hb.mono h.below.size), h.gate.below hb, (hb.block _ (heap_lt h.box)).trans h.box⟩

theorem AF.look {w W4 W5 : World} {D : Nat → Prop} {gs : GS} {m : Gm} {x : Elem} {r r5 : Value} {i : Nat} {m' : Value → Gm} {outs : Value → List OV} (h4 : AF w W4 D gs m x r) (h5 : AF w W5 D gs m x r) (hg : GateAt w D gs m) (hD : ∀ b, D b → b < w.heap.size)
    (hr5 : RowAt W5 (fun b => W4.heap.size ≤ b) r5 x.row) (hlook : ∀ D r, LookTo D i (x, r) m (m' r) (outs r)) :
    Calls Try.prog 44 #[.pointer (some ⟨gs.G, 0, none⟩), .int .i64 i, ev x r5] W5 fun e w' => ∃ v, e = .returned v ∧ Arr w D gs m.n m' outs 0 (.returned (.tuple #[v, .int .i64 0])) w' := by
  have hs4 := h4.below.size
  have hs5 := h5.below.size
  have hD' : ∀ b, (D b ∨ (w.heap.size ≤ b ∧ b < W5.heap.size)) → b < W5.heap.size := fun b hb => by
    rcases hb with hb | hb
    · have := hD b hb; omega
    · exact hb.2
  refine (hlook (fun b => D b ∨ (w.heap.size ≤ b ∧ b < W5.heap.size)) r5 gs W5 (h5.gate.widen (fun b hb => .inl hb) (fun b hb ho => ?_)) hD' (hr5.imp fun b hb hle => .inr ⟨by omega, hb⟩)).mono ?_
  · rcases hb with hb | hb
    · exact hg.hD b hb ho
    · have := hg.lt ho; omega
  · rintro e w' h
    have h' := h.from (Only.of_below h5.below)
    obtain ⟨gs', v, blk, he, hn, hs, hb, hgg, hl, hrr, hon⟩ := h'
    refine ⟨v, he, _, r5, gs', v, blk, fun b hb => .inl hb, fun b hb => hb.imp id fun h => h.1, fun b hb => ?_, rfl, hn, hs, hb, hgg, hl.G, fun b hb => .inl ((like_own hl _ _).1 hb), hrr, hon⟩
    obtain ⟨_, _, _, _, _, _, _, _, _, _, hon2⟩ := h
    exact Nat.lt_of_lt_of_le (hD' b hb) hon2.size

section walks
set_option maxHeartbeats 1000000
set_option maxRecDepth 100000

theorem f13_pass (w : World) (D D0 : Nat → Prop) (gs : GS) (m : Gm) (i : Nat) (x : Elem) (r : Value) (m' : Value → Gm) (outs : Value → List OV) (h : GateAt w D gs m) (hD : ∀ b, D b → b < w.heap.size) (hr : RowAt w D0 r x.row) (hsm : x.row.length ≤ 1000000)
    (hv : validElem x = true) (hi : i < m.n) (hcl : (m.inp i).closed = false) (hk : (x.k == 3) = false) (hbl : m.blocked i = false) (hlook : ∀ D r, LookTo D i (x, r) m (m' r) (outs r)) :
    Calls Try.prog 13 #[.pointer (some ⟨gs.G, 0, none⟩), .int .i64 i, ev x r] w (Arr w D gs m.n m' outs 0) := by
  have hV := fun (W : World) (hb : Below w.heap.size w W) => f40_any x r W D0 (hr.below hb)
  have hO := fun (W : World) (hb : Below w.heap.size w W) => f43_any W x r D0 (hr.below hb) hsm
  obtain ⟨ra, rc, rfl, _, _⟩ := hr
  rw [hv] at hV
  have HV := Lib.hid hV
  have HO := Lib.hid hO
  have H := Lib.hid h
  have HD := Lib.hid hD
  have HL := Lib.hid hlook
  clear hV hO h hD hlook hsm
  have j1 : (0 : Int) ≤ (i : Int) := by omega
  have j2 : (i : Int) < (m.n : Int) := by omega
  have hk' : (x.k != 3) = true := by simp [bne, hk]
  have ha0 : AF w (w.alloc (Obj.cells #[Value.int IntKind.i64 x.k, Value.int IntKind.i64 x.n, Value.int IntKind.i64 x.t, Value.slice ra x.row.length rc, Value.int IntKind.i64 x.c] 34)) D gs m x (.slice ra x.row.length rc) :=
    ⟨(Below.refl _ _).alloc (Nat.le_refl _) _, H.out.below ((Below.refl _ _).alloc (Nat.le_refl _) _), World.alloc_heap_new _ _⟩
  have HA := Lib.hid ha0
  clear ha0
  have hpn : ∀ W : World, (binOp .neq 93 (.pointer none) (.pointer none)).run Try.prog W = .ok (.bool false) W := fun W => by kernel_rfl
  go_enter Try.func13, Try.ntmps13
  go_wp2_with (
    go_at_call 40; refine (HV.out _ HA.out.below).mono ?_; rintro e w1 ⟨rfl, hb1⟩
    have HA1 := Lib.hid (HA.out.next hb1)
    clear hb1
    obtain ⟨g0, g1, g2, g3, g4, gf⟩ := HA1.out.gate.cells
    obtain ⟨ia, x0, x1, x2, x3, x4, xf⟩ := HA1.out.gate.icells hi
    obtain ⟨b0, b1, b2, b3, b4, bf⟩ := blk5 HA1.out.box)
  have q0 := fun d os => cell_regrown b0 d os
  refine wp_region_quiet_below (by kernel_rfl) (by kernel_rfl) ?_
  repeat (first | go_big_quiet_skip | quiet_step (fail))
  refine wpQuiet_nil ?_
  intro w2 hw'
  have HA2 := Lib.hid (HA1.out.next (below_of_class hw'))
  clear hw' q0 b0 b1 b2 b3 b4 bf g0 g1 g2 g3 g4 gf ia x0 x1 x2 x3 x4 xf
  obtain ⟨g0, g1, g2, g3, g4, gf⟩ := HA2.out.gate.cells
  obtain ⟨ia, x0, x1, x2, x3, x4, xf⟩ := HA2.out.gate.icells hi
  obtain ⟨b0, b1, b2, b3, b4, bf⟩ := blk5 HA2.out.box
  go_wp2_with fail
  have q2 := fun d os => cell_regrown g2 d os
  have q4 := fun d os => cell_regrown g4 d os
  have hlk := fun d os => lookup_empty (Sort.grow (redrawn w2 d) os) gs.map gs.clock m.under (((below_regrown w2 d os).block _ (heap_lt HA2.out.gate.hmap)).trans HA2.out.gate.hmap)
  refine wp_region_quiet_below (by kernel_rfl) (by kernel_rfl) ?_
  repeat (first | go_big_quiet_skip | quiet_step (fail))
  refine wpQuiet_nil ?_
  intro w3 hw'
  have HA3 := Lib.hid (HA2.out.next (below_of_class hw'))
  clear hw' q2 q4 hlk b0 b1 b2 b3 b4 bf g0 g1 g2 g3 g4 gf ia x0 x1 x2 x3 x4 xf
  obtain ⟨b0, b1, b2, b3, b4, bf⟩ := blk5 HA3.out.box
  have hc := fun W (h : AF w W D gs m x (.slice ra x.row.length rc)) => f41_any W gs m i h.gate hi
  rw [hbl] at hc
  have HC := Lib.hid hc
  clear hc
  go_wp2_with (first
    | (go_at_call 41; refine (HC.out _ HA3.out).mono ?_; rintro e w4 ⟨rfl, hb4⟩
       have HA4 := Lib.hid (HA3.out.next hb4)
       clear hb4 HA3 b0 b1 b2 b3 b4 bf
       have HA3 := HA4
       clear HA4
       obtain ⟨b0, b1, b2, b3, b4, bf⟩ := blk5 HA3.out.box)
    | (go_at_call 43; refine (HO.out _ HA3.out.below).mono ?_; rintro e w5 ⟨r5, rfl, hr5, hb5⟩; have HA5 := Lib.hid (HA3.out.next hb5); have HR5 := Lib.hid hr5)
    | (go_at_call 44; refine (HA3.out.look HA5.out H.out HD.out HR5.out HL.out).mono ?_; rintro e w6 ⟨v6, rfl, hfin⟩))
  refine bodyPost_ret (v := .tuple #[v6, .int .i64 0]) (by kernel_rfl) rfl hfin
end walks
end Go.Proofs.Ytdnkfgnjeibjeaa

namespace Go.Proofs.Ytdnkfgnjeibjeaa
open Go.RowKit Go.Shelf

/-- A region that draws its order: one invariant for whatever has been carried out. -/
theorem wpAny_inv {P : Program} {md : Region.Mode} {ops : Array Oper} {Q : Exit → Act → World → Prop} (St : Array Bool → Act → World → Prop)
    (hstep : ∀ listed a w i o, St listed a w → Closed md ops listed → ops[i]? = some o → listed.getD i true = false → (∀ e ∈ o.after, Region.binds md e = true → listed.getD e.on false = true) →
      wpOp P ops Q i (fun a' w' => St (listed.setIfInBounds i true) a' w') a w)
    (hend : ∀ listed a w, St listed a w → Region.ready md ops listed = [] → Q .normal a w) :
    ∀ (fuel : Nat) (listed : Array Bool) (a : Act) (w : World), St listed a w → Closed md ops listed → (listed.toList.filter (! ·)).length ≤ fuel → wpAny P md ops Q fuel listed a w := by
  intro fuel
  induction fuel with
  | zero =>
    intro listed a w hs _ hc
    have hr : Region.ready md ops listed = [] := by
      cases hr : Region.ready md ops listed with
      | nil => rfl
      | cons j js =>
        exfalso
        have hj : j ∈ Region.ready md ops listed := by rw [hr]; exact List.mem_cons_self
        have h0 := (mem_ready.1 hj).1
        have hx : listed.toList[j]? = some false := by
          rcases Nat.lt_or_ge j listed.size with h' | h'
          · simp [h'] at h0 ⊢; exact h0
          · simp [Array.getElem?_eq_none h'] at h0
        have := count_set hx
        omega
    exact ⟨hr, hend _ _ _ hs hr⟩
  | succ fuel ih =>
    intro listed a w hs hcl hc
    refine ⟨fun hr => hend _ _ _ hs hr, fun i hi => ?_⟩
    obtain ⟨h0, o, ho, hd⟩ := mem_ready.1 hi
    refine wpOp_mono (fun a' w' hs' => ih _ a' w' hs' (hcl.step ho hd) ?_) (hstep _ _ _ _ _ hs hcl ho h0 hd)
    have hx : listed.toList[i]? = some false := by
      rcases Nat.lt_or_ge i listed.size with h' | h'
      · simp [h'] at h0 ⊢; exact h0
      · simp [Array.getElem?_eq_none h'] at h0
    have := count_set hx
    rw [Array.toList_setIfInBounds]
    omega

theorem fillT_listed {base : Array Value} {d k : Nat} {val : Nat → Value} {l l' : Array Bool} (h : ∀ i, i < k → l.getD i false = l'.getD i false) : fillT base d k val l = fillT base d k val l' := by
  apply Array.ext_getElem?
  intro s
  simp only [fillT, Array.getElem?_mapIdx]
  cases base[s]? with
  | none => rfl
  | some v =>
    simp only [Option.map_some]
    by_cases hh : d ≤ s ∧ s < d + k
    · rw [h (s - d) (by omega)]
    · rw [if_neg (fun e => hh ⟨e.1, e.2.1⟩), if_neg (fun e => hh ⟨e.1, e.2.1⟩)]

end Go.Proofs.Ytdnkfgnjeibjeaa

namespace Go.Proofs.Ytdnkfgnjeibjeaa
open Go.RowKit Go.Shelf

/-- A region with one operation n that may do anything: what stands ahead of it in the text n waits for, what stands behind it waits for n. -/
def midB (ops : Array Oper) (n : Nat) : Bool :=
  Region.noSelect ops && decide (n < ops.size) &&
  (List.range ops.size).all fun i =>
    match ops[i]? with
    | none => false
    | some o => o.guard.isNone && (o.after.all fun e => !Region.binds .any e || decide (e.on < i)) &&
      ((List.range ops.size).all fun j =>
        match ops[j]? with
        | none => false
        | some oj =>
          match oj.dst with
          | none => true
          | some d => (!(o.looksAt ops).contains d || (decide (j < i) && Region.waitsFor .any ops i j)) && (decide (i = j) || o.dst != some d)) &&
      (decide (n ≤ i) || (List.range (n + 1)).any fun j => decide (i < j) && Region.waitsFor .any ops j i) &&
      (decide (i ≤ n) || (List.range i).any fun j => decide (n ≤ j) && Region.waitsFor .any ops i j)

structure Mid (ops : Array Oper) (n : Nat) : Prop where
  sel : Region.noSelect ops = true
  lt : n < ops.size
  grd : ∀ {i : Nat} {o : Oper}, ops[i]? = some o → o.guard = none
  low : ∀ {i : Nat} {o : Oper}, ops[i]? = some o → ∀ e ∈ o.after, Region.binds .any e = true → e.on < i
  look : ∀ {i j : Nat} {o oj : Oper} {d : Tmp}, ops[i]? = some o → ops[j]? = some oj → oj.dst = some d → d ∈ o.looksAt ops → j < i ∧ Region.waitsFor .any ops i j = true
  dist : ∀ {i j : Nat} {o oj : Oper} {d : Tmp}, ops[i]? = some o → ops[j]? = some oj → i ≠ j → oj.dst = some d → o.dst ≠ some d
  sink : ∀ {i : Nat}, i < n → ∃ j, i < j ∧ j ≤ n ∧ Region.waitsFor .any ops j i = true
  hang : ∀ {i : Nat}, n < i → i < ops.size → ∃ j, n ≤ j ∧ j < i ∧ Region.waitsFor .any ops i j = true

theorem mid_of {ops : Array Oper} {n : Nat} (h : midB ops n = true) : Mid ops n := by
  unfold midB at h
  simp only [Bool.and_eq_true, decide_eq_true_eq, List.all_eq_true, List.mem_range] at h
  obtain ⟨⟨h1, h2⟩, h3⟩ := h
  have key : ∀ {i : Nat} {o : Oper}, ops[i]? = some o → ((((o.guard.isNone = true ∧ (o.after.all fun e => !Region.binds .any e || decide (e.on < i)) = true) ∧
      ∀ j, j < ops.size → (match ops[j]? with | none => false | some oj => match oj.dst with | none => true | some d => (!(o.looksAt ops).contains d || (decide (j < i) && Region.waitsFor .any ops i j)) && (decide (i = j) || o.dst != some d)) = true) ∧
      (decide (n ≤ i) || (List.range (n + 1)).any fun j => decide (i < j) && Region.waitsFor .any ops j i) = true) ∧
      (decide (i ≤ n) || (List.range i).any fun j => decide (n ≤ j) && Region.waitsFor .any ops i j) = true) := by
    intro i o ho
    have hi : i < ops.size := (Array.getElem?_eq_some_iff.1 ho).1
    have := h3 i hi
    rw [ho] at this
    simpa only [Bool.and_eq_true, List.all_eq_true, List.mem_range] using this
  have two : ∀ {i j : Nat} {o oj : Oper} {d : Tmp}, ops[i]? = some o → ops[j]? = some oj → oj.dst = some d → ((!(o.looksAt ops).contains d || (decide (j < i) && Region.waitsFor .any ops i j)) && (decide (i = j) || o.dst != some d)) = true := by
    intro i j o oj d ho hj hd
    have := (key ho).1.1.2 j (Array.getElem?_eq_some_iff.1 hj).1
    rw [hj] at this
    simpa only [hd] using this
  refine ⟨h1, h2, fun ho => ?_, fun ho e he hb => ?_, fun ho hj hd hl => ?_, fun ho hj hij hd => ?_, fun {i} hi => ?_, fun {i} hi hs => ?_⟩
  · have := (key ho).1.1.1.1
    simpa using this
  · have h4 := (key ho).1.1.1.2
    rw [Array.all_eq_true'] at h4
    have := h4 e he
    rw [hb] at this
    simpa using this
  · have := two ho hj hd
    simp only [Bool.and_eq_true, Bool.or_eq_true, decide_eq_true_eq] at this
    rcases this.1 with h | h
    · exfalso
      rw [List.contains_iff_mem.2 hl] at h
      cases h
    · exact h
  · have := two ho hj hd
    simp only [Bool.and_eq_true, Bool.or_eq_true, decide_eq_true_eq] at this
    rcases this.2 with h | h
    · exact absurd h hij
    · simpa using h
  · obtain ⟨o, ho⟩ : ∃ o, ops[i]? = some o := ⟨_, Array.getElem?_eq_getElem (by omega)⟩
    have := (key ho).1.2
    simp only [Bool.or_eq_true, decide_eq_true_eq, List.any_eq_true, List.mem_range, Bool.and_eq_true] at this
    rcases this with h | ⟨j, hj, h4, h5⟩
    · omega
    · exact ⟨j, h4, by omega, h5⟩
  · obtain ⟨o, ho⟩ : ∃ o, ops[i]? = some o := ⟨_, Array.getElem?_eq_getElem hs⟩
    have := (key ho).2
    simp only [Bool.or_eq_true, decide_eq_true_eq, List.any_eq_true, List.mem_range, Bool.and_eq_true] at this
    rcases this with h | ⟨j, hj, h4, h5⟩
    · omega
    · exact ⟨j, h4, hj, h5⟩

/-- The frame with the slots of the operations L filled. -/
structure FillSt (ops : Array Oper) (val : Nat → Value) (a : Act) (L : Nat → Prop) (a' : Act) : Prop where
  defers : a'.defers = a.defers
  size : a'.tmps.size = a.tmps.size
  old : ∀ s, (∀ j oj, ops[j]? = some oj → L j → oj.dst ≠ some s) → a'.tmps[s]? = a.tmps[s]?
  new : ∀ s j oj, ops[j]? = some oj → L j → oj.dst = some s → s < a.tmps.size → a'.tmps[s]? = some (val j)

section
variable {ops : Array Oper} {val : Nat → Value} {a a' a1 a2 : Act} {L L' : Nat → Prop} {n : Nat}

theorem FillSt.none (ops : Array Oper) (val : Nat → Value) (a : Act) : FillSt ops val a (fun _ => False) a := ⟨rfl, rfl, fun _ _ => rfl, fun _ _ _ _ h => h.elim⟩

theorem FillSt.congr (h : FillSt ops val a L a') (hl : ∀ j, L j ↔ L' j) : FillSt ops val a L' a' :=
  ⟨h.defers, h.size, fun s hs => h.old s fun j oj ho hj => hs j oj ho ((hl j).1 hj), fun s j oj ho hj => h.new s j oj ho ((hl j).2 hj)⟩

theorem FillSt.put (hm : Mid ops n) (h : FillSt ops val a L a') {i : Nat} {oi : Oper} (hi : ops[i]? = some oi) : FillSt ops val a (fun j => L j ∨ j = i) (a'.put oi.dst (val i)) := by
  cases hd : oi.dst with
  | none =>
    refine ⟨h.defers, h.size, fun s hs => h.old s fun j oj ho hj => hs j oj ho (.inl hj), fun s j oj ho hj hds hlt => ?_⟩
    rcases hj with hj | rfl
    · exact h.new s j oj ho hj hds hlt
    · rw [hi] at ho; injection ho with ho; subst ho; rw [hd] at hds; cases hds
  | some d =>
    refine ⟨h.defers, by simpa [Act.put] using h.size, fun s hs => ?_, fun s j oj ho hj hds hlt => ?_⟩
    · have hne : d ≠ s := fun e => hs i oi hi (.inr rfl) (e ▸ hd)
      simp only [Act.put, Array.getElem?_setIfInBounds_ne hne]
      exact h.old s fun j oj ho hj => hs j oj ho (.inl hj)
    · by_cases e : j = i
      · subst e
        rw [hi] at ho; injection ho with ho; subst ho
        rw [hd] at hds; injection hds with hds; subst hds
        have : d < a'.tmps.size := by rw [h.size]; exact hlt
        simp [Act.put, this]
      · have hj' := hj.resolve_right e
        have hne : d ≠ s := fun e' => hm.dist ho hi e hd (e' ▸ hds)
        simp only [Act.put, Array.getElem?_setIfInBounds_ne hne]
        exact h.new s j oj ho hj' hds hlt

theorem FillSt.get (h1 : FillSt ops val a L a1) (h2 : FillSt ops val a L' a2) {s : Nat} (hl : ∀ j oj, ops[j]? = some oj → oj.dst = some s → (L j ↔ L' j)) : a1.tmps[s]? = a2.tmps[s]? := by
  by_cases hx : ∃ j oj, ops[j]? = some oj ∧ oj.dst = some s ∧ L j
  · obtain ⟨j, oj, ho, hd, hj⟩ := hx
    by_cases hs : s < a.tmps.size
    · rw [h1.new s j oj ho hj hd hs, h2.new s j oj ho ((hl j oj ho hd).1 hj) hd hs]
    · rw [Array.getElem?_eq_none (by rw [h1.size]; omega), Array.getElem?_eq_none (by rw [h2.size]; omega)]
  · rw [h1.old s fun j oj ho hj hd => hx ⟨j, oj, ho, hd, hj⟩, h2.old s fun j oj ho hj hd => hx ⟨j, oj, ho, hd, (hl j oj ho hd).2 hj⟩]

theorem FillSt.eq (h1 : FillSt ops val a L a1) (h2 : FillSt ops val a L a2) : a1 = a2 := by
  obtain ⟨t1, d1⟩ := a1
  obtain ⟨t2, d2⟩ := a2
  have hd : d1 = d2 := h1.defers.trans h2.defers.symm
  have ht : t1 = t2 := Array.ext_getElem? fun s => h1.get h2 fun _ _ _ _ => Iff.rfl
  rw [hd, ht]

theorem FillSt.yields {P : Program} {w : World} {o : Oper} {v : Value} (h1 : FillSt ops val a L a1) (h2 : FillSt ops val a L' a2) (hg : o.guard = Option.none) (hsel : ∀ cs b, o.op ≠ .select cs b)
    (hl : ∀ d, d ∈ o.looksAt ops → ∀ j oj, ops[j]? = some oj → oj.dst = some d → (L j ↔ L' j)) (hy : YieldsAt P ops w o v a1) : YieldsAt P ops w o v a2 := by
  refine hy.of_same (execOp_congr o hsel fun x hx => ?_) (by simp [Region.wanted, hg])
  cases x with
  | tmp d =>
    have hd : d ∈ o.looksAt ops := List.mem_append_left _ (List.mem_filterMap.2 ⟨.tmp d, by simpa using hx, rfl⟩)
    have := h2.get h1 (s := d) fun j oj ho hdd => (hl d hd j oj ho hdd).symm
    simp [Act.eval, this]
  | _ => rfl

/-- The values of a list of operations, carried out in the order of the text. -/
theorem still_vals {P : Program} {w : World} {Q : Act → Prop} : ∀ (l : List Oper) (k : Nat) (a : Act), (∀ j, j < l.length → l[j]? = ops[k + j]?) → wpStill P ops w Q l a →
    ∃ (val : Nat → Value) (acts : Nat → Act), acts k = a ∧ (∀ j, k ≤ j → j < k + l.length → ∃ o, ops[j]? = some o ∧ YieldsAt P ops w o (val j) (acts j) ∧ acts (j + 1) = (acts j).put o.dst (val j)) ∧ Q (acts (k + l.length))
  | [], k, a, _, h => ⟨fun _ => undef, fun _ => a, rfl, fun j h1 h2 => by simp at h2; omega, h⟩
  | o :: l, k, a, hl, h => by
    have h0 : ops[k]? = some o := by simpa using (hl 0 (by simp)).symm
    have hst : stOp P ops w k (wpStill P ops w Q l) a := by unfold stOp; simp only [h0]; exact h
    obtain ⟨v, hy, hK⟩ := yieldsAt_of_stOp h0 hst
    obtain ⟨val, acts, e1, e2, e3⟩ := still_vals l (k + 1) _ (fun j hj => by have := hl (j + 1) (by simp; omega); simpa [Nat.add_assoc, Nat.add_comm 1 j] using this) hK
    refine ⟨fun j => if j = k then v else val j, fun j => if j = k then a else acts j, by simp, fun j h1 h2 => ?_, ?_⟩
    · by_cases e : j = k
      · subst e
        refine ⟨o, h0, by simpa using hy, ?_⟩
        have : ¬ j + 1 = j := by omega
        simp only [this, if_false, if_true]
        exact e1
      · obtain ⟨o', ho', hy', ha'⟩ := e2 j (by omega) (by simp at h2; omega)
        refine ⟨o', ho', by simpa [e] using hy', ?_⟩
        have : ¬ j + 1 = k := by omega
        simp only [this, e, if_false]
        exact ha'
    · have : ¬ k + (o :: l).length = k := by simp
      simp only [this, if_false]
      have e4 : k + (o :: l).length = k + 1 + l.length := by simp; omega
      rw [e4]
      exact e3

theorem acts_fill (hm : Mid ops n) {P : Program} {w : World} {acts : Nat → Act} {k m : Nat} (ha : acts k = a) (h : ∀ j, k ≤ j → j < m → ∃ o, ops[j]? = some o ∧ YieldsAt P ops w o (val j) (acts j) ∧ acts (j + 1) = (acts j).put o.dst (val j)) :
    ∀ d, k + d ≤ m → FillSt ops val a (fun j => k ≤ j ∧ j < k + d) (acts (k + d)) := by
  intro d
  induction d with
  | zero => intro _; rw [Nat.add_zero, ha]; exact (FillSt.none ops val a).congr fun j => by simp
  | succ d ih =>
    intro hd
    obtain ⟨o, ho, _, e⟩ := h (k + d) (by omega) (by omega)
    have := (ih (by omega)).put hm ho
    rw [← e] at this
    exact this.congr fun j => by constructor <;> intro hj <;> omega

theorem waits_listed {listed : Array Bool} {i j : Nat} {o : Oper} (ho : ops[i]? = some o) (hd : ∀ e ∈ o.after, Region.binds .any e = true → listed.getD e.on false = true) (hw : Region.waitsFor .any ops i j = true) : listed.getD j false = true := by
  obtain ⟨o', ho', e, he, hb, hon⟩ := Region.waitsFor_spec hw
  rw [ho] at ho'; injection ho' with ho'; subst ho'
  rw [← hon]
  exact hd e he hb

theorem set_getD {listed : Array Bool} {i j : Nat} (hi : i < listed.size) : (listed.setIfInBounds i true).getD j false = true ↔ listed.getD j false = true ∨ j = i := by
  by_cases e : i = j
  · subst e; simp [hi]
  · have e' : ¬ j = i := fun h => e h.symm
    simp [e, e']

/-- Ahead of the one operation, or behind it. -/
def MidSt (P : Program) (ops : Array Oper) (n : Nat) (w : World) (Q : Exit → Act → World → Prop) (a : Act) (val : Nat → Value) (listed : Array Bool) (a' : Act) (w' : World) : Prop :=
  listed.size = ops.size ∧ ((w' = w ∧ (∀ j, n ≤ j → listed.getD j false = false) ∧ FillSt ops val a (fun j => listed.getD j false = true) a') ∨
    (listed.getD n false = true ∧ ∃ (b : Act) (val2 : Nat → Value) (acts : Nat → Act), acts (n + 1) = b ∧ (∀ j, n + 1 ≤ j → j < ops.size → ∃ o, ops[j]? = some o ∧ YieldsAt P ops w' o (val2 j) (acts j) ∧ acts (j + 1) = (acts j).put o.dst (val2 j)) ∧
      Q .normal (acts ops.size) w' ∧ FillSt ops val2 b (fun j => n < j ∧ listed.getD j false = true) a'))

end

/-- A region that draws its order, with one operation that may do anything: it is walked in the order of the text. -/
theorem wp_region_mid {P : Program} {id : Nat} {Q : Exit → Act → World → Prop} {a : Act} {w : World} {l : List Oper} (n : Nat) (o : Oper) (hn : l[n]? = some o) (hm : P.follows .mixedOrders = true) (hB : midB l.toArray n = true)
    (h : wpStill P l.toArray w.drew (fun a1 => ∀ K : Act → World → Prop, (∀ a2 w2, wpStill P l.toArray w2 (fun a3 => Q .normal a3 w2) (l.drop (n + 1)) a2 → K a2 w2) → o.wp P a1 w.drew K Q) (l.take n) a) : (Code.region id l.toArray true).wp P Q a w := by
  have hmid := mid_of hB
  have hno : l.toArray[n]? = some o := by simpa using hn
  have hlt : n < l.length := by simpa using hmid.lt
  generalize hops : l.toArray = ops at *
  have hsz : ops.size = l.length := by rw [← hops]; simp
  have htl : (l.take n).length = n := by simp; omega
  have hel : ∀ j : Nat, l[j]? = ops[j]? := fun j => by rw [← hops]; simp
  obtain ⟨val, acts, e1, e2, e3⟩ := still_vals (ops := ops) (l.take n) 0 a (fun j hj => by
    rw [htl] at hj
    rw [List.getElem?_take_of_lt hj, Nat.zero_add]
    exact hel j) h
  rw [htl, Nat.zero_add] at e2 e3
  have hf := fun (d : Nat) (hd : d ≤ n) => acts_fill hmid e1 e2 d (by omega)
  simp only [Nat.zero_add, Nat.zero_le, true_and] at hf
  refine wp_region_any hm (wpAny_inv (MidSt P ops n w.drew Q a val) ?_ ?_ _ _ _ _ ?_ ?_ ?_)
  · rintro listed a' w' i oi ⟨hs, hst⟩ hcl hoi hun hd
    have hi : i < ops.size := (Array.getElem?_eq_some_iff.1 hoi).1
    have hsel := Region.noSelect_spec hmid.sel
    rcases hst with ⟨rfl, htail, hfill⟩ | ⟨hln, b, val2, acts2, b1, b2, b3, hfill⟩
    · rcases Nat.lt_trichotomy i n with hin | rfl | hin
      · obtain ⟨o', ho', hy, _⟩ := e2 i (Nat.zero_le _) hin
        rw [hoi] at ho'; injection ho' with ho'; subst ho'
        have hy' : YieldsAt P ops w.drew oi (val i) a' := (hf i (by omega)).yields hfill (hmid.grd hoi) (fun cs b => hsel i oi cs b hoi) (fun d hdl j oj hj hdj => by
          obtain ⟨h1, h2⟩ := hmid.look hoi hj hdj hdl
          exact ⟨fun _ => waits_listed hoi hd h2, fun _ => h1⟩) hy
        refine wpOp_of_stOp (K := fun a'' => a'' = a'.put oi.dst (val i)) ?_ (hy'.stOp hoi rfl)
        rintro a'' rfl
        refine ⟨by simpa using hs, .inl ⟨rfl, fun j hj => ?_, ?_⟩⟩
        · have : i ≠ j := by omega
          simpa [this] using htail j hj
        · exact (hfill.put hmid hoi).congr fun j => (set_getD (by omega)).symm
      · rw [hno] at hoi; injection hoi with hoi; subst hoi
        have hall : ∀ d j, i - j = d → j < i → listed.getD j false = true := by
          intro d
          induction d using Nat.strongRecOn with
          | _ d ih =>
            intro j hjd hj
            obtain ⟨m, h1, h2, h3⟩ := hmid.sink hj
            by_cases e : m = i
            · subst e; exact waits_listed hno hd h3
            · have h4 := ih (i - m) (by omega) m rfl (by omega)
              obtain ⟨om, hom⟩ : ∃ om, ops[m]? = some om := ⟨_, Array.getElem?_eq_getElem (by omega)⟩
              exact waits_listed hom (fun e he hb => hcl m om hom h4 e he hb) h3
        have hae : a' = acts i := hfill.eq ((hf i (Nat.le_refl _)).congr fun j => ⟨fun hj => hall _ j rfl hj, fun hj => by
          rcases Nat.lt_or_ge j i with h | h
          · exact h
          · rw [htail j h] at hj; cases hj⟩)
        have hw : wpOp P ops Q i (fun a2 w2 => MidSt P ops i w.drew Q a val (listed.setIfInBounds i true) a2 w2) (acts i) w.drew := by
          unfold wpOp
          simp only [hno]
          have hwt : Region.wanted o (yielded ops (acts i).tmps) = true := by simp [Region.wanted, hmid.grd hno]
          rw [if_pos hwt]
          refine .inl (e3 _ fun a2 w2 h2 => ⟨by simpa using hs, .inr ⟨(set_getD (by omega)).2 (.inr rfl), ?_⟩⟩)
          obtain ⟨val2, acts2, c1, c2, c3⟩ := still_vals (ops := ops) (l.drop (i + 1)) (i + 1) a2 (fun j _ => by rw [List.getElem?_drop]; exact hel _) h2
          have c4 : i + 1 + (l.drop (i + 1)).length = ops.size := by rw [hsz]; simp; omega
          rw [c4] at c2 c3
          refine ⟨a2, val2, acts2, c1, c2, c3, (FillSt.none ops val2 a2).congr fun j => ⟨fun h => h.elim, fun hj => ?_⟩⟩
          have h5 := htail j (by omega)
          have h6 := ((set_getD (by omega)).1 hj.2).resolve_right (by omega)
          rw [h5] at h6; cases h6
        rw [hae]
        exact hw
      · obtain ⟨j, h1, h2, h3⟩ := hmid.hang hin hi
        have := waits_listed hoi hd h3
        rw [htail j h1] at this; cases this
    · have hin : n < i := by
        rcases Nat.lt_trichotomy i n with h | rfl | h
        · exfalso
          have hall : ∀ d j, n - j = d → j < n → listed.getD j false = true := by
            intro d
            induction d using Nat.strongRecOn with
            | _ d ih =>
              intro j hjd hj
              obtain ⟨m, h1, h2, h3⟩ := hmid.sink hj
              have h4 : listed.getD m false = true := by
                by_cases e : m = n
                · subst e; exact hln
                · exact ih (n - m) (by omega) m rfl (by omega)
              obtain ⟨om, hom⟩ : ∃ om, ops[m]? = some om := ⟨_, Array.getElem?_eq_getElem (by omega)⟩
              exact waits_listed hom (fun e he hb => hcl m om hom h4 e he hb) h3
          have := hall _ i rfl h
          simp [show i < listed.size by omega] at hun this
          rw [hun] at this; cases this
        · exfalso
          simp [show i < listed.size by omega] at hun hln
          rw [hun] at hln; cases hln
        · exact h
      obtain ⟨o', ho', hy, _⟩ := b2 i (by omega) hi
      rw [hoi] at ho'; injection ho' with ho'; subst ho'
      have hg := acts_fill hmid b1 b2 (i - (n + 1)) (by omega)
      have e5 : n + 1 + (i - (n + 1)) = i := by omega
      rw [e5] at hg
      have hg' : FillSt ops val2 b (fun j => n + 1 ≤ j ∧ j < i) (acts2 i) := hg
      have hy' : YieldsAt P ops w' oi (val2 i) a' := hg'.yields hfill (hmid.grd hoi) (fun cs b => hsel i oi cs b hoi) (fun d hdl j oj hj hdj => by
        obtain ⟨h1, h2⟩ := hmid.look hoi hj hdj hdl
        exact ⟨fun h => ⟨by omega, waits_listed hoi hd h2⟩, fun h => ⟨by omega, h1⟩⟩) hy
      refine wpOp_of_stOp (K := fun a'' => a'' = a'.put oi.dst (val2 i)) ?_ (hy'.stOp hoi rfl)
      rintro a'' rfl
      refine ⟨by simpa using hs, .inr ⟨getD_set_true hln, b, val2, acts2, b1, b2, b3, ?_⟩⟩
      exact (hfill.put hmid hoi).congr fun j => by
        rw [set_getD (by omega)]
        constructor
        · rintro (⟨h1, h2⟩ | rfl)
          · exact ⟨h1, .inl h2⟩
          · exact ⟨hin, .inr rfl⟩
        · rintro ⟨h1, h2 | h2⟩
          · exact .inl ⟨h1, h2⟩
          · exact .inr h2
  · rintro listed a' w' ⟨hs, hst⟩ hr
    have hall : ∀ j, j < ops.size → listed.getD j false = true := by
      intro j
      induction j using Nat.strongRecOn with
      | _ j ih =>
        intro hj
        cases hl : listed.getD j false with
        | true => rfl
        | false =>
          exfalso
          obtain ⟨oj, hoj⟩ : ∃ oj, ops[j]? = some oj := ⟨_, Array.getElem?_eq_getElem hj⟩
          have : j ∈ Region.ready .any ops listed := mem_ready.2 ⟨by simpa [show j < listed.size by omega] using hl, oj, hoj, fun e he hb => by
            have h1 := hmid.low hoj e he hb
            exact ih _ h1 (by omega)⟩
          rw [hr] at this; cases this
    rcases hst with ⟨_, htail, _⟩ | ⟨_, b, val2, acts2, b1, b2, b3, hfill⟩
    · have := hall n hmid.lt
      rw [htail n (Nat.le_refl _)] at this; cases this
    · have hg := acts_fill hmid b1 b2 (ops.size - (n + 1)) (by have := hmid.lt; omega)
      have e5 : n + 1 + (ops.size - (n + 1)) = ops.size := by have := hmid.lt; omega
      rw [e5] at hg
      have hae : a' = acts2 ops.size := hfill.eq (hg.congr fun j => by
        constructor
        · rintro ⟨h1, h2⟩; exact ⟨by omega, hall j h2⟩
        · rintro ⟨h1, h2⟩
          refine ⟨by omega, ?_⟩
          rcases Nat.lt_or_ge j ops.size with h | h
          · exact h
          · simp [Array.getElem?_eq_none (show listed.size ≤ j by omega)] at h2)
      rw [hae]
      exact b3
  · refine ⟨by simp, .inl ⟨rfl, fun j _ => getD_replicate_false _ _, (FillSt.none ops val a).congr fun j => ⟨fun h => h.elim, fun h => ?_⟩⟩⟩
    rw [getD_replicate_false] at h; cases h
  · intro j oj _ hl
    rw [getD_replicate_false] at hl; cases hl
  · simp

end Go.Proofs.Ytdnkfgnjeibjeaa

namespace Go.Proofs.Ytdnkfgnjeibjeaa
open Go.RowKit Go.Shelf

/-- A region whose first f operations may float (they read), and whose others stand in one forced order; at operation f + c no float is left. -/
def floatB (ops : Array Oper) (f c : Nat) : Bool :=
  Region.noSelect ops && decide (f ≤ ops.size) &&
  (List.range ops.size).all fun i =>
    match ops[i]? with
    | none => false
    | some o => o.guard.isNone && (o.after.all fun e => !Region.binds .any e || decide (e.on < i)) &&
      ((List.range ops.size).all fun j =>
        match ops[j]? with
        | none => false
        | some oj =>
          match oj.dst with
          | none => true
          | some d => (!(o.looksAt ops).contains d || (decide (j < i) && Region.waitsFor .any ops i j) || (decide (i < j) && Region.waitsFor .any ops j i)) && (decide (i = j) || o.dst != some d)) &&
      (decide (i ≤ f) || Region.waitsFor .any ops i (i - 1)) &&
      (decide (i ≠ f + c) || (List.range f).all fun j => Region.waitsFor .any ops i j)

structure Float (ops : Array Oper) (f c : Nat) : Prop where
  sel : Region.noSelect ops = true
  le : f ≤ ops.size
  grd : ∀ {i : Nat} {o : Oper}, ops[i]? = some o → o.guard = none
  low : ∀ {i : Nat} {o : Oper}, ops[i]? = some o → ∀ e ∈ o.after, Region.binds .any e = true → e.on < i
  look : ∀ {i j : Nat} {o oj : Oper} {d : Tmp}, ops[i]? = some o → ops[j]? = some oj → oj.dst = some d → d ∈ o.looksAt ops → (j < i ∧ Region.waitsFor .any ops i j = true) ∨ (i < j ∧ Region.waitsFor .any ops j i = true)
  dist : ∀ {i j : Nat} {o oj : Oper} {d : Tmp}, ops[i]? = some o → ops[j]? = some oj → i ≠ j → oj.dst = some d → o.dst ≠ some d
  chain : ∀ {i : Nat}, f < i → i < ops.size → Region.waitsFor .any ops i (i - 1) = true
  gone : ∀ {j : Nat}, f + c < ops.size → j < f → Region.waitsFor .any ops (f + c) j = true

theorem float_of {ops : Array Oper} {f c : Nat} (h : floatB ops f c = true) : Float ops f c := by
  unfold floatB at h
  simp only [Bool.and_eq_true, decide_eq_true_eq, List.all_eq_true, List.mem_range] at h
  obtain ⟨⟨h1, h2⟩, h3⟩ := h
  have key : ∀ {i : Nat} {o : Oper}, ops[i]? = some o → ((((o.guard.isNone = true ∧ (o.after.all fun e => !Region.binds .any e || decide (e.on < i)) = true) ∧
      ∀ j, j < ops.size → (match ops[j]? with | none => false | some oj => match oj.dst with | none => true | some d => (!(o.looksAt ops).contains d || (decide (j < i) && Region.waitsFor .any ops i j) || (decide (i < j) && Region.waitsFor .any ops j i)) && (decide (i = j) || o.dst != some d)) = true) ∧
      (decide (i ≤ f) || Region.waitsFor .any ops i (i - 1)) = true) ∧
      (decide (i ≠ f + c) || (List.range f).all fun j => Region.waitsFor .any ops i j) = true) := by
    intro i o ho
    have hi : i < ops.size := (Array.getElem?_eq_some_iff.1 ho).1
    have := h3 i hi
    rw [ho] at this
    simpa only [Bool.and_eq_true, List.all_eq_true, List.mem_range] using this
  have two : ∀ {i j : Nat} {o oj : Oper} {d : Tmp}, ops[i]? = some o → ops[j]? = some oj → oj.dst = some d → ((!(o.looksAt ops).contains d || (decide (j < i) && Region.waitsFor .any ops i j) || (decide (i < j) && Region.waitsFor .any ops j i)) && (decide (i = j) || o.dst != some d)) = true := by
    intro i j o oj d ho hj hd
    have := (key ho).1.1.2 j (Array.getElem?_eq_some_iff.1 hj).1
    rw [hj] at this
    simpa only [hd] using this
  refine ⟨h1, h2, fun ho => ?_, fun ho e he hb => ?_, fun ho hj hd hl => ?_, fun ho hj hij hd => ?_, fun {i} hi hs => ?_, fun {j} hs hj => ?_⟩
  · have := (key ho).1.1.1.1
    simpa using this
  · have h4 := (key ho).1.1.1.2
    rw [Array.all_eq_true'] at h4
    have := h4 e he
    rw [hb] at this
    simpa using this
  · have := two ho hj hd
    simp only [Bool.and_eq_true, Bool.or_eq_true, decide_eq_true_eq] at this
    rcases this.1 with (h | h) | h
    · exfalso
      rw [List.contains_iff_mem.2 hl] at h
      cases h
    · exact .inl h
    · exact .inr h
  · have := two ho hj hd
    simp only [Bool.and_eq_true, Bool.or_eq_true, decide_eq_true_eq] at this
    rcases this.2 with h | h
    · exact absurd h hij
    · simpa using h
  · obtain ⟨o, ho⟩ : ∃ o, ops[i]? = some o := ⟨_, Array.getElem?_eq_getElem hs⟩
    have := (key ho).1.2
    simp only [Bool.or_eq_true, decide_eq_true_eq] at this
    rcases this with h | h
    · omega
    · exact h
  · obtain ⟨o, ho⟩ : ∃ o, ops[f + c]? = some o := ⟨_, Array.getElem?_eq_getElem hs⟩
    have := (key ho).2
    simp only [Bool.or_eq_true, decide_eq_true_eq, List.all_eq_true, List.mem_range] at this
    rcases this with h | h
    · exact absurd rfl h
    · exact h j hj

theorem Float.dist' {ops : Array Oper} {f c : Nat} (h : Float ops f c) : ∀ {i j : Nat} {o oj : Oper} {d : Tmp}, ops[i]? = some o → ops[j]? = some oj → i ≠ j → oj.dst = some d → o.dst ≠ some d := fun a b c d => h.dist a b c d

section
variable {P : Program} {ops : Array Oper} {val val' : Nat → Value} {a a' a1 a2 : Act} {L L' : Nat → Prop}

theorem FillSt.put' (hdist : ∀ {i j : Nat} {o oj : Oper} {d : Tmp}, ops[i]? = some o → ops[j]? = some oj → i ≠ j → oj.dst = some d → o.dst ≠ some d) (h : FillSt ops val a L a') {i : Nat} {oi : Oper} (hi : ops[i]? = some oi) : FillSt ops val a (fun j => L j ∨ j = i) (a'.put oi.dst (val i)) := by
  cases hd : oi.dst with
  | none =>
    refine ⟨h.defers, h.size, fun s hs => h.old s fun j oj ho hj => hs j oj ho (.inl hj), fun s j oj ho hj hds hlt => ?_⟩
    rcases hj with hj | rfl
    · exact h.new s j oj ho hj hds hlt
    · rw [hi] at ho; injection ho with ho; subst ho; rw [hd] at hds; cases hds
  | some d =>
    refine ⟨h.defers, by simpa [Act.put] using h.size, fun s hs => ?_, fun s j oj ho hj hds hlt => ?_⟩
    · have hne : d ≠ s := fun e => hs i oi hi (.inr rfl) (e ▸ hd)
      simp only [Act.put, Array.getElem?_setIfInBounds_ne hne]
      exact h.old s fun j oj ho hj => hs j oj ho (.inl hj)
    · by_cases e : j = i
      · subst e
        rw [hi] at ho; injection ho with ho; subst ho
        rw [hd] at hds; injection hds with hds; subst hds
        have : d < a'.tmps.size := by rw [h.size]; exact hlt
        simp [Act.put, this]
      · have hj' := hj.resolve_right e
        have hne : d ≠ s := fun e' => hdist ho hi e hd (e' ▸ hds)
        simp only [Act.put, Array.getElem?_setIfInBounds_ne hne]
        exact h.new s j oj ho hj' hds hlt

theorem FillSt.revalue (h : FillSt ops val a L a') (hv : ∀ j, L j → val j = val' j) : FillSt ops val' a L a' :=
  ⟨h.defers, h.size, h.old, fun s j oj ho hj hd hs => by rw [← hv j hj]; exact h.new s j oj ho hj hd hs⟩

theorem FillSt.evals (h1 : FillSt ops val a L a1) (h2 : FillSt ops val a L' a2) {o : Oper} (hl : ∀ d, d ∈ o.looksAt ops → ∀ j oj, ops[j]? = some oj → oj.dst = some d → (L j ↔ L' j)) : ∀ x ∈ o.op.operands, a2.eval x = a1.eval x := by
  intro x hx
  cases x with
  | tmp d =>
    have hd : d ∈ o.looksAt ops := List.mem_append_left _ (List.mem_filterMap.2 ⟨.tmp d, by simpa using hx, rfl⟩)
    have := h2.get h1 (s := d) fun j oj ho hdd => (hl d hd j oj ho hdd).symm
    simp [Act.eval, this]
  | _ => rfl

/-- Nothing that goes out of a function. -/
abbrev NoOut : Exit → Act → World → Prop := fun _ _ _ => False

theorem wp_move {o : Oper} {b b' : Act} {w : World} {K K' : Act → World → Prop} {Q : Exit → Act → World → Prop} (he : execOp b'.eval o = execOp b.eval o) (h : o.wp P b w K NoOut) (hK : ∀ v w', K (b.put o.dst v) w' → K' (b'.put o.dst v) w') (hd : ∀ a w', K a w' → a.defers = b.defers) : o.wp P b' w K' Q := by
  unfold Oper.wp at *
  rw [he]
  generalize (execOp b.eval o).run P w = r at h
  cases r with
  | ok n w' =>
    cases n <;> simp only [Oper.upon] at h ⊢
    case value v => exact hK _ _ h
    case skip => exact hK _ _ h
    case defer d =>
      exfalso
      have := hd _ _ h
      cases hdst : o.dst <;> simp [Act.put, hdst] at this
    case enter f args =>
      refine h.mono fun e w'' he' => ?_
      cases e with
      | returned v => exact hK _ _ he'
      | panicked ch => exact he'.elim
      | outgrown => obtain ⟨_, _, hf⟩ := he'; exact hf.elim
    case row row args => exact h.mono fun v w'' hv => hK _ _ hv
  | halt x w' =>
    cases x <;> simp only [Oper.upon] at h
    exact h.elim

/-- The floats: each yields one value, in whatever world of C. -/
def wpFloat (P : Program) (ops : Array Oper) (C : World → Prop) (Q : Act → Prop) : List Oper → Act → Prop
  | [], a => Q a
  | o :: rest, a => ∃ v, (∀ w, C w → (execOp a.eval o).run P w = .ok (.value v) w) ∧ wpFloat P ops C Q rest (a.put o.dst v)

/-- The chain: as long as floats may come, the world stays in C. -/
def wpChain (P : Program) (C : World → Prop) (Q : Exit → Act → World → Prop) : Nat → List Oper → Act → World → Prop
  | _, [], a, w => Q .normal a w
  | c, o :: rest, a, w => o.wp P a w (fun a' w' => a'.defers = a.defers ∧ (0 < c → C w') ∧ wpChain P C Q (c - 1) rest a' w') NoOut

theorem float_vals {C : World → Prop} {Q : Act → Prop} : ∀ (l : List Oper) (k : Nat) (a : Act), (∀ j, j < l.length → l[j]? = ops[k + j]?) → wpFloat P ops C Q l a →
    ∃ (val : Nat → Value) (acts : Nat → Act), acts k = a ∧ (∀ j, k ≤ j → j < k + l.length → ∃ o, ops[j]? = some o ∧ (∀ w, C w → (execOp (acts j).eval o).run P w = .ok (.value (val j)) w) ∧ acts (j + 1) = (acts j).put o.dst (val j)) ∧ Q (acts (k + l.length))
  | [], k, a, _, h => ⟨fun _ => undef, fun _ => a, rfl, fun j h1 h2 => by simp at h2; omega, h⟩
  | o :: l, k, a, hl, h => by
    have h0 : ops[k]? = some o := by simpa using (hl 0 (by simp)).symm
    obtain ⟨v, hy, hK⟩ := h
    obtain ⟨val, acts, e1, e2, e3⟩ := float_vals l (k + 1) _ (fun j hj => by have := hl (j + 1) (by simp; omega); simpa [Nat.add_assoc, Nat.add_comm 1 j] using this) hK
    refine ⟨fun j => if j = k then v else val j, fun j => if j = k then a else acts j, by simp, fun j h1 h2 => ?_, ?_⟩
    · by_cases e : j = k
      · subst e
        refine ⟨o, h0, by simpa using hy, ?_⟩
        have : ¬ j + 1 = j := by omega
        simp only [this, if_false, if_true]
        exact e1
      · obtain ⟨o', ho', hy', ha'⟩ := e2 j (by omega) (by simp at h2; omega)
        refine ⟨o', ho', by simpa [e] using hy', ?_⟩
        have : ¬ j + 1 = k := by omega
        simp only [this, e, if_false]
        exact ha'
    · have : ¬ k + (o :: l).length = k := by simp
      simp only [this, if_false]
      have e4 : k + (o :: l).length = k + 1 + l.length := by simp; omega
      rw [e4]
      exact e3

theorem float_fill (hdist : ∀ {i j : Nat} {o oj : Oper} {d : Tmp}, ops[i]? = some o → ops[j]? = some oj → i ≠ j → oj.dst = some d → o.dst ≠ some d) {acts : Nat → Act} {m : Nat} {R : Nat → Oper → Prop} (ha : acts 0 = a) (h : ∀ j, j < m → ∃ o, ops[j]? = some o ∧ R j o ∧ acts (j + 1) = (acts j).put o.dst (val j)) :
    ∀ d, d ≤ m → FillSt ops val a (fun j => j < d) (acts d) := by
  intro d
  induction d with
  | zero => intro _; rw [ha]; exact (FillSt.none ops val a).congr fun j => by simp
  | succ d ih =>
    intro hd
    obtain ⟨o, ho, _, e⟩ := h d (by omega)
    have := (ih (by omega)).put' hdist ho
    rw [← e] at this
    exact this.congr fun j => by constructor <;> intro hj <;> omega

end

/-- A region that draws its order: reads that may float, and one chain. -/
theorem wp_region_float {P : Program} {id : Nat} {Q : Exit → Act → World → Prop} {a : Act} {w : World} {l : List Oper} (f c : Nat) (C : World → Prop) (hm : P.follows .mixedOrders = true) (hB : floatB l.toArray f c = true) (hC : C w.drew)
    (h : wpFloat P l.toArray C (fun b => wpChain P C Q c (l.drop f) b w.drew) (l.take f) a) : (Code.region id l.toArray true).wp P Q a w := by
  have hfl := float_of hB
  have hle : f ≤ l.length := by simpa using hfl.le
  generalize hops : l.toArray = ops at *
  have hsz : ops.size = l.length := by rw [← hops]; simp
  have htl : (l.take f).length = f := by simp; omega
  have hel : ∀ j : Nat, l[j]? = ops[j]? := fun j => by rw [← hops]; simp
  obtain ⟨val, acts, e1, e2, e3⟩ := float_vals (ops := ops) (l.take f) 0 a (fun j hj => by
    rw [htl] at hj
    rw [List.getElem?_take_of_lt hj, Nat.zero_add]
    exact hel j) h
  rw [htl, Nat.zero_add] at e3
  simp only [htl, Nat.zero_add, Nat.zero_le, true_imp_iff] at e2
  have hfill := fun (val' : Nat → Value) (hv : ∀ j, j < f → val j = val' j) (d : Nat) (hd : d ≤ f) => ((float_fill hfl.dist' e1 e2) d hd).revalue (val' := val') fun j hj => hv j (by omega)
  have hsel := Region.noSelect_spec hfl.sel
  -- what has been carried out: some floats, t of the chain
  let St : Array Bool → Act → World → Prop := fun listed a' w' => listed.size = ops.size ∧ ∃ (t : Nat) (b : Act) (val' : Nat → Value), f + t ≤ ops.size ∧ (∀ j, j < f → val j = val' j) ∧ (∀ j, f ≤ j → (listed.getD j false = true ↔ j < f + t)) ∧
    (t ≤ c → C w') ∧ wpChain P C Q (c - t) (l.drop (f + t)) b w' ∧ FillSt ops val' a (fun j => j < f + t) b ∧ FillSt ops val' a (fun j => listed.getD j false = true) a'
  refine wp_region_any hm (wpAny_inv St ?_ ?_ _ _ _ _ ?_ ?_ ?_)
  · rintro listed a' w' i oi ⟨hs, t, b, val', ht, hv, hch, hCw, hwp, hfb, hfa⟩ hcl hoi hun hd
    have hi : i < ops.size := (Array.getElem?_eq_some_iff.1 hoi).1
    have hun' : listed.getD i false = false := by
      simp [show i < listed.size by omega] at hun ⊢; exact hun
    rcases Nat.lt_or_ge i f with hif | hif
    · -- a float
      have htc : t ≤ c := by
        rcases Nat.lt_or_ge c t with h' | h'
        · exfalso
          have hfc : f + c < ops.size := by omega
          obtain ⟨oc, hoc⟩ : ∃ oc, ops[f + c]? = some oc := ⟨_, Array.getElem?_eq_getElem hfc⟩
          have h1 := (hch (f + c) (by omega)).2 (by omega)
          have h2 := waits_listed hoc (fun e he hb => hcl _ oc hoc h1 e he hb) (hfl.gone hfc hif)
          rw [hun'] at h2; cases h2
        · exact h'
      obtain ⟨o', ho', hy, _⟩ := e2 i hif
      rw [hoi] at ho'; injection ho' with ho'; subst ho'
      have hev := (hfill val' hv i (by omega)).evals hfa (o := oi) (fun d hdl j oj hj hdj => by
        rcases hfl.look hoi hj hdj hdl with ⟨h1, h2⟩ | ⟨h1, h2⟩
        · exact ⟨fun _ => waits_listed hoi hd h2, fun _ => h1⟩
        · refine ⟨fun h => by omega, fun h => ?_⟩
          have h3 := waits_listed hj (fun e he hb => hcl _ oj hj h e he hb) h2
          rw [hun'] at h3; cases h3)
      have hrun : (execOp a'.eval oi).run P w' = .ok (.value (val' i)) w' := by
        rw [execOp_congr oi (fun cs b => hsel i oi cs b hoi) hev, ← hv i hif]
        exact hy w' (hCw htc)
      unfold wpOp
      simp only [hoi]
      have hwt : Region.wanted oi (yielded ops a'.tmps) = true := by simp [Region.wanted, hfl.grd hoi]
      rw [if_pos hwt]
      refine .inl ?_
      unfold Oper.wp
      rw [hrun, Oper.upon_value]
      refine ⟨by simpa using hs, t, b, val', ht, hv, fun j hj => ?_, hCw, hwp, hfb, (hfa.put' hfl.dist' hoi).congr fun j => (set_getD (by omega)).symm⟩
      rw [set_getD (by omega)]
      have := hch j hj
      constructor
      · rintro (h1 | h1)
        · exact this.1 h1
        · omega
      · intro h1; exact .inl (this.2 h1)
    · -- the chain's next
      have hit : i = f + t := by
        have h1 := hch i hif
        rw [hun'] at h1
        have hge : f + t ≤ i := by
          rcases Nat.lt_or_ge i (f + t) with h' | h'
          · exact absurd (h1.2 h') (by simp)
          · exact h'
        rcases Nat.lt_or_ge (f + t) i with h' | h'
        · exfalso
          have h2 := waits_listed hoi hd (hfl.chain (by omega) hi)
          have h3 := (hch (i - 1) (by omega)).1 h2
          omega
        · omega
      subst hit
      have hdrop : l.drop (f + t) = oi :: l.drop (f + t + 1) := by
        have h1 : l[f + t]? = some oi := (hel _).trans hoi
        obtain ⟨h2, h3⟩ := List.getElem?_eq_some_iff.1 h1
        rw [List.drop_eq_getElem_cons h2, h3]
      rw [hdrop] at hwp
      have hev := hfb.evals hfa (o := oi) (fun d hdl j oj hj hdj => by
        rcases hfl.look hoi hj hdj hdl with ⟨h1, h2⟩ | ⟨h1, h2⟩
        · exact ⟨fun _ => waits_listed hoi hd h2, fun _ => h1⟩
        · refine ⟨fun h => by omega, fun h => ?_⟩
          have h3 := waits_listed hj (fun e he hb => hcl _ oj hj h e he hb) h2
          rw [hun'] at h3; cases h3)
      unfold wpOp
      simp only [hoi]
      have hwt : Region.wanted oi (yielded ops a'.tmps) = true := by simp [Region.wanted, hfl.grd hoi]
      rw [if_pos hwt]
      refine .inl (wp_move (execOp_congr oi (fun cs b => hsel _ oi cs b hoi) hev) hwp (fun v w'' hK => ?_) (fun _ _ hK => hK.1))
      obtain ⟨_, hC', hrest⟩ := hK
      let val2 : Nat → Value := fun j => if j = f + t then v else val' j
      have hv2 : val2 (f + t) = v := by simp [val2]
      have hv3 : ∀ j, j ≠ f + t → val' j = val2 j := fun j hj => by simp [val2, hj]
      have f1 := (hfb.revalue (val' := val2) fun j hj => hv3 j (by omega)).put' hfl.dist' hoi
      have f2 := (hfa.revalue (val' := val2) fun j hj => hv3 j (fun e => by rw [e, hun'] at hj; cases hj)).put' hfl.dist' hoi
      rw [hv2] at f1 f2
      refine ⟨by simpa using hs, t + 1, _, val2, by omega, fun j hj => (hv j hj).trans (hv3 j (by omega)), fun j hj => ?_, fun htc => hC' (by omega), ?_, f1.congr fun j => by omega, f2.congr fun j => (set_getD (by omega)).symm⟩
      · rw [set_getD (by omega)]
        have := hch j hj
        constructor
        · rintro (h1 | h1)
          · have := this.1 h1; omega
          · omega
        · intro h1
          rcases Nat.lt_or_ge j (f + t) with h' | h'
          · exact .inl (this.2 h')
          · exact .inr (by omega)
      · rw [show c - (t + 1) = c - t - 1 by omega, show f + (t + 1) = f + t + 1 by omega]
        exact hrest
  · rintro listed a' w' ⟨hs, t, b, val', ht, hv, hch, hCw, hwp, hfb, hfa⟩ hr
    have hall : ∀ j, j < ops.size → listed.getD j false = true := by
      intro j
      induction j using Nat.strongRecOn with
      | _ j ih =>
        intro hj
        cases hl : listed.getD j false with
        | true => rfl
        | false =>
          exfalso
          obtain ⟨oj, hoj⟩ : ∃ oj, ops[j]? = some oj := ⟨_, Array.getElem?_eq_getElem hj⟩
          have : j ∈ Region.ready .any ops listed := mem_ready.2 ⟨by simpa [show j < listed.size by omega] using hl, oj, hoj, fun e he hb => by
            have h1 := hfl.low hoj e he hb
            exact ih _ h1 (by omega)⟩
          rw [hr] at this; cases this
    have hte : f + t = ops.size := by
      rcases Nat.lt_or_ge (f + t) ops.size with h' | h'
      · have := (hch (f + t) (by omega)).1 (hall _ h'); omega
      · omega
    have hab : a' = b := hfa.eq (hfb.congr fun j => by
      constructor
      · intro h1; exact hall j (by omega)
      · intro h1
        rcases Nat.lt_or_ge j ops.size with h' | h'
        · omega
        · simp [Array.getElem?_eq_none (show listed.size ≤ j by omega)] at h1)
    have hnil : l.drop (f + t) = [] := List.drop_of_length_le (by omega)
    rw [hnil] at hwp
    rw [hab]
    exact hwp
  · refine ⟨by simp, 0, acts f, val, by omega, fun _ _ => rfl, fun j hj => ?_, fun _ => hC, by simpa using e3, hfill val (fun _ _ => rfl) f (Nat.le_refl _), (FillSt.none ops val a).congr fun j => ⟨fun h => h.elim, fun h => ?_⟩⟩
    · rw [getD_replicate_false]
      constructor
      · intro h; cases h
      · intro h; omega
    · rw [getD_replicate_false] at h; cases h
  · intro j oj _ hl
    rw [getD_replicate_false] at hl; cases hl
  · simp

theorem wpFloat_step {P : Program} {ops : Array Oper} {C : World → Prop} {Q : Act → Prop} {o : Oper} {rest : List Oper} {a : Act} (v : Value) (h : ∀ w, C w → (execOp a.eval o).run P w = .ok (.value v) w) (hn : wpFloat P ops C Q rest (a.put o.dst v)) : wpFloat P ops C Q (o :: rest) a := ⟨v, h, hn⟩

theorem wpFloat_ex {P : Program} {ops : Array Oper} {C : World → Prop} {Q : Act → Prop} {o : Oper} {rest : List Oper} {a : Act}
    (h : ∀ K : Act → Prop, (∀ a', wpFloat P ops C Q rest a' → K a') → ∃ v, (∀ w, C w → (execOp a.eval o).run P w = .ok (.value v) w) ∧ K (a.put o.dst v)) : wpFloat P ops C Q (o :: rest) a := h _ fun _ h => h

theorem wpFloat_nil {P : Program} {ops : Array Oper} {C : World → Prop} {Q : Act → Prop} {a : Act} (h : Q a) : wpFloat P ops C Q [] a := h

theorem wpChain_nil {P : Program} {C : World → Prop} {Q : Exit → Act → World → Prop} {c : Nat} {a : Act} {w : World} (h : Q .normal a w) : wpChain P C Q c [] a w := h

theorem wpChain_step {P : Program} {C : World → Prop} {Q : Exit → Act → World → Prop} {c : Nat} {o : Oper} {rest : List Oper} {a : Act} {w : World}
    (h : ∀ K : Act → World → Prop, (∀ a' w', a'.defers = a.defers → (0 < c → C w') → wpChain P C Q (c - 1) rest a' w' → K a' w') → o.wp P a w K NoOut) : wpChain P C Q c (o :: rest) a w :=
  h _ fun _ _ h1 h2 h3 => ⟨h1, h2, h3⟩

end Go.Proofs.Ytdnkfgnjeibjeaa

namespace Go.Proofs.Ytdnkfgnjeibjeaa
open Go.RowKit Go.Shelf

abbrev o16 (dst : Option Nat) (op : Op) (type : TypeId) (after : Array Edge) : Oper := { dst := dst, op := op, type := type, pos := "gate.go:245", after := after, guard := none }

/-- 'in.queue = append(in.queue, own(x))' -/
abbrev ops16 : Array Oper := #[
  o16 (some 118) (.move (.tmp 8)) 90 #[],
  o16 (some 119) (.move (.tmp 8)) 90 #[],
  o16 (some 120) (.nilCheck (.tmp 119)) 0 #[{ on := 1, ground := .data }],
  o16 (some 121) (.fieldAddr 92 (.tmp 120) 2) 0 #[{ on := 2, ground := .data }],
  o16 (some 122) (.load 49 (.tmp 121)) 49 #[{ on := 3, ground := .data }],
  o16 (some 123) (.load 34 (.tmp 5)) 34 #[],
  o16 (some 124) (.call { callee := .value (.func 43), args := #[.tmp 123], argTypes := #[34] }) 34 #[{ on := 5, ground := .data }],
  o16 (some 125) (.buildSlice 49 1 #[(0, .tmp 124)]) 49 #[{ on := 6, ground := .data }],
  o16 (some 126) (.call { callee := .builtin .append, args := #[.tmp 122, .tmp 125], argTypes := #[49, 49] }) 49 #[{ on := 4, ground := .data }, { on := 7, ground := .data }, { on := 6, ground := .chain }],
  o16 (some 127) (.nilCheck (.tmp 118)) 0 #[{ on := 0, ground := .data }, { on := 0, ground := .phase }, { on := 1, ground := .phase }, { on := 2, ground := .phase }, { on := 3, ground := .phase }, { on := 4, ground := .phase }, { on := 5, ground := .phase }, { on := 6, ground := .phase }, { on := 7, ground := .phase }, { on := 8, ground := .phase }],
  o16 (some 128) (.fieldAddr 92 (.tmp 127) 2) 0 #[{ on := 9, ground := .data }, { on := 0, ground := .phase }, { on := 1, ground := .phase }, { on := 2, ground := .phase }, { on := 3, ground := .phase }, { on := 4, ground := .phase }, { on := 5, ground := .phase }, { on := 6, ground := .phase }, { on := 7, ground := .phase }, { on := 8, ground := .phase }],
  o16 none (.store 49 (.tmp 128) (.tmp 126)) 0 #[{ on := 10, ground := .data }, { on := 8, ground := .data }, { on := 8, ground := .chain }, { on := 0, ground := .phase }, { on := 1, ground := .phase }, { on := 2, ground := .phase }, { on := 3, ground := .phase }, { on := 4, ground := .phase }, { on := 5, ground := .phase }, { on := 6, ground := .phase }, { on := 7, ground := .phase }, { on := 8, ground := .phase }]]

theorem info34 : (Try.prog.info? 34).map (fun i => (i.zero, i.size, i.bytes)) = some (some (.agg #[.int .i64 0, .int .i64 0, .int .i64 0, .slice none 0 0, .int .i64 0]), 5, 56) := by kernel_rfl

section walks
set_option maxHeartbeats 1000000
set_option maxRecDepth 100000

/-- What slots 118 to 128 come to hold. -/
def val16 (b : Nat) (qv : Value) (x : Elem) (r r5 x7 x8 : Value) : Nat → Value
  | 0 => .pointer (some ⟨b, 0, none⟩)
  | 1 => .pointer (some ⟨b, 0, none⟩)
  | 2 => .pointer (some ⟨b, 0, none⟩)
  | 3 => .pointer (some ⟨b, 2, none⟩)
  | 4 => qv
  | 5 => ev x r
  | 6 => ev x r5
  | 7 => x7
  | 8 => x8
  | 9 => .pointer (some ⟨b, 0, none⟩)
  | _ => .pointer (some ⟨b, 2, none⟩)

/-- The row's copy is there. -/
def Own16 (w0 w : World) (x : Elem) (r5 : Value) : Prop := RowAt w (fun c => w0.heap.size ≤ c) r5 x.row ∧ Below w0.heap.size w0 w

/-- The queue has grown. -/
def App16 (w0 w : World) (x : Elem) (r5 x8 : Value) (n : Nat) (xs : List Value) (blk : Option Nat) : Prop :=
  ∃ w7 blk', Own16 w0 w7 x r5 ∧ w7.grownBy w blk ∧ SlOwn w 34 5 x8 (n + 1) (xs ++ ecl (x, r5)) blk' ∧ (blk' = blk ∨ blk' = some w7.heap.size)

/-- The state inside the region. -/
def St16 (base : Array Value) (b n : Nat) (qv : Value) (xs : List Value) (blk : Option Nat) (x : Elem) (r : Value) (w0 : World) (listed : Array Bool) (a : Act) (w : World) : Prop :=
  ∃ r5 x7 x8, listed.size = 12 ∧ a = { tmps := fillT base 118 11 (val16 b qv x r r5 x7 x8) listed, defers := [] } ∧
    ((listed.getD 6 false = false ∧ listed.getD 7 false = false ∧ listed.getD 8 false = false ∧ listed.getD 11 false = false ∧ w = w0.drew) ∨
     (listed.getD 6 false = true ∧ listed.getD 7 false = false ∧ listed.getD 8 false = false ∧ listed.getD 11 false = false ∧ Own16 w0 w x r5) ∨
     (listed.getD 7 false = true ∧ listed.getD 8 false = false ∧ listed.getD 11 false = false ∧ Own16 w0 w x r5 ∧ Src w 5 x7 1 (ecl (x, r5))) ∨
     (listed.getD 8 false = true ∧ listed.getD 11 false = false ∧ App16 w0 w x r5 x8 n xs blk) ∨
     (listed.getD 11 false = true ∧ ∃ w8, App16 w0 w8 x r5 x8 n xs blk ∧ w = w8.setCell ⟨b, 2, none⟩ x8))

theorem closed16_8 {listed : Array Bool} (hc : Closed .any ops16 listed) (h : listed.getD 8 false = true) : ∀ k, 1 ≤ k → k ≤ 8 → listed.getD k false = true := by
  have h4 := hc 8 _ rfl h { on := 4, ground := .data } (by simp) rfl
  have h7 := hc 8 _ rfl h { on := 7, ground := .data } (by simp) rfl
  have h6 := hc 7 _ rfl h7 { on := 6, ground := .data } (by simp) rfl
  have h5 := hc 6 _ rfl h6 { on := 5, ground := .data } (by simp) rfl
  have h3 := hc 4 _ rfl h4 { on := 3, ground := .data } (by simp) rfl
  have h2 := hc 3 _ rfl h3 { on := 2, ground := .data } (by simp) rfl
  have h1 := hc 2 _ rfl h2 { on := 1, ground := .data } (by simp) rfl
  intro k hk hk'
  match k, hk, hk' with
  | 1, _, _ => exact h1
  | 2, _, _ => exact h2
  | 3, _, _ => exact h3
  | 4, _, _ => exact h4
  | 5, _, _ => exact h5
  | 6, _, _ => exact h6
  | 7, _, _ => exact h7
  | 8, _, _ => exact h

theorem closed16_11 {listed : Array Bool} (hc : Closed .any ops16 listed) (h : listed.getD 11 false = true) : ∀ k, k < 12 → listed.getD k false = true := by
  have h10 := hc 11 _ rfl h { on := 10, ground := .data } (by simp) rfl
  have h8 := hc 11 _ rfl h { on := 8, ground := .data } (by simp) rfl
  have h9 := hc 10 _ rfl h10 { on := 9, ground := .data } (by simp) rfl
  have h0 := hc 9 _ rfl h9 { on := 0, ground := .data } (by simp) rfl
  intro k hk
  match k, hk with
  | 0, _ => exact h0
  | 9, _ => exact h9
  | 10, _ => exact h10
  | 11, _ => exact h
  | k + 1, _ =>
    by_cases e : k + 1 ≤ 8
    · exact closed16_8 hc h8 (k + 1) (by omega) e
    · have : k + 1 = 9 ∨ k + 1 = 10 ∨ k + 1 = 11 := by omega
      rcases this with e | e | e <;> rw [e] <;> assumption

theorem region16_ok (b n bx : Nat) (qv : Value) (xs : List Value) (blk : Option Nat) (x : Elem) (r : Value) (base : Array Value) (w0 : World) (Q : Exit → Act → World → Prop)
    (hb : base.size = 134) (b5 : base[5]? = some (.pointer (some ⟨bx, 0, none⟩))) (b8 : base[8]? = some (.pointer (some ⟨b, 0, none⟩)))
    (xi : Inp) (hib : w0.heap[b]? = some (.cells (icl xi qv) 92 (0, 0))) (hblk : blk ≠ some b) (c0 : w0.cell? ⟨bx, 0, none⟩ = some (.int .i64 x.k)) (c1 : w0.cell? ⟨bx, 1, none⟩ = some (.int .i64 x.n)) (c2 : w0.cell? ⟨bx, 2, none⟩ = some (.int .i64 x.t)) (c3 : w0.cell? ⟨bx, 3, none⟩ = some r) (c4 : w0.cell? ⟨bx, 4, none⟩ = some (.int .i64 x.c))
    (hq : SlOwn w0 34 5 qv n xs blk) (hn : n ≤ 1000000)
    (hOwn : Calls Try.prog 43 #[ev x r] w0.drew (GivesElem w0.drew x))
    (hQ : ∀ r5 x7 x8 w8, App16 w0 w8 x r5 x8 n xs blk → Q .normal { tmps := fillT base 118 11 (val16 b qv x r r5 x7 x8) (Array.replicate 11 true), defers := [] } (w8.setCell ⟨b, 2, none⟩ x8)) :
    (Code.region 16 ops16 true).wp Try.prog Q { tmps := base, defers := [] } w0 := by
  obtain ⟨i0, hi0, hz0, hz1, hz2⟩ := info_parts info34
  have i2 := (blk5 hib).2.2.1
  refine wp_region_any (by kernel_rfl) (wpAny_inv (St16 base b n qv xs blk x r w0) ?_ ?_ _ _ _ _ ?_ ?_ ?_)
  · intro listed a w j oj hs hcl hoj hj0 hd
    obtain ⟨r5, x7, x8, hsz, rfl, hph⟩ := hs
    have hj : j < 12 := (Array.getElem?_eq_some_iff.1 hoj).1
    have hj1 := getD_tf hj0
    have hdep : ∀ k gr, { on := k, ground := gr } ∈ oj.after → gr = .data ∨ gr = .chain → listed.getD k false = true := fun k gr he hg => hd _ he (by rcases hg with rfl | rfl <;> rfl)
    have hnew : ∀ k, k < 11 → listed.getD k false = true → (fillT base 118 11 (val16 b qv x r r5 x7 x8) listed)[118 + k]?.getD undef = val16 b qv x r r5 x7 x8 k := fun k hk hl => by rw [fillT_new hk (by omega) hl]; rfl
    have hold : ∀ s v, s < 118 → base[s]? = some v → (fillT base 118 11 (val16 b qv x r r5 x7 x8) listed)[s]?.getD undef = v := fun s v hs hv => by rw [fillT_old (.inl hs), hv]; rfl
    have hput : ∀ k, k < 11 → (fillT base 118 11 (val16 b qv x r r5 x7 x8) listed).setIfInBounds (118 + k) (val16 b qv x r r5 x7 x8 k) = fillT base 118 11 (val16 b qv x r r5 x7 x8) (listed.setIfInBounds k true) := fun k hk => fillT_put hk (by omega) (by omega)
    -- a step that only reads
    have hread : j ≠ 6 → j ≠ 7 → j ≠ 8 → j ≠ 11 → (1 ≤ j → j ≤ 5 → ∀ A v, w0.cell? A = some v → w.cell? A = some v) ∧ (∀ v, v = val16 b qv x r r5 x7 x8 j → St16 base b n qv xs blk x r w0 (listed.setIfInBounds j true) { tmps := (fillT base 118 11 (val16 b qv x r r5 x7 x8) listed).setIfInBounds (118 + j) v, defers := [] } w) := by
      intro n6 n7 n8 n11
      refine ⟨?_, fun v hv => ?_⟩
      · intro h1 h5 A v hA
        have hlt := World.block_lt_of_cell? w0 A hA
        rcases hph with ⟨_, _, _, _, rfl⟩ | ⟨_, _, _, _, _, hbw⟩ | ⟨_, _, _, ⟨_, hbw⟩, _⟩ | ⟨h8, _⟩ | ⟨h11, _⟩
        · exact hA
        · rw [hbw.cell hlt]; exact hA
        · rw [hbw.cell hlt]; exact hA
        · rw [closed16_8 hcl h8 j h1 (by omega)] at hj1; cases hj1
        · rw [closed16_11 hcl h11 j hj] at hj1; cases hj1
      · rw [hv, hput j (by omega)]
        refine ⟨r5, x7, x8, by simpa using hsz, rfl, ?_⟩
        rw [set_other n6, set_other n7, set_other n8, set_other n11]
        exact hph
    match j, hj with
    | 0, _ =>
      injection hoj with hoj; subst hoj
      obtain ⟨hc, hk⟩ := hread (by omega) (by omega) (by omega) (by omega)
      have t8 := hold 8 _ (by omega) b8
      clear hread hput hold hnew hdep hd hb b5 b8 hOwn hQ
      generalize fillT base 118 11 _ listed = T at *
      try dsimp only [val16] at *
      refine wpOp_step (o := ops16[0]) rfl (fun K' hK' => ?_)
      have hgo := hK' _ _ (hk _ rfl)
      go_simp
      exact hgo
    | 1, _ =>
      injection hoj with hoj; subst hoj
      obtain ⟨hc, hk⟩ := hread (by omega) (by omega) (by omega) (by omega)
      have t8 := hold 8 _ (by omega) b8
      clear hread hput hold hnew hdep hd hb b5 b8 hOwn hQ
      generalize fillT base 118 11 _ listed = T at *
      try dsimp only [val16] at *
      refine wpOp_step (o := ops16[1]) rfl (fun K' hK' => ?_)
      have hgo := hK' _ _ (hk _ rfl)
      go_simp
      exact hgo
    | 2, _ =>
      injection hoj with hoj; subst hoj
      obtain ⟨hc, hk⟩ := hread (by omega) (by omega) (by omega) (by omega)
      have t119 := hnew 1 (by omega) (hdep 1 .data (by simp) (.inl rfl))
      clear hread hput hold hnew hdep hd hb b5 b8 hOwn hQ
      generalize fillT base 118 11 _ listed = T at *
      try dsimp only [val16] at *
      refine wpOp_step (o := ops16[2]) rfl (fun K' hK' => ?_)
      have hgo := hK' _ _ (hk _ rfl)
      go_simp
      exact hgo
    | 3, _ =>
      injection hoj with hoj; subst hoj
      obtain ⟨hc, hk⟩ := hread (by omega) (by omega) (by omega) (by omega)
      have t120 := hnew 2 (by omega) (hdep 2 .data (by simp) (.inl rfl))
      clear hread hput hold hnew hdep hd hb b5 b8 hOwn hQ
      generalize fillT base 118 11 _ listed = T at *
      try dsimp only [val16] at *
      refine wpOp_step (o := ops16[3]) rfl (fun K' hK' => ?_)
      have hgo := hK' _ _ (hk _ rfl)
      go_simp
      exact hgo
    | 4, _ =>
      injection hoj with hoj; subst hoj
      obtain ⟨hc, hk⟩ := hread (by omega) (by omega) (by omega) (by omega)
      have t121 := hnew 3 (by omega) (hdep 3 .data (by simp) (.inl rfl))
      have c := hc (by omega) (by omega) _ _ i2
      clear hread hput hold hnew hdep hd hb b5 b8 hOwn hQ
      generalize fillT base 118 11 _ listed = T at *
      try dsimp only [val16] at *
      refine wpOp_step (o := ops16[4]) rfl (fun K' hK' => ?_)
      have hgo := hK' _ _ (hk _ rfl)
      go_simp
      exact hgo
    | 5, _ =>
      injection hoj with hoj; subst hoj
      obtain ⟨hc, hk⟩ := hread (by omega) (by omega) (by omega) (by omega)
      have t5 := hold 5 _ (by omega) b5
      have d0 := hc (by omega) (by omega) _ _ c0
      have d1 := hc (by omega) (by omega) _ _ c1
      have d2 := hc (by omega) (by omega) _ _ c2
      have d3 := hc (by omega) (by omega) _ _ c3
      have d4 := hc (by omega) (by omega) _ _ c4
      clear hread hput hold hnew hdep hd hb b5 b8 hOwn hQ
      generalize fillT base 118 11 _ listed = T at *
      try dsimp only [val16] at *
      refine wpOp_step (o := ops16[5]) rfl (fun K' hK' => ?_)
      have hgo := hK' _ _ (hk _ rfl)
      go_simp
      exact hgo
    | 6, _ =>
      injection hoj with hoj; subst hoj
      have t123 := hnew 5 (by omega) (hdep 5 .data (by simp) (.inl rfl))
      obtain ⟨h7, h8, h11, hw⟩ : listed.getD 7 false = false ∧ listed.getD 8 false = false ∧ listed.getD 11 false = false ∧ w = w0.drew := by
        rcases hph with ⟨_, h7, h8, h11, hw⟩ | ⟨h, _⟩ | ⟨h, _⟩ | ⟨h, _⟩ | ⟨h, _⟩
        · exact ⟨h7, h8, h11, hw⟩
        · rw [hj1] at h; cases h
        · rw [hcl 7 _ rfl h { on := 6, ground := .data } (by simp) rfl] at hj1; cases hj1
        · rw [closed16_8 hcl h 6 (by omega) (by omega)] at hj1; cases hj1
        · rw [closed16_11 hcl h 6 (by omega)] at hj1; cases hj1
      have hfin : ∀ v w', Own16 w0 w' x v → St16 base b n qv xs blk x r w0 (listed.setIfInBounds 6 true) { tmps := (fillT base 118 11 (val16 b qv x r r5 x7 x8) listed).setIfInBounds (118 + 6) (ev x v), defers := [] } w' := by
        intro v w' hv
        refine ⟨v, x7, x8, by simpa using hsz, ?_, .inr (.inl ⟨set_same (by omega), (set_other (by omega)).trans h7, (set_other (by omega)).trans h8, (set_other (by omega)).trans h11, hv⟩)⟩
        rw [fillT_congr (val' := val16 b qv x r v x7 x8), ← fillT_put (i := 6) (by omega) (by omega) (by omega)]
        · rfl
        · intro k hk hl
          by_cases e9 : k = 6
          · subst e9; rw [hj1] at hl; cases hl
          · unfold val16
            split <;> first | rfl | exact absurd rfl e9
      subst hw
      have HL := Lib.hid hOwn
      clear hread hput hold hnew hdep hd hb b5 b8 hOwn hQ
      clear hph
      generalize fillT base 118 11 _ listed = T at *
      dsimp only [val16] at t123
      refine wpOp_step (o := ops16[6]) rfl (fun K' hK' => ?_)
      have hgo := fun v w' hv => hK' _ _ (hfin v w' hv)
      have HG := Lib.hid hgo
      clear hgo hfin hK'
      go_wp2_with (go_at_call 43; refine HL.out.mono ?_; rintro e' W2 ⟨x2, rfl, hx2, hb2⟩)
      exact HG.out x2 W2 ⟨hx2, ((Below.refl w0.heap.size w0).drew).trans hb2⟩
    | 7, _ =>
      injection hoj with hoj; subst hoj
      have l6 := hdep 6 .data (by simp) (.inl rfl)
      have t124 := hnew 6 (by omega) l6
      obtain ⟨h8, h11, hw⟩ : listed.getD 8 false = false ∧ listed.getD 11 false = false ∧ Own16 w0 w x r5 := by
        rcases hph with ⟨h, _⟩ | ⟨_, _, h8, h11, hw⟩ | ⟨h, _⟩ | ⟨h, _⟩ | ⟨h, _⟩
        · rw [l6] at h; cases h
        · exact ⟨h8, h11, hw⟩
        · rw [hj1] at h; cases h
        · rw [closed16_8 hcl h 7 (by omega) (by omega)] at hj1; cases hj1
        · rw [closed16_11 hcl h 7 (by omega)] at hj1; cases hj1
      obtain ⟨r5a, r5c, hr5, hr5r⟩ := hw.1
      have hw' := hw
      have hfin : ∀ v w', Own16 w0 w' x r5 → Src w' 5 v 1 (ecl (x, r5)) → St16 base b n qv xs blk x r w0 (listed.setIfInBounds 7 true) { tmps := (fillT base 118 11 (val16 b qv x r r5 x7 x8) listed).setIfInBounds (118 + 7) v, defers := [] } w' := by
        intro v w' hv hs
        refine ⟨r5, v, x8, by simpa using hsz, ?_, .inr (.inr (.inl ⟨set_same (by omega), (set_other (by omega)).trans h8, (set_other (by omega)).trans h11, hv, hs⟩))⟩
        rw [fillT_congr (val' := val16 b qv x r r5 v x8), ← fillT_put (i := 7) (by omega) (by omega) (by omega)]
        · rfl
        · intro k hk hl
          by_cases e9 : k = 7
          · subst e9; rw [hj1] at hl; cases hl
          · unfold val16
            split <;> first | rfl | exact absurd rfl e9
      clear hread hput hold hnew hdep hd hb b5 b8 hOwn hQ
      clear hph
      generalize fillT base 118 11 _ listed = T at *
      dsimp only [val16] at t124
      subst hr5
      refine wpOp_step (o := ops16[7]) rfl (fun K' hK' => ?_)
      have hgo := fun v w' hv hs => hK' _ _ (hfin v w' hv hs)
      have HG := Lib.hid hgo
      have HW := Lib.hid hw'
      clear hgo hfin hK' hw hw' hr5r
      go_simp
      refine HG.out _ _ ⟨HW.out.1.below ((Below.refl _ _).alloc (Nat.le_refl _) _), HW.out.2.alloc HW.out.2.size _⟩ ?_
      exact SlOwn.src (e := 34) (blk := some w.heap.size) ⟨rfl, .inr ⟨_, 0, 1, _, rfl, rfl, World.alloc_heap_new _ _, Nat.le_refl _, by simp [maxLen], by simp, rfl⟩⟩
    | 8, _ =>
      injection hoj with hoj; subst hoj
      have l4 := hdep 4 .data (by simp) (.inl rfl)
      have l7 := hdep 7 .data (by simp) (.inl rfl)
      have t122 : (fillT base 118 11 (val16 b qv x r r5 x7 x8) listed)[122]?.getD undef = qv := hnew 4 (by omega) l4
      have t125 : (fillT base 118 11 (val16 b qv x r r5 x7 x8) listed)[125]?.getD undef = x7 := hnew 7 (by omega) l7
      obtain ⟨h11, hw, hs⟩ : listed.getD 11 false = false ∧ Own16 w0 w x r5 ∧ Src w 5 x7 1 (ecl (x, r5)) := by
        rcases hph with ⟨_, h, _⟩ | ⟨_, h, _⟩ | ⟨_, _, h11, hw, hs⟩ | ⟨h, _⟩ | ⟨h, _⟩
        · rw [l7] at h; cases h
        · rw [l7] at h; cases h
        · exact ⟨h11, hw, hs⟩
        · rw [hj1] at h; cases h
        · rw [closed16_11 hcl h 8 (by omega)] at hj1; cases hj1
      obtain ⟨r5a, r5c, hr5, hr5r⟩ := hw.1
      have hfin : ∀ v w', App16 w0 w' x r5 v n xs blk → St16 base b n qv xs blk x r w0 (listed.setIfInBounds 8 true) { tmps := (fillT base 118 11 (val16 b qv x r r5 x7 x8) listed).setIfInBounds (118 + 8) v, defers := [] } w' := by
        intro v w' hv
        refine ⟨r5, x7, v, by simpa using hsz, ?_, .inr (.inr (.inr (.inl ⟨set_same (by omega), (set_other (by omega)).trans h11, hv⟩)))⟩
        rw [fillT_congr (val' := val16 b qv x r r5 x7 v), ← fillT_put (i := 8) (by omega) (by omega) (by omega)]
        · rfl
        · intro k hk hl
          by_cases e9 : k = 8
          · subst e9; rw [hj1] at hl; cases hl
          · unfold val16
            split <;> first | rfl | exact absurd rfl e9
      have hq' := hq.keep fun g hg => hw.2.block g (hq.lt_of hg)
      generalize fillT base 118 11 _ listed = T at *
      refine wpOp_step (o := ops16[8]) rfl (fun K' hK' => ?_)
      refine wp_append_S (.tmp 122) (.tmp 125) 49 rfl 34 i0 _ 5 56 Try.underlying49 hi0 hz0 hz1 hz2 rfl (by omega) qv n xs blk (by simpa [go_sem] using t122) hq' x7 1 (ecl (x, r5)) (by simpa [go_sem] using t125) hs ?_ (by simp only [maxLen]; omega) (by omega) ?_
      · intro u hu
        simp only [ecl, List.mem_cons, List.not_mem_nil, or_false] at hu
        rw [hr5] at hu
        rcases hu with rfl | rfl | rfl | rfl | rfl <;> rfl
      · intro v' w' blk' h1 h2 h3
        exact hK' _ _ (hfin v' w' ⟨w, blk', hw, h2, h1, h3⟩)
    | 9, _ =>
      injection hoj with hoj; subst hoj
      obtain ⟨hc, hk⟩ := hread (by omega) (by omega) (by omega) (by omega)
      have t118 := hnew 0 (by omega) (hdep 0 .data (by simp) (.inl rfl))
      clear hread hput hold hnew hdep hd hb b5 b8 hOwn hQ
      generalize fillT base 118 11 _ listed = T at *
      try dsimp only [val16] at *
      refine wpOp_step (o := ops16[9]) rfl (fun K' hK' => ?_)
      have hgo := hK' _ _ (hk _ rfl)
      go_simp
      exact hgo
    | 10, _ =>
      injection hoj with hoj; subst hoj
      obtain ⟨hc, hk⟩ := hread (by omega) (by omega) (by omega) (by omega)
      have t127 := hnew 9 (by omega) (hdep 9 .data (by simp) (.inl rfl))
      clear hread hput hold hnew hdep hd hb b5 b8 hOwn hQ
      generalize fillT base 118 11 _ listed = T at *
      try dsimp only [val16] at *
      refine wpOp_step (o := ops16[10]) rfl (fun K' hK' => ?_)
      have hgo := hK' _ _ (hk _ rfl)
      go_simp
      exact hgo
    | 11, _ =>
      injection hoj with hoj; subst hoj
      have l8 := hdep 8 .data (by simp) (.inl rfl)
      have t126 := hnew 8 (by omega) l8
      have t128 := hnew 10 (by omega) (hdep 10 .data (by simp) (.inl rfl))
      have hw : App16 w0 w x r5 x8 n xs blk := by
        rcases hph with ⟨_, _, h, _⟩ | ⟨_, _, h, _⟩ | ⟨_, h, _⟩ | ⟨_, _, hw⟩ | ⟨h, _⟩
        · rw [l8] at h; cases h
        · rw [l8] at h; cases h
        · rw [l8] at h; cases h
        · exact hw
        · rw [hj1] at h; cases h
      have hfin : St16 base b n qv xs blk x r w0 (listed.setIfInBounds 11 true) { tmps := fillT base 118 11 (val16 b qv x r r5 x7 x8) listed, defers := [] } (w.setCell ⟨b, 2, none⟩ x8) := by
        refine ⟨r5, x7, x8, by simpa using hsz, ?_, .inr (.inr (.inr (.inr ⟨set_same (by omega), w, hw, rfl⟩)))⟩
        rw [fillT_listed (l' := listed.setIfInBounds 11 true)]
        intro k hk
        exact (set_other (by omega)).symm
      obtain ⟨w7, blk', ⟨_, hbw⟩, hgr, hs8, _⟩ := hw
      obtain ⟨a8, c8, rfl⟩ := hs8.form
      have hib' : w.heap[b]? = some (.cells (icl xi qv) 92 (0, 0)) := (hgr.block b (Nat.lt_of_lt_of_le (heap_lt hib) hbw.size) (fun e => hblk e.symm)).trans ((hbw.block b (heap_lt hib)).trans hib)
      obtain ⟨_, _, k2, _, _, kf⟩ := blk5 hib'
      clear hread hput hold hnew hdep hd hb b5 b8 hOwn hQ hph hgr hbw hib hib' hs8
      generalize fillT base 118 11 _ listed = T at *
      dsimp only [val16] at t126 t128
      refine wpOp_step (o := ops16[11]) rfl (fun K' hK' => ?_)
      have hgo := hK' _ _ hfin
      clear hfin hK'
      go_simp
      exact hgo
  · intro listed a w hs hr
    obtain ⟨r5, x7, x8, hsz, rfl, hph⟩ := hs
    have hall : ∀ j, j < 12 → listed.getD j false = true := by
      intro j
      induction j using Nat.strongRecOn with
      | _ j ih =>
        intro hj
        cases hl : listed.getD j false with
        | true => rfl
        | false =>
          exfalso
          have hlt : ∀ o, ops16[j]? = some o → ∀ e ∈ o.after, e.on < j := by
            intro oj hoj
            match j, hj with
            | 0, _ | 1, _ | 2, _ | 3, _ | 4, _ | 5, _ | 6, _ | 7, _ | 8, _ | 9, _ | 10, _ | 11, _ => injection hoj with hoj; subst hoj; simp
          have hmem : j ∈ Region.ready .any ops16 listed := by
            refine mem_ready.2 ⟨?_, ops16[j]'hj, Array.getElem?_eq_getElem _, fun e he _ => ih _ (hlt _ (Array.getElem?_eq_getElem _) e he) (Nat.lt_trans (hlt _ (Array.getElem?_eq_getElem _) e he) hj)⟩
            unfold Array.getD at hl ⊢
            split at hl
            · rename_i hh; rw [dif_pos hh]; exact hl
            · omega
          rw [hr] at hmem
          cases hmem
    rcases hph with ⟨h, _⟩ | ⟨_, h, _⟩ | ⟨_, h, _⟩ | ⟨_, h, _⟩ | ⟨_, w8, hw, rfl⟩
    · rw [hall 6 (by omega)] at h; cases h
    · rw [hall 7 (by omega)] at h; cases h
    · rw [hall 8 (by omega)] at h; cases h
    · rw [hall 11 (by omega)] at h; cases h
    · rw [fillT_listed (l' := Array.replicate 11 true)]
      · exact hQ r5 x7 x8 w8 hw
      · intro k hk
        rw [hall k (by omega)]
        simp [hk]
  · refine ⟨undef, undef, undef, by simp, ?_, .inl ⟨rep_false _ _, rep_false _ _, rep_false _ _, rep_false _ _, rfl⟩⟩
    rw [fillT_listed (l' := Array.replicate 11 false), rep_put]
    intro k _
    rw [rep_false, rep_false]
  · intro j oj _ hl
    rw [rep_false] at hl
    cases hl
  · simp

end walks
end Go.Proofs.Ytdnkfgnjeibjeaa

namespace Go.Proofs.Ytdnkfgnjeibjeaa
open Go.RowKit Go.Shelf
/-- An element is laid into a queue. -/
theorem AF.queue {w w4 w8 : World} {D : Nat → Prop} {gs : GS} {m : Gm} {x : Elem} {r r5 x8 : Value} {i : Nat} (hi : i < m.n) (h4 : AF w w4 D gs m x r) (hg : GateAt w D gs m) (hD : ∀ b, D b → b < w.heap.size)
    (happ : App16 w4 w8 x r5 x8 (m.inp i).queue.length ((m.inp i).queue.flatMap ecl) (gs.qb i)) :
    Arr w D gs m.n (fun r => m.upd i { m.inp i with queue := (m.inp i).queue ++ [(x, r)] }) (fun _ => []) 0 (.returned (.tuple #[.slice none 0 0, .int .i64 0])) (w8.setCell ⟨gs.ib i, 2, none⟩ x8) := by
  obtain ⟨w7, blk', ⟨hr5, hb7⟩, hgr, hs8, hat⟩ := happ
  have h7 := h4.gate.below hb7
  have hI := h7.hib i hi
  have s4 := h4.below.size
  have s7 := hb7.size
  have s8 := hgr.size
  have hown : ∀ {b}, gs.own m.n b → b < w.heap.size := fun hb => hg.lt hb
  have hqb : ∀ {g}, gs.qb i = some g → g < w.heap.size := fun hb => hown (own_qb gs hi hb)
  have hibl : gs.ib i < w.heap.size := hown (own_ib gs hi)
  have hset : ∀ b, b ≠ gs.ib i → (w8.setCell ⟨gs.ib i, 2, none⟩ x8).heap[b]? = w8.heap[b]? := fun b hb => heap_set_ne _ hb
  have hk : ∀ {b : Nat} {c : Array Value} {t : TypeId} {f : Nat × Nat}, w7.heap[b]? = some (.cells c t f) → t ≠ 34 → b ≠ gs.ib i → (w8.setCell ⟨gs.ib i, 2, none⟩ x8).heap[b]? = some (.cells c t f) := fun {b c t f} hb ht hne =>
    (hset b hne).trans ((hgr.block b (heap_lt hb) (fun e => h7.qb_ne hi e.symm hb ht rfl)).trans hb)
  have hk2 : ∀ {b : Nat}, b < w7.heap.size → gs.qb i ≠ some b → b ≠ gs.ib i → (w8.setCell ⟨gs.ib i, 2, none⟩ x8).heap[b]? = w7.heap[b]? := fun {b} hb hne hne2 => (hset b hne2).trans (hgr.block b hb (fun e => hne e.symm))
  have hblk : ∀ g, blk' = some g → gs.qb i = some g ∨ g = w7.heap.size := fun g hg' => by
    rcases hat with e | e
    · exact .inl (e ▸ hg')
    · rw [hg'] at e; injection e with e; exact .inr e
  obtain ⟨cs, hc, hcs⟩ := h7.harr
  have hrowD : ∀ {v row}, RowAt w7 D v row → RowAt (w8.setCell ⟨gs.ib i, 2, none⟩ x8) (fun b => D b ∨ (w4.heap.size ≤ b ∧ b < w7.heap.size)) v row := fun hx =>
    (hx.keep fun b hb hlt => hk2 hlt (fun e => hg.hD b hb (own_qb gs hi e)) (fun e => hg.hD b hb (e ▸ own_ib gs hi))).mono fun b hb => .inl hb
  refine ⟨fun b => D b ∨ (w4.heap.size ≤ b ∧ b < w7.heap.size), r5, { gs with qv := fun j => if j = i then x8 else gs.qv j, qb := fun j => if j = i then blk' else gs.qb j }, .slice none 0 0, none, fun b hb => .inl hb, ?_, ?_, rfl, rfl, SlOwn.nil _ _ _, (fun g hg => by cases hg), ?_, rfl, ?_, (fun o ho => by cases ho), ?_⟩
  · intro b hb
    rcases hb with hb | hb
    · exact .inl hb
    · exact .inr (by omega)
  · intro b hb
    have : (w8.setCell ⟨gs.ib i, 2, none⟩ x8).heap.size = w8.heap.size := by simp [World.setCell]
    rcases hb with hb | hb
    · have := hD b hb; omega
    · omega
  · refine ⟨h7.pos, h7.le, hk h7.hG (by decide) (h7.G_ne_ib hi), ⟨cs, hk hc (by decide) (h7.arr_ne_ib hi), hcs⟩, fun j hj => ?_, h7.inj, fun j hj => ?_, fun j k g hj hk' hjg hkg => ?_, fun j hj p hp => ?_, fun b hb ho => ?_, ?_⟩
    · by_cases e : j = i
      · subst e
        have h8 : w8.heap[gs.ib j]? = some (.cells (icl (m.inp j) (gs.qv j)) 92 (0, 0)) := (hgr.block _ (heap_lt hI) (fun e => h7.qb_ne hi e.symm hI (by decide) rfl)).trans hI
        have hh := heap_set (j := 2) h8 x8
        simpa [Gm.upd] using hh
      · have := hk (h7.hib j hj) (by decide) (fun e' => e (h7.inj j i hj hi e'))
        simpa [Gm.upd, e] using this
    · by_cases e : j = i
      · subst e
        have hh := hs8.keep (w' := w8.setCell ⟨gs.ib j, 2, none⟩ x8) fun g hg' => hset g (by
          rcases hblk g hg' with e | e
          · exact h7.qb_ne hi e hI (by decide)
          · omega)
        simpa [Gm.upd] using hh
      · have hh := (h7.hq j hj).keep (w' := w8.setCell ⟨gs.ib i, 2, none⟩ x8) fun g hg' => hk2 (by have := hown (own_qb gs hj hg'); omega) (fun e' => e (h7.qinj j i g hj hi hg' e')) (h7.qb_ne hj hg' hI (by decide))
        simpa [Gm.upd, e] using hh
    · dsimp only at hjg hkg
      by_cases e1 : j = i <;> by_cases e2 : k = i
      · omega
      · rw [if_pos e1] at hjg
        rw [if_neg e2] at hkg
        rcases hblk g hjg with e | e
        · exact absurd (h7.qinj k i g hk' hi hkg e) e2
        · have := hown (own_qb gs hk' hkg); omega
      · rw [if_neg e1] at hjg
        rw [if_pos e2] at hkg
        rcases hblk g hkg with e | e
        · exact absurd (h7.qinj j i g hj hi hjg e) e1
        · have := hown (own_qb gs hj hjg); omega
      · rw [if_neg e1] at hjg
        rw [if_neg e2] at hkg
        exact h7.qinj j k g hj hk' hjg hkg
    · by_cases e : j = i
      · subst e
        simp only [Gm.upd, if_true, List.mem_append, List.mem_singleton] at hp
        rcases hp with hp | rfl
        · exact hrowD (h7.hrow j hj p hp)
        · refine (hr5.imp (D' := fun b => D b ∨ (w4.heap.size ≤ b ∧ b < w7.heap.size)) fun b hb hle => .inr ⟨hle, hb⟩).keep fun b hb hlt => hk2 hlt ?_ ?_
          · rcases hb with hb | hb
            · exact fun e => hg.hD b hb (own_qb gs hi e)
            · intro e; have := hqb e; omega
          · rcases hb with hb | hb
            · exact fun e => hg.hD b hb (e ▸ own_ib gs hi)
            · omega
      · have hp' : p ∈ (m.inp j).queue := by simpa [Gm.upd, e] using hp
        exact hrowD (h7.hrow j hj p hp')
    · have ho' : gs.own m.n b ∨ b = w7.heap.size := by
        rcases ho with h | h | h | h | ⟨j, hj, h⟩
        · exact .inl (.inl h)
        · exact .inl (.inr (.inl h))
        · exact .inl (.inr (.inr (.inl h)))
        · exact .inl (.inr (.inr (.inr (.inl h))))
        · dsimp only at h
          by_cases e : j = i
          · rw [if_pos e] at h
            rcases hblk b h with h | h
            · exact .inl (own_qb gs hi h)
            · exact .inr h
          · rw [if_neg e] at h
            exact .inl (own_qb gs hj h)
      rcases hb with hb | hb
      · rcases ho' with h | h
        · exact hg.hD b hb h
        · have := hD b hb; omega
      · rcases ho' with h | h
        · have := hown h; omega
        · omega
    · refine (hset _ (Ne.symm (h7.ib_ne_map hi))).trans ((hgr.block _ (heap_lt h7.hmap) (fun e => ?_)).trans h7.hmap)
      obtain ⟨cur, hcc⟩ := h7.qb_cells hi e.symm
      exact ne_of_map hcc h7.hmap rfl
  · intro b ho
    rcases ho with h | h | h | h | ⟨j, hj, h⟩
    · exact .inl (.inl h)
    · exact .inl (.inr (.inl h))
    · exact .inl (.inr (.inr (.inl h)))
    · exact .inl (.inr (.inr (.inr (.inl h))))
    · dsimp only at h
      by_cases e : j = i
      · rw [if_pos e] at h
        rcases hblk b h with h | h
        · exact .inl (own_qb gs hi h)
        · exact .inr (by omega)
      · rw [if_neg e] at h
        exact .inl (own_qb gs hj h)
  · have h1 : Only (gs.own m.n) w w8 := ((Only.of_below h4.below).trans (Only.of_below (S := fun _ => False) hb7) (fun _ _ h => h.elim)).grown hgr (fun k hk _ => own_qb gs hi hk)
    exact h1.setCell (fun _ => own_ib gs hi) _

section walks
set_option maxHeartbeats 1000000
set_option maxRecDepth 100000

theorem f13_wait (w : World) (D D0 : Nat → Prop) (gs : GS) (m : Gm) (i : Nat) (x : Elem) (r : Value) (h : GateAt w D gs m) (hD : ∀ b, D b → b < w.heap.size) (hr : RowAt w D0 r x.row) (hsm : x.row.length ≤ 1000000)
    (hv : validElem x = true) (hi : i < m.n) (hcl : (m.inp i).closed = false) (hk : (x.k == 3) = false) (hbl : m.blocked i = true) (hq : qsum m m.n ≤ 1000000) (hcnt : qsum m m.n ≠ 4000) :
    Calls Try.prog 13 #[.pointer (some ⟨gs.G, 0, none⟩), .int .i64 i, ev x r] w (Arr w D gs m.n (fun r => m.upd i { m.inp i with queue := (m.inp i).queue ++ [(x, r)] }) (fun _ => []) 0) := by
  have hV := fun (W : World) (hb : Below w.heap.size w W) => f40_any x r W D0 (hr.below hb)
  have hO := fun (W : World) (hb : Below w.heap.size w W) => f43_any W x r D0 (hr.below hb) hsm
  obtain ⟨ra, rc, rfl, _, _⟩ := hr
  rw [hv] at hV
  have HV := Lib.hid hV
  have HO := Lib.hid hO
  have H := Lib.hid h
  have HD := Lib.hid hD
  clear hV hO h hD hsm
  have j1 : (0 : Int) ≤ (i : Int) := by omega
  have j2 : (i : Int) < (m.n : Int) := by omega
  have hk' : (x.k != 3) = true := by simp [bne, hk]
  have ha0 : AF w (w.alloc (Obj.cells #[Value.int IntKind.i64 x.k, Value.int IntKind.i64 x.n, Value.int IntKind.i64 x.t, Value.slice ra x.row.length rc, Value.int IntKind.i64 x.c] 34)) D gs m x (.slice ra x.row.length rc) :=
    ⟨(Below.refl _ _).alloc (Nat.le_refl _) _, H.out.below ((Below.refl _ _).alloc (Nat.le_refl _) _), World.alloc_heap_new _ _⟩
  have HA := Lib.hid ha0
  clear ha0
  have hpn : ∀ W : World, (binOp .neq 93 (.pointer none) (.pointer none)).run Try.prog W = .ok (.bool false) W := fun W => by kernel_rfl
  go_enter Try.func13, Try.ntmps13
  go_wp2_with (
    go_at_call 40; refine (HV.out _ HA.out.below).mono ?_; rintro e w1 ⟨rfl, hb1⟩
    have HA1 := Lib.hid (HA.out.next hb1)
    clear hb1
    obtain ⟨g0, g1, g2, g3, g4, gf⟩ := HA1.out.gate.cells
    obtain ⟨ia, x0, x1, x2, x3, x4, xf⟩ := HA1.out.gate.icells hi
    obtain ⟨b0, b1, b2, b3, b4, bf⟩ := blk5 HA1.out.box)
  have q0 := fun d os => cell_regrown b0 d os
  refine wp_region_quiet_below (by kernel_rfl) (by kernel_rfl) ?_
  repeat (first | go_big_quiet_skip | quiet_step (fail))
  refine wpQuiet_nil ?_
  intro w2 hw'
  have HA2 := Lib.hid (HA1.out.next (below_of_class hw'))
  clear hw' q0 b0 b1 b2 b3 b4 bf g0 g1 g2 g3 g4 gf ia x0 x1 x2 x3 x4 xf
  obtain ⟨g0, g1, g2, g3, g4, gf⟩ := HA2.out.gate.cells
  obtain ⟨ia, x0, x1, x2, x3, x4, xf⟩ := HA2.out.gate.icells hi
  obtain ⟨b0, b1, b2, b3, b4, bf⟩ := blk5 HA2.out.box
  go_wp2_with fail
  have q2 := fun d os => cell_regrown g2 d os
  have q4 := fun d os => cell_regrown g4 d os
  have hlk := fun d os => lookup_empty (Sort.grow (redrawn w2 d) os) gs.map gs.clock m.under (((below_regrown w2 d os).block _ (heap_lt HA2.out.gate.hmap)).trans HA2.out.gate.hmap)
  refine wp_region_quiet_below (by kernel_rfl) (by kernel_rfl) ?_
  repeat (first | go_big_quiet_skip | quiet_step (fail))
  refine wpQuiet_nil ?_
  intro w3 hw'
  have HA3 := Lib.hid (HA2.out.next (below_of_class hw'))
  clear hw' q2 q4 hlk b0 b1 b2 b3 b4 bf g0 g1 g2 g3 g4 gf ia x0 x1 x2 x3 x4 xf
  obtain ⟨b0, b1, b2, b3, b4, bf⟩ := blk5 HA3.out.box
  have hc := fun W (h : AF w W D gs m x (.slice ra x.row.length rc)) => f41_any W gs m i h.gate hi
  rw [hbl] at hc
  have HC := Lib.hid hc
  have hc2 := fun W (h : AF w W D gs m x (.slice ra x.row.length rc)) => f42_any W gs m h.gate hq
  have HC2 := Lib.hid hc2
  clear hc hc2
  have hql : (m.inp i).queue.length ≤ 1000000 := by
    have h1 : qsum m (i + 1) ≤ qsum m m.n := qsum_mono m hi
    simp only [qsum] at h1; omega
  have hne : ((qsum m m.n : Int) == 4000) = false := by
    simp only [beq_eq_false_iff_ne, ne_eq]; omega
  go_wp2_with (first
    | (go_at_call 41; refine (HC.out _ HA3.out).mono ?_; rintro e w4 ⟨rfl, hb4⟩
       have HA4 := Lib.hid (HA3.out.next hb4)
       clear hb4 HA3 b0 b1 b2 b3 b4 bf
       have HA3 := HA4
       clear HA4
       obtain ⟨b0, b1, b2, b3, b4, bf⟩ := blk5 HA3.out.box)
    | (go_at_call 42; refine (HC2.out _ HA3.out).mono ?_; rintro e w4 ⟨rfl, hb4⟩
       have HA4 := Lib.hid (HA3.out.next hb4)
       clear hb4 HA3 b0 b1 b2 b3 b4 bf
       have HA3 := HA4
       clear HA4
       obtain ⟨b0, b1, b2, b3, b4, bf⟩ := blk5 HA3.out.box))
  have hgq := HA3.out.gate
  refine region16_ok (gs.ib i) (m.inp i).queue.length w.heap.size (gs.qv i) ((m.inp i).queue.flatMap ecl) (gs.qb i) x (.slice ra x.row.length rc) _ w4 _ rfl rfl rfl (m.inp i) (hgq.hib i hi) (fun e => hgq.qb_ne hi e (hgq.hib i hi) (by decide) rfl) b0 b1 b2 b3 b4 (hgq.hq i hi) hql (HO.out _ HA3.out.below.drew) ?_
  intro r5 x7 x8 w8 happ
  rw [fill11 _ _ _ (by simp)]
  have HP := Lib.hid happ
  clear happ hgq
  dsimp only [val16, Nat.reduceAdd]
  go_wp2_with fail
  exact bodyPost_ret (v := .tuple #[.slice none 0 0, .int .i64 0]) (by kernel_rfl) rfl (HA3.out.queue hi H.out HD.out HP.out)
end walks
end Go.Proofs.Ytdnkfgnjeibjeaa
