/-
  The program's order: part 14. Conditions: the events lie in the world as the words say.
-/
import Derived.Test.YtimahogkcmmcnaaGreatDoorMD
import Derived.Test.YtimahogkcmmcnaaGreatDoorT6
import Derived.Deep.OwnRows
set_option linter.unusedSimpArgs false
set_option linter.unusedVariables false
namespace Go.Proofs.YtimahogkcmmcnaaGreatDoor
open Go.RowKit Go.Proofs.YtimahogkcmmcnaaGreatDoor.Cmps Go.Sort Go.Shelf Go.Lib Go.Proofs.YtimahogkcmmcnaaGreatDoor.Stab

def encF (m : Nat) : Fin (m + 1) → Value := fun i => .int .i64 (i.val : Int)

def ups (m : Nat) : Array (Fin (m + 1)) := Array.ofFn id

theorem ups_size (m : Nat) : (ups m).size = m + 1 := by simp [ups]

theorem ups_get (m : Nat) {i : Nat} (h : i < m + 1) : (ups m)[i]! = ⟨i, h⟩ := by
  rw [getElem!_pos _ i (by rw [ups_size]; exact h)]
  simp [ups]

def cfF (l : List Evt) (m : Nat) : Fin (m + 1) → Fin (m + 1) → Int := fun x y => cN l x.val y.val

def sltF (l : List Evt) (m : Nat) : Fin (m + 1) → Fin (m + 1) → Bool := fun x y => sltN (cN l) x.val y.val

theorem sltF_swo (l : List Evt) (m : Nat) : SWO (sltF l m) where
  irrefl x := (sltN_swo (cN_3 l)).irrefl _
  trans x y z := (sltN_swo (cN_3 l)).trans _ _ _
  ntrans x y z := (sltN_swo (cN_3 l)).ntrans _ _ _

theorem ups_agr (l : List Evt) (m : Nat) : Agr (ltOf (cfF l m)) (sltF l m) 0 (ups m).size (ups m) := by
  intro p q _ hpq hq
  rw [ups_size] at hq
  rw [ups_get m hq, ups_get m (Nat.lt_trans hpq hq)]
  unfold ltOf sltF sltN cfF
  have : decide (q < p) = false := decide_eq_false (by omega)
  simp [this]

theorem ups_map (m : Nat) : (ups m).toList.map Fin.val = List.range (m + 1) := by
  apply List.ext_getElem
  · simp [ups]
  · intro i h1 h2
    simp only [ups, Array.toList_ofFn, List.getElem_map, List.getElem_ofFn, List.getElem_range]
    rfl

theorem ex_all {α : Type} (d : Array α) {n : Nat} (h : d.size = n) : d.extract 0 n = d := by subst h; simp

theorem ordered_of_stab {l : List Evt} {m : Nat} {d' : Array (Fin (m + 1))} (hp : PermIn 0 (m + 1) (ups m) d') (hs : SortedIn (sltF l m) 0 (m + 1) d') : Ordered (cN l) (m + 1) (d'.toList.map Fin.val) := by
  have hz : d'.size = m + 1 := by rw [hp.1, ups_size]
  refine ⟨?_, ?_⟩
  · rw [← ups_map]
    have e1 : (d'.extract 0 (m + 1)) = d' := ex_all d' hz
    have e2 : ((ups m).extract 0 (m + 1)) = ups m := ex_all _ (ups_size m)
    have := hp.2.2
    rw [e1, e2] at this
    exact this.map _
  · rw [List.pairwise_map, List.pairwise_iff_getElem]
    intro i j hi hj hij
    have hj' : j < m + 1 := by simpa [hz] using hj
    have hi' : i < m + 1 := by omega
    have := hs i j (by omega) hij hj'
    rw [getElem!_pos d' i (by omega), getElem!_pos d' j (by omega)] at this
    simpa [sltF] using this

/-- v reads in w as the numbers; their block is one of D. -/
def IntsAt (w : World) (D : Nat → Prop) (v : Value) (xs : List Nat) : Prop :=
  ∃ a cap, v = .slice a xs.length cap ∧ xs.length ≤ 9223372036854775807 ∧ (xs = [] ∨ ∃ b off, a = some ⟨b, off, none⟩ ∧ D b ∧ ∀ i, (h : i < xs.length) → w.cell? ⟨b, off + i, none⟩ = some (.int .i64 (xs[i] : Int)))

theorem IntsAt.below {w w' : World} {D : Nat → Prop} {v : Value} {xs : List Nat} (h : IntsAt w D v xs) (hb : Below w.heap.size w w') : IntsAt w' D v xs := by
  obtain ⟨a, cap, rfl, hl, hx⟩ := h
  refine ⟨a, cap, rfl, hl, ?_⟩
  rcases hx with rfl | ⟨b, off, rfl, hD, hc⟩
  · exact .inl rfl
  · exact .inr ⟨b, off, rfl, hD, fun i hi => by rw [hb.cell (p := ⟨b, _, none⟩) (cell_lt (hc i hi))]; exact hc i hi⟩

theorem Ord.at_ {w wr : World} {l : List Evt} {v : Value} {k : Nat} {xs : List Nat} {blk : Option Nat} (h : Ord w wr l v k xs blk) (hk : k ≤ 9223372036854775807) : IntsAt wr (fun b => w.heap.size ≤ b) v xs := by
  have hl := h.len
  rcases h.own.2 with ⟨rfl, rfl, _⟩ | ⟨g, o, cap, cur, hb, rfl, _⟩
  · have : xs = [] := List.eq_nil_of_length_eq_zero hl
    subst this
    exact ⟨none, 0, rfl, by simp, .inl rfl⟩
  · refine ⟨_, cap, by rw [hl], by omega, .inr ⟨g, o, rfl, h.new g hb, fun i hi => h.own.cell i _ ?_⟩⟩
    simp [iv, List.getElem?_eq_getElem hi]

/-- What lies beside the row stays. -/
theorem sortWorld_other {α : Type} [Inhabited α] {enc : α → Value} {w : World} {blk off m : Nat} {dk : Array α} {os : Array Obj} {b : Nat} (hb : b < w.heap.size) (hne : b ≠ blk) : (sortWorld enc w blk off m dk os).heap[b]? = w.heap[b]? := by
  unfold sortWorld
  rw [heap_grow_old _ _ (by rw [size_putRow]; exact hb)]
  unfold putRow mapBlock
  show ((w.heap).modify blk _)[b]? = _
  rw [Array.getElem?_modify, if_neg (fun e => hne e.symm)]

theorem sw_other {α : Type} [Inhabited α] {enc : α → Value} {w W : World} {blk off : Nat} {dk : Array α} (h : SW enc w blk off dk W) {b : Nat} (hb : b < w.heap.size) (hne : b ≠ blk) : W.heap[b]? = w.heap[b]? := by
  obtain ⟨m, os, rfl⟩ := h
  exact sortWorld_other hb hne

theorem sw_below {α : Type} [Inhabited α] {enc : α → Value} {w0 w W : World} {blk off : Nat} {dk : Array α} (h : SW enc w blk off dk W) (hb : Below w0.heap.size w0 w) (hne : w0.heap.size ≤ blk) : Below w0.heap.size w0 W := by
  have hs := hb.size
  refine hb.trans ⟨?_, ?_, ?_, ?_, fun k hk => sw_other h (by omega) (by omega)⟩
  · obtain ⟨m, os, rfl⟩ := h; rfl
  · obtain ⟨m, os, rfl⟩ := h; rfl
  · obtain ⟨m, os, rfl⟩ := h; rfl
  · exact h.le

section leaves
set_option maxHeartbeats 1000000
set_option maxRecDepth 10000

theorem f236_zero (w : World) (a : Option Addr) (cap : Nat) (g : Value) :
    Calls Tryz.prog 236 #[.slice a 0 cap, .int .i64 0, .int .i64 0, g] w fun e w' => e = .returned (.tuple #[]) ∧ w = w' := by
  go_enter Tryz.func236, Tryz.ntmps236
  go_wp2
  refine wp_loop_rounds 1 ?_
  rw [rounds_succ]
  go_wp2
  go_end0
  exact ⟨rfl, rfl⟩

theorem f176_zero (w : World) (a : Option Addr) (cap : Nat) (g : Nat) (cb : Array Value) :
    Calls Tryz.prog 176 #[.slice a 0 cap, .int .i64 0, .func (.func g) #[] cb] w fun e w' => e = .returned (.tuple #[]) ∧ w = w' := by
  go_enter Tryz.func176, Tryz.ntmps176
  go_wp2
  refine wp_loop_rounds 1 ?_
  rw [rounds_succ]
  go_wp2_with (go_at_call 236; refine (f236_zero _ _ _ _).mono ?_; rintro e w1 ⟨rfl, rfl⟩)
  refine wp_loop_rounds 1 ?_
  rw [rounds_succ]
  go_wp2
  go_end0
  exact ⟨rfl, rfl⟩

theorem f108_zero (w : World) (a : Option Addr) (cap : Nat) (g : Nat) (cb : Array Value) :
    Calls Tryz.prog 108 #[.slice a 0 cap, .func (.func g) #[] cb] w fun e w' => e = .returned (.tuple #[]) ∧ w = w' := by
  go_enter Tryz.func108, Tryz.ntmps108
  go_wp2_with (go_at_call 176; refine (f176_zero _ _ _ _ _).mono ?_; rintro e w1 ⟨rfl, rfl⟩)
  go_end0
  exact ⟨rfl, rfl⟩

/-- The closure that the sort asks. -/
theorem cmp_lays (hm : Tryz.prog.follows .mixedOrders = true) (w : World) (D : Nat → Prop) (v : Value) (l : List Evt) (B O m n : Nat) (h : EvtsAt w D v l) (hv : w.cell? ⟨B, 0, none⟩ = some v) (hl : l.length = m + 1)
    (hB : B ≠ O) (hD : ∀ b, D b → b ≠ O) : CmpLays1 Tryz.prog 109 #[.pointer (some ⟨B, 0, none⟩)] (encF m) (cfF l m) O 0 n w := by
  intro q os dk _ x y
  have hx : x.val < l.length := by rw [hl]; exact x.isLt
  have hy : y.val < l.length := by rw [hl]; exact y.isLt
  have h1 : EvtsAt (sortWorld (encF m) w O 0 q dk os) D v l := h.keep fun b hb hlt => sortWorld_other hlt (hD b hb)
  have h2 : (sortWorld (encF m) w O 0 q dk os).cell? ⟨B, 0, none⟩ = some v := by rw [cell_keep (sortWorld_other (cell_lt hv) hB)]; exact hv
  have := f109_any hm _ D v l B x.val y.val h1 h2 hx hy
  refine this.mono fun e w' ⟨he, hg⟩ => ⟨?_, ?_⟩
  · rw [he]; unfold cfF; rw [cN_at hx hy]
  · obtain ⟨q', os', e'⟩ := hg; exact ⟨q', os', e'⟩

theorem f108_some (hm : Tryz.prog.follows .mixedOrders = true) (w : World) (D : Nat → Prop) (v : Value) (l : List Evt) (B O m cap : Nat) (h : EvtsAt w D v l) (hv : w.cell? ⟨B, 0, none⟩ = some v) (hl : l.length = m + 1) (h40 : l.length ≤ 40)
    (hB : B ≠ O) (hD : ∀ b, D b → b ≠ O) (hO : w.rowIs O 3 (m + 1) fun i => .int .i64 (i : Int)) :
    Calls Tryz.prog 108 #[.slice (some ⟨O, 0, none⟩) (m + 1) cap, .func (.func 109) #[] #[.pointer (some ⟨B, 0, none⟩)]] w fun e w' => e = .returned (.tuple #[]) ∧ Stab2 (encF m) (sltF l m) O 0 (m + 1) w (ups m) w' := by
  have hH : Holds (encF m) w O 0 (ups m) := fun j hj => by
    rw [ups_size] at hj
    rw [ups_get m hj, Nat.zero_add]
    exact ⟨hO.cell hj, hO.frozen j⟩
  have hs := stable_s hm (encF m) (cfF l m) (sltF_swo l m) 109 #[.pointer (some ⟨B, 0, none⟩)] O 0 cap (ups m) w (fun args w => by go_simp) (cmp_lays hm w D v l B O m _ h hv hl hB hD)
    ⟨fun x => rfl, hH, hO.lt⟩ (by rw [ups_size]; omega) (ups_agr l m)
  rw [ups_size] at hs
  have HS := Lib.hid hs
  clear hs hH h hv hO
  go_enter Tryz.func108, Tryz.ntmps108
  go_wp2_with (go_at_call 176; refine HS.out.mono ?_; rintro e w1 ⟨rfl, hst⟩; have HR := Lib.hid hst; clear hst)
  go_end0
  exact ⟨rfl, HR.out⟩
end leaves
end Go.Proofs.YtimahogkcmmcnaaGreatDoor
