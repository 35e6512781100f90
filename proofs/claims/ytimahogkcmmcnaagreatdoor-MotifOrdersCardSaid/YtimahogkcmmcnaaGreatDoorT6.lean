/-
  The stable sort of a list of numbers by a closure, the walks, part 6: it proves that the row is sorted stably, at 40 elements or fewer. Conditions: the row lies in the world as the sort's words say.
-/
import Derived.Test.YtimahogkcmmcnaaGreatDoorT5
import Derived.Test.YtimahogkcmmcnaaGreatDoorS4
set_option linter.unusedSimpArgs false
set_option linter.unusedVariables false
namespace Go.Proofs.YtimahogkcmmcnaaGreatDoor
open Go.Shelf Go.RowKit Go.Lib Go.Sort Go.Proofs.YtimahogkcmmcnaaGreatDoor.Stab
variable {α : Type} [Inhabited α]

theorem symMerge_all (hm : Tryz.prog.follows .mixedOrders = true) (enc : α → Value) (cf : α → α → Int) {slt : α → α → Bool} (hS : SWO slt) (g : Nat) (cb : Array Value) (blk off cap n : Nat) (d0 : Array α) (w0 : World)
    (eg : ∀ args w, (callFunc g args).run Tryz.prog w = .ok (.enter g args) w) (hcmp : CmpLays1 Tryz.prog g cb enc cf blk off d0.size w0)
    (R : Row1 enc w0 blk off d0) (hn : d0.size = n) (hsz : n < 4611686018427387904) :
    ∀ (N a m b : Nat) (d : Array α) (w : World), b - a ≤ N → a < m → m < b → b ≤ n → d.size = n → MPre (ltOf cf) slt a m b d → SW enc w0 blk off d w → SymTo enc slt g cb blk off cap n w0 a m b d w
  | 0, a, m, b, d, w, hN, ham, hmb, _, _, _, _ => by omega
  | N + 1, a, m, b, d, w, hN, ham, hmb, hb, hs, hp, S => by
    subst hs
    by_cases h1 : m = a + 1
    · exact symMerge_left hm enc cf hS g cb blk off cap a m b d0 d w0 w eg hcmp R hn S h1 (by omega) hb hsz hp
    · by_cases h2 : b = m + 1
      · exact symMerge_right hm enc cf hS g cb blk off cap a m b d0 d w0 w eg hcmp R hn S h2 (by omega) hb hsz hp
      · have IH : ∀ (a' m' b' : Nat) (d' : Array α) (w' : World), b' - a' < b - a → a' < m' → m' < b' → b' ≤ d.size → d'.size = d.size → MPre (ltOf cf) slt a' m' b' d' → SW enc w0 blk off d' w' → SymTo enc slt g cb blk off cap d.size w0 a' m' b' d' w' :=
          fun a' m' b' d' w' hlt k1 k2 k3 k4 k5 k6 => symMerge_all hm enc cf hS g cb blk off cap d.size d0 w0 eg hcmp R hn hsz N a' m' b' d' w' (by omega) k1 k2 k3 k4 k5 k6
        by_cases h3 : (a + b) / 2 < m
        · exact symMerge_hi hm enc cf hS g cb blk off cap a m b _ d0 d w0 w eg hcmp R hn S (by omega) (by omega) hb hsz hp rfl h3 IH
        · exact symMerge_lo hm enc cf hS g cb blk off cap a m b _ d0 d w0 w eg hcmp R hn S (by omega) (by omega) hb hsz hp rfl h3 IH

/-- The shelf's insertion sort is this program's. -/
def insRen : Go.Shelf.Ren := ⟨fun _ => 236, fun t => match t with | 0 => 0 | 3 => 3 | 4 => 4 | 22 => 31 | 24 => 3 | 25 => 185 | n => n, fun x => x⟩

theorem insLays (hm : Tryz.prog.follows .mixedOrders = true) : SlLaysF.n20 Tryz.prog insRen := {
  mixed := hm
  f20 := ⟨Tryz.f236.name, by decide, Tryz.func236.trans (by kernel_rfl)⟩
  t0 := Tryz.underlying0
  a0 := Tryz.isAgg0
  z0 := Tryz.sizeOf0
  v0 := Tryz.zeroValue0
  t3 := Tryz.underlying3
  a3 := Tryz.isAgg3
  z3 := Tryz.sizeOf3
  v3 := Tryz.zeroValue3
  t4 := Tryz.underlying4
  a4 := Tryz.isAgg4
  z4 := Tryz.sizeOf4
  v4 := Tryz.zeroValue4
  t22 := Tryz.underlying31
  a22 := Tryz.isAgg31
  z22 := Tryz.sizeOf31
  v22 := Tryz.zeroValue31
  a24 := Tryz.isAgg3
  z24 := Tryz.sizeOf3
  t25 := Tryz.underlying185
  a25 := Tryz.isAgg185
  z25 := Tryz.sizeOf185
  v25 := Tryz.zeroValue185 }

theorem ins_z (hm : Tryz.prog.follows .mixedOrders = true) (enc : α → Value) (cf : α → α → Int) (g : Nat) (cb : Array Value) (blk off cap a b n : Nat) (za zb : Int) (d0 d : Array α) (w0 w : World)
    (eg : ∀ args w, (callFunc g args).run Tryz.prog w = .ok (.enter g args) w) (hcmp : CmpLays1 Tryz.prog g cb enc cf blk off d0.size w0) (ha : za = (a : Int)) (hb' : zb = (b : Int))
    (R : Row1 enc w0 blk off d0) (hs : d0.size = n) (hd : d.size = n) (S : SW enc w0 blk off d w) (hab : a ≤ b) (hb : b ≤ n) (hsz : n < 4611686018427387904) :
    Calls Tryz.prog 236 #[.slice (some ⟨blk, off, none⟩) n cap, .int .i64 za, .int .i64 zb, .func (.func g) #[] cb] w fun e w' => e = .returned (.tuple #[]) ∧ SW enc w0 blk off (Sort.insertionSort (ltOf cf) d a b) w' := by
  subst ha hb' hd
  exact Any.insertionSortCmpFunc_s (insLays hm) enc cf g cb blk off cap a b d0 d w0 w eg hcmp R hs S hab hb hsz

/-- What the sort leaves. -/
def Stab2 (enc : α → Value) (slt : α → α → Bool) (blk off n : Nat) (w0 : World) (d : Array α) (w' : World) : Prop :=
  ∃ d', PermIn 0 n d d' ∧ SortedIn slt 0 n d' ∧ SW enc w0 blk off d' w'

section walks
set_option maxHeartbeats 8000000
set_option maxRecDepth 1000000

theorem stable_s (hm : Tryz.prog.follows .mixedOrders = true) (enc : α → Value) (cf : α → α → Int) {slt : α → α → Bool} (hS : SWO slt) (g : Nat) (cb : Array Value) (blk off cap : Nat) (d : Array α) (w : World)
    (eg : ∀ args w, (callFunc g args).run Tryz.prog w = .ok (.enter g args) w) (hcmp : CmpLays1 Tryz.prog g cb enc cf blk off d.size w)
    (R : Row1 enc w blk off d) (hsz : d.size ≤ 40) (hA : Agr (ltOf cf) slt 0 d.size d) :
    Calls Tryz.prog 176 #[.slice (some ⟨blk, off, none⟩) d.size cap, .int .i64 d.size, .func (.func g) #[] cb] w fun e w' => e = .returned (.tuple #[]) ∧ Stab2 enc slt blk off d.size w d w' := by
  have S : SW enc w blk off d w := SW.start R.hH
  obtain ⟨n, hn⟩ : ∃ n, n = d.size := ⟨_, rfl⟩
  by_cases c1 : n < 20
  · have hc := ins_z hm enc cf g cb blk off cap 0 n n 0 (n : Int) d d w w eg hcmp rfl rfl R hn.symm hn.symm S (Nat.zero_le _) (Nat.le_refl _) (by omega)
    have HC := Lib.hid hc
    have HF : Hid (PermIn 0 n d (Sort.insertionSort (ltOf cf) d 0 n) ∧ SortedIn slt 0 n (Sort.insertionSort (ltOf cf) d 0 n)) := insertion_agree hS (Nat.zero_le _) (by omega) (by rw [hn]; exact hA)
    rw [← hn]
    have z1 : ¬ (20 : Int) ≤ (n : Int) := by omega
    have z2 : ¬ (20 : Int) < (n : Int) := by omega
    clear hc S R hcmp hn hA
    go_enter Tryz.func176, Tryz.ntmps176
    go_wp2
    refine wp_loop_rounds 1 ?_
    rw [rounds_succ]
    go_wp2_with (go_at_call 236; refine HC.out.mono ?_; rintro e w1 ⟨rfl, S2⟩; have SR2 := Lib.hid S2; clear S2)
    refine wp_loop_rounds 1 ?_
    rw [rounds_succ]
    go_wp2
    go_end0
    exact ⟨rfl, _, HF.out.1, HF.out.2, SR2.out⟩
  · by_cases c2 : n = 20
    · subst c2
      have hc1 := ins_z hm enc cf g cb blk off cap 0 20 20 0 20 d d w w eg hcmp rfl rfl R hn.symm hn.symm S (by omega) (by omega) (by omega)
      have HC1 := Lib.hid hc1
      have HF : Hid (PermIn 0 20 d (Sort.insertionSort (ltOf cf) d 0 20) ∧ SortedIn slt 0 20 (Sort.insertionSort (ltOf cf) d 0 20)) := insertion_agree hS (by omega) (by omega) (hA.sub (Nat.le_refl _) (by omega))
      have HC2 : Hid (∀ w1, SW enc w blk off (Sort.insertionSort (ltOf cf) d 0 20) w1 → Calls Tryz.prog 236 #[.slice (some ⟨blk, off, none⟩) 20 cap, .int .i64 20, .int .i64 20, .func (.func g) #[] cb] w1 fun e w' => e = .returned (.tuple #[]) ∧ SW enc w blk off (Sort.insertionSort (ltOf cf) (Sort.insertionSort (ltOf cf) d 0 20) 20 20) w') :=
        fun w1 S1 => ins_z hm enc cf g cb blk off cap 20 20 20 20 20 d _ w w1 eg hcmp rfl rfl R hn.symm (by rw [HF.out.1.1]; exact hn.symm) S1 (by omega) (by omega) (by omega)
      rw [← hn]
      clear hc1 S R hcmp hn hA
      go_enter Tryz.func176, Tryz.ntmps176
      go_wp2
      refine wp_loop_rounds 2 ?_
      rw [rounds_succ]
      go_wp2_with (go_at_call 236; refine HC1.out.mono ?_; rintro e w1 ⟨rfl, S2⟩; have SR1 := Lib.hid S2; clear S2)
      rw [rounds_succ]
      go_wp2_with (go_at_call 236; refine (HC2.out _ SR1.out).mono ?_; rintro e w1 ⟨rfl, S2⟩; have SR2 := Lib.hid S2; clear S2)
      refine wp_loop_rounds 1 ?_
      rw [rounds_succ]
      go_wp2
      go_end0
      refine ⟨rfl, _, HF.out.1, HF.out.2, ?_⟩
      have := SR2.out
      rw [ins_none] at this
      exact this
    · obtain ⟨TP, TPP⟩ := two_blocks hS (k := 20) (by omega) (by omega) (show Agr (ltOf cf) slt 0 n d from by rw [hn]; exact hA)
      have HTP := Lib.hid TP
      have HTPP := Lib.hid TPP
      clear TP TPP
      have hc1 := ins_z hm enc cf g cb blk off cap 0 20 n 0 20 d d w w eg hcmp rfl rfl R hn.symm hn.symm S (by omega) (by omega) (by omega)
      have HC1 := Lib.hid hc1
      have z1 : (Sort.insertionSort (ltOf cf) d 0 20).size = n := by rw [(insertion_agree hS (Nat.zero_le 20) (by omega) (hA.sub (Nat.le_refl _) (by omega))).1.1]; exact hn.symm
      have HC2 : Hid (∀ w1, SW enc w blk off (Sort.insertionSort (ltOf cf) d 0 20) w1 → Calls Tryz.prog 236 #[.slice (some ⟨blk, off, none⟩) n cap, .int .i64 20, .int .i64 n, .func (.func g) #[] cb] w1 fun e w' => e = .returned (.tuple #[]) ∧ SW enc w blk off (Sort.insertionSort (ltOf cf) (Sort.insertionSort (ltOf cf) d 0 20) 20 n) w') :=
        fun w1 S1 => ins_z hm enc cf g cb blk off cap 20 n n 20 n d _ w w1 eg hcmp rfl rfl R hn.symm z1 S1 (by omega) (by omega) (by omega)
      have HSY : Hid (∀ w1, SW enc w blk off (Sort.insertionSort (ltOf cf) (Sort.insertionSort (ltOf cf) d 0 20) 20 n) w1 → Calls Tryz.prog 237 #[.slice (some ⟨blk, off, none⟩) n cap, .int .i64 (0 : Nat), .int .i64 (20 : Nat), .int .i64 n, .func (.func g) #[] cb] w1 fun e w' => e = .returned (.tuple #[]) ∧ ∃ d', PermIn 0 n (Sort.insertionSort (ltOf cf) (Sort.insertionSort (ltOf cf) d 0 20) 20 n) d' ∧ SortedIn slt 0 n d' ∧ SW enc w blk off d' w') :=
        fun w1 S1 => symMerge_all hm enc cf hS g cb blk off cap n d w eg hcmp R hn.symm (by omega) n 0 20 n _ w1 (by omega) (by omega) (by omega) (Nat.le_refl _) (by rw [HTPP.out.1]; exact hn.symm) HTP.out S1
      have hsd : d.size = n := hn.symm
      rw [← hn]
      by_cases c3 : n = 40
      · subst c3
        have z2 : (Sort.insertionSort (ltOf cf) (Sort.insertionSort (ltOf cf) d 0 20) 20 40).size = 40 := by rw [HTPP.out.1]; exact hsd
        have HC3 : Hid (∀ w1, SW enc w blk off (Sort.insertionSort (ltOf cf) (Sort.insertionSort (ltOf cf) d 0 20) 20 40) w1 → Calls Tryz.prog 236 #[.slice (some ⟨blk, off, none⟩) 40 cap, .int .i64 40, .int .i64 40, .func (.func g) #[] cb] w1 fun e w' => e = .returned (.tuple #[]) ∧ SW enc w blk off (Sort.insertionSort (ltOf cf) (Sort.insertionSort (ltOf cf) (Sort.insertionSort (ltOf cf) d 0 20) 20 40) 40 40) w') :=
          fun w1 S1 => ins_z hm enc cf g cb blk off cap 40 40 40 40 40 d _ w w1 eg hcmp rfl rfl R hsd z2 S1 (by omega) (by omega) (by omega)
        clear hc1 S R hcmp hn hA hsd z1 z2
        go_enter Tryz.func176, Tryz.ntmps176
        go_wp2
        refine wp_loop_rounds 3 ?_
        rw [rounds_succ]
        go_wp2_with (go_at_call 236; refine HC1.out.mono ?_; rintro e w1 ⟨rfl, S2⟩; have SR1 := Lib.hid S2; clear S2)
        rw [rounds_succ]
        go_wp2_with (go_at_call 236; refine (HC2.out _ SR1.out).mono ?_; rintro e w1 ⟨rfl, S2⟩; have SR2 := Lib.hid S2; clear S2)
        rw [rounds_succ]
        go_wp2_with (go_at_call 236; refine (HC3.out _ SR2.out).mono ?_; rintro e w1 ⟨rfl, S2⟩; rw [ins_none] at S2; have SR3 := Lib.hid S2; clear S2)
        refine wp_loop_rounds 2 ?_
        rw [rounds_succ]
        go_wp2
        refine wp_loop_rounds 2 ?_
        rw [rounds_succ]
        go_wp2_with (go_at_call 237; refine (HSY.out _ SR3.out).mono ?_; rintro e w1 ⟨rfl, d4, hp4, hs4, S4⟩; have HP4 := Lib.hid (And.intro hp4 hs4); have SR4 := Lib.hid S4; clear S4 hp4 hs4)
        rw [rounds_succ]
        go_wp2
        rw [rounds_succ]
        go_wp2
        go_end0
        exact ⟨rfl, d4, permIn_trans _ _ _ _ _ HTPP.out HP4.out.1, HP4.out.2, SR4.out⟩
      · have y1 : (20 : Int) ≤ (n : Int) := by omega
        have y2 : ¬ (40 : Int) ≤ (n : Int) := by omega
        have y3 : (20 : Int) < (n : Int) := by omega
        have y4 : ¬ (40 : Int) < (n : Int) := by omega
        clear hc1 S R hcmp hn hA hsd z1
        go_enter Tryz.func176, Tryz.ntmps176
        go_wp2
        refine wp_loop_rounds 2 ?_
        rw [rounds_succ]
        go_wp2_with (go_at_call 236; refine HC1.out.mono ?_; rintro e w1 ⟨rfl, S2⟩; have SR1 := Lib.hid S2; clear S2)
        rw [rounds_succ]
        go_wp2_with (go_at_call 236; refine (HC2.out _ SR1.out).mono ?_; rintro e w1 ⟨rfl, S2⟩; have SR2 := Lib.hid S2; clear S2)
        refine wp_loop_rounds 2 ?_
        rw [rounds_succ]
        go_wp2
        refine wp_loop_rounds 1 ?_
        rw [rounds_succ]
        go_wp2_with (go_at_call 237; refine (HSY.out _ SR2.out).mono ?_; rintro e w1 ⟨rfl, d4, hp4, hs4, S4⟩; have HP4 := Lib.hid (And.intro hp4 hs4); have SR4 := Lib.hid S4; clear S4 hp4 hs4)
        rw [rounds_succ]
        go_wp2
        go_end0
        exact ⟨rfl, d4, permIn_trans _ _ _ _ _ HTPP.out HP4.out.1, HP4.out.2, SR4.out⟩
end walks
end Go.Proofs.YtimahogkcmmcnaaGreatDoor
