/-
  The stable sort of a list of numbers by a closure, the walks, part 1: it proves what swapRange and rotate do to the row. Conditions: the row lies in the world as the sort's words say.
-/
import Derived.Test.YtimahogkcmmcnaaGreatDoorProg
import Derived.WalkKit
import Derived.WalkSpells
import Derived.WalkLawsBesides
import Derived.Shelf.SlSortCmp.Insertion1
import Derived.Lib.Hide
import Derived.Test.YtimahogkcmmcnaaGreatDoorS1
set_option linter.unusedSimpArgs false
set_option linter.unusedVariables false
namespace Go.Proofs.YtimahogkcmmcnaaGreatDoor
open Go.Shelf Go.RowKit Go.Lib Go.Sort Go.Proofs.YtimahogkcmmcnaaGreatDoor.Stab
variable {α : Type} [Inhabited α]

/-- A place of the row, as the walk names it. -/
theorem swp_facts {n : Nat} {z : Int} {k : Nat} (h : z = (k : Int)) (hk : k < n) (hn : n < 4611686018427387904) :
    z.toNat = k ∧ 0 ≤ z ∧ z < (n : Int) ∧ IntKind.i64.wrap z = z := by
  refine ⟨by omega, by omega, by omega, ?_⟩
  rw [IntKind.wrap_i64]; omega

section walks
set_option maxHeartbeats 4000000
set_option maxRecDepth 1000000

theorem swapRange_s (hm : Tryz.prog.follows .mixedOrders = true) (enc : α → Value) (g : Nat) (cb : Array Value) (blk off cap a b n : Nat) (d0 d : Array α) (w0 w : World)
    (R : Row1 enc w0 blk off d0) (hs : d0.size = d.size) (S : SW enc w0 blk off d w) (hab : a + n ≤ b) (hb : b + n ≤ d.size) (hsz : d.size < 4611686018427387904) :
    Calls Tryz.prog 360 #[.slice (some ⟨blk, off, none⟩) d.size cap, .int .i64 a, .int .i64 b, .int .i64 n, .func (.func g) #[] cb] w fun e w' => e = .returned (.tuple #[]) ∧ ∃ d', IsSwp d d' a b n ∧ SW enc w0 blk off d' w' := by
  have mixed := hm
  have hcl0 := R.hO.cells
  simp only [Value.cells] at hcl0
  have hst := R.hO.store Tryz.prog
  have S0 : Aside (SW enc w0 blk off d w) := S
  clear S
  go_enter Tryz.func360, Tryz.ntmps360
  go_wp2
  go_loopg [10] n (fun kx s10 wr => ∃ (i : Nat) (dk : Array α), s10 = .int .i64 i ∧ i ≤ n ∧ n - i ≤ kx ∧ dk.size = d.size ∧ Aside (SW enc w0 blk off dk wr) ∧ Hid (IsSwp d dk a b i))
  case atStart => exact ⟨0, d, rfl, by omega, by omega, rfl, S0, IsSwp.zero d a b⟩
  case round =>
    clear S0
    obtain ⟨i, dk, rfl, hin, hkx, hds, S1, HI⟩ := hrel
    by_cases hlt : i < n
    · go_wp2_with fail
      obtain ⟨iN, hiN⟩ : ∃ q, q = a + i := ⟨_, rfl⟩
      obtain ⟨jN, hjN⟩ : ∃ q, q = b + i := ⟨_, rfl⟩
      obtain ⟨ea, pa, ba, ra⟩ := swp_facts (n := d.size) (z := (a : Int) + (i : Int)) (k := iN) (by omega) (by omega) hsz
      obtain ⟨ec, pc, bc, rc⟩ := swp_facts (n := d.size) (z := (b : Int) + (i : Int)) (k := jN) (by omega) (by omega) hsz
      obtain ⟨x, hx⟩ : ∃ x, x = dk[a + i]! := ⟨_, rfl⟩
      obtain ⟨y, hy⟩ : ∃ x, x = dk[b + i]! := ⟨_, rfl⟩
      have S2 : Aside (SW enc w0 blk off (swp dk (a + i) (b + i)) ((wr.setCell ⟨blk, off + iN, none⟩ (enc y)).setCell ⟨blk, off + jN, none⟩ (enc x)).drew) := by rw [hiN, hjN, hx, hy]; exact S1.out.swapped R (a + i) (b + i) (by omega) (by omega)
      have ca := S1.out.c1 R (by omega) (a + i) (by omega)
      have c2 := S1.out.c1 R (by omega) (b + i) (by omega)
      have fa := S1.out.f1 R (by omega) (a + i) (by omega)
      have f2 := S1.out.f1 R (by omega) (b + i) (by omega)
      obtain ⟨u, cc⟩ := S1.out.c2 R (by omega) (a + i) (b + i) (by omega) (by omega) (enc y)
      rw [← hjN, ← hiN] at cc
      rw [← hx, ← hiN] at ca
      rw [← hy, ← hjN] at c2
      rw [← hiN] at fa
      rw [← hjN] at f2
      clear S1 hx hy hiN hjN
      go_wp2_with fail
      go_big_region_o
      clear ca c2 cc fa f2
      generalize ((wr.setCell ⟨blk, off + iN, none⟩ (enc y)).setCell ⟨blk, off + jN, none⟩ (enc x)).drew = w2 at S2 ⊢
      clear ea ec
      go_wp2
      go_roundg (n - (i + 1))
      case measure => omega
      case rel => exact ⟨i + 1, swp dk (a + i) (b + i), by go_num, by omega, by omega, by rw [Stab.swp_size]; exact hds, S2, HI.out.step (by omega) (by omega)⟩
    · have : i = n := by omega
      subst this
      go_wp2
      go_end0
      exact ⟨rfl, dk, HI.out, S1.out⟩

theorem swapRange_z (hm : Tryz.prog.follows .mixedOrders = true) (enc : α → Value) (g : Nat) (cb : Array Value) (blk off cap a b n : Nat) (za zb zn : Int) (d0 d : Array α) (w0 w : World)
    (ha : za = (a : Int)) (hb' : zb = (b : Int)) (hn : zn = (n : Int))
    (R : Row1 enc w0 blk off d0) (hs : d0.size = d.size) (S : SW enc w0 blk off d w) (hab : a + n ≤ b) (hb : b + n ≤ d.size) (hsz : d.size < 4611686018427387904) :
    Calls Tryz.prog 360 #[.slice (some ⟨blk, off, none⟩) d.size cap, .int .i64 za, .int .i64 zb, .int .i64 zn, .func (.func g) #[] cb] w fun e w' => e = .returned (.tuple #[]) ∧ ∃ d', IsSwp d d' a b n ∧ SW enc w0 blk off d' w' := by
  subst ha hb' hn
  exact swapRange_s hm enc g cb blk off cap a b n d0 d w0 w R hs S hab hb hsz

theorem rotate_s (hm : Tryz.prog.follows .mixedOrders = true) (enc : α → Value) (g : Nat) (cb : Array Value) (blk off cap a m b : Nat) (d0 d : Array α) (w0 w : World)
    (R : Row1 enc w0 blk off d0) (hs : d0.size = d.size) (S : SW enc w0 blk off d w) (ham : a < m) (hmb : m < b) (hb : b ≤ d.size) (hsz : d.size < 4611686018427387904) :
    Calls Tryz.prog 305 #[.slice (some ⟨blk, off, none⟩) d.size cap, .int .i64 a, .int .i64 m, .int .i64 b, .func (.func g) #[] cb] w fun e w' => e = .returned (.tuple #[]) ∧ ∃ d', IsRot d d' a m b ∧ SW enc w0 blk off d' w' := by
  have S0 : Aside (SW enc w0 blk off d w) := S
  clear S
  have R0 : Aside (Row1 enc w0 blk off d0) := R
  clear R
  go_enter Tryz.func305, Tryz.ntmps305
  go_wp2
  go_loopg [10, 11] (b - a) (fun kx s10 s11 wr => ∃ (i j : Nat) (dk : Array α), s10 = .int .i64 i ∧ s11 = .int .i64 j ∧ 0 < i ∧ 0 < j ∧ i ≤ m ∧ m + j ≤ b ∧ i + j ≤ kx ∧ dk.size = d.size ∧ Aside (SW enc w0 blk off dk wr) ∧ Hid (∀ d', IsRot dk d' (m - i) m (m + j) → IsRot d d' a m b))
  case atStart =>
    refine ⟨m - a, b - m, d, ?_, ?_, by omega, by omega, by omega, by omega, by omega, rfl, S0, fun d' h => ?_⟩
    · first | rfl | go_num | (congr 1; omega)
    · first | rfl | go_num | (congr 1; omega)
    · rw [show m - (m - a) = a from by omega, show m + (b - m) = b from by omega] at h
      exact h
  case round =>
    clear S0
    obtain ⟨i, j, dk, rfl, rfl, hi0, hj0, him, hjb, hkx, hds, S1, HI⟩ := hrel
    have wmi : IntKind.i64.wrap ((m : Int) - (i : Int)) = (m : Int) - (i : Int) := by rw [IntKind.wrap_i64]; omega
    by_cases heq : i = j
    · subst heq
      have hc := swapRange_z hm enc g cb blk off cap (m - i) m i ((m : Int) - (i : Int)) (m : Int) (i : Int) d0 dk w0 wr (by omega) rfl rfl R0.out (by omega) S1.out (by omega) (by omega) (by omega)
      rw [hds] at hc
      have HC := Lib.hid hc
      clear hc S1
      go_wp2_with (go_at_call 360; refine HC.out.mono ?_; rintro e w1 ⟨rfl, d1, h1, S2⟩)
      go_end0
      exact ⟨rfl, d1, HI.out d1 (IsRot.even him h1), S2⟩
    · have hnez : ¬ (i : Int) = (j : Int) := by omega
      by_cases hgt : j < i
      · have hgtz : (j : Int) < (i : Int) := by omega
        have hc := swapRange_z hm enc g cb blk off cap (m - i) m j ((m : Int) - (i : Int)) (m : Int) (j : Int) d0 dk w0 wr (by omega) rfl rfl R0.out (by omega) S1.out (by omega) (by omega) (by omega)
        rw [hds] at hc
        have HC := Lib.hid hc
        clear hc S1
        go_wp2_with (go_at_call 360; refine HC.out.mono ?_; rintro e w1 ⟨rfl, d1, h1, S2⟩; have S3 := Lib.hid S2; have H1 := Lib.hid h1; clear S2 h1)
        go_roundg (i - j + j)
        case measure => omega
        case rel => exact ⟨i - j, j, d1, by first | rfl | go_num | (congr 1; omega), rfl, by omega, hj0, by omega, hjb, by omega, by rw [H1.out.1]; exact hds, S3.out, fun d' h => HI.out d' (IsRot.left him hgt H1.out h)⟩
      · have hlt : i < j := by omega
        have hgtz : ¬ (j : Int) < (i : Int) := by omega
        have wmj : IntKind.i64.wrap ((m : Int) + (j : Int)) = (m : Int) + (j : Int) := by rw [IntKind.wrap_i64]; omega
        have wmj2 : IntKind.i64.wrap ((m : Int) + (j : Int) - (i : Int)) = (m : Int) + (j : Int) - (i : Int) := by rw [IntKind.wrap_i64]; omega
        have hc := swapRange_z hm enc g cb blk off cap (m - i) (m + j - i) i ((m : Int) - (i : Int)) ((m : Int) + (j : Int) - (i : Int)) (i : Int) d0 dk w0 wr (by omega) (by omega) rfl R0.out (by omega) S1.out (by omega) (by omega) (by omega)
        rw [hds] at hc
        have HC := Lib.hid hc
        clear hc S1
        go_wp2_with (go_at_call 360; refine HC.out.mono ?_; rintro e w1 ⟨rfl, d1, h1, S2⟩; have S3 := Lib.hid S2; have H1 := Lib.hid h1; clear S2 h1)
        go_roundg (i + (j - i))
        case measure => omega
        case rel => exact ⟨i, j - i, d1, rfl, by first | rfl | go_num | (congr 1; omega), hi0, by omega, him, by omega, by omega, by rw [H1.out.1]; exact hds, S3.out, fun d' h => HI.out d' (IsRot.right him hlt H1.out h)⟩
end walks
end Go.Proofs.YtimahogkcmmcnaaGreatDoor
