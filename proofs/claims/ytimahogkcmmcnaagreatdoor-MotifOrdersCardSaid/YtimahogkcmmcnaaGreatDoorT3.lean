/-
  The stable sort of a list of numbers by a closure, the walks, part 3: it proves that symMerge merges where the right part is one element. Conditions: the row lies in the world as the sort's words say; the two parts ascend.
-/
import Derived.Test.YtimahogkcmmcnaaGreatDoorT2
set_option linter.unusedSimpArgs false
set_option linter.unusedVariables false
namespace Go.Proofs.YtimahogkcmmcnaaGreatDoor
open Go.Shelf Go.RowKit Go.Lib Go.Sort Go.Proofs.YtimahogkcmmcnaaGreatDoor.Stab
variable {α : Type} [Inhabited α]
section walks
set_option maxHeartbeats 4000000
set_option maxRecDepth 1000000

theorem symMerge_right (hm : Tryz.prog.follows .mixedOrders = true) (enc : α → Value) (cf : α → α → Int) {slt : α → α → Bool} (hS : SWO slt) (g : Nat) (cb : Array Value) (blk off cap a m b : Nat) (d0 d : Array α) (w0 w : World)
    (eg : ∀ args w, (callFunc g args).run Tryz.prog w = .ok (.enter g args) w) (hcmp : CmpLays1 Tryz.prog g cb enc cf blk off d0.size w0)
    (R : Row1 enc w0 blk off d0) (hs : d0.size = d.size) (S : SW enc w0 blk off d w) (hbm : b = m + 1) (hab : a + 1 < m) (hb : b ≤ d.size) (hsz : d.size < 4611686018427387904) (hp : MPre (ltOf cf) slt a m b d) :
    Calls Tryz.prog 237 #[.slice (some ⟨blk, off, none⟩) d.size cap, .int .i64 a, .int .i64 m, .int .i64 b, .func (.func g) #[] cb] w fun e w' => e = .returned (.tuple #[]) ∧ ∃ d', PermIn a b d d' ∧ SortedIn slt a b d' ∧ SW enc w0 blk off d' w' := by
  have mixed := hm
  have hcl0 := R.hO.cells
  simp only [Value.cells] at hcl0
  have hst := R.hO.store Tryz.prog
  have HC : Aside _ := hcmp
  have S0 : Aside (SW enc w0 blk off d w) := S
  have HP : Aside (MPre (ltOf cf) slt a m (m + 1) d) := by rw [← hbm]; exact hp
  have HS : Aside (SWO slt) := hS
  have hbm1 : m < b := by omega
  have hbm2 : b < m + 2 := by omega
  clear S hcmp hp hS
  have one : (b : Int) - (m : Int) = 1 := by omega
  have hne0 : ((m : Int) - (a : Int) == 1) = false := by rw [beq_eq_false_iff_ne]; omega
  have HBM : Hid (b = m + 1) := hbm
  clear hbm
  go_enter Tryz.func237, Tryz.ntmps237
  go_wp2
  go_loopg [14, 15] (m - a) (fun kx s10 s11 wr => ∃ (i j : Nat), s10 = .int .i64 i ∧ s11 = .int .i64 j ∧ a ≤ i ∧ i ≤ j ∧ j ≤ m ∧ j - i ≤ kx ∧ Aside (SW enc w0 blk off d wr) ∧ Hid ((i = a ∨ ltOf cf d[m]! d[i - 1]! = false) ∧ (j = m ∨ ltOf cf d[m]! d[j]! = true)))
  case atStart => exact ⟨a, m, rfl, rfl, by omega, by omega, by omega, by omega, S0, .inl rfl, .inl rfl⟩
  case round =>
    clear S0
    obtain ⟨i, j, rfl, rfl, hai, hij, hjb, hkx, S1, HI⟩ := hrel
    by_cases hlt : i < j
    · have hltz : (i : Int) < (j : Int) := by omega
      obtain ⟨h, hh⟩ : ∃ h, h = (i + j) / 2 := ⟨_, rfl⟩
      have hz : ((i : Int) + (j : Int)) / 2 = (h : Int) := by omega
      have hz2 : (i + j) / 2 = h := hh.symm
      have hlo : i ≤ h := by omega
      have hhi : h < j := by omega
      have bh : (h : Int) < (d.size : Int) := by omega
      have bA : (m : Int) < (d.size : Int) := by omega
      have wij : IntKind.i64.wrap ((i : Int) + (j : Int)) = (i : Int) + (j : Int) := by rw [IntKind.wrap_i64]; omega
      obtain ⟨x, hx⟩ : ∃ x, x = d[m]! := ⟨_, rfl⟩
      obtain ⟨y, hy⟩ : ∃ x, x = d[h]! := ⟨_, rfl⟩
      have la := S1.out.cl R (by omega) m (by omega)
      have l2 := S1.out.cl R (by omega) h (by omega)
      rw [← hx] at la
      rw [← hy] at l2
      have hc := S1.out.cmp HC.out (by omega) x y
      clear hh
      cases hlv : (ltOf cf) d[m]! d[h]! with
      | true =>
        have hv : cf x y < 0 := by rw [hx, hy]; exact of_decide_eq_true hlv
        have hd : decide (cf x y < 0) = true := decide_eq_true hv
        have HX : Aside (x = d[m]! ∧ y = d[h]!) := ⟨hx, hy⟩
        clear hx hy
        go_wp2_with fail
        go_quiet_grown (first | (go_at_fn g; refine Calls.grown_of (hc _ _)))
        have S2 : Aside (SW enc w0 blk off d (grow (wr.drewN nq) osq)) := S1.out.grown nq osq
        clear la l2 hc S1
        generalize grow (wr.drewN nq) osq = w2 at S2 ⊢
        clear nq osq
        go_wp2
        go_roundg (h - i)
        case measure => omega
        case rel => exact ⟨i, h, rfl, by first | rfl | go_num, hai, hlo, by omega, by omega, S2, HI.out.1, .inr hlv⟩
      | false =>
        have hv : ¬ cf x y < 0 := by rw [hx, hy]; exact of_decide_eq_false hlv
        have hd : decide (cf x y < 0) = false := decide_eq_false hv
        have HX : Aside (x = d[m]! ∧ y = d[h]!) := ⟨hx, hy⟩
        clear hx hy
        go_wp2_with fail
        go_quiet_grown (first | (go_at_fn g; refine Calls.grown_of (hc _ _)))
        have S2 : Aside (SW enc w0 blk off d (grow (wr.drewN nq) osq)) := S1.out.grown nq osq
        clear la l2 hc S1
        generalize grow (wr.drewN nq) osq = w2 at S2 ⊢
        clear nq osq
        go_wp2
        go_roundg (j - (h + 1))
        case measure => omega
        case rel => exact ⟨h + 1, j, by go_num, rfl, by omega, by omega, hjb, by omega, S2, .inr (by rw [show h + 1 - 1 = h from by omega]; exact hlv), HI.out.2⟩
    · have : i = j := by omega
      subst this
      go_wp2
      go_loopg [17] (m - i) (fun kx s13 wr2 => ∃ (k : Nat) (dk : Array α), s13 = .int .i64 k ∧ i ≤ k ∧ k ≤ m ∧ k - i ≤ kx ∧ dk.size = d.size ∧ Aside (SW enc w0 blk off dk wr2) ∧ Hid (IsRot d dk k m (m + 1)))
      case atStart => exact ⟨m, d, rfl, hjb, Nat.le_refl _, by omega, rfl, S1, IsRot.none_left d m (m + 1) (by omega)⟩
      case round =>
        clear S1
        obtain ⟨k, dk, rfl, hik, hkm, hkx2, hds, S1, HR⟩ := hrel
        by_cases hl : i < k
        · have hlz : (i : Int) < (k : Int) := by omega
          obtain ⟨kp, hkp⟩ : ∃ q, q = k - 1 := ⟨_, rfl⟩
          have hkz : (k : Int) - 1 = (kp : Int) := by omega
          go_wp2_with fail
          obtain ⟨iN, hiN⟩ : ∃ q, q = k := ⟨_, rfl⟩
          obtain ⟨jN, hjN⟩ : ∃ q, q = k - 1 := ⟨_, rfl⟩
          obtain ⟨ea, pa, ba, ra⟩ := swp_facts (n := d.size) (z := (k : Int)) (k := iN) (by omega) (by omega) hsz
          obtain ⟨ec, pc, bc, rc⟩ := swp_facts (n := d.size) (z := (kp : Int)) (k := jN) (by omega) (by omega) hsz
          obtain ⟨x, hx⟩ : ∃ x, x = dk[k]! := ⟨_, rfl⟩
          obtain ⟨y, hy⟩ : ∃ x, x = dk[k - 1]! := ⟨_, rfl⟩
          have S2 : Aside (SW enc w0 blk off (swp dk k (k - 1)) ((wr.setCell ⟨blk, off + iN, none⟩ (enc y)).setCell ⟨blk, off + jN, none⟩ (enc x)).drew) := by rw [hiN, hjN, hx, hy]; exact S1.out.swapped R k (k - 1) (by omega) (by omega)
          have ca := S1.out.c1 R (by omega) k (by omega)
          have c2 := S1.out.c1 R (by omega) (k - 1) (by omega)
          have fa := S1.out.f1 R (by omega) k (by omega)
          have f2 := S1.out.f1 R (by omega) (k - 1) (by omega)
          obtain ⟨u, cc⟩ := S1.out.c2 R (by omega) k (k - 1) (by omega) (by omega) (enc y)
          rw [← hjN, ← hiN] at cc
          rw [← hx, ← hiN] at ca
          rw [← hy, ← hjN] at c2
          rw [← hiN] at fa
          rw [← hjN] at f2
          have HKP : Hid (kp = k - 1) := hkp
          clear S1 hx hy hiN hjN hkp
          go_wp2_with fail
          go_big_region_o
          clear ca c2 cc fa f2
          generalize ((wr.setCell ⟨blk, off + iN, none⟩ (enc y)).setCell ⟨blk, off + jN, none⟩ (enc x)).drew = w2 at S2 ⊢
          clear ea ec
          go_wp2
          go_roundg (kp - i)
          case measure => omega
          case rel => exact ⟨k - 1, swp dk k (k - 1), by rw [← HKP.out], by omega, by omega, by omega, by rw [Stab.swp_size]; exact hds, S2, HR.out.down (by omega) hkm (by omega)⟩
        · have hlz : ¬ (i : Int) < (k : Int) := by omega
          have HRI : Hid (IsRot d dk i m (m + 1)) := by have hk : k = i := by omega
                                                        rw [← hk]; exact HR.out
          go_wp2
          refine bodyPost_ret (results_none rfl _ _ _) rfl ?_
          rw [HBM.out]
          refine ⟨rfl, dk, ?_, merge_one_right HS.out HP.out hai hjb (by omega) HI.out.1 HI.out.2 HRI.out, S1.out⟩
          exact permIn_mono d dk i (m + 1) a (m + 1) hai (Nat.le_refl _) (by omega) (HRI.out.perm hjb (by omega) (by omega))
end walks
end Go.Proofs.YtimahogkcmmcnaaGreatDoor
