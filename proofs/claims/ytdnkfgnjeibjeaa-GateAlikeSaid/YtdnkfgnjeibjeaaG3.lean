import Derived.Test.YtdnkfgnjeibjeaaG2
import Derived.StillTailTactics
namespace Go.Proofs.Ytdnkfgnjeibjeaa
open Go.RowKit

def Inp.unsent (x : Inp) : Inp := { x with sent := false }

def Gm.endsTo (m : Gm) (k : Nat) : Gm := { m with under := 0, done := max m.done m.under, inp := fun i => if i < k then (m.inp i).unsent else m.inp i }
def Gm.ends (m : Gm) : Gm := { m with under := 0, done := max m.done m.under, inp := fun i => (m.inp i).unsent }

theorem GateAt.congr {w : World} {D : Nat → Prop} {gs : GS} {m m' : Gm} (h : GateAt w D gs m) (h1 : m'.n = m.n) (h2 : m'.al = m.al) (h3 : m'.under = m.under) (h4 : m'.done = m.done) (h5 : ∀ i, i < m.n → m'.inp i = m.inp i) : GateAt w D gs m' := by
  obtain ⟨n, al, inp, u, d⟩ := m
  obtain ⟨n', al', inp', u', d'⟩ := m'
  subst h1 h2 h3 h4
  dsimp only at h5
  refine ⟨h.pos, h.le, h.hG, h.harr, fun i hi => ?_, h.inj, fun i hi => ?_, h.qinj, fun i hi p hp => ?_, h.hD, h.hmap⟩
  · have := h.hib i hi; dsimp only at this ⊢; rw [h5 i hi]; exact this
  · have := h.hq i hi; dsimp only at this ⊢; rw [h5 i hi]; exact this
  · dsimp only at hp; rw [h5 i hi] at hp; exact h.hrow i hi p hp

section walks
set_option maxHeartbeats 800000
set_option maxRecDepth 100000

theorem f54_any (w : World) {D : Nat → Prop} (gs : GS) (m : Gm) (h : GateAt w D gs m) :
    Calls Try.prog 54 #[.pointer (some ⟨gs.G, 0, none⟩)] w fun e w' => e = .returned (.tuple #[]) ∧ GateAt w' D gs m.ends ∧ Only (gs.own m.n) w w' := by
  obtain ⟨g0, g1, g2, g3, g4, gf⟩ := h.cells
  have H := Lib.hid h
  have hle := h.le
  clear h
  go_enter Try.func54, Try.ntmps54
  go_wp2_with fail
  go_still_tail 12, (by kernel_rfl)
  change wpList _ _ _ _ _ w.drew
  have hdr : Below w.heap.size w w.drew := (Below.refl _ _).drew
  generalize w.drew = w2 at hdr
  have h2 := H.out.below hdr
  obtain ⟨g0, g1, g2, g3, g4, gf⟩ := h2.cells
  have HD := Lib.hid hdr
  have H2 := Lib.hid h2
  clear hdr h2
  go_wp2_with fail
  all_goals
    go_loopw [24] (fun i wr => ∃ k : Nat, k ≤ m.n ∧ i = .int .i64 k ∧ GateAt wr D gs (m.endsTo k) ∧ Only (gs.own m.n) w wr) (fun i _ => m.n - (intOf i).toNat)
    case atStart =>
      refine ⟨0, Nat.zero_le _, rfl, ?_, ((Only.of_below HD.out).setCell (fun _ => own_G gs _) _).setCell (fun _ => own_G gs _) _⟩
      have hh := heap_set (j := 2) (heap_set (j := 3) H2.out.hG (.int .i64 (max m.done m.under))) (.int .i64 0)
      have hm := H2.out.setG 0 (max m.done m.under) (by simpa using hh) (fun b hb => (heap_set_ne _ hb).trans (heap_set_ne _ hb))
      have hmx := hm.congr (m' := m.endsTo 0) rfl rfl rfl rfl (fun i _ => by simp [Gm.endsTo])
      first
        | (have e : max m.done m.under = m.under := by omega
           rw [e] at hmx; exact hmx)
        | (have e : max m.done m.under = m.done := by omega
           rw [e] at hmx; exact hmx)
    case round =>
      obtain ⟨k, hk, rfl, hg, ho⟩ := hrel
      have HG := Lib.hid hg
      have HO := Lib.hid ho
      by_cases hlt : k < m.n
      · obtain ⟨ia, i0, i1, i2, i3, i4, ifr⟩ := hg.icells (i := k) hlt
        clear hg ho
        have j1 : (0 : Int) ≤ (k : Int) := by omega
        have j2 : (k : Int) < (m.n : Int) := by omega
        go_wp2_with fail
        go_roundw
        case rel =>
          refine ⟨k + 1, by omega, by go_num, ?_, HO.out.setCell (fun _ => own_ib gs hlt) _⟩
          have hh := heap_set (j := 3) (HG.out.hib k hlt) (.bool false)
          have hm := HG.out.setI hlt (m.inp k).unsent (by simp [Gm.endsTo, Inp.unsent]) (by simpa [Gm.endsTo, Inp.unsent] using hh) (fun b hb => heap_set_ne _ hb)
          refine hm.congr rfl rfl rfl rfl (fun i _ => ?_)
          simp only [Gm.endsTo, Gm.upd]
          by_cases e : i = k
          · subst e; simp
          · by_cases e2 : i < k
            · rw [if_pos (by omega), if_neg e, if_pos e2]
            · rw [if_neg (by omega), if_neg e, if_neg e2]
        case measure => simp [intOf]; omega
      · clear hg ho
        go_wp2_with fail
        go_end0
        refine ⟨rfl, HG.out.congr rfl rfl rfl rfl (fun i hi => ?_), HO.out⟩
        have : i < k := by have : i < m.n := hi; omega
        simp [Gm.endsTo, Gm.ends, this]

end walks
end Go.Proofs.Ytdnkfgnjeibjeaa
