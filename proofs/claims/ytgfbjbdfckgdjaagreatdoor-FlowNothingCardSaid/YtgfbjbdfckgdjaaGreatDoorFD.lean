/-
  The walks of FlowNothing, part 4: whether an act is larger than is looked at. No conditions.
-/
import Derived.Test.YtgfbjbdfckgdjaaGreatDoorFC
import Derived.LoopN
set_option linter.unusedSimpArgs false
set_option linter.unusedVariables false
namespace Go.Proofs.YtgfbjbdfckgdjaaGreatDoor
open Go.RowKit

section walks
set_option maxHeartbeats 4000000
set_option maxRecDepth 100000

theorem f5_a (w : World) (b : Nat) (k n m : Int) (a s : ByteArray) (na : Option Addr) (nn nc : Nat) (ea : Option Addr) (en ec : Nat) (h : ActB w b k n m a s na nn nc ea en ec)
    (ha : a.size ≤ 9223372036854775807) (hs : s.size ≤ 9223372036854775807) (hn : nn ≤ 9223372036854775807) (h1 : 100 < (a.size : Int)) :
    Calls Tryz.prog 5 #[.slice (some ⟨b, 0, none⟩) 1 1] w fun e w' => IsB e ∧ w' = w := by
  obtain ⟨c0, c1, c2, c3, c4, c5, c6⟩ := h.cells
  clear h
  go_enter Tryz.func5, Tryz.ntmps5
  go_wp2
  refine wp_loop_rounds 2 ?_
  rw [rounds_succ]
  go_wp2
  go_ret
  exact ⟨isB _, rfl⟩

theorem f5_s (w : World) (b : Nat) (k n m : Int) (a s : ByteArray) (na : Option Addr) (nn nc : Nat) (ea : Option Addr) (en ec : Nat) (h : ActB w b k n m a s na nn nc ea en ec)
    (ha : a.size ≤ 9223372036854775807) (hs : s.size ≤ 9223372036854775807) (hn : nn ≤ 9223372036854775807) (h1 : ¬ 100 < (a.size : Int)) (h2 : 100 < (s.size : Int)) :
    Calls Tryz.prog 5 #[.slice (some ⟨b, 0, none⟩) 1 1] w fun e w' => IsB e ∧ w' = w := by
  obtain ⟨c0, c1, c2, c3, c4, c5, c6⟩ := h.cells
  clear h
  go_enter Tryz.func5, Tryz.ntmps5
  go_wp2
  refine wp_loop_rounds 2 ?_
  rw [rounds_succ]
  go_wp2
  go_ret
  exact ⟨isB _, rfl⟩

theorem f5_n (w : World) (b : Nat) (k n m : Int) (a s : ByteArray) (na : Option Addr) (nn nc : Nat) (ea : Option Addr) (en ec : Nat) (h : ActB w b k n m a s na nn nc ea en ec)
    (ha : a.size ≤ 9223372036854775807) (hs : s.size ≤ 9223372036854775807) (hn : nn ≤ 9223372036854775807) (h1 : ¬ 100 < (a.size : Int)) (h2 : ¬ 100 < (s.size : Int)) (h3 : 60 < (nn : Int)) :
    Calls Tryz.prog 5 #[.slice (some ⟨b, 0, none⟩) 1 1] w fun e w' => IsB e ∧ w' = w := by
  obtain ⟨c0, c1, c2, c3, c4, c5, c6⟩ := h.cells
  clear h
  go_enter Tryz.func5, Tryz.ntmps5
  go_wp2
  refine wp_loop_rounds 2 ?_
  rw [rounds_succ]
  go_wp2
  go_ret
  exact ⟨isB _, rfl⟩

theorem f5_o (w : World) (b : Nat) (k n m : Int) (a s : ByteArray) (na : Option Addr) (nn nc : Nat) (ea : Option Addr) (en ec : Nat) (h : ActB w b k n m a s na nn nc ea en ec)
    (ha : a.size ≤ 9223372036854775807) (hs : s.size ≤ 9223372036854775807) (hn : nn ≤ 9223372036854775807) (he : EvsIn w ea en) (h1 : ¬ 100 < (a.size : Int)) (h2 : ¬ 100 < (s.size : Int)) (h3 : ¬ 60 < (nn : Int)) (k1 : ¬ k.tmod 15 = 10) (k2 : ¬ k.tmod 15 = 11) :
    Calls Tryz.prog 5 #[.slice (some ⟨b, 0, none⟩) 1 1] w fun e w' => IsB e ∧ w' = w := by
  obtain ⟨c0, c1, c2, c3, c4, c5, c6⟩ := h.cells
  clear h
  have HE := Lib.hid he
  clear he
  go_enter Tryz.func5, Tryz.ntmps5
  go_wp2
  refine wp_loop_rounds 2 ?_
  rw [rounds_succ]
  go_wp2_with (first
    | rw [if_neg k1]
    | rw [if_neg k2]
    | (go_at_call 20; refine (f20_any _ _ _ _ HE.out).mono ?_; rintro e w7 ⟨⟨bb, rfl⟩, rfl⟩; cases bb))
  · rw [rounds_succ]
    go_wp2
    go_ret
    exact ⟨isB _, rfl⟩
  · go_ret
    exact ⟨isB _, rfl⟩

theorem f5_p1 (w : World) (b : Nat) (k n m : Int) (a s : ByteArray) (na : Option Addr) (nn nc : Nat) (ea : Option Addr) (en ec : Nat) (h : ActB w b k n m a s na nn nc ea en ec)
    (ha : a.size ≤ 9223372036854775807) (hs : s.size ≤ 9223372036854775807) (hn : nn ≤ 9223372036854775807) (he : EvsIn w ea en) (h1 : ¬ 100 < (a.size : Int)) (h2 : ¬ 100 < (s.size : Int)) (h3 : ¬ 60 < (nn : Int)) (k1 : k.tmod 15 = 10) (k2 : ¬ k.tmod 15 = 11) (x1 : 4 < n) (x2 : n ≤ 16) :
    Calls Tryz.prog 5 #[.slice (some ⟨b, 0, none⟩) 1 1] w fun e w' => IsB e ∧ w' = w := by
  obtain ⟨c0, c1, c2, c3, c4, c5, c6⟩ := h.cells
  clear h
  have HE := Lib.hid he
  clear he
  go_enter Tryz.func5, Tryz.ntmps5
  go_wp2
  refine wp_loop_rounds 2 ?_
  rw [rounds_succ]
  go_wp2_with (first
    | rw [if_pos k1]
    | rw [if_neg k2]
    | rw [if_pos x1]
    | rw [if_pos x2]
    | (go_at_call 20; refine (f20_any _ _ _ _ HE.out).mono ?_; rintro e w7 ⟨⟨bb, rfl⟩, rfl⟩; cases bb))
  · go_ret
    exact ⟨isB _, rfl⟩
  · go_ret
    exact ⟨isB _, rfl⟩

theorem f5_p21 (w : World) (b : Nat) (k n m : Int) (a s : ByteArray) (na : Option Addr) (nn nc : Nat) (ea : Option Addr) (en ec : Nat) (h : ActB w b k n m a s na nn nc ea en ec)
    (ha : a.size ≤ 9223372036854775807) (hs : s.size ≤ 9223372036854775807) (hn : nn ≤ 9223372036854775807) (he : EvsIn w ea en) (h1 : ¬ 100 < (a.size : Int)) (h2 : ¬ 100 < (s.size : Int)) (h3 : ¬ 60 < (nn : Int)) (k1 : k.tmod 15 = 10) (k2 : ¬ k.tmod 15 = 11) (x1 : ¬ 4 < n) (x3 : 4 < m) (x4 : m ≤ 16) :
    Calls Tryz.prog 5 #[.slice (some ⟨b, 0, none⟩) 1 1] w fun e w' => IsB e ∧ w' = w := by
  obtain ⟨c0, c1, c2, c3, c4, c5, c6⟩ := h.cells
  clear h
  have HE := Lib.hid he
  clear he
  go_enter Tryz.func5, Tryz.ntmps5
  go_wp2
  refine wp_loop_rounds 2 ?_
  rw [rounds_succ]
  go_wp2_with (first
    | rw [if_pos k1]
    | rw [if_neg k2]
    | rw [if_neg x1]
    | rw [if_pos x3]
    | rw [if_pos x4]
    | (go_at_call 20; refine (f20_any _ _ _ _ HE.out).mono ?_; rintro e w7 ⟨⟨bb, rfl⟩, rfl⟩; cases bb))
  · go_ret
    exact ⟨isB _, rfl⟩
  · go_ret
    exact ⟨isB _, rfl⟩

theorem f5_p22 (w : World) (b : Nat) (k n m : Int) (a s : ByteArray) (na : Option Addr) (nn nc : Nat) (ea : Option Addr) (en ec : Nat) (h : ActB w b k n m a s na nn nc ea en ec)
    (ha : a.size ≤ 9223372036854775807) (hs : s.size ≤ 9223372036854775807) (hn : nn ≤ 9223372036854775807) (he : EvsIn w ea en) (h1 : ¬ 100 < (a.size : Int)) (h2 : ¬ 100 < (s.size : Int)) (h3 : ¬ 60 < (nn : Int)) (k1 : k.tmod 15 = 10) (k2 : ¬ k.tmod 15 = 11) (x1 : ¬ 4 < n) (x3 : ¬ 4 < m) :
    Calls Tryz.prog 5 #[.slice (some ⟨b, 0, none⟩) 1 1] w fun e w' => IsB e ∧ w' = w := by
  obtain ⟨c0, c1, c2, c3, c4, c5, c6⟩ := h.cells
  clear h
  have HE := Lib.hid he
  clear he
  go_enter Tryz.func5, Tryz.ntmps5
  go_wp2
  refine wp_loop_rounds 2 ?_
  rw [rounds_succ]
  go_wp2_with (first
    | rw [if_pos k1]
    | rw [if_neg k2]
    | rw [if_neg x1]
    | rw [if_neg x3]
    | (go_at_call 20; refine (f20_any _ _ _ _ HE.out).mono ?_; rintro e w7 ⟨⟨bb, rfl⟩, rfl⟩; cases bb))
  · rw [rounds_succ]
    go_wp2
    go_ret
    exact ⟨isB _, rfl⟩
  · go_ret
    exact ⟨isB _, rfl⟩

theorem f5_p23 (w : World) (b : Nat) (k n m : Int) (a s : ByteArray) (na : Option Addr) (nn nc : Nat) (ea : Option Addr) (en ec : Nat) (h : ActB w b k n m a s na nn nc ea en ec)
    (ha : a.size ≤ 9223372036854775807) (hs : s.size ≤ 9223372036854775807) (hn : nn ≤ 9223372036854775807) (he : EvsIn w ea en) (h1 : ¬ 100 < (a.size : Int)) (h2 : ¬ 100 < (s.size : Int)) (h3 : ¬ 60 < (nn : Int)) (k1 : k.tmod 15 = 10) (k2 : ¬ k.tmod 15 = 11) (x1 : ¬ 4 < n) (x3 : 4 < m) (x4 : ¬ m ≤ 16) :
    Calls Tryz.prog 5 #[.slice (some ⟨b, 0, none⟩) 1 1] w fun e w' => IsB e ∧ w' = w := by
  obtain ⟨c0, c1, c2, c3, c4, c5, c6⟩ := h.cells
  clear h
  have HE := Lib.hid he
  clear he
  go_enter Tryz.func5, Tryz.ntmps5
  go_wp2
  refine wp_loop_rounds 2 ?_
  rw [rounds_succ]
  go_wp2_with (first
    | rw [if_pos k1]
    | rw [if_neg k2]
    | rw [if_neg x1]
    | rw [if_pos x3]
    | rw [if_neg x4]
    | (go_at_call 20; refine (f20_any _ _ _ _ HE.out).mono ?_; rintro e w7 ⟨⟨bb, rfl⟩, rfl⟩; cases bb))
  · rw [rounds_succ]
    go_wp2
    go_ret
    exact ⟨isB _, rfl⟩
  · go_ret
    exact ⟨isB _, rfl⟩

theorem f5_p31 (w : World) (b : Nat) (k n m : Int) (a s : ByteArray) (na : Option Addr) (nn nc : Nat) (ea : Option Addr) (en ec : Nat) (h : ActB w b k n m a s na nn nc ea en ec)
    (ha : a.size ≤ 9223372036854775807) (hs : s.size ≤ 9223372036854775807) (hn : nn ≤ 9223372036854775807) (he : EvsIn w ea en) (h1 : ¬ 100 < (a.size : Int)) (h2 : ¬ 100 < (s.size : Int)) (h3 : ¬ 60 < (nn : Int)) (k1 : k.tmod 15 = 10) (k2 : ¬ k.tmod 15 = 11) (x1 : 4 < n) (x2 : ¬ n ≤ 16) (x3 : 4 < m) (x4 : m ≤ 16) :
    Calls Tryz.prog 5 #[.slice (some ⟨b, 0, none⟩) 1 1] w fun e w' => IsB e ∧ w' = w := by
  obtain ⟨c0, c1, c2, c3, c4, c5, c6⟩ := h.cells
  clear h
  have HE := Lib.hid he
  clear he
  go_enter Tryz.func5, Tryz.ntmps5
  go_wp2
  refine wp_loop_rounds 2 ?_
  rw [rounds_succ]
  go_wp2_with (first
    | rw [if_pos k1]
    | rw [if_neg k2]
    | rw [if_pos x1]
    | rw [if_neg x2]
    | rw [if_pos x3]
    | rw [if_pos x4]
    | (go_at_call 20; refine (f20_any _ _ _ _ HE.out).mono ?_; rintro e w7 ⟨⟨bb, rfl⟩, rfl⟩; cases bb))
  · go_ret
    exact ⟨isB _, rfl⟩
  · go_ret
    exact ⟨isB _, rfl⟩

theorem f5_p32 (w : World) (b : Nat) (k n m : Int) (a s : ByteArray) (na : Option Addr) (nn nc : Nat) (ea : Option Addr) (en ec : Nat) (h : ActB w b k n m a s na nn nc ea en ec)
    (ha : a.size ≤ 9223372036854775807) (hs : s.size ≤ 9223372036854775807) (hn : nn ≤ 9223372036854775807) (he : EvsIn w ea en) (h1 : ¬ 100 < (a.size : Int)) (h2 : ¬ 100 < (s.size : Int)) (h3 : ¬ 60 < (nn : Int)) (k1 : k.tmod 15 = 10) (k2 : ¬ k.tmod 15 = 11) (x1 : 4 < n) (x2 : ¬ n ≤ 16) (x3 : ¬ 4 < m) :
    Calls Tryz.prog 5 #[.slice (some ⟨b, 0, none⟩) 1 1] w fun e w' => IsB e ∧ w' = w := by
  obtain ⟨c0, c1, c2, c3, c4, c5, c6⟩ := h.cells
  clear h
  have HE := Lib.hid he
  clear he
  go_enter Tryz.func5, Tryz.ntmps5
  go_wp2
  refine wp_loop_rounds 2 ?_
  rw [rounds_succ]
  go_wp2_with (first
    | rw [if_pos k1]
    | rw [if_neg k2]
    | rw [if_pos x1]
    | rw [if_neg x2]
    | rw [if_neg x3]
    | (go_at_call 20; refine (f20_any _ _ _ _ HE.out).mono ?_; rintro e w7 ⟨⟨bb, rfl⟩, rfl⟩; cases bb))
  · rw [rounds_succ]
    go_wp2
    go_ret
    exact ⟨isB _, rfl⟩
  · go_ret
    exact ⟨isB _, rfl⟩

theorem f5_p33 (w : World) (b : Nat) (k n m : Int) (a s : ByteArray) (na : Option Addr) (nn nc : Nat) (ea : Option Addr) (en ec : Nat) (h : ActB w b k n m a s na nn nc ea en ec)
    (ha : a.size ≤ 9223372036854775807) (hs : s.size ≤ 9223372036854775807) (hn : nn ≤ 9223372036854775807) (he : EvsIn w ea en) (h1 : ¬ 100 < (a.size : Int)) (h2 : ¬ 100 < (s.size : Int)) (h3 : ¬ 60 < (nn : Int)) (k1 : k.tmod 15 = 10) (k2 : ¬ k.tmod 15 = 11) (x1 : 4 < n) (x2 : ¬ n ≤ 16) (x3 : 4 < m) (x4 : ¬ m ≤ 16) :
    Calls Tryz.prog 5 #[.slice (some ⟨b, 0, none⟩) 1 1] w fun e w' => IsB e ∧ w' = w := by
  obtain ⟨c0, c1, c2, c3, c4, c5, c6⟩ := h.cells
  clear h
  have HE := Lib.hid he
  clear he
  go_enter Tryz.func5, Tryz.ntmps5
  go_wp2
  refine wp_loop_rounds 2 ?_
  rw [rounds_succ]
  go_wp2_with (first
    | rw [if_pos k1]
    | rw [if_neg k2]
    | rw [if_pos x1]
    | rw [if_neg x2]
    | rw [if_pos x3]
    | rw [if_neg x4]
    | (go_at_call 20; refine (f20_any _ _ _ _ HE.out).mono ?_; rintro e w7 ⟨⟨bb, rfl⟩, rfl⟩; cases bb))
  · rw [rounds_succ]
    go_wp2
    go_ret
    exact ⟨isB _, rfl⟩
  · go_ret
    exact ⟨isB _, rfl⟩

theorem f5_q1 (w : World) (b : Nat) (k n m : Int) (a s : ByteArray) (na : Option Addr) (nn nc : Nat) (ea : Option Addr) (en ec : Nat) (h : ActB w b k n m a s na nn nc ea en ec)
    (ha : a.size ≤ 9223372036854775807) (hs : s.size ≤ 9223372036854775807) (hn : nn ≤ 9223372036854775807) (he : EvsIn w ea en) (h1 : ¬ 100 < (a.size : Int)) (h2 : ¬ 100 < (s.size : Int)) (h3 : ¬ 60 < (nn : Int)) (k1 : ¬ k.tmod 15 = 10) (k2 : k.tmod 15 = 11) (x1 : 4 < n) (x2 : n ≤ 16) :
    Calls Tryz.prog 5 #[.slice (some ⟨b, 0, none⟩) 1 1] w fun e w' => IsB e ∧ w' = w := by
  obtain ⟨c0, c1, c2, c3, c4, c5, c6⟩ := h.cells
  clear h
  have HE := Lib.hid he
  clear he
  go_enter Tryz.func5, Tryz.ntmps5
  go_wp2
  refine wp_loop_rounds 2 ?_
  rw [rounds_succ]
  go_wp2_with (first
    | rw [if_neg k1]
    | rw [if_pos k2]
    | rw [if_pos x1]
    | rw [if_pos x2]
    | (go_at_call 20; refine (f20_any _ _ _ _ HE.out).mono ?_; rintro e w7 ⟨⟨bb, rfl⟩, rfl⟩; cases bb))
  · go_ret
    exact ⟨isB _, rfl⟩
  · go_ret
    exact ⟨isB _, rfl⟩

theorem f5_q21 (w : World) (b : Nat) (k n m : Int) (a s : ByteArray) (na : Option Addr) (nn nc : Nat) (ea : Option Addr) (en ec : Nat) (h : ActB w b k n m a s na nn nc ea en ec)
    (ha : a.size ≤ 9223372036854775807) (hs : s.size ≤ 9223372036854775807) (hn : nn ≤ 9223372036854775807) (he : EvsIn w ea en) (h1 : ¬ 100 < (a.size : Int)) (h2 : ¬ 100 < (s.size : Int)) (h3 : ¬ 60 < (nn : Int)) (k1 : ¬ k.tmod 15 = 10) (k2 : k.tmod 15 = 11) (x1 : ¬ 4 < n) (x3 : 4 < m) (x4 : m ≤ 16) :
    Calls Tryz.prog 5 #[.slice (some ⟨b, 0, none⟩) 1 1] w fun e w' => IsB e ∧ w' = w := by
  obtain ⟨c0, c1, c2, c3, c4, c5, c6⟩ := h.cells
  clear h
  have HE := Lib.hid he
  clear he
  go_enter Tryz.func5, Tryz.ntmps5
  go_wp2
  refine wp_loop_rounds 2 ?_
  rw [rounds_succ]
  go_wp2_with (first
    | rw [if_neg k1]
    | rw [if_pos k2]
    | rw [if_neg x1]
    | rw [if_pos x3]
    | rw [if_pos x4]
    | (go_at_call 20; refine (f20_any _ _ _ _ HE.out).mono ?_; rintro e w7 ⟨⟨bb, rfl⟩, rfl⟩; cases bb))
  · go_ret
    exact ⟨isB _, rfl⟩
  · go_ret
    exact ⟨isB _, rfl⟩

theorem f5_q22 (w : World) (b : Nat) (k n m : Int) (a s : ByteArray) (na : Option Addr) (nn nc : Nat) (ea : Option Addr) (en ec : Nat) (h : ActB w b k n m a s na nn nc ea en ec)
    (ha : a.size ≤ 9223372036854775807) (hs : s.size ≤ 9223372036854775807) (hn : nn ≤ 9223372036854775807) (he : EvsIn w ea en) (h1 : ¬ 100 < (a.size : Int)) (h2 : ¬ 100 < (s.size : Int)) (h3 : ¬ 60 < (nn : Int)) (k1 : ¬ k.tmod 15 = 10) (k2 : k.tmod 15 = 11) (x1 : ¬ 4 < n) (x3 : ¬ 4 < m) :
    Calls Tryz.prog 5 #[.slice (some ⟨b, 0, none⟩) 1 1] w fun e w' => IsB e ∧ w' = w := by
  obtain ⟨c0, c1, c2, c3, c4, c5, c6⟩ := h.cells
  clear h
  have HE := Lib.hid he
  clear he
  go_enter Tryz.func5, Tryz.ntmps5
  go_wp2
  refine wp_loop_rounds 2 ?_
  rw [rounds_succ]
  go_wp2_with (first
    | rw [if_neg k1]
    | rw [if_pos k2]
    | rw [if_neg x1]
    | rw [if_neg x3]
    | (go_at_call 20; refine (f20_any _ _ _ _ HE.out).mono ?_; rintro e w7 ⟨⟨bb, rfl⟩, rfl⟩; cases bb))
  · rw [rounds_succ]
    go_wp2
    go_ret
    exact ⟨isB _, rfl⟩
  · go_ret
    exact ⟨isB _, rfl⟩

theorem f5_q23 (w : World) (b : Nat) (k n m : Int) (a s : ByteArray) (na : Option Addr) (nn nc : Nat) (ea : Option Addr) (en ec : Nat) (h : ActB w b k n m a s na nn nc ea en ec)
    (ha : a.size ≤ 9223372036854775807) (hs : s.size ≤ 9223372036854775807) (hn : nn ≤ 9223372036854775807) (he : EvsIn w ea en) (h1 : ¬ 100 < (a.size : Int)) (h2 : ¬ 100 < (s.size : Int)) (h3 : ¬ 60 < (nn : Int)) (k1 : ¬ k.tmod 15 = 10) (k2 : k.tmod 15 = 11) (x1 : ¬ 4 < n) (x3 : 4 < m) (x4 : ¬ m ≤ 16) :
    Calls Tryz.prog 5 #[.slice (some ⟨b, 0, none⟩) 1 1] w fun e w' => IsB e ∧ w' = w := by
  obtain ⟨c0, c1, c2, c3, c4, c5, c6⟩ := h.cells
  clear h
  have HE := Lib.hid he
  clear he
  go_enter Tryz.func5, Tryz.ntmps5
  go_wp2
  refine wp_loop_rounds 2 ?_
  rw [rounds_succ]
  go_wp2_with (first
    | rw [if_neg k1]
    | rw [if_pos k2]
    | rw [if_neg x1]
    | rw [if_pos x3]
    | rw [if_neg x4]
    | (go_at_call 20; refine (f20_any _ _ _ _ HE.out).mono ?_; rintro e w7 ⟨⟨bb, rfl⟩, rfl⟩; cases bb))
  · rw [rounds_succ]
    go_wp2
    go_ret
    exact ⟨isB _, rfl⟩
  · go_ret
    exact ⟨isB _, rfl⟩

theorem f5_q31 (w : World) (b : Nat) (k n m : Int) (a s : ByteArray) (na : Option Addr) (nn nc : Nat) (ea : Option Addr) (en ec : Nat) (h : ActB w b k n m a s na nn nc ea en ec)
    (ha : a.size ≤ 9223372036854775807) (hs : s.size ≤ 9223372036854775807) (hn : nn ≤ 9223372036854775807) (he : EvsIn w ea en) (h1 : ¬ 100 < (a.size : Int)) (h2 : ¬ 100 < (s.size : Int)) (h3 : ¬ 60 < (nn : Int)) (k1 : ¬ k.tmod 15 = 10) (k2 : k.tmod 15 = 11) (x1 : 4 < n) (x2 : ¬ n ≤ 16) (x3 : 4 < m) (x4 : m ≤ 16) :
    Calls Tryz.prog 5 #[.slice (some ⟨b, 0, none⟩) 1 1] w fun e w' => IsB e ∧ w' = w := by
  obtain ⟨c0, c1, c2, c3, c4, c5, c6⟩ := h.cells
  clear h
  have HE := Lib.hid he
  clear he
  go_enter Tryz.func5, Tryz.ntmps5
  go_wp2
  refine wp_loop_rounds 2 ?_
  rw [rounds_succ]
  go_wp2_with (first
    | rw [if_neg k1]
    | rw [if_pos k2]
    | rw [if_pos x1]
    | rw [if_neg x2]
    | rw [if_pos x3]
    | rw [if_pos x4]
    | (go_at_call 20; refine (f20_any _ _ _ _ HE.out).mono ?_; rintro e w7 ⟨⟨bb, rfl⟩, rfl⟩; cases bb))
  · go_ret
    exact ⟨isB _, rfl⟩
  · go_ret
    exact ⟨isB _, rfl⟩

theorem f5_q32 (w : World) (b : Nat) (k n m : Int) (a s : ByteArray) (na : Option Addr) (nn nc : Nat) (ea : Option Addr) (en ec : Nat) (h : ActB w b k n m a s na nn nc ea en ec)
    (ha : a.size ≤ 9223372036854775807) (hs : s.size ≤ 9223372036854775807) (hn : nn ≤ 9223372036854775807) (he : EvsIn w ea en) (h1 : ¬ 100 < (a.size : Int)) (h2 : ¬ 100 < (s.size : Int)) (h3 : ¬ 60 < (nn : Int)) (k1 : ¬ k.tmod 15 = 10) (k2 : k.tmod 15 = 11) (x1 : 4 < n) (x2 : ¬ n ≤ 16) (x3 : ¬ 4 < m) :
    Calls Tryz.prog 5 #[.slice (some ⟨b, 0, none⟩) 1 1] w fun e w' => IsB e ∧ w' = w := by
  obtain ⟨c0, c1, c2, c3, c4, c5, c6⟩ := h.cells
  clear h
  have HE := Lib.hid he
  clear he
  go_enter Tryz.func5, Tryz.ntmps5
  go_wp2
  refine wp_loop_rounds 2 ?_
  rw [rounds_succ]
  go_wp2_with (first
    | rw [if_neg k1]
    | rw [if_pos k2]
    | rw [if_pos x1]
    | rw [if_neg x2]
    | rw [if_neg x3]
    | (go_at_call 20; refine (f20_any _ _ _ _ HE.out).mono ?_; rintro e w7 ⟨⟨bb, rfl⟩, rfl⟩; cases bb))
  · rw [rounds_succ]
    go_wp2
    go_ret
    exact ⟨isB _, rfl⟩
  · go_ret
    exact ⟨isB _, rfl⟩

theorem f5_q33 (w : World) (b : Nat) (k n m : Int) (a s : ByteArray) (na : Option Addr) (nn nc : Nat) (ea : Option Addr) (en ec : Nat) (h : ActB w b k n m a s na nn nc ea en ec)
    (ha : a.size ≤ 9223372036854775807) (hs : s.size ≤ 9223372036854775807) (hn : nn ≤ 9223372036854775807) (he : EvsIn w ea en) (h1 : ¬ 100 < (a.size : Int)) (h2 : ¬ 100 < (s.size : Int)) (h3 : ¬ 60 < (nn : Int)) (k1 : ¬ k.tmod 15 = 10) (k2 : k.tmod 15 = 11) (x1 : 4 < n) (x2 : ¬ n ≤ 16) (x3 : 4 < m) (x4 : ¬ m ≤ 16) :
    Calls Tryz.prog 5 #[.slice (some ⟨b, 0, none⟩) 1 1] w fun e w' => IsB e ∧ w' = w := by
  obtain ⟨c0, c1, c2, c3, c4, c5, c6⟩ := h.cells
  clear h
  have HE := Lib.hid he
  clear he
  go_enter Tryz.func5, Tryz.ntmps5
  go_wp2
  refine wp_loop_rounds 2 ?_
  rw [rounds_succ]
  go_wp2_with (first
    | rw [if_neg k1]
    | rw [if_pos k2]
    | rw [if_pos x1]
    | rw [if_neg x2]
    | rw [if_pos x3]
    | rw [if_neg x4]
    | (go_at_call 20; refine (f20_any _ _ _ _ HE.out).mono ?_; rintro e w7 ⟨⟨bb, rfl⟩, rfl⟩; cases bb))
  · rw [rounds_succ]
    go_wp2
    go_ret
    exact ⟨isB _, rfl⟩
  · go_ret
    exact ⟨isB _, rfl⟩

theorem f5_any (w : World) (b : Nat) (k n m : Int) (a s : ByteArray) (na : Option Addr) (nn nc : Nat) (ea : Option Addr) (en ec : Nat) (h : ActB w b k n m a s na nn nc ea en ec)
    (ha : a.size ≤ 9223372036854775807) (hs : s.size ≤ 9223372036854775807) (hn : nn ≤ 9223372036854775807) (he : EvsIn w ea en) :
    Calls Tryz.prog 5 #[.slice (some ⟨b, 0, none⟩) 1 1] w fun e w' => IsB e ∧ w' = w := by
  by_cases h1 : 100 < (a.size : Int)
  · exact f5_a w b k n m a s na nn nc ea en ec h ha hs hn h1
  by_cases h2 : 100 < (s.size : Int)
  · exact f5_s w b k n m a s na nn nc ea en ec h ha hs hn h1 h2
  by_cases h3 : 60 < (nn : Int)
  · exact f5_n w b k n m a s na nn nc ea en ec h ha hs hn h1 h2 h3
  by_cases k1 : k.tmod 15 = 10
  · have k2 : ¬ k.tmod 15 = 11 := by rw [k1]; decide
    by_cases x1 : 4 < n
    · by_cases x2 : n ≤ 16
      · exact f5_p1 w b k n m a s na nn nc ea en ec h ha hs hn he h1 h2 h3 k1 k2 x1 x2
      by_cases x3 : 4 < m
      · by_cases x4 : m ≤ 16
        · exact f5_p31 w b k n m a s na nn nc ea en ec h ha hs hn he h1 h2 h3 k1 k2 x1 x2 x3 x4
        exact f5_p33 w b k n m a s na nn nc ea en ec h ha hs hn he h1 h2 h3 k1 k2 x1 x2 x3 x4
      exact f5_p32 w b k n m a s na nn nc ea en ec h ha hs hn he h1 h2 h3 k1 k2 x1 x2 x3
    by_cases x3 : 4 < m
    · by_cases x4 : m ≤ 16
      · exact f5_p21 w b k n m a s na nn nc ea en ec h ha hs hn he h1 h2 h3 k1 k2 x1 x3 x4
      exact f5_p23 w b k n m a s na nn nc ea en ec h ha hs hn he h1 h2 h3 k1 k2 x1 x3 x4
    exact f5_p22 w b k n m a s na nn nc ea en ec h ha hs hn he h1 h2 h3 k1 k2 x1 x3
  by_cases k2 : k.tmod 15 = 11
  · by_cases x1 : 4 < n
    · by_cases x2 : n ≤ 16
      · exact f5_q1 w b k n m a s na nn nc ea en ec h ha hs hn he h1 h2 h3 k1 k2 x1 x2
      by_cases x3 : 4 < m
      · by_cases x4 : m ≤ 16
        · exact f5_q31 w b k n m a s na nn nc ea en ec h ha hs hn he h1 h2 h3 k1 k2 x1 x2 x3 x4
        exact f5_q33 w b k n m a s na nn nc ea en ec h ha hs hn he h1 h2 h3 k1 k2 x1 x2 x3 x4
      exact f5_q32 w b k n m a s na nn nc ea en ec h ha hs hn he h1 h2 h3 k1 k2 x1 x2 x3
    by_cases x3 : 4 < m
    · by_cases x4 : m ≤ 16
      · exact f5_q21 w b k n m a s na nn nc ea en ec h ha hs hn he h1 h2 h3 k1 k2 x1 x3 x4
      exact f5_q23 w b k n m a s na nn nc ea en ec h ha hs hn he h1 h2 h3 k1 k2 x1 x3 x4
    exact f5_q22 w b k n m a s na nn nc ea en ec h ha hs hn he h1 h2 h3 k1 k2 x1 x3
  exact f5_o w b k n m a s na nn nc ea en ec h ha hs hn he h1 h2 h3 k1 k2
end walks
end Go.Proofs.YtgfbjbdfckgdjaaGreatDoor
