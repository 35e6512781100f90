/-
  The stable sort of a list of numbers by a closure, the walks, part 5: it proves that symMerge merges where both parts have two elements or more, if it does so on shorter ranges. Conditions: the row lies in the world as the sort's words say; the two parts ascend.
-/
import Derived.Test.YtimahogkcmmcnaaGreatDoorT3
import Derived.Deep.RegionWith
import Derived.Test.YtimahogkcmmcnaaGreatDoorT4
set_option linter.unusedSimpArgs false
set_option linter.unusedVariables false
namespace Go.Proofs.YtimahogkcmmcnaaGreatDoor
open Go.Shelf Go.RowKit Go.Lib Go.Sort Go.Proofs.YtimahogkcmmcnaaGreatDoor.Stab
variable {α : Type} [Inhabited α]

section walks
set_option maxHeartbeats 64000000
set_option maxRecDepth 1000000

theorem symMerge_lo (hm : Tryz.prog.follows .mixedOrders = true) (enc : α → Value) (cf : α → α → Int) {slt : α → α → Bool} (hS : SWO slt) (g : Nat) (cb : Array Value) (blk off cap a m b mid : Nat) (d0 d : Array α) (w0 w : World)
    (eg : ∀ args w, (callFunc g args).run Tryz.prog w = .ok (.enter g args) w) (hcmp : CmpLays1 Tryz.prog g cb enc cf blk off d0.size w0)
    (R : Row1 enc w0 blk off d0) (hs : d0.size = d.size) (S : SW enc w0 blk off d w) (ham : a + 1 < m) (hmb : m + 1 < b) (hb : b ≤ d.size) (hsz : d.size < 4611686018427387904) (hp : MPre (ltOf cf) slt a m b d)
    (hmid : mid = (a + b) / 2) (hgt : ¬ mid < m)
    (IH : ∀ (a' m' b' : Nat) (d' : Array α) (w' : World), b' - a' < b - a → a' < m' → m' < b' → b' ≤ d.size → d'.size = d.size → MPre (ltOf cf) slt a' m' b' d' → SW enc w0 blk off d' w' → SymTo enc slt g cb blk off cap d.size w0 a' m' b' d' w') :
    SymTo enc slt g cb blk off cap d.size w0 a m b d w := by
  unfold SymTo
  have mixed := hm
  have HC : Aside _ := hcmp
  have S0 : Aside (SW enc w0 blk off d w) := S
  have HP : Aside (MPre (ltOf cf) slt a m b d) := hp
  have HS : Aside (SWO slt) := hS
  have HI0 : Aside _ := IH
  clear S hcmp hp hS IH
  have hmida : a < mid := by omega
  have hmidb : mid < b := by omega
  obtain ⟨n, hn⟩ : ∃ n, n = mid + m := ⟨_, rfl⟩
  obtain ⟨p, hpp⟩ : ∃ p, p = n - 1 := ⟨_, rfl⟩
  have one : ((m : Int) - (a : Int) == 1) = false := by rw [beq_eq_false_iff_ne]; omega
  have one2 : ((b : Int) - (m : Int) == 1) = false := by rw [beq_eq_false_iff_ne]; omega
  have hzm : ((a : Int) + (b : Int)) / 2 = (mid : Int) := by omega
  have hzn : (mid : Int) + (m : Int) = (n : Int) := by omega
  have hzp : (n : Int) - 1 = (p : Int) := by omega
  have wab : IntKind.i64.wrap ((a : Int) + (b : Int)) = (a : Int) + (b : Int) := by rw [IntKind.wrap_i64]; omega
  have HN : Hid (n = mid + m) := hn
  have HPP : Hid (p = n - 1) := hpp
  have HMID : Hid (mid = (a + b) / 2) := hmid
  have hgtz : ¬ (mid : Int) < (m : Int) := by omega
  have n1 : n < 9223372036854775807 := by omega
  clear hn hpp hmid
  go_enter Tryz.func237, Tryz.ntmps237
  go_wp2
  go_loopg [20, 21] (b - a) (fun kx s20 s21 wr => ∃ (i j : Nat), s20 = .int .i64 i ∧ s21 = .int .i64 j ∧ a ≤ i ∧ n ≤ i + b ∧ i ≤ j ∧ j ≤ m ∧ j ≤ mid ∧ j - i ≤ kx ∧ Aside (SW enc w0 blk off d wr) ∧ Hid ((i = a ∨ n - i = b ∨ ltOf cf d[n - i]! d[i - 1]! = false) ∧ (j = m ∨ n - j = m ∨ ltOf cf d[n - j - 1]! d[j]! = true)))
  case atStart => exact ⟨a, m, rfl, rfl, Nat.le_refl _, by have := HN.out; have := HMID.out; omega, by omega, Nat.le_refl _, by omega, by omega, S0, .inl rfl, .inl rfl⟩
  case round =>
    clear S0
    obtain ⟨i, j, rfl, rfl, hai, hnb, hij, hjm, hjd, hkx, S1, HI⟩ := hrel
    by_cases hlt : i < j
    · have hltz : (i : Int) < (j : Int) := by omega
      obtain ⟨c, hcc⟩ : ∃ h, h = (i + j) / 2 := ⟨_, rfl⟩
      have hz : ((i : Int) + (j : Int)) / 2 = (c : Int) := by omega
      have hlo : i ≤ c := by omega
      have hhi : c < j := by omega
      clear hcc
      obtain ⟨q, hq⟩ : ∃ q, q = p - c := ⟨_, rfl⟩
      have hq1 : q = n - c - 1 := by have := HN.out; have := HPP.out; omega
      have hqz : (p : Int) - (c : Int) = (q : Int) := by have := HN.out; have := HPP.out; omega
      have hqb : q < d.size := by omega
      have wq1 : IntKind.i64.wrap ((p : Int) - (c : Int)) = (q : Int) := by rw [IntKind.wrap_i64]; omega
      have wq2 : IntKind.i64.wrap (q : Int) = (q : Int) := by rw [IntKind.wrap_i64]; omega
      have pq : (0 : Int) ≤ (q : Int) := by omega
      have bh : (c : Int) < (d.size : Int) := by omega
      have bq : (q : Int) < (d.size : Int) := by omega
      have HQ : Hid (q = n - c - 1) := hq1
      clear hq hq1
      have wij : IntKind.i64.wrap ((i : Int) + (j : Int)) = (i : Int) + (j : Int) := by rw [IntKind.wrap_i64]; omega
      obtain ⟨x, hx⟩ : ∃ x, x = d[q]! := ⟨_, rfl⟩
      obtain ⟨y, hy⟩ : ∃ x, x = d[c]! := ⟨_, rfl⟩
      have la := S1.out.cl R (by omega) q (by omega)
      have l2 := S1.out.cl R (by omega) c (by omega)
      rw [← hx] at la
      rw [← hy] at l2
      have hc := S1.out.cmp HC.out (by omega) x y
      cases hlv : (ltOf cf) d[q]! d[c]! with
      | true =>
        have hv : cf x y < 0 := by rw [hx, hy]; exact of_decide_eq_true hlv
        have hd : decide (cf x y < 0) = true := decide_eq_true hv
        clear hx hy
        go_wp2_with fail
        go_quiet_grown (first | (go_at_fn g; refine Calls.grown_of (hc _ _)))
        have S2 : Aside (SW enc w0 blk off d (grow (wr.drewN nq) osq)) := S1.out.grown nq osq
        clear la l2 hc S1
        generalize grow (wr.drewN nq) osq = w2 at S2 ⊢
        clear nq osq
        go_wp2
        go_roundg (c - i)
        case measure => omega
        case rel => exact ⟨i, c, rfl, rfl, hai, hnb, hlo, by omega, by omega, by omega, S2, HI.out.1, .inr (.inr (by rw [← HQ.out]; exact hlv))⟩
      | false =>
        have hv : ¬ cf x y < 0 := by rw [hx, hy]; exact of_decide_eq_false hlv
        have hd : decide (cf x y < 0) = false := decide_eq_false hv
        clear hx hy
        go_wp2_with fail
        go_quiet_grown (first | (go_at_fn g; refine Calls.grown_of (hc _ _)))
        have S2 : Aside (SW enc w0 blk off d (grow (wr.drewN nq) osq)) := S1.out.grown nq osq
        clear la l2 hc S1
        generalize grow (wr.drewN nq) osq = w2 at S2 ⊢
        clear nq osq
        go_wp2
        go_roundg (j - (c + 1))
        case measure => omega
        case rel => exact ⟨c + 1, j, by go_num, rfl, by omega, by omega, by omega, hjm, hjd, by omega, S2, .inr (.inr (by rw [show n - (c + 1) = q from by have := HQ.out; omega, show c + 1 - 1 = c from by omega]; exact hlv)), HI.out.2⟩
    · obtain ⟨s, hs'⟩ : ∃ s, s = i := ⟨_, rfl⟩
      have hji : j = s := by omega
      subst hji
      subst hs'
      obtain ⟨e, he⟩ : ∃ e, e = n - j := ⟨_, rfl⟩
      have hez : (n : Int) - (j : Int) = (e : Int) := by have := HN.out; omega
      have hme : m ≤ e := by have := HN.out; omega
      have hde : mid ≤ e := by have := HN.out; omega
      have heb : e ≤ b := by omega
      have hsum : mid + m = j + e := by have := HN.out; omega
      have H1 : j = a ∨ e = b ∨ ltOf cf d[e]! d[j - 1]! = false := by rw [he]; exact HI.out.1
      have H2 : j = m ∨ e = m ∨ ltOf cf d[e - 1]! d[j]! = true := by rw [he]; exact HI.out.2
      have FIN : Hid (∀ d1 d2 d3 : Array α, (IsRot d d1 j m e ∨ (¬ (j < m ∧ m < e) ∧ d1 = d)) → ((PermIn a mid d1 d2 ∧ SortedIn slt a mid d2) ∨ (¬ (a < j ∧ j < mid) ∧ d2 = d1)) → ((PermIn mid b d2 d3 ∧ SortedIn slt mid b d3) ∨ (¬ (mid < e ∧ e < b) ∧ d3 = d2)) → PermIn a b d d3 ∧ SortedIn slt a b d3) :=
        fun d1 d2 d3 h1 h2 h3 => fin HS.out HP.out hai hjm hjd hme heb hb hsum H1 H2 h1 h2 h3
      have HROT : Hid (j < m ∧ m < e → ∃ _ : True, Calls Tryz.prog 305 #[.slice (some ⟨blk, off, none⟩) d.size cap, .int .i64 j, .int .i64 m, .int .i64 e, .func (.func g) #[] cb] wr fun e1 w' => e1 = .returned (.tuple #[]) ∧ ∃ d', IsRot d d' j m e ∧ SW enc w0 blk off d' w') :=
        fun h => ⟨trivial, rotate_s hm enc g cb blk off cap j m e d0 d w0 wr R hs S1.out h.1 h.2 (by omega) hsz⟩
      have HA1 : Hid (a < j ∧ j < mid → ∀ (d1 : Array α) (w1 : World), (IsRot d d1 j m e ∨ (¬ (j < m ∧ m < e) ∧ d1 = d)) → SW enc w0 blk off d1 w1 → SymTo enc slt g cb blk off cap d.size w0 a j mid d1 w1) :=
        fun h d1 w1 h1 S => by
          have := fin1_one HS.out HP.out hai hjm hme heb hb hsum H1 H2 h1
          exact HI0.out a j mid d1 w1 (by omega) h.1 h.2 (by omega) this.2 this.1 S
      have HA2 : Hid (mid < e ∧ e < b → ∀ (d1 d2 : Array α) (w2 : World), (IsRot d d1 j m e ∨ (¬ (j < m ∧ m < e) ∧ d1 = d)) → ((PermIn a mid d1 d2 ∧ SortedIn slt a mid d2) ∨ (¬ (a < j ∧ j < mid) ∧ d2 = d1)) → SW enc w0 blk off d2 w2 → SymTo enc slt g cb blk off cap d.size w0 mid e b d2 w2) :=
        fun h d1 d2 w2 h1 h2 S => by
          have := fin2_two HS.out HP.out hai hjm hjd hme heb hb hsum H1 H2 h1 h2
          exact HI0.out mid e b d2 w2 (by omega) h.1 h.2 hb this.2 this.1 S
      clear H1 H2 HI he hnb hlt
      have hltz : ¬ (j : Int) < (j : Int) := by omega
      unfold SymTo at HA1 HA2
      have HSZ : Hid (mid + m = j + e) := hsum
      clear hsum
      have k1 : (j < m ∧ m < e) ∨ (j < m ∧ ¬ m < e) ∨ ¬ j < m := by omega
      have k2 : (a < j ∧ j < mid) ∨ (a < j ∧ ¬ j < mid) ∨ ¬ a < j := by omega
      have k3 : (mid < e ∧ e < b) ∨ (mid < e ∧ ¬ e < b) ∨ ¬ mid < e := by omega
      rcases k1 with c1 | c1 | c1 <;> rcases k2 with c2 | c2 | c2 <;> rcases k3 with c3 | c3 | c3
      · have za1 : (j : Int) < (m : Int) := by omega
        have zb1 : (m : Int) < (e : Int) := by omega
        have za2 : (a : Int) < (j : Int) := by omega
        have zb2 : (j : Int) < (mid : Int) := by omega
        have za3 : (mid : Int) < (e : Int) := by omega
        have zb3 : (e : Int) < (b : Int) := by omega
        obtain ⟨_, hr⟩ := HROT.out c1
        have HR := Lib.hid hr
        clear hr
        go_wp2_with (first | (go_at_call 305; refine HR.out.mono ?_; rintro e1 w1 ⟨rfl, d1, h1, S2⟩; have HR1 := Lib.hid h1; have SR1 := Lib.hid S2; clear h1 S2) | (go_at_call_of 237 (Value.int .i64 (a : Int)); refine (HA1.out c2 _ _ (.inl HR1.out) SR1.out).mono ?_; rintro e2 w2 ⟨rfl, d2, h2, t2, S3⟩; have HP2 := Lib.hid (And.intro h2 t2); have SR2 := Lib.hid S3; clear h2 t2 S3) | (go_at_call_of 237 (Value.int .i64 (b : Int)); refine (HA2.out c3 _ _ _ (.inl HR1.out) (.inl HP2.out) SR2.out).mono ?_; rintro e3 w3 ⟨rfl, d3, h3, t3, S4⟩; have HP3 := Lib.hid (And.intro h3 t3); have SR3 := Lib.hid S4; clear h3 t3 S4))
        go_end0
        have hf := FIN.out _ _ _ (.inl HR1.out) (.inl HP2.out) (.inl HP3.out)
        exact ⟨rfl, _, hf.1, hf.2, SR3.out⟩
      · have za1 : (j : Int) < (m : Int) := by omega
        have zb1 : (m : Int) < (e : Int) := by omega
        have za2 : (a : Int) < (j : Int) := by omega
        have zb2 : (j : Int) < (mid : Int) := by omega
        have za3 : (mid : Int) < (e : Int) := by omega
        have zb3 : ¬ (e : Int) < (b : Int) := by omega
        have N3 : Hid (¬ (mid < e ∧ e < b)) := by intro h; omega
        obtain ⟨_, hr⟩ := HROT.out c1
        have HR := Lib.hid hr
        clear hr
        go_wp2_with (first | (go_at_call 305; refine HR.out.mono ?_; rintro e1 w1 ⟨rfl, d1, h1, S2⟩; have HR1 := Lib.hid h1; have SR1 := Lib.hid S2; clear h1 S2) | (go_at_call_of 237 (Value.int .i64 (a : Int)); refine (HA1.out c2 _ _ (.inl HR1.out) SR1.out).mono ?_; rintro e2 w2 ⟨rfl, d2, h2, t2, S3⟩; have HP2 := Lib.hid (And.intro h2 t2); have SR2 := Lib.hid S3; clear h2 t2 S3))
        go_end0
        have hf := FIN.out _ _ _ (.inl HR1.out) (.inl HP2.out) (.inr ⟨N3.out, rfl⟩)
        exact ⟨rfl, _, hf.1, hf.2, SR2.out⟩
      · have za1 : (j : Int) < (m : Int) := by omega
        have zb1 : (m : Int) < (e : Int) := by omega
        have za2 : (a : Int) < (j : Int) := by omega
        have zb2 : (j : Int) < (mid : Int) := by omega
        have za3 : ¬ (mid : Int) < (e : Int) := by omega
        have N3 : Hid (¬ (mid < e ∧ e < b)) := by intro h; omega
        obtain ⟨_, hr⟩ := HROT.out c1
        have HR := Lib.hid hr
        clear hr
        go_wp2_with (first | (go_at_call 305; refine HR.out.mono ?_; rintro e1 w1 ⟨rfl, d1, h1, S2⟩; have HR1 := Lib.hid h1; have SR1 := Lib.hid S2; clear h1 S2) | (go_at_call_of 237 (Value.int .i64 (a : Int)); refine (HA1.out c2 _ _ (.inl HR1.out) SR1.out).mono ?_; rintro e2 w2 ⟨rfl, d2, h2, t2, S3⟩; have HP2 := Lib.hid (And.intro h2 t2); have SR2 := Lib.hid S3; clear h2 t2 S3))
        go_end0
        have hf := FIN.out _ _ _ (.inl HR1.out) (.inl HP2.out) (.inr ⟨N3.out, rfl⟩)
        exact ⟨rfl, _, hf.1, hf.2, SR2.out⟩
      · have za1 : (j : Int) < (m : Int) := by omega
        have zb1 : (m : Int) < (e : Int) := by omega
        have za2 : (a : Int) < (j : Int) := by omega
        have zb2 : ¬ (j : Int) < (mid : Int) := by omega
        have N2 : Hid (¬ (a < j ∧ j < mid)) := by intro h; omega
        have za3 : (mid : Int) < (e : Int) := by omega
        have zb3 : (e : Int) < (b : Int) := by omega
        obtain ⟨_, hr⟩ := HROT.out c1
        have HR := Lib.hid hr
        clear hr
        go_wp2_with (first | (go_at_call 305; refine HR.out.mono ?_; rintro e1 w1 ⟨rfl, d1, h1, S2⟩; have HR1 := Lib.hid h1; have SR1 := Lib.hid S2; clear h1 S2) | (go_at_call_of 237 (Value.int .i64 (b : Int)); refine (HA2.out c3 _ _ _ (.inl HR1.out) (.inr ⟨N2.out, rfl⟩) SR1.out).mono ?_; rintro e3 w3 ⟨rfl, d3, h3, t3, S4⟩; have HP3 := Lib.hid (And.intro h3 t3); have SR3 := Lib.hid S4; clear h3 t3 S4))
        go_end0
        have hf := FIN.out _ _ _ (.inl HR1.out) (.inr ⟨N2.out, rfl⟩) (.inl HP3.out)
        exact ⟨rfl, _, hf.1, hf.2, SR3.out⟩
      · have za1 : (j : Int) < (m : Int) := by omega
        have zb1 : (m : Int) < (e : Int) := by omega
        have za2 : (a : Int) < (j : Int) := by omega
        have zb2 : ¬ (j : Int) < (mid : Int) := by omega
        have N2 : Hid (¬ (a < j ∧ j < mid)) := by intro h; omega
        have za3 : (mid : Int) < (e : Int) := by omega
        have zb3 : ¬ (e : Int) < (b : Int) := by omega
        have N3 : Hid (¬ (mid < e ∧ e < b)) := by intro h; omega
        obtain ⟨_, hr⟩ := HROT.out c1
        have HR := Lib.hid hr
        clear hr
        go_wp2_with (go_at_call 305; refine HR.out.mono ?_; rintro e1 w1 ⟨rfl, d1, h1, S2⟩; have HR1 := Lib.hid h1; have SR1 := Lib.hid S2; clear h1 S2)
        go_end0
        have hf := FIN.out _ _ _ (.inl HR1.out) (.inr ⟨N2.out, rfl⟩) (.inr ⟨N3.out, rfl⟩)
        exact ⟨rfl, _, hf.1, hf.2, SR1.out⟩
      · have za1 : (j : Int) < (m : Int) := by omega
        have zb1 : (m : Int) < (e : Int) := by omega
        have za2 : (a : Int) < (j : Int) := by omega
        have zb2 : ¬ (j : Int) < (mid : Int) := by omega
        have N2 : Hid (¬ (a < j ∧ j < mid)) := by intro h; omega
        have za3 : ¬ (mid : Int) < (e : Int) := by omega
        have N3 : Hid (¬ (mid < e ∧ e < b)) := by intro h; omega
        obtain ⟨_, hr⟩ := HROT.out c1
        have HR := Lib.hid hr
        clear hr
        go_wp2_with (go_at_call 305; refine HR.out.mono ?_; rintro e1 w1 ⟨rfl, d1, h1, S2⟩; have HR1 := Lib.hid h1; have SR1 := Lib.hid S2; clear h1 S2)
        go_end0
        have hf := FIN.out _ _ _ (.inl HR1.out) (.inr ⟨N2.out, rfl⟩) (.inr ⟨N3.out, rfl⟩)
        exact ⟨rfl, _, hf.1, hf.2, SR1.out⟩
      · have za1 : (j : Int) < (m : Int) := by omega
        have zb1 : (m : Int) < (e : Int) := by omega
        have za2 : ¬ (a : Int) < (j : Int) := by omega
        have N2 : Hid (¬ (a < j ∧ j < mid)) := by intro h; omega
        have za3 : (mid : Int) < (e : Int) := by omega
        have zb3 : (e : Int) < (b : Int) := by omega
        obtain ⟨_, hr⟩ := HROT.out c1
        have HR := Lib.hid hr
        clear hr
        go_wp2_with (first | (go_at_call 305; refine HR.out.mono ?_; rintro e1 w1 ⟨rfl, d1, h1, S2⟩; have HR1 := Lib.hid h1; have SR1 := Lib.hid S2; clear h1 S2) | (go_at_call_of 237 (Value.int .i64 (b : Int)); refine (HA2.out c3 _ _ _ (.inl HR1.out) (.inr ⟨N2.out, rfl⟩) SR1.out).mono ?_; rintro e3 w3 ⟨rfl, d3, h3, t3, S4⟩; have HP3 := Lib.hid (And.intro h3 t3); have SR3 := Lib.hid S4; clear h3 t3 S4))
        go_end0
        have hf := FIN.out _ _ _ (.inl HR1.out) (.inr ⟨N2.out, rfl⟩) (.inl HP3.out)
        exact ⟨rfl, _, hf.1, hf.2, SR3.out⟩
      · have za1 : (j : Int) < (m : Int) := by omega
        have zb1 : (m : Int) < (e : Int) := by omega
        have za2 : ¬ (a : Int) < (j : Int) := by omega
        have N2 : Hid (¬ (a < j ∧ j < mid)) := by intro h; omega
        have za3 : (mid : Int) < (e : Int) := by omega
        have zb3 : ¬ (e : Int) < (b : Int) := by omega
        have N3 : Hid (¬ (mid < e ∧ e < b)) := by intro h; omega
        obtain ⟨_, hr⟩ := HROT.out c1
        have HR := Lib.hid hr
        clear hr
        go_wp2_with (go_at_call 305; refine HR.out.mono ?_; rintro e1 w1 ⟨rfl, d1, h1, S2⟩; have HR1 := Lib.hid h1; have SR1 := Lib.hid S2; clear h1 S2)
        go_end0
        have hf := FIN.out _ _ _ (.inl HR1.out) (.inr ⟨N2.out, rfl⟩) (.inr ⟨N3.out, rfl⟩)
        exact ⟨rfl, _, hf.1, hf.2, SR1.out⟩
      · have za1 : (j : Int) < (m : Int) := by omega
        have zb1 : (m : Int) < (e : Int) := by omega
        have za2 : ¬ (a : Int) < (j : Int) := by omega
        have N2 : Hid (¬ (a < j ∧ j < mid)) := by intro h; omega
        have za3 : ¬ (mid : Int) < (e : Int) := by omega
        have N3 : Hid (¬ (mid < e ∧ e < b)) := by intro h; omega
        obtain ⟨_, hr⟩ := HROT.out c1
        have HR := Lib.hid hr
        clear hr
        go_wp2_with (go_at_call 305; refine HR.out.mono ?_; rintro e1 w1 ⟨rfl, d1, h1, S2⟩; have HR1 := Lib.hid h1; have SR1 := Lib.hid S2; clear h1 S2)
        go_end0
        have hf := FIN.out _ _ _ (.inl HR1.out) (.inr ⟨N2.out, rfl⟩) (.inr ⟨N3.out, rfl⟩)
        exact ⟨rfl, _, hf.1, hf.2, SR1.out⟩
      · have za1 : (j : Int) < (m : Int) := by omega
        have zb1 : ¬ (m : Int) < (e : Int) := by omega
        have N1 : Hid (¬ (j < m ∧ m < e)) := by intro h; omega
        have za2 : (a : Int) < (j : Int) := by omega
        have zb2 : (j : Int) < (mid : Int) := by omega
        have za3 : (mid : Int) < (e : Int) := by omega
        have zb3 : (e : Int) < (b : Int) := by omega
        go_wp2_with (first | (go_at_call_of 237 (Value.int .i64 (a : Int)); refine (HA1.out c2 _ _ (.inr ⟨N1.out, rfl⟩) S1.out).mono ?_; rintro e2 w2 ⟨rfl, d2, h2, t2, S3⟩; have HP2 := Lib.hid (And.intro h2 t2); have SR2 := Lib.hid S3; clear h2 t2 S3) | (go_at_call_of 237 (Value.int .i64 (b : Int)); refine (HA2.out c3 _ _ _ (.inr ⟨N1.out, rfl⟩) (.inl HP2.out) SR2.out).mono ?_; rintro e3 w3 ⟨rfl, d3, h3, t3, S4⟩; have HP3 := Lib.hid (And.intro h3 t3); have SR3 := Lib.hid S4; clear h3 t3 S4))
        go_end0
        have hf := FIN.out _ _ _ (.inr ⟨N1.out, rfl⟩) (.inl HP2.out) (.inl HP3.out)
        exact ⟨rfl, _, hf.1, hf.2, SR3.out⟩
      · have za1 : (j : Int) < (m : Int) := by omega
        have zb1 : ¬ (m : Int) < (e : Int) := by omega
        have N1 : Hid (¬ (j < m ∧ m < e)) := by intro h; omega
        have za2 : (a : Int) < (j : Int) := by omega
        have zb2 : (j : Int) < (mid : Int) := by omega
        have za3 : (mid : Int) < (e : Int) := by omega
        have zb3 : ¬ (e : Int) < (b : Int) := by omega
        have N3 : Hid (¬ (mid < e ∧ e < b)) := by intro h; omega
        go_wp2_with (go_at_call_of 237 (Value.int .i64 (a : Int)); refine (HA1.out c2 _ _ (.inr ⟨N1.out, rfl⟩) S1.out).mono ?_; rintro e2 w2 ⟨rfl, d2, h2, t2, S3⟩; have HP2 := Lib.hid (And.intro h2 t2); have SR2 := Lib.hid S3; clear h2 t2 S3)
        go_end0
        have hf := FIN.out _ _ _ (.inr ⟨N1.out, rfl⟩) (.inl HP2.out) (.inr ⟨N3.out, rfl⟩)
        exact ⟨rfl, _, hf.1, hf.2, SR2.out⟩
      · have za1 : (j : Int) < (m : Int) := by omega
        have zb1 : ¬ (m : Int) < (e : Int) := by omega
        have N1 : Hid (¬ (j < m ∧ m < e)) := by intro h; omega
        have za2 : (a : Int) < (j : Int) := by omega
        have zb2 : (j : Int) < (mid : Int) := by omega
        have za3 : ¬ (mid : Int) < (e : Int) := by omega
        have N3 : Hid (¬ (mid < e ∧ e < b)) := by intro h; omega
        go_wp2_with (go_at_call_of 237 (Value.int .i64 (a : Int)); refine (HA1.out c2 _ _ (.inr ⟨N1.out, rfl⟩) S1.out).mono ?_; rintro e2 w2 ⟨rfl, d2, h2, t2, S3⟩; have HP2 := Lib.hid (And.intro h2 t2); have SR2 := Lib.hid S3; clear h2 t2 S3)
        go_end0
        have hf := FIN.out _ _ _ (.inr ⟨N1.out, rfl⟩) (.inl HP2.out) (.inr ⟨N3.out, rfl⟩)
        exact ⟨rfl, _, hf.1, hf.2, SR2.out⟩
      · have za1 : (j : Int) < (m : Int) := by omega
        have zb1 : ¬ (m : Int) < (e : Int) := by omega
        have N1 : Hid (¬ (j < m ∧ m < e)) := by intro h; omega
        have za2 : (a : Int) < (j : Int) := by omega
        have zb2 : ¬ (j : Int) < (mid : Int) := by omega
        have N2 : Hid (¬ (a < j ∧ j < mid)) := by intro h; omega
        have za3 : (mid : Int) < (e : Int) := by omega
        have zb3 : (e : Int) < (b : Int) := by omega
        go_wp2_with (go_at_call_of 237 (Value.int .i64 (b : Int)); refine (HA2.out c3 _ _ _ (.inr ⟨N1.out, rfl⟩) (.inr ⟨N2.out, rfl⟩) S1.out).mono ?_; rintro e3 w3 ⟨rfl, d3, h3, t3, S4⟩; have HP3 := Lib.hid (And.intro h3 t3); have SR3 := Lib.hid S4; clear h3 t3 S4)
        go_end0
        have hf := FIN.out _ _ _ (.inr ⟨N1.out, rfl⟩) (.inr ⟨N2.out, rfl⟩) (.inl HP3.out)
        exact ⟨rfl, _, hf.1, hf.2, SR3.out⟩
      · have za1 : (j : Int) < (m : Int) := by omega
        have zb1 : ¬ (m : Int) < (e : Int) := by omega
        have N1 : Hid (¬ (j < m ∧ m < e)) := by intro h; omega
        have za2 : (a : Int) < (j : Int) := by omega
        have zb2 : ¬ (j : Int) < (mid : Int) := by omega
        have N2 : Hid (¬ (a < j ∧ j < mid)) := by intro h; omega
        have za3 : (mid : Int) < (e : Int) := by omega
        have zb3 : ¬ (e : Int) < (b : Int) := by omega
        have N3 : Hid (¬ (mid < e ∧ e < b)) := by intro h; omega
        go_wp2_with fail
        go_end0
        have hf := FIN.out _ _ _ (.inr ⟨N1.out, rfl⟩) (.inr ⟨N2.out, rfl⟩) (.inr ⟨N3.out, rfl⟩)
        exact ⟨rfl, _, hf.1, hf.2, S1.out⟩
      · have za1 : (j : Int) < (m : Int) := by omega
        have zb1 : ¬ (m : Int) < (e : Int) := by omega
        have N1 : Hid (¬ (j < m ∧ m < e)) := by intro h; omega
        have za2 : (a : Int) < (j : Int) := by omega
        have zb2 : ¬ (j : Int) < (mid : Int) := by omega
        have N2 : Hid (¬ (a < j ∧ j < mid)) := by intro h; omega
        have za3 : ¬ (mid : Int) < (e : Int) := by omega
        have N3 : Hid (¬ (mid < e ∧ e < b)) := by intro h; omega
        go_wp2_with fail
        go_end0
        have hf := FIN.out _ _ _ (.inr ⟨N1.out, rfl⟩) (.inr ⟨N2.out, rfl⟩) (.inr ⟨N3.out, rfl⟩)
        exact ⟨rfl, _, hf.1, hf.2, S1.out⟩
      · have za1 : (j : Int) < (m : Int) := by omega
        have zb1 : ¬ (m : Int) < (e : Int) := by omega
        have N1 : Hid (¬ (j < m ∧ m < e)) := by intro h; omega
        have za2 : ¬ (a : Int) < (j : Int) := by omega
        have N2 : Hid (¬ (a < j ∧ j < mid)) := by intro h; omega
        have za3 : (mid : Int) < (e : Int) := by omega
        have zb3 : (e : Int) < (b : Int) := by omega
        go_wp2_with (go_at_call_of 237 (Value.int .i64 (b : Int)); refine (HA2.out c3 _ _ _ (.inr ⟨N1.out, rfl⟩) (.inr ⟨N2.out, rfl⟩) S1.out).mono ?_; rintro e3 w3 ⟨rfl, d3, h3, t3, S4⟩; have HP3 := Lib.hid (And.intro h3 t3); have SR3 := Lib.hid S4; clear h3 t3 S4)
        go_end0
        have hf := FIN.out _ _ _ (.inr ⟨N1.out, rfl⟩) (.inr ⟨N2.out, rfl⟩) (.inl HP3.out)
        exact ⟨rfl, _, hf.1, hf.2, SR3.out⟩
      · have za1 : (j : Int) < (m : Int) := by omega
        have zb1 : ¬ (m : Int) < (e : Int) := by omega
        have N1 : Hid (¬ (j < m ∧ m < e)) := by intro h; omega
        have za2 : ¬ (a : Int) < (j : Int) := by omega
        have N2 : Hid (¬ (a < j ∧ j < mid)) := by intro h; omega
        have za3 : (mid : Int) < (e : Int) := by omega
        have zb3 : ¬ (e : Int) < (b : Int) := by omega
        have N3 : Hid (¬ (mid < e ∧ e < b)) := by intro h; omega
        go_wp2_with fail
        go_end0
        have hf := FIN.out _ _ _ (.inr ⟨N1.out, rfl⟩) (.inr ⟨N2.out, rfl⟩) (.inr ⟨N3.out, rfl⟩)
        exact ⟨rfl, _, hf.1, hf.2, S1.out⟩
      · have za1 : (j : Int) < (m : Int) := by omega
        have zb1 : ¬ (m : Int) < (e : Int) := by omega
        have N1 : Hid (¬ (j < m ∧ m < e)) := by intro h; omega
        have za2 : ¬ (a : Int) < (j : Int) := by omega
        have N2 : Hid (¬ (a < j ∧ j < mid)) := by intro h; omega
        have za3 : ¬ (mid : Int) < (e : Int) := by omega
        have N3 : Hid (¬ (mid < e ∧ e < b)) := by intro h; omega
        go_wp2_with fail
        go_end0
        have hf := FIN.out _ _ _ (.inr ⟨N1.out, rfl⟩) (.inr ⟨N2.out, rfl⟩) (.inr ⟨N3.out, rfl⟩)
        exact ⟨rfl, _, hf.1, hf.2, S1.out⟩
      · have za1 : ¬ (j : Int) < (m : Int) := by omega
        have N1 : Hid (¬ (j < m ∧ m < e)) := by intro h; omega
        have za2 : (a : Int) < (j : Int) := by omega
        have zb2 : (j : Int) < (mid : Int) := by omega
        have za3 : (mid : Int) < (e : Int) := by omega
        have zb3 : (e : Int) < (b : Int) := by omega
        go_wp2_with (first | (go_at_call_of 237 (Value.int .i64 (a : Int)); refine (HA1.out c2 _ _ (.inr ⟨N1.out, rfl⟩) S1.out).mono ?_; rintro e2 w2 ⟨rfl, d2, h2, t2, S3⟩; have HP2 := Lib.hid (And.intro h2 t2); have SR2 := Lib.hid S3; clear h2 t2 S3) | (go_at_call_of 237 (Value.int .i64 (b : Int)); refine (HA2.out c3 _ _ _ (.inr ⟨N1.out, rfl⟩) (.inl HP2.out) SR2.out).mono ?_; rintro e3 w3 ⟨rfl, d3, h3, t3, S4⟩; have HP3 := Lib.hid (And.intro h3 t3); have SR3 := Lib.hid S4; clear h3 t3 S4))
        go_end0
        have hf := FIN.out _ _ _ (.inr ⟨N1.out, rfl⟩) (.inl HP2.out) (.inl HP3.out)
        exact ⟨rfl, _, hf.1, hf.2, SR3.out⟩
      · have za1 : ¬ (j : Int) < (m : Int) := by omega
        have N1 : Hid (¬ (j < m ∧ m < e)) := by intro h; omega
        have za2 : (a : Int) < (j : Int) := by omega
        have zb2 : (j : Int) < (mid : Int) := by omega
        have za3 : (mid : Int) < (e : Int) := by omega
        have zb3 : ¬ (e : Int) < (b : Int) := by omega
        have N3 : Hid (¬ (mid < e ∧ e < b)) := by intro h; omega
        go_wp2_with (go_at_call_of 237 (Value.int .i64 (a : Int)); refine (HA1.out c2 _ _ (.inr ⟨N1.out, rfl⟩) S1.out).mono ?_; rintro e2 w2 ⟨rfl, d2, h2, t2, S3⟩; have HP2 := Lib.hid (And.intro h2 t2); have SR2 := Lib.hid S3; clear h2 t2 S3)
        go_end0
        have hf := FIN.out _ _ _ (.inr ⟨N1.out, rfl⟩) (.inl HP2.out) (.inr ⟨N3.out, rfl⟩)
        exact ⟨rfl, _, hf.1, hf.2, SR2.out⟩
      · have za1 : ¬ (j : Int) < (m : Int) := by omega
        have N1 : Hid (¬ (j < m ∧ m < e)) := by intro h; omega
        have za2 : (a : Int) < (j : Int) := by omega
        have zb2 : (j : Int) < (mid : Int) := by omega
        have za3 : ¬ (mid : Int) < (e : Int) := by omega
        have N3 : Hid (¬ (mid < e ∧ e < b)) := by intro h; omega
        go_wp2_with (go_at_call_of 237 (Value.int .i64 (a : Int)); refine (HA1.out c2 _ _ (.inr ⟨N1.out, rfl⟩) S1.out).mono ?_; rintro e2 w2 ⟨rfl, d2, h2, t2, S3⟩; have HP2 := Lib.hid (And.intro h2 t2); have SR2 := Lib.hid S3; clear h2 t2 S3)
        go_end0
        have hf := FIN.out _ _ _ (.inr ⟨N1.out, rfl⟩) (.inl HP2.out) (.inr ⟨N3.out, rfl⟩)
        exact ⟨rfl, _, hf.1, hf.2, SR2.out⟩
      · have za1 : ¬ (j : Int) < (m : Int) := by omega
        have N1 : Hid (¬ (j < m ∧ m < e)) := by intro h; omega
        have za2 : (a : Int) < (j : Int) := by omega
        have zb2 : ¬ (j : Int) < (mid : Int) := by omega
        have N2 : Hid (¬ (a < j ∧ j < mid)) := by intro h; omega
        have za3 : (mid : Int) < (e : Int) := by omega
        have zb3 : (e : Int) < (b : Int) := by omega
        go_wp2_with (go_at_call_of 237 (Value.int .i64 (b : Int)); refine (HA2.out c3 _ _ _ (.inr ⟨N1.out, rfl⟩) (.inr ⟨N2.out, rfl⟩) S1.out).mono ?_; rintro e3 w3 ⟨rfl, d3, h3, t3, S4⟩; have HP3 := Lib.hid (And.intro h3 t3); have SR3 := Lib.hid S4; clear h3 t3 S4)
        go_end0
        have hf := FIN.out _ _ _ (.inr ⟨N1.out, rfl⟩) (.inr ⟨N2.out, rfl⟩) (.inl HP3.out)
        exact ⟨rfl, _, hf.1, hf.2, SR3.out⟩
      · have za1 : ¬ (j : Int) < (m : Int) := by omega
        have N1 : Hid (¬ (j < m ∧ m < e)) := by intro h; omega
        have za2 : (a : Int) < (j : Int) := by omega
        have zb2 : ¬ (j : Int) < (mid : Int) := by omega
        have N2 : Hid (¬ (a < j ∧ j < mid)) := by intro h; omega
        have za3 : (mid : Int) < (e : Int) := by omega
        have zb3 : ¬ (e : Int) < (b : Int) := by omega
        have N3 : Hid (¬ (mid < e ∧ e < b)) := by intro h; omega
        go_wp2_with fail
        go_end0
        have hf := FIN.out _ _ _ (.inr ⟨N1.out, rfl⟩) (.inr ⟨N2.out, rfl⟩) (.inr ⟨N3.out, rfl⟩)
        exact ⟨rfl, _, hf.1, hf.2, S1.out⟩
      · have za1 : ¬ (j : Int) < (m : Int) := by omega
        have N1 : Hid (¬ (j < m ∧ m < e)) := by intro h; omega
        have za2 : (a : Int) < (j : Int) := by omega
        have zb2 : ¬ (j : Int) < (mid : Int) := by omega
        have N2 : Hid (¬ (a < j ∧ j < mid)) := by intro h; omega
        have za3 : ¬ (mid : Int) < (e : Int) := by omega
        have N3 : Hid (¬ (mid < e ∧ e < b)) := by intro h; omega
        go_wp2_with fail
        go_end0
        have hf := FIN.out _ _ _ (.inr ⟨N1.out, rfl⟩) (.inr ⟨N2.out, rfl⟩) (.inr ⟨N3.out, rfl⟩)
        exact ⟨rfl, _, hf.1, hf.2, S1.out⟩
      · have za1 : ¬ (j : Int) < (m : Int) := by omega
        have N1 : Hid (¬ (j < m ∧ m < e)) := by intro h; omega
        have za2 : ¬ (a : Int) < (j : Int) := by omega
        have N2 : Hid (¬ (a < j ∧ j < mid)) := by intro h; omega
        have za3 : (mid : Int) < (e : Int) := by omega
        have zb3 : (e : Int) < (b : Int) := by omega
        go_wp2_with (go_at_call_of 237 (Value.int .i64 (b : Int)); refine (HA2.out c3 _ _ _ (.inr ⟨N1.out, rfl⟩) (.inr ⟨N2.out, rfl⟩) S1.out).mono ?_; rintro e3 w3 ⟨rfl, d3, h3, t3, S4⟩; have HP3 := Lib.hid (And.intro h3 t3); have SR3 := Lib.hid S4; clear h3 t3 S4)
        go_end0
        have hf := FIN.out _ _ _ (.inr ⟨N1.out, rfl⟩) (.inr ⟨N2.out, rfl⟩) (.inl HP3.out)
        exact ⟨rfl, _, hf.1, hf.2, SR3.out⟩
      · have za1 : ¬ (j : Int) < (m : Int) := by omega
        have N1 : Hid (¬ (j < m ∧ m < e)) := by intro h; omega
        have za2 : ¬ (a : Int) < (j : Int) := by omega
        have N2 : Hid (¬ (a < j ∧ j < mid)) := by intro h; omega
        have za3 : (mid : Int) < (e : Int) := by omega
        have zb3 : ¬ (e : Int) < (b : Int) := by omega
        have N3 : Hid (¬ (mid < e ∧ e < b)) := by intro h; omega
        go_wp2_with fail
        go_end0
        have hf := FIN.out _ _ _ (.inr ⟨N1.out, rfl⟩) (.inr ⟨N2.out, rfl⟩) (.inr ⟨N3.out, rfl⟩)
        exact ⟨rfl, _, hf.1, hf.2, S1.out⟩
      · have za1 : ¬ (j : Int) < (m : Int) := by omega
        have N1 : Hid (¬ (j < m ∧ m < e)) := by intro h; omega
        have za2 : ¬ (a : Int) < (j : Int) := by omega
        have N2 : Hid (¬ (a < j ∧ j < mid)) := by intro h; omega
        have za3 : ¬ (mid : Int) < (e : Int) := by omega
        have N3 : Hid (¬ (mid < e ∧ e < b)) := by intro h; omega
        go_wp2_with fail
        go_end0
        have hf := FIN.out _ _ _ (.inr ⟨N1.out, rfl⟩) (.inr ⟨N2.out, rfl⟩) (.inr ⟨N3.out, rfl⟩)
        exact ⟨rfl, _, hf.1, hf.2, S1.out⟩
end walks
end Go.Proofs.YtimahogkcmmcnaaGreatDoor

