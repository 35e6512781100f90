/-
  The well's example, by the contracts of the well. No conditions. The well, part 63a: how acts and wells are kept. Conditions: the schema and the acts lie in the world as the words say. How the well laws' arguments are read: it proves where their cells lie. No conditions.
-/
import Derived.Test.YtimahogkcmmcnaaGreatDoorK28
import Derived.ProofKit
import Derived.Deep.Strs
import Derived.Deep.Slices
import Derived.Lib.SmallJoins
set_option linter.unusedSimpArgs false
set_option linter.unusedVariables false

namespace Go.Proofs.YtimahogkcmmcnaaGreatDoor
open Go.RowKit Go.Proofs.YtimahogkcmmcnaaGreatDoor.Cmps

def exS : List Col := [⟨⟨#[118]⟩, 1⟩]
def exE : List Evt := [⟨10, [⟨1, 1, ⟨#[]⟩⟩]⟩]
def exP : ByteArray := ⟨#[112]⟩
def exQ : ByteArray := ⟨#[113]⟩
def exR : ByteArray := ⟨#[114]⟩
def ex0 : WlM := newM 2 2
def ex1 : WlM := (findR exS ex0 exP exE).1
def ex2 : WlM := (findR exS ex1 exQ []).1
def ex3 : WlM := (findR exS ex2 exR []).1
def exRd : RdM := ⟨0, exP, ⟨10, [⟨1, 1, ⟨#[]⟩⟩]⟩, false, -1000000000000⟩

theorem ex_new : newE exS 2 2 = 0 := by kernel_rfl
theorem ex_find1 : findR exS ex0 exP exE = (ex1, 0, 0) := by kernel_rfl
theorem ex_find2 : findR exS ex1 exQ [] = (ex2, 1, 0) := by kernel_rfl
theorem ex_find3 : findR exS ex2 exR [] = (ex3, 0, 0) := by kernel_rfl
theorem ex_read : (readR ex3 0).2 = (exRd, 0) := by kernel_rfl

theorem ex0_good : Good ex0 := ⟨newM_ok (by omega) (by omega) (by omega) (by omega), newM_row _ _⟩
theorem ex1_good : Good ex1 := findR_good ex0_good
theorem ex2_good : Good ex2 := findR_good ex1_good
theorem ex3_good : Good ex3 := findR_good ex2_good

theorem evts_nil (w : World) (D : Nat → Prop) : EvtsAt w D (.slice none 0 0) [] := ⟨none, 0, rfl, by simp, .inl rfl⟩

section leaves
set_option maxHeartbeats 1000000
set_option maxRecDepth 100000

theorem f13_any (hm : Tryz.prog.follows .mixedOrders = true) (w : World) : Calls Tryz.prog 13 #[] w fun e w' => e = .returned (.bool true) ∧ Below w.heap.size w w' := by
  have hS : SchemaAt (w.alloc (.cells #[.string ⟨#[118]⟩, .int .i64 1] 71)) (fun _ => True) (.slice (some ⟨w.heap.size, 0, none⟩) exS.length 1) exS := by
    have hb := heap_alloc_new w (.cells #[.string ⟨#[118]⟩, .int .i64 1] 71)
    refine ⟨_, 1, rfl, by decide, by decide, fun c hc => ?_, .inr ⟨w.heap.size, 0, rfl, trivial, fun i hi => ?_⟩⟩
    · rw [List.mem_singleton.1 hc]; decide
    · have h0 : i = 0 := by simp [exS] at hi; omega
      subst h0
      exact ⟨cells_at hb 0, cells_at hb 1⟩
  have HB1 : Hid (Below w.heap.size w (w.alloc (.cells #[.string ⟨#[118]⟩, .int .i64 1] 71))) := (Below.refl _ _).alloc (Nat.le_refl _) _
  have H16 := Lib.hid (f16_any hm _ _ _ exS 2 2 hS)
  have HMX := Lib.hid hm
  clear hS hm
  go_enter Tryz.func13, Tryz.ntmps13
  go_wp2_with fail
  go_at_call 16
  refine H16.out.mono ?_
  rintro e w2 ⟨hb2, h⟩
  rcases h with ⟨h0, -⟩ | ⟨-, col, ws, rfl, hwa, hcol⟩
  · exact absurd ex_new h0
  have HB2 := Lib.hid (HB1.out.trans (hb2.mono HB1.out.size))
  have HC : Hid (∀ y, y < w.heap.size → col y = 0) := fun y hy => hcol y (by have := HB1.out.size; omega)
  have HWA := Lib.hid hwa
  have hc0 : ∀ y, w2.heap.size ≤ y → col y = 0 := fun y hy => by
    by_cases e : col y = 0
    · exact e
    · have := hwa.c0 y e; omega
  have hE : EvtsAt ((w2.alloc (.cells #[.int .i64 1, .int .i64 1, .string ⟨#[]⟩] 78)).alloc (.cells #[.int .i64 10, .slice (some ⟨w2.heap.size, 0, none⟩) 1 1] 30)) (Calm ((w2.alloc (.cells #[.int .i64 1, .int .i64 1, .string ⟨#[]⟩] 78)).alloc (.cells #[.int .i64 10, .slice (some ⟨w2.heap.size, 0, none⟩) 1 1] 30)) col) (.slice (some ⟨w2.heap.size + 1, 0, none⟩) exE.length 1) exE := by
    have h1 : ((w2.alloc (.cells #[.int .i64 1, .int .i64 1, .string ⟨#[]⟩] 78)).alloc (.cells #[.int .i64 10, .slice (some ⟨w2.heap.size, 0, none⟩) 1 1] 30)).heap[w2.heap.size + 1]? = some (.cells #[.int .i64 10, .slice (some ⟨w2.heap.size, 0, none⟩) 1 1] 30 (0, 0)) := new_snd w2 _ _
    have h0 : ((w2.alloc (.cells #[.int .i64 1, .int .i64 1, .string ⟨#[]⟩] 78)).alloc (.cells #[.int .i64 10, .slice (some ⟨w2.heap.size, 0, none⟩) 1 1] 30)).heap[w2.heap.size]? = some (.cells #[.int .i64 1, .int .i64 1, .string ⟨#[]⟩] 78 (0, 0)) := alloc_keep (heap_alloc_new w2 _)
    refine ⟨_, 1, rfl, by decide, .inr ⟨w2.heap.size + 1, 0, rfl, ⟨heap_lt h1, hc0 _ (by omega)⟩, fun i hi => ?_⟩⟩
    have hi0 : i = 0 := by simp [exE] at hi; omega
    subst hi0
    refine ⟨cells_at h1 0, _, cells_at h1 1, _, 1, rfl, by simp [exE], .inr ⟨w2.heap.size, 0, rfl, ⟨heap_lt h0, hc0 _ (Nat.le_refl _)⟩, fun j hj => ?_⟩⟩
    have hj0 : j = 0 := by simp [exE] at hj; omega
    subst hj0
    exact ⟨cells_at h0 0, cells_at h0 1, cells_at h0 2⟩
  have hB3 : Below w2.heap.size w2 ((w2.alloc (.cells #[.int .i64 1, .int .i64 1, .string ⟨#[]⟩] 78)).alloc (.cells #[.int .i64 10, .slice (some ⟨w2.heap.size, 0, none⟩) 1 1] 30)) := ((Below.refl _ _).alloc (Nat.le_refl _) _).alloc (by simp) _
  have h42 := f42_any HMX.out _ col exS ws ex0 ⟨#[]⟩ exP _ exE (hwa.below hB3) ex0_good.ok hE (by decide)
  rw [ex_find1] at h42
  unfold ptr at h42
  have H42 := Lib.hid h42
  have HB3 := Lib.hid hB3
  clear hE hB3 h42 hwa hcol hc0 hb2
  unfold ptr
  go_wp2_with fail
  go_at_call 42
  refine H42.out.mono ?_
  rintro e w3 ⟨rfl, col1, ws1, hws1, hwa1, hwent1⟩
  have h42 := f42_any HMX.out w3 col1 exS ws1 ex1 ⟨#[]⟩ exQ _ [] hwa1 ex1_good.ok (evts_nil _ _) (by decide)
  rw [ex_find2, hws1] at h42
  unfold ptr at h42
  have H42b := Lib.hid h42
  have HE1 := Lib.hid hwent1
  clear h42 hwa1 H42 hwent1
  go_wp2_with fail
  go_at_call 42
  refine H42b.out.mono ?_
  rintro e w4 ⟨rfl, col2, ws2, hws2, hwa2, hwent2⟩
  have h42 := f42_any HMX.out w4 col2 exS ws2 ex2 ⟨#[]⟩ exR _ [] hwa2 ex2_good.ok (evts_nil _ _) (by decide)
  rw [ex_find3, hws2] at h42
  unfold ptr at h42
  have H42c := Lib.hid h42
  have HE2 := Lib.hid hwent2
  clear h42 hwa2 H42b hwent2
  go_wp2_with fail
  go_at_call 42
  refine H42c.out.mono ?_
  rintro e w5 ⟨rfl, col3, ws3, hws3, hwa3, hwent3⟩
  have h43 := f43_any HMX.out w5 col3 exS ws3 ex3 0 hwa3 ex3_good.ok ex3_good.row
  rw [hws3] at h43
  rw [show (readR ex3 0).2.1 = exRd by rw [ex_read], show (readR ex3 0).2.2 = 0 by rw [ex_read]] at h43
  unfold ptr at h43
  have H43 := Lib.hid h43
  have HE3 := Lib.hid hwent3
  clear h43 hwa3 H42c hwent3
  go_wp2_with fail
  go_at_call 43
  refine H43.out.mono ?_
  rintro e w6 ⟨col4, ws4, rv, hws4, hwa4, hwent4, hrv, rfl⟩
  obtain ⟨ra, rc, rfl⟩ : ∃ a c, rv = .slice a exRd.ev.r.length c := by obtain ⟨a, c, e, _⟩ := hrv; exact ⟨a, c, e⟩
  have HB6 : Below w.heap.size w w6 := by
    have hall := ((((Went.below (col := col) (HB2.out.trans (HB3.out.mono HB2.out.size))).trans HE1.out).trans HE2.out).trans HE3.out).trans hwent4
    exact hall.only.below (Nat.le_refl _) (fun y hy => by
      by_cases hq : w.heap.size ≤ y
      · exact hq
      · exact absurd (HC.out y (by omega)) hy)
  have HF := Lib.hid HB6
  clear hrv hwa4 hwent4 H43 HB6
  show _
  have hrd : rdV exRd (.slice ra exRd.ev.r.length rc) = .agg #[.int .i64 0, .string ⟨#[112]⟩, .int .i64 10, .slice ra 1 rc, .bool false, .int .i64 (-1000000000000)] := rfl
  rw [hrd]
  go_wp2_with fail
  go_ret
  exact ⟨rfl, HF.out.alloc HF.out.size _⟩
end leaves
end Go.Proofs.YtimahogkcmmcnaaGreatDoor

namespace Go.Proofs.YtimahogkcmmcnaaGreatDoor
open Go.RowKit Go.Proofs.YtimahogkcmmcnaaGreatDoor.Cmps

theorem ActsAt.keepC {w w' : World} {D D' : Nat → Prop} {v : Value} {l : List ActM} (h : ActsAt w D v l) (hk : ∀ b, D b → b < w.heap.size → w'.heap[b]? = w.heap[b]? ∧ D' b) : ActsAt w' D' v l := by
  obtain ⟨a, cap, rfl, hl, hx⟩ := h
  refine ⟨a, cap, rfl, hl, ?_⟩
  rcases hx with rfl | ⟨b, off, rfl, hb, hc⟩
  · exact .inl rfl
  · by_cases h0 : l.length = 0
    · exact .inl (List.eq_nil_of_length_eq_zero h0)
    · obtain ⟨_, _, _, _, y0, _⟩ := hc 0 (by omega)
      have hbl := cell_lt y0
      have hcell : ∀ o, w'.cell? ⟨b, o, none⟩ = w.cell? ⟨b, o, none⟩ := fun o => cell_keep (hk b hb hbl).1 o
      refine .inr ⟨b, off, rfl, (hk b hb hbl).2, fun i hi => ?_⟩
      obtain ⟨ev, he, hs, hn, x0, x1, x2, x3⟩ := hc i hi
      exact ⟨ev, ((he.imp (D' := fun b => D b ∧ b < w.heap.size) fun b hl hb => ⟨hb, hl⟩).keep fun b hb _ => (hk b hb.1 hb.2).1).mono fun b hb => (hk b hb.1 hb.2).2, hs, hn, by rw [hcell]; exact x0, by rw [hcell]; exact x1, by rw [hcell]; exact x2, by rw [hcell]; exact x3⟩

theorem ActsAt.atD {w : World} {D : Nat → Prop} {a : Option Addr} {cap : Nat} {l : List ActM} (h : ActsAt w D (.slice a l.length cap) l) {k : Nat} (hk : k < l.length) :
    ∃ b off e1 e2, a = some ⟨b, off, none⟩ ∧ D b ∧ EvtsAt w D (.slice e1 l[k].evs.length e2) l[k].evs ∧ EvsSmall l[k].evs ∧ l[k].name.size ≤ 9223372036854775807 ∧
    w.cell? ⟨b, off + k * 4, none⟩ = some (.int .u8 l[k].kind) ∧ w.cell? ⟨b, off + k * 4 + 1, none⟩ = some (.int .i64 l[k].reader) ∧ w.cell? ⟨b, off + k * 4 + 2, none⟩ = some (.string l[k].name) ∧ w.cell? ⟨b, off + k * 4 + 3, none⟩ = some (.slice e1 l[k].evs.length e2) := by
  obtain ⟨a', cap', hv, -, hx⟩ := h
  injection hv with hv _ _
  subst hv
  obtain ⟨b, off, rfl, hD, hc⟩ := hx.resolve_left (fun e => by rw [e] at hk; simp at hk)
  obtain ⟨ev, he, hs, hz, h0, h1, h2, h3⟩ := hc k hk
  have he' := he
  obtain ⟨e1, e2, rfl, -⟩ := he'
  exact ⟨b, off, e1, e2, rfl, hD, he, hs, hz, h0, h1, h2, h3⟩

theorem SchemaAt.keepC {w w' : World} {D D' : Nat → Prop} {v : Value} {l : List Col} (h : SchemaAt w D v l) (hk : ∀ b, D b → b < w.heap.size → w'.heap[b]? = w.heap[b]? ∧ D' b) : SchemaAt w' D' v l :=
  ((h.imp (D' := fun b => D b ∧ b < w.heap.size) fun b hl hb => ⟨hb, hl⟩).keep fun b hb _ => (hk b hb.1 hb.2).1).mono fun b hb => (hk b hb.1 hb.2).2
theorem RefAt.keepC {w w' : World} {D D' : Nat → Prop} {s : List Col} {m : WlM} {p : RS} (h : RefAt w D s m p) (hk : ∀ b, D b → b < w.heap.size → w'.heap[b]? = w.heap[b]? ∧ D' b) : RefAt w' D' s m p :=
  ((h.imp (D' := fun b => D b ∧ b < w.heap.size) fun b hl hb => ⟨hb, hl⟩).keep fun b hb _ => (hk b hb.1 hb.2).1).mono fun b hb => (hk b hb.1 hb.2).2

/-- A block that is no part of the well turns. -/
theorem WAt.turn {w w' : World} {col : Nat → Nat} {s : List Col} {ws : WS} {m : WlM} {b : Nat} (h : WAt w col s ws m) (hm : Mute w b) (h0 : col b = 0) (hb : b < w.heap.size) (ho : Only (fun x => x = b) w w') : WAt w' col s ws m := by
  have hk : ∀ x, x < w.heap.size → x ≠ b → w'.heap[x]? = w.heap[x]? := fun x hx hn => ho.block x hx hn
  have hc : ∀ {x c : Nat}, col x = c → c ≠ 0 → x ≠ b := fun {x c} hx hn e => by subst e; omega
  have ho' : ∀ {x c : Nat} {o : Obj}, w.heap[x]? = some o → col x = c → c ≠ 0 → w'.heap[x]? = some o := fun {x c o} h1 h2 h3 => (hk x (heap_lt h1) (hc h2 h3)).trans h1
  have hcl : ∀ x, Calm w col x ∧ x ≠ b → Calm w' col x := fun x hx => ⟨Nat.lt_of_lt_of_le hx.1.1 ho.size, hx.1.2⟩
  have hev : ∀ {v : Value} {l : List Evt} {blk : Option Nat} {c : Nat}, EvsOwn w (Calm w col) v l blk → (∀ x, blk = some x → col x = c) → c ≠ 0 → EvsOwn w' (Calm w' col) v l blk := fun {v l blk c} he hb hn =>
    ((he.mute hm).keep fun x hx hl => by
      rcases hx with hx | hx
      · exact hk x hl hx.2
      · exact hk x hl (hc (hb x hx) hn)).mono hcl
  have hown : ∀ {v : Value} {e sz n : Nat} {xs : List Value} {blk : Option Nat} {c : Nat}, SlOwn w e sz v n xs blk → (∀ x, blk = some x → col x = c) → c ≠ 0 → SlOwn w' e sz v n xs blk := fun {v e sz n xs blk c} hs hb hn =>
    hs.keep fun g hg => hk g (hs.lt_of hg) (hc (hb g hg) hn)
  exact ⟨fun x hx => Nat.lt_of_lt_of_le (h.c0 x hx) ho.size, h.cW, h.cS, h.cM, h.cR, h.cL, h.cX, h.cG, h.cE, h.cB, h.cI,
    ho' h.hW h.cW (by omega), ((h.hC.mute hm).keep fun x hx hl => hk x hl hx.2).mono hcl, hown h.hS h.cS (by omega), hown h.hR h.cR (by omega), hev h.hL h.cL (by omega),
    fun k hk => ho' (h.hX k hk) (h.cX k hk) (by omega), fun k hk => ho' (h.hG k hk) (h.cG k hk) (by omega), fun k hk => hev (h.hE k hk) (fun x hx => h.cE k x hk hx) (by omega),
    fun r hr => ho' (h.hB r hr) (h.cB r hr) (by omega), fun r hr => ho' (h.hI r hr) (h.cI r hr) (by omega), ho' h.hM h.cM (by omega), h.hN⟩

theorem mute45v {w : World} {b : Nat} {a1 a2 a3 a4 : Option Addr} {n1 n2 n3 n4 c1 c2 c3 c4 : Nat} {i : Int} {q : Bool} (h : w.heap[b]? = some (.cells #[.slice a1 n1 c1, .int .i64 i, .slice a2 n2 c2, .slice a3 n3 c3, .bool q, .slice a4 n4 c4] 45 (0, 0))) : Mute w b := by
  refine ⟨_, _, _, h, fun i x hx => ?_⟩
  match i, hx with
  | 0, hx => cases hx
  | 1, hx => cases hx
  | 2, hx => cases hx
  | 3, hx => cases hx
  | 4, hx => cases hx
  | 5, hx => cases hx
  | n + 6, hx => cases hx

end Go.Proofs.YtimahogkcmmcnaaGreatDoor

namespace Go.Proofs.YtimahogkcmmcnaaGreatDoor
open Go.ChangeShapes Go.WideShapes Go.ChangeAt Go.RowKit Go.Deep Go.Proofs.YtimahogkcmmcnaaGreatDoor.Cmps

theorem choose_list {α : Type} {p : Nat → α → Prop} : ∀ (n : Nat), (∀ i, i < n → ∃ x, p i x) → ∃ l : List α, l.length = n ∧ ∀ i (hi : i < l.length), p i l[i]
  | 0, _ => ⟨[], rfl, fun i hi => by simp at hi⟩
  | n + 1, h => by
    obtain ⟨l, hl, hp⟩ := choose_list n (fun i hi => h i (by omega))
    obtain ⟨x, hx⟩ := h n (by omega)
    refine ⟨l ++ [x], by simp [hl], fun i hi => ?_⟩
    by_cases e : i < l.length
    · rw [List.getElem_append_left e]; exact hp i e
    · have hi' : i < l.length + 1 := by simpa using hi
      obtain rfl : i = l.length := by omega
      rw [List.getElem_append_right (Nat.le_refl _)]
      simp [hl, hx]

section opening
variable {H : Type} {enc : TypeId × Value → H} {w : World} {base : Nat} {spare : Nat → Bool} {held : Bool} {fuel : Nat} {cs : List Value} {x : DataW H × List MemPlace}

theorem cz3 : Tryz.prog.cellsOf 3 = 1 := by kernel_rfl
theorem cz9 : Tryz.prog.cellsOf 9 = 1 := by kernel_rfl
theorem cz28 : Tryz.prog.cellsOf 28 = 1 := by kernel_rfl
theorem cz30 : Tryz.prog.cellsOf 30 = 2 := by kernel_rfl
theorem cz71 : Tryz.prog.cellsOf 71 = 2 := by kernel_rfl
theorem cz78 : Tryz.prog.cellsOf 78 = 3 := by kernel_rfl

theorem spot_none {a : Addr} {v : Value} (h : w.cell? a = some v) : a.spot = none := by
  unfold World.cell? at h
  split at h
  · split at h
    · cases h
    · rename_i hs; simpa using hs
  · cases h

theorem trod_val (h : DataW.trod enc Tryz.prog w base spare held fuel 78 cs = some x) : ∃ v : Val, cs = [.int .i64 v.k, .int .i64 v.n, .string v.s] ∧ v.s.size ≤ 9223372036854775807 := by
  obtain ⟨y0, y1, y2, n, _, hl, h0, h1, h2⟩ := trod_struct3 Tryz.underlying78 h
  rw [cz78] at hl
  simp only [cz3, cz9] at h0 h1 h2
  obtain ⟨k, e0, _⟩ := DataW.trod_int Tryz.underlying3 h0
  obtain ⟨n', e1, _⟩ := DataW.trod_int Tryz.underlying3 h1
  obtain ⟨s, e2, _, hz⟩ := DataW.trod_string Tryz.underlying9 h2
  match cs, hl with
  | [a, b, c], _ =>
    simp only [List.drop_zero, List.take_succ_cons, List.take_zero, List.drop_succ_cons, List.cons.injEq, and_true] at e0 e1 e2
    exact ⟨⟨k, n', s⟩, by rw [e0, e1, e2], by simp only [maxLen] at hz; exact hz⟩

theorem trod_col (h : DataW.trod enc Tryz.prog w base spare held fuel 71 cs = some x) : ∃ v : Col, cs = [.string v.n, .int .i64 v.k] ∧ v.n.size ≤ 9223372036854775807 := by
  obtain ⟨y0, y1, n, _, hl, h0, h1⟩ := trod_struct2 Tryz.underlying71 h
  rw [cz71] at hl
  simp only [cz3, cz9] at h0 h1
  obtain ⟨s, e0, _, hz⟩ := DataW.trod_string Tryz.underlying9 h0
  obtain ⟨k, e1, _⟩ := DataW.trod_int Tryz.underlying3 h1
  match cs, hl with
  | [a, b], _ =>
    simp only [List.drop_zero, List.take_succ_cons, List.take_zero, List.drop_succ_cons, List.cons.injEq, and_true] at e0 e1
    exact ⟨⟨s, k⟩, by rw [e0, e1], by simp only [maxLen] at hz; exact hz⟩

/-- A row. -/
theorem trod_row (h : DataW.trod enc Tryz.prog w base spare held fuel 28 cs = some x) : ∃ r row, cs = [r] ∧ RowAt w (fun b => b < w.heap.size) r row ∧ (∀ y ∈ row, y.s.size ≤ 9223372036854775807) := by
  rcases Deep.open_slice Tryz.underlying28 h with ⟨rfl, _⟩ | ⟨a, len, cap, m, n, D, Pl, rfl, _, hlc, hcm, hm, _, hx⟩
  · exact ⟨_, [], rfl, ⟨none, 0, rfl, by simp, .inl rfl⟩, by simp⟩
  · rw [cz78] at hx
    have hlm : len ≤ m := by subst hm; split <;> omega
    have hV : ∀ i, i < len → ∃ v : Val, w.cell? (a.add (i * 3)) = some (.int .i64 v.k) ∧ w.cell? ((a.add (i * 3)).add 1) = some (.int .i64 v.n) ∧ w.cell? ((a.add (i * 3)).add 2) = some (.string v.s) ∧ v.s.size ≤ 9223372036854775807 := fun i hi => by
      obtain ⟨cs', h1, h2⟩ := hx i (by omega)
      obtain ⟨v, rfl, hz⟩ := trod_val h2
      obtain ⟨_, _, hc⟩ := World.cells?_some h1
      have c0 := hc 0 (by omega)
      have c1 := hc 1 (by omega)
      have c2 := hc 2 (by omega)
      exact ⟨v, by simpa [Addr.add] using c0, by simpa using c1, by simpa using c2, hz⟩
    obtain ⟨row, hl, hp⟩ := choose_list len hV
    refine ⟨_, row, rfl, ⟨some a, cap, by rw [hl], by simp only [maxLen] at hcm; omega, ?_⟩, fun y hy => by obtain ⟨i, hi, rfl⟩ := List.mem_iff_getElem.1 hy; exact (hp i hi).2.2.2⟩
    rcases Nat.eq_zero_or_pos len with h0 | h0
    · exact .inl (List.eq_nil_of_length_eq_zero (by omega))
    · obtain ⟨v, c0, _⟩ := hV 0 h0
      have hsp : a.spot = none := spot_none (w := w) (a := a) (v := .int .i64 v.k) (by simpa [Addr.add] using c0)
      obtain ⟨b, off, spot⟩ := a
      dsimp only at hsp
      subst hsp
      refine .inr ⟨b, off, rfl, ?_, fun i hi => ?_⟩
      · rw [add_at] at c0; exact cell_lt c0
      · obtain ⟨c0, c1, c2, _⟩ := hp i hi
        simp only [add_at] at c0 c1 c2
        exact ⟨c0, c1, c2⟩

theorem trod_event (h : DataW.trod enc Tryz.prog w base spare held fuel 30 cs = some x) : ∃ (t : Int) (r : Value) (row : List Val), cs = [.int .i64 t, r] ∧ RowAt w (fun b => b < w.heap.size) r row ∧ (∀ y ∈ row, y.s.size ≤ 9223372036854775807) := by
  obtain ⟨y0, y1, n, _, hl, h0, h1⟩ := trod_struct2 Tryz.underlying30 h
  rw [cz30] at hl
  simp only [cz3, cz28] at h0 h1
  obtain ⟨t, e0, _⟩ := DataW.trod_int Tryz.underlying3 h0
  obtain ⟨r, row, e1, hr, hsm⟩ := trod_row h1
  match cs, hl with
  | [a, b], _ =>
    simp only [List.drop_zero, List.take_succ_cons, List.take_zero, List.drop_succ_cons, List.cons.injEq, and_true] at e0 e1
    exact ⟨t, r, row, by rw [e0, e1], hr, hsm⟩

/-- A list of events. -/
theorem trod_events (h : DataW.trod enc Tryz.prog w base spare held fuel 24 cs = some x) : ∃ v l, cs = [v] ∧ EvtsAt w (fun b => b < w.heap.size) v l ∧ EvsSmall l := by
  rcases Deep.open_slice Tryz.underlying24 h with ⟨rfl, _⟩ | ⟨a, len, cap, m, n, D, Pl, rfl, _, hlc, hcm, hm, _, hx⟩
  · exact ⟨_, [], rfl, ⟨none, 0, rfl, by simp, .inl rfl⟩, fun y hy => by cases hy⟩
  · rw [cz30] at hx
    have hlm : len ≤ m := by subst hm; split <;> omega
    have hV : ∀ i, i < len → ∃ y : Evt, w.cell? (a.add (i * 2)) = some (.int .i64 y.t) ∧ (∃ r, w.cell? ((a.add (i * 2)).add 1) = some r ∧ RowAt w (fun b => b < w.heap.size) r y.r) ∧ ∀ z ∈ y.r, z.s.size ≤ 9223372036854775807 := fun i hi => by
      obtain ⟨cs', h1, h2⟩ := hx i (by omega)
      obtain ⟨t, r, row, rfl, hr, hsm⟩ := trod_event h2
      obtain ⟨_, _, hc⟩ := World.cells?_some h1
      have c0 := hc 0 (by omega)
      have c1 := hc 1 (by omega)
      exact ⟨⟨t, row⟩, by simpa [Addr.add] using c0, ⟨r, by simpa using c1, hr⟩, hsm⟩
    obtain ⟨l, hl, hp⟩ := choose_list len hV
    refine ⟨_, l, rfl, ⟨some a, cap, by rw [hl], by simp only [maxLen] at hcm; omega, ?_⟩, fun y hy => by obtain ⟨i, hi, rfl⟩ := List.mem_iff_getElem.1 hy; exact (hp i hi).2.2⟩
    rcases Nat.eq_zero_or_pos len with h0 | h0
    · exact .inl (List.eq_nil_of_length_eq_zero (by omega))
    · obtain ⟨v, c0, _⟩ := hV 0 h0
      have hsp : a.spot = none := spot_none (w := w) (a := a) (v := .int .i64 v.t) (by simpa [Addr.add] using c0)
      obtain ⟨b, off, spot⟩ := a
      dsimp only at hsp
      subst hsp
      refine .inr ⟨b, off, rfl, ?_, fun i hi => ?_⟩
      · rw [add_at] at c0; exact cell_lt c0
      · obtain ⟨c0, ⟨r, c1, hr⟩, _⟩ := hp i hi
        simp only [add_at] at c0 c1
        exact ⟨c0, r, c1, hr⟩

/-- A schema. -/
theorem trod_schema (h : DataW.trod enc Tryz.prog w base spare held fuel 23 cs = some x) : ∃ v l, cs = [v] ∧ SchemaAt w (fun b => b < w.heap.size) v l := by
  rcases Deep.open_slice Tryz.underlying23 h with ⟨rfl, _⟩ | ⟨a, len, cap, m, n, D, Pl, rfl, _, hlc, hcm, hm, _, hx⟩
  · exact ⟨_, [], rfl, none, 0, rfl, by simp, by simp, by simp, .inl rfl⟩
  · rw [cz71] at hx
    have hlm : len ≤ m := by subst hm; split <;> omega
    have hV : ∀ i, i < len → ∃ y : Col, w.cell? (a.add (i * 2)) = some (.string y.n) ∧ w.cell? ((a.add (i * 2)).add 1) = some (.int .i64 y.k) ∧ y.n.size ≤ 9223372036854775807 := fun i hi => by
      obtain ⟨cs', h1, h2⟩ := hx i (by omega)
      obtain ⟨v, rfl, hz⟩ := trod_col h2
      obtain ⟨_, _, hc⟩ := World.cells?_some h1
      have c0 := hc 0 (by omega)
      have c1 := hc 1 (by omega)
      exact ⟨v, by simpa [Addr.add] using c0, by simpa using c1, hz⟩
    obtain ⟨l, hl, hp⟩ := choose_list len hV
    refine ⟨_, l, rfl, some a, cap, by rw [hl], by omega, by simp only [maxLen] at hcm; omega, fun c hc => ?_, ?_⟩
    · obtain ⟨i, hi, rfl⟩ := List.mem_iff_getElem.1 hc
      exact (hp i hi).2.2
    rcases Nat.eq_zero_or_pos len with h0 | h0
    · exact .inl (List.eq_nil_of_length_eq_zero (by omega))
    · obtain ⟨v, c0, _⟩ := hV 0 h0
      have hsp : a.spot = none := spot_none (w := w) (a := a) (v := .string v.n) (by simpa [Addr.add] using c0)
      obtain ⟨b, off, spot⟩ := a
      dsimp only at hsp
      subst hsp
      refine .inr ⟨b, off, rfl, ?_, fun i hi => ?_⟩
      · rw [add_at] at c0; exact cell_lt c0
      · obtain ⟨c0, c1, _⟩ := hp i hi
        simp only [add_at] at c0 c1
        exact ⟨c0, c1⟩
theorem cz5 : Tryz.prog.cellsOf 5 = 1 := by kernel_rfl
theorem cz24 : Tryz.prog.cellsOf 24 = 1 := by kernel_rfl
theorem cz50 : Tryz.prog.cellsOf 50 = 4 := by kernel_rfl

/-- An act. -/
theorem trod_act (h : DataW.trod enc Tryz.prog w base spare held fuel 50 cs = some x) : ∃ (y : ActM) (ev : Value), cs = [.int .u8 y.kind, .int .i64 y.reader, .string y.name, ev] ∧ EvtsAt w (fun b => b < w.heap.size) ev y.evs ∧ EvsSmall y.evs ∧ y.name.size ≤ 9223372036854775807 := by
  obtain ⟨y0, y1, y2, y3, n, _, hl, h0, h1, h2, h3⟩ := Go.Joins.trod_struct4 Tryz.underlying50 h
  rw [cz50] at hl
  simp only [cz3, cz5, cz9, cz24] at h0 h1 h2 h3
  obtain ⟨k, e0, _⟩ := DataW.trod_int Tryz.underlying5 h0
  obtain ⟨r, e1, _⟩ := DataW.trod_int Tryz.underlying3 h1
  obtain ⟨s, e2, _, hz⟩ := DataW.trod_string Tryz.underlying9 h2
  obtain ⟨ev, l, e3, he, hs⟩ := trod_events h3
  match cs, hl with
  | [a, b, c, d], _ =>
    simp only [List.drop_zero, List.take_succ_cons, List.take_zero, List.drop_succ_cons, List.cons.injEq, and_true] at e0 e1 e2 e3
    exact ⟨⟨k, r, s, l⟩, ev, by rw [e0, e1, e2, e3], he, hs, by simp only [maxLen] at hz; exact hz⟩

/-- A list of acts. -/
theorem trod_acts (h : DataW.trod enc Tryz.prog w base spare held fuel 37 cs = some x) : ∃ v l, cs = [v] ∧ ActsAt w (fun b => b < w.heap.size) v l := by
  rcases Deep.open_slice Tryz.underlying37 h with ⟨rfl, _⟩ | ⟨a, len, cap, m, n, D, Pl, rfl, _, hlc, hcm, hm, _, hx⟩
  · exact ⟨_, [], rfl, none, 0, rfl, by simp, .inl rfl⟩
  · rw [cz50] at hx
    have hlm : len ≤ m := by subst hm; split <;> omega
    have hV : ∀ i, i < len → ∃ y : ActM, ∃ ev, EvtsAt w (fun b => b < w.heap.size) ev y.evs ∧ EvsSmall y.evs ∧ y.name.size ≤ 9223372036854775807 ∧
        w.cell? (a.add (i * 4)) = some (.int .u8 y.kind) ∧ w.cell? ((a.add (i * 4)).add 1) = some (.int .i64 y.reader) ∧ w.cell? ((a.add (i * 4)).add 2) = some (.string y.name) ∧ w.cell? ((a.add (i * 4)).add 3) = some ev := fun i hi => by
      obtain ⟨cs', h1, h2⟩ := hx i (by omega)
      obtain ⟨y, ev, rfl, he, hs, hz⟩ := trod_act h2
      obtain ⟨_, _, hc⟩ := World.cells?_some h1
      have c0 := hc 0 (by omega)
      have c1 := hc 1 (by omega)
      have c2 := hc 2 (by omega)
      have c3 := hc 3 (by omega)
      exact ⟨y, ev, he, hs, hz, by simpa [Addr.add] using c0, by simpa using c1, by simpa using c2, by simpa using c3⟩
    obtain ⟨l, hl, hp⟩ := choose_list len hV
    refine ⟨_, l, rfl, some a, cap, by rw [hl], by simp only [maxLen] at hcm; omega, ?_⟩
    rcases Nat.eq_zero_or_pos len with h0 | h0
    · exact .inl (List.eq_nil_of_length_eq_zero (by omega))
    · obtain ⟨v, ev, _, _, _, c0, _⟩ := hV 0 h0
      have hsp : a.spot = none := spot_none (w := w) (a := a) (v := .int .u8 v.kind) (by simpa [Addr.add] using c0)
      obtain ⟨b, off, spot⟩ := a
      dsimp only at hsp
      subst hsp
      refine .inr ⟨b, off, rfl, ?_, fun i hi => ?_⟩
      · rw [add_at] at c0; exact cell_lt c0
      · obtain ⟨ev, he, hs, hz, c0, c1, c2, c3⟩ := hp i hi
        simp only [add_at] at c0 c1 c2 c3
        exact ⟨ev, he, hs, hz, c0, c1, c2, c3⟩
end opening
end Go.Proofs.YtimahogkcmmcnaaGreatDoor

