import Derived.Test.YtdnkfgnjeibjeaaC15
import Derived.Test.YtdnkfgnjeibjeaaME
namespace Go.Proofs.Ytdnkfgnjeibjeaa
open Go.RowKit

/-- What passed, with any number of an input. -/
abbrev OZ := Int × EV
def ocz (o : OZ) : List Value := .int .i64 o.1 :: ecl o.2
theorem ocz_len (o : OZ) : (ocz o).length = 6 := rfl

theorem OutsAt.of_z {w : World} {D : Nat → Prop} {e : TypeId} {v : Value} {outs : List OZ} {blk : Option Nat} (h : SlOwn w e 6 v outs.length (outs.flatMap ocz) blk) (hlen : outs.length ≤ 1000000) (hr : ∀ o ∈ outs, RowAt w D o.2.2 o.2.1.row) (hD : ∀ b, blk = some b → D b) :
    OutsAt w D v (outs.map fun o => (o.1, o.2.1)) := by
  obtain ⟨a, c, rfl⟩ := h.form
  refine ⟨a, c, by simp, by simp; omega, ?_⟩
  rcases Nat.eq_zero_or_pos outs.length with h0 | h0
  · exact .inl (by rw [List.eq_nil_of_length_eq_zero h0]; rfl)
  · obtain ⟨g, o, ha, hb⟩ : ∃ g o, a = some ⟨g, o, none⟩ ∧ blk = some g := by
      rcases h.2 with ⟨hx, _⟩ | ⟨g, o, cap, cur, hb, hx, _⟩
      · injection hx with _ hx _; omega
      · injection hx with hx _ _; exact ⟨g, o, hx, hb⟩
    subst ha
    refine .inr ⟨g, o, rfl, hD g hb, fun i hi => ?_⟩
    have hi' : i < outs.length := by simpa using hi
    have hc := fun j (hj : j < 6) u (hu : (ocz outs[i])[j]? = some u) => h.cell (i * 6 + j) u ((flat_at ocz_len outs i j hi' hj).trans hu)
    simp only [List.getElem_map]
    exact ⟨hc 0 (by omega) _ rfl, outs[i].2.2, hc 1 (by omega) _ rfl, hc 2 (by omega) _ rfl, hc 3 (by omega) _ rfl, hc 4 (by omega) _ rfl, hc 5 (by omega) _ rfl, hr _ (List.getElem_mem hi')⟩

theorem great_row {e : Elem} (h : greatE e = false) : e.row.length ≤ 20 := by
  simp only [greatE, Bool.or_eq_false_iff, decide_eq_false_iff_not] at h
  omega

/-- While the passed elements are built anew. -/
structure BuildSt (w wr : World) (v : Value) (evz : List OZ) (blk : Option Nat) (l : List (Int × Elem)) : Prop where
  own : SlOwn wr 44 6 v evz.length (evz.flatMap ocz) blk
  eq : evz.map (fun o => (o.1, o.2.1)) = l
  rows : ∀ o ∈ evz, RowAt wr (fun b => b < w.heap.size) o.2.2 o.2.1.row
  new : ∀ g, blk = some g → w.heap.size ≤ g
  below : Below w.heap.size w wr

theorem BuildSt.start (w : World) : BuildSt w w (.slice none 0 0) [] none [] :=
  ⟨SlOwn.nil _ _ _, rfl, (fun o ho => by cases ho), (fun g hg => by cases hg), Below.refl _ _⟩

theorem BuildSt.next {w wr w' : World} {v : Value} {evz : List OZ} {blk : Option Nat} {l : List (Int × Elem)} (h : BuildSt w wr v evz blk l) (hb : Below wr.heap.size wr w') : BuildSt w w' v evz blk l :=
  ⟨h.own.keep fun g hg => hb.block g (h.own.lt_of hg), h.eq, fun o ho => (h.rows o ho).below hb, h.new, h.below.trans (hb.mono h.below.size)⟩

theorem BuildSt.add {w wr w' : World} {v v' : Value} {evz : List OZ} {blk blk' : Option Nat} {l : List (Int × Elem)} {o : Obj} {p : OZ} (h : BuildSt w wr v evz blk l) (hp : RowAt wr (fun b => b < w.heap.size) p.2.2 p.2.1.row)
    (hs : SlOwn w' 44 6 v' (evz.length + 1) (evz.flatMap ocz ++ ocz p) blk') (hg : (wr.alloc o).drew.grownBy w' blk) (hat : blk' = blk ∨ blk' = some (wr.alloc o).drew.heap.size) : BuildSt w w' v' (evz ++ [p]) blk' (l ++ [(p.1, p.2.1)]) := by
  have hsz := h.below.size
  have hb : Below w.heap.size w w' := ((h.below.alloc hsz o).drew).grown hg (by show w.heap.size ≤ (wr.alloc o).heap.size; simp; omega) (fun q hq => h.new q hq)
  have hk : ∀ b, b < w.heap.size → b < wr.heap.size → w'.heap[b]? = wr.heap[b]? := fun b hb' _ => (hb.block b hb').trans (h.below.block b hb').symm
  refine ⟨by simpa using hs, by simp [h.eq], fun q hq => ?_, fun g hg' => ?_, hb⟩
  · rcases List.mem_append.1 hq with hq | hq
    · exact (h.rows q hq).keep hk
    · rw [List.mem_singleton] at hq
      subst hq
      exact hp.keep hk
  · rcases hat with e | e
    · exact h.new g (e ▸ hg')
    · rw [hg'] at e; injection e with e
      have : (wr.alloc o).drew.heap.size = wr.heap.size + 1 := by show (wr.alloc o).heap.size = _; simp
      omega

section leaves
set_option maxHeartbeats 2000000
set_option maxRecDepth 100000

theorem f9_any (w : World) (v vp : Value) (ll : List (List Elem)) (k : Int) (l : List (Int × Elem)) (D D2 : Nat → Prop) (h : ListsAt w D v ll) (hD : ∀ b, D b → b < w.heap.size) (hp : OutsAt w D2 vp l) (hD2 : ∀ b, D2 b → b < w.heap.size) :
    Calls Try.prog 9 #[v, .int .i64 k, vp] w fun e w' => e = .returned (.bool true) ∧ Below w.heap.size w w' := by
  have H := Lib.hid h
  have HP := Lib.hid hp
  have HD := Lib.hid hD
  have HD2 := Lib.hid hD2
  obtain ⟨va, vc, rfl, hl⟩ := h.form
  obtain ⟨pa, pc, rfl, hpl⟩ := hp.form
  clear h hp hD hD2
  by_cases c1 : (ll.length : Int) > 20
  · go_enter Try.func9, Try.ntmps9
    go_wp2_with (go_at_call 10; refine (f10_any _).mono ?_; rintro e w1 ⟨rfl, hb1⟩; have HB1 := Lib.hid hb1; clear hb1)
    go_ret
    exact ⟨rfl, HB1.out⟩
  by_cases c2 : (l.length : Int) > 60
  · go_enter Try.func9, Try.ntmps9
    go_wp2_with (go_at_call 10; refine (f10_any _).mono ?_; rintro e w1 ⟨rfl, hb1⟩; have HB1 := Lib.hid hb1; clear hb1)
    go_ret
    exact ⟨rfl, HB1.out⟩
  go_enter Try.func9, Try.ntmps9
  go_wp2_with (go_at_call 10; refine (f10_any _).mono ?_; rintro e w1 ⟨rfl, hb1⟩; have HB1 := Lib.hid hb1; clear hb1)
  go_loopw [7] (fun i wr => ∃ j : Nat, j ≤ ll.length ∧ i = .int .i64 j ∧ (∀ i (h : i < ll.length), i < j → ll[i].length ≤ 60 ∧ ∀ e ∈ ll[i], greatE e = false) ∧ Below w.heap.size w wr) (fun i _ => ll.length - (intOf i).toNat)
  case atStart => exact ⟨0, by omega, rfl, fun i _ h => by omega, HB1.out⟩
  case round =>
    obtain ⟨j, hj, rfl, hv, hb⟩ := hrel
    have HV := Lib.hid hv
    have HB := Lib.hid hb
    clear hv
    by_cases hlt : j < ll.length
    · obtain ⟨wb, rfl⟩ : ∃ wb : World, wb = wr := ⟨_, rfl⟩
      obtain ⟨b, o, ua, uc, rfl, hDb, hbx, x0, xe, huc⟩ := (H.out.below hb).at hlt
      have HE := Lib.hid xe
      have hll : ll[j].length ≤ 9223372036854775807 := xe.form.elim fun _ h => h.elim fun _ h => h.2
      clear hb xe
      by_cases c3 : (ll[j].length : Int) > 60
      · go_wp2
        go_ret
        exact ⟨rfl, HB.out⟩
      · go_wp2
        go_loopw [8] (fun i wr => ∃ m : Nat, m ≤ ll[j].length ∧ i = .int .i64 m ∧ (∀ i (h : i < ll[j].length), i < m → greatE ll[j][i] = false) ∧ Below wb.heap.size wb wr) (fun i _ => ll[j].length - (intOf i).toNat)
        case atStart => exact ⟨0, by omega, rfl, fun i _ h => by omega, Below.refl _ _⟩
        case round =>
          obtain ⟨m, hm, rfl, hn, hbc⟩ := hrel
          have HN := Lib.hid hn
          clear hn
          have x0' : wr.cell? ⟨b, o + j, none⟩ = some (.slice ua ll[j].length uc) := (hbc.cell (p := ⟨b, o + j, none⟩) hbx).trans x0
          have hbx' : b < wr.heap.size := Nat.lt_of_lt_of_le hbx hbc.size
          by_cases hlt2 : m < ll[j].length
          · obtain ⟨b2, o2, ra, rn, rc, rfl, _, hb2, y0, y1, y2, y3, y4, yr⟩ := (HE.out.below hbc).at hlt2
            have hC := f28_any ll[j][m] (.slice ra rn rc) wr D yr
            have HBC := Lib.hid hbc
            clear yr hbc
            cases hg : greatE ll[j][m] <;> rw [hg] at hC
            · have HC := Lib.hid hC
              have HG := Lib.hid hg
              clear hC hg
              go_wp2_with (go_at_call 28; refine HC.out.mono ?_; rintro e w2 ⟨rfl, hb1⟩; have HB2 := Lib.hid (HBC.out.trans (hb1.mono HBC.out.size)); clear hb1)
              go_roundw
              case rel =>
                refine ⟨m + 1, by omega, by go_num, fun i hi him => ?_, HB2.out⟩
                by_cases e : i = m
                · subst e; exact HG.out
                · exact HN.out i hi (by omega)
              case measure => simp [intOf]; omega
            · have HC := Lib.hid hC
              clear hC hg
              go_wp2_with (go_at_call 28; refine HC.out.mono ?_; rintro e w2 ⟨rfl, hb1⟩; have HB2 := Lib.hid (HBC.out.trans (hb1.mono HBC.out.size)); clear hb1)
              go_ret
              exact ⟨rfl, HB.out.trans (HB2.out.mono HB.out.size)⟩
          · have hall : ∀ e ∈ ll[j], greatE e = false := fun e he => by
              obtain ⟨i, hi, rfl⟩ := List.mem_iff_getElem.1 he
              exact HN.out i hi (by omega)
            have HALL := Lib.hid hall
            have HBC := Lib.hid hbc
            clear hall hbc
            go_wp2
            go_roundw
            case rel =>
              refine ⟨j + 1, by omega, by go_num, fun i hi hij => ?_, HB.out.trans (HBC.out.mono HB.out.size)⟩
              by_cases e : i = j
              · subst e; exact ⟨by omega, HALL.out⟩
              · exact HV.out i hi (by omega)
            case measure => simp [intOf]; omega
    · have hsm : smallLL ll := ⟨by omega, fun x hx => by
        obtain ⟨i, hi, rfl⟩ := List.mem_iff_getElem.1 hx
        obtain ⟨h1, h2⟩ := HV.out i hi (by omega)
        exact ⟨by omega, fun e he => by have := great_row (h2 e he); omega⟩⟩
      have HSM := Lib.hid hsm
      clear hsm hb
      obtain ⟨wa, rfl⟩ : ∃ wa : World, wa = wr := ⟨_, rfl⟩
      obtain ⟨i3, hi3, hz30, hz31, hz32⟩ := info_parts info44
      go_wp2
      go_loopw [9, 10] (fun s i wr => ∃ (m : Nat) (evz : List OZ) (blk : Option Nat), m ≤ l.length ∧ i = .int .i64 m ∧ BuildSt wa wr s evz blk (l.take m)) (fun _ i _ => l.length - (intOf i).toNat)
      case atStart => exact ⟨0, [], none, Nat.zero_le _, rfl, BuildSt.start wa⟩
      case round =>
        obtain ⟨m, evz, blk, hm, rfl, hS⟩ := hrel
        have HS := Lib.hid hS
        obtain ⟨sa, sc, rfl⟩ := hS.own.form
        have hez : evz.length = m := by
          have := congrArg List.length hS.eq
          rw [List.length_map, List.length_take] at this
          omega
        have hbw := HB.out.trans (hS.below.mono HB.out.size)
        have HBW := Lib.hid hbw
        have HEZ := Lib.hid hez
        clear hS hez
        by_cases hlm : m < l.length
        · obtain ⟨b, o, ra, rn, rc, rfl, hDb, hbx, x0, x1, x2, x3, x4, x5, xr⟩ := (HP.out.below hbw).at hlm
          have hC := f28_any l[m].2 (.slice ra rn rc) wr D2 xr
          have hsucc : l.take (m + 1) = l.take m ++ [l[m]] := List.take_succ_eq_append_getElem hlm
          have HSUC := Lib.hid hsucc
          have HXR := Lib.hid xr
          clear hbw hsucc xr
          cases hg : greatE l[m].2 <;> rw [hg] at hC
          · have HC := Lib.hid hC
            clear hC hg
            go_wp2_with (go_at_call 28; refine HC.out.mono ?_; rintro e w2 ⟨rfl, hb1⟩; have HB2 := Lib.hid hb1; clear hb1)
            have hbw2 := HBW.out.trans (HB2.out.mono HBW.out.size)
            obtain ⟨_, _, ra, rn, rc, hab, hDb, hbx, x0, x1, x2, x3, x4, x5, xr⟩ := (HP.out.below hbw2).at hlm
            injection hab with hab
            injection hab with hab hao _
            subst hab hao
            have HXR2 := Lib.hid xr
            have HBW2 := Lib.hid hbw2
            have HS2 := Lib.hid (HS.out.next HB2.out)
            clear xr hbw2
            generalize l[m] = oo at x0 x1 x2 x3 x4 x5 HXR2 HSUC
            obtain ⟨oi, x⟩ := oo
            dsimp only at x0 x1 x2 x3 x4 x5
            have hbq : blk ≠ some b := fun e => by
              have h1 := HS.out.new b e
              have h2 := HD2.out b hDb
              have h3 := HB.out.size
              omega
            have hs0 : SlOwn (w2.alloc (Obj.cells #[.int .i64 oi, .int .i64 x.k, .int .i64 x.n, .int .i64 x.t, .slice ra rn rc, .int .i64 x.c] 44)).drew 44 6 (.slice sa evz.length sc) evz.length (evz.flatMap ocz) blk := HS2.out.own.keep fun g hg => Below.heap_alloc w2 _ g (HS2.out.own.lt_of hg)
            have hs1 : Src (w2.alloc (Obj.cells #[.int .i64 oi, .int .i64 x.k, .int .i64 x.n, .int .i64 x.t, .slice ra rn rc, .int .i64 x.c] 44)).drew 6 (.slice (some ⟨w2.heap.size, 0, none⟩) 1 1) 1 (ocz (oi, (x, .slice ra rn rc))) := SlOwn.src (e := 44) (blk := some w2.heap.size) ⟨rfl, .inr ⟨_, 0, 1, _, rfl, rfl, World.alloc_heap_new w2 (Obj.cells #[.int .i64 oi, .int .i64 x.k, .int .i64 x.n, .int .i64 x.t, .slice ra rn rc, .int .i64 x.c] 44), Nat.le_refl _, by simp [maxLen], by simp, rfl⟩⟩
            have hone : ∀ u ∈ ocz (oi, (x, Value.slice ra rn rc)), u.oneCell' = true := fun u hu => by simp only [ocz, ecl, List.mem_cons, List.not_mem_nil, or_false] at hu; rcases hu with rfl | rfl | rfl | rfl | rfl | rfl <;> rfl
            have HS0 := Lib.hid hs0
            have HS1 := Lib.hid hs1
            have HONE := Lib.hid hone
            clear hs0 hs1 hone
            have hC0 : Only (fun b => blk = some b) w2 w2.drew := (Only.refl _ _).drew
            refine wp_region_float 12 2 (fun W => Only (fun b => blk = some b) w2 W) (by kernel_rfl) (by kernel_rfl) hC0 ?_
            simp only [List.take_succ_cons, List.take_zero, List.drop_succ_cons, List.drop_zero]
            have HC0 := Lib.hid hC0
            clear hC0
            repeat (
              refine wpFloat_ex (fun K hK => ?_)
              apply Exists.intro
              refine ⟨fun W hW => ?_, ?_⟩
              · have hk := hW.cell
                clear hW
                go_simp
                rfl
              go_simp
              refine hK _ ?_
              clear hK K)
            refine wpFloat_nil ?_
            refine wpChain_step (fun K hK => ?_)
            go_simp
            refine hK _ _ rfl (fun _ => HC0.out.alloc _) ?_
            clear hK K
            refine wpChain_step (fun K hK => ?_)
            refine wp_append_S (.tmp 67) (.tmp 79) 37 rfl 44 i3 _ 6 64 Try.underlying37 hi3 hz30 hz31 hz32 rfl (by omega) (.slice sa evz.length sc) evz.length (evz.flatMap ocz) blk rfl HS0.out (.slice (some ⟨w2.heap.size, 0, none⟩) 1 1) 1 (ocz (oi, (x, .slice ra rn rc))) rfl HS1.out HONE.out (by simp only [maxLen]; have := HEZ.out; omega) (by have := HEZ.out; omega) ?_
            intro v4 w4 bk4 hown4 hgrow hat4
            obtain ⟨sa4, sc4, rfl⟩ := hown4.form
            go_simp
            refine hK _ _ rfl (fun _ => (HC0.out.alloc _).grown hgrow (fun q hq _ => hq)) ?_
            clear hK K
            have HN := Lib.hid (HS2.out.add (p := (oi, (x, .slice ra rn rc))) (HXR2.out.imp (D' := fun b => b < wa.heap.size) (fun b _ hb => Nat.lt_of_lt_of_le (HD2.out b hb) HB.out.size)) hown4 hgrow hat4)
            clear hown4 hgrow hat4
            refine wpChain_step (fun K hK => ?_)
            go_simp
            refine hK _ _ rfl (fun h => absurd h (by decide)) ?_
            clear hK K
            refine wpChain_nil ?_
            go_wp2_with fail
            go_roundw
            case rel => exact ⟨m + 1, _, _, by omega, by go_num, by rw [HSUC.out]; exact HN.out⟩
            case measure => simp [intOf]; omega
          · have HC := Lib.hid hC
            clear hC hg
            go_wp2_with (go_at_call 28; refine HC.out.mono ?_; rintro e w2 ⟨rfl, hb1⟩; have HB2 := Lib.hid hb1; clear hb1)
            go_ret
            exact ⟨rfl, HBW.out.trans (HB2.out.mono HBW.out.size)⟩
        · have hml : m = l.length := by omega
          subst hml
          have hl60 : l.length ≤ 60 := by omega
          have hS2 := HS.out
          rw [List.take_length] at hS2
          have HS2 := Lib.hid hS2
          clear hbw hS2
          -- what both sides say
          have hA := fun (W : World) (hW : Below w.heap.size w W) => f35_any W _ ll k D (H.out.below hW) HSM.out
          have hB := fun (W : World) (hW : Below w.heap.size w W) => f36_any W _ ll k D (H.out.below hW) (fun b hb => Nat.lt_of_lt_of_le (HD.out b hb) hW.size) HSM.out
          have hC := fun (W : World) (hW : Below wr.heap.size wr W) => (f34_any W (.slice va ll.length vc) (.slice sa evz.length sc) ll k l D (fun b => b < W.heap.size) (H.out.below (HBW.out.trans (hW.mono HBW.out.size))) HSM.out
            (by
              have h1 := HS2.out.next hW
              have := OutsAt.of_z (D := fun b => b < W.heap.size) h1.own (by have := HEZ.out; omega) (fun o ho => (h1.rows o ho).imp fun b hb _ => hb) (fun b hb => h1.own.lt_of hb)
              rw [h1.eq] at this
              exact this) (fun b hb => hb) HS2.out.own.cap (by omega))
          have hE := fun (W : World) (hW : Below w.heap.size w W) => f37_any W (.slice va ll.length vc) (.slice pa l.length pc) ll k l D D2 (H.out.below hW) (fun b hb => Nat.lt_of_lt_of_le (HD.out b hb) hW.size) HSM.out (HP.out.below hW) (fun b hb => Nat.lt_of_lt_of_le (HD2.out b hb) hW.size) (by omega)
          rw [cons_eq] at hC
          unfold CutTo at hA hB
          generalize hres : (if cutErr ll k = 0 then ll.map (cutAt k) else []) = res at hA hB
          have hrl : res.length ≤ 20 := by
            rw [← hres]
            split
            · simp; omega
            · simp
          clear hres
          generalize cutErr ll k = er at hA hB
          generalize consWith sameElems ll k l = cw at hC hE
          have HA := Lib.hid hA
          have HBB := Lib.hid hB
          have HC := Lib.hid hC
          have HE := Lib.hid hE
          clear hA hB hC hE
          go_wp2_with (first
            | (go_at_call 35; (with_reducible refine (HA.out wr HBW.out).mono ?_); rintro e wc ⟨va1, rfl, hv1, hb1⟩; obtain ⟨a1, c1, rfl, _⟩ := hv1.form; have HV1 := Lib.hid hv1; have HQ1 := Lib.hid hb1; clear hv1 hb1)
            | (go_at_call 36; (with_reducible refine (HBB.out wc (HBW.out.trans (HQ1.out.mono HBW.out.size))).mono ?_); rintro e wd ⟨vb1, rfl, hv1, hb1⟩; obtain ⟨a2, c2, rfl, _⟩ := hv1.form; have HV2 := Lib.hid hv1; have HQ2 := Lib.hid (HQ1.out.trans (hb1.mono HQ1.out.size)); have HV1' := Lib.hid (HV1.out.below hb1); clear hv1 hb1)
            | (go_at_call 34; (with_reducible refine (HC.out wd HQ2.out).mono ?_); rintro e we ⟨rfl, hb1⟩; have HQ3 := Lib.hid hb1; clear hb1)
            | (go_at_call 37; (with_reducible refine (HE.out we (HBW.out.trans ((HQ2.out.trans (HQ3.out.mono HQ2.out.size)).mono HBW.out.size))).mono ?_); rintro e wf ⟨rfl, hb1⟩; have HQ4 := Lib.hid (HQ3.out.trans (hb1.mono HQ3.out.size)); clear hb1))
          have hq34 : Below wd.heap.size wd wf := HQ4.out
          have hVA := HV1'.out.below hq34
          have hVB := HV2.out.below hq34
          have HVA := Lib.hid hVA
          have HVB := Lib.hid hVB
          have hwf := HBW.out.trans ((HQ2.out.trans (hq34.mono HQ2.out.size)).mono HBW.out.size)
          have HWF := Lib.hid hwf
          clear hq34 hVA hVB hwf
          go_loopw [15] (fun s wr => ∃ m : Nat, m ≤ res.length ∧ s = .int .i64 m ∧ Below wf.heap.size wf wr) (fun s _ => res.length - (intOf s).toNat)
          case atStart => exact ⟨0, Nat.zero_le _, rfl, Below.refl _ _⟩
          case round =>
            obtain ⟨m, hm, rfl, hbl⟩ := hrel
            have HBL := Lib.hid hbl
            have hwr := HWF.out.trans (hbl.mono HWF.out.size)
            have HWR := Lib.hid hwr
            by_cases hlt : m < res.length
            · obtain ⟨b1, o1, u1, d1, rfl, _, hb1l, z0, ze, _⟩ := (HVA.out.below hbl).at hlt
              obtain ⟨b2, o2, u2, d2, rfl, _, hb2l, y0, ye, _⟩ := (HVB.out.below hbl).at hlt
              have hE := fun (W : World) (hW : Below wr.heap.size wr W) => f22_any W _ _ _ _ _ _ (ze.below hW) (ye.below hW)
              rw [sameElems_self] at hE
              have HE := Lib.hid hE
              have g1 : (0 : Int) ≤ (m : Int) := by omega
              have g2 : (m : Int) < (res.length : Int) := by omega
              clear hE ze ye hbl hwr
              go_wp2_with fail
              refine wp_region_float 8 2 (fun W => Only (fun _ => False) wr W) (by kernel_rfl) (by kernel_rfl) ((Only.refl _ _).drew) ?_
              simp only [List.take_succ_cons, List.take_zero, List.drop_succ_cons, List.drop_zero]
              repeat (
                refine wpFloat_ex (fun K hK => ?_)
                apply Exists.intro
                refine ⟨fun W hW => ?_, ?_⟩
                · have hk := hW.cell
                  clear hW
                  go_simp
                  rfl
                go_simp
                refine hK _ ?_
                clear hK K)
              refine wpFloat_nil ?_
              refine wpChain_step (fun K hK => ?_)
              go_simp
              go_at_call 22
              refine (HE.out _ ((Below.refl _ _).drew)).mono ?_
              rintro e w6 ⟨rfl, hq6⟩
              have hq7 : Below wr.heap.size wr w6 := (Below.refl _ _).drew.trans (hq6.mono (Nat.le_refl _))
              refine hK _ _ rfl (fun _ => Only.of_below hq7) ?_
              clear hK K
              have HQ7 := Lib.hid hq7
              clear hq6 hq7
              refine wpChain_step (fun K hK => ?_)
              go_simp
              refine hK _ _ rfl (fun _ => Only.of_below HQ7.out) ?_
              clear hK K
              refine wpChain_nil ?_
              go_wp2_with fail
              go_roundw
              case rel => exact ⟨m + 1, by omega, by go_num, HBL.out.trans (HQ7.out.mono HBL.out.size)⟩
              case measure => simp [intOf]; omega
            · clear hbl hwr
              go_wp2_with fail
              go_ret
              exact ⟨rfl, HWR.out⟩
end leaves

end Go.Proofs.Ytdnkfgnjeibjeaa
