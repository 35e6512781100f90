/-
 Rows and events compared, part 3: what both sides' comparisons answer. If the rows lie in the world as the words say.
-/
import Derived.Test.YtjhknhgkjfabaaaGreatDoorU09
import Derived.RangeFuncRecord
import Derived.MapKept
import Derived.Maps.AppendAt
import Derived.OwnWalk
import Derived.Deep.AppendLies
set_option linter.unusedSimpArgs false
set_option linter.unusedVariables false
namespace Go.Proofs.YtjhknhgkjfabaaaGreatDoor
open Go.RowKit Go.Proofs.YtjhknhgkjfabaaaGreatDoor.Cmps
theorem drop_cons {α:Type} {l:List α} {k:Nat} (h:k<l.length):l.drop k=l[k] :: l.drop (k+1):=List.drop_eq_getElem_cons h
theorem cmpRow_hit {a b:List Val} {k:Nat} (ha:k<a.length) (hb:k<b.length) (h:(cmpVal a[k] b[k] != 0)=true):cmpRow (a.drop k) (b.drop k)=cmpVal a[k] b[k]:=by
 rw [drop_cons ha,drop_cons hb,cmpRow,orI,if_pos h]
theorem cmpRow_miss {a b:List Val} {k:Nat} (ha:k<a.length) (hb:k<b.length) (h:(cmpVal a[k] b[k] != 0)=false):cmpRow (a.drop (k+1)) (b.drop (k+1))=cmpRow (a.drop k) (b.drop k):=by
 rw [drop_cons ha,drop_cons hb,cmpRow,orI,if_neg (by simp [h])]
theorem cmpRow_end {a b:List Val} {k:Nat} (hk:k≤a.length) (hk':k≤b.length) (h:¬ (k<a.length∧k<b.length)):cmpRow (a.drop k) (b.drop k)=if a.length<b.length then -1 else if b.length<a.length then 1 else 0:=by
 by_cases ha:k<a.length
 · have hb:k=b.length:=by omega
   subst hb
   rw [drop_cons ha,List.drop_length,cmpRow,if_neg (by omega),if_pos ha]
 · have hb:k=a.length:=by omega
   subst hb
   by_cases hb:a.length<b.length
   · rw [List.drop_length,drop_cons hb,cmpRow,if_pos hb]
   · have e:a.length=b.length:=by omega
     rw [List.drop_length,e,List.drop_length,cmpRow,if_neg (by omega),if_neg (by omega)]
section leaves
set_option maxHeartbeats 400000
set_option maxRecDepth 10000
theorem f48_any (hm:Tryz.prog.follows .mixedOrders=true) (w:World) (r1 r2:Value) (a b:List Val) (D1 D2:Nat→Prop) (h1:RowAt w D1 r1 a) (h2:RowAt w D2 r2 b) :
 Calls Tryz.prog 48 #[r1,r2,.func (.func 49) #[] #[]] w fun e w'=>e=.returned (.int .i64 (cmpRow a b))∧Grew w w':=by
 obtain ⟨p1,cap1,rfl,hl1,hx1⟩:=h1
 obtain ⟨p2,cap2,rfl,hl2,hx2⟩:=h2
 go_enter Tryz.func48,Tryz.ntmps48
 go_wp2
 go_loopw [13] (fun i wr=>∃ k:Nat,k≤a.length∧k≤b.length∧i=.int .i64 k∧cmpRow (a.drop k) (b.drop k)=cmpRow a b∧Grew w wr) (fun i _=>a.length - (intOf i).toNat)
 case atStart=>exact ⟨0,by omega,by omega,rfl,rfl,Grew.refl _⟩
 case round =>
  obtain ⟨k,hk,hk',rfl,hv,hg⟩:=hrel
  have HV:=Lib.hid hv
  clear hv
  by_cases hlt:k<a.length
  · rcases hx1 with rfl | ⟨b1,o1,rfl,hD1,hc1⟩
    · simp at hlt
    obtain ⟨x0,x1,x2⟩:=hc1 k hlt
    have hbx:b1<w.heap.size:=World.block_lt_of_cell? w ⟨b1,o1+k * 3,none⟩ x0
    have hb:=hg.below
    rw [← hb.cell (p:=⟨b1,_,none⟩) hbx] at x0 x1 x2
    have hbx':b1<wr.heap.size:=Nat.lt_of_lt_of_le hbx hb.size
    have hbn:¬ b1=wr.heap.size:=by omega
    have g1:(0:Int)≤(k:Int):=by omega
    have g2:(k:Int)<(a.length:Int):=by omega
    clear hc1 hbx
    by_cases hlt':k<b.length
    · rcases hx2 with rfl | ⟨b2,o2,rfl,hD2,hc2⟩
      · simp at hlt'
      obtain ⟨y0,y1,y2⟩:=hc2 k hlt'
      have hby:b2<w.heap.size:=World.block_lt_of_cell? w ⟨b2,o2+k * 3,none⟩ y0
      rw [← hb.cell (p:=⟨b2,_,none⟩) hby] at y0 y1 y2
      have hby':b2<wr.heap.size:=Nat.lt_of_lt_of_le hby hb.size
      have hbn2:¬ b2=wr.heap.size:=by omega
      have hbn3:¬ b2=wr.heap.size+1:=by omega
      have g3:(k:Int)<(b.length:Int):=by omega
      have g4:¬ (b.length:Int)≤(k:Int):=by omega
      clear hc2 hby hb
      have HG:=Lib.hid hg
      clear hg
      go_wp2_with (go_at_call 49;refine (f49_any hm a[k] b[k] _).mono ?_;rintro e w2 ⟨rfl,hb2⟩;have HB2:=Lib.hid hb2;clear hb2)
      · rename_i hne
        go_ret
        exact ⟨ret_int (by rw [← HV.out,cmpRow_hit hlt hlt' hne]),HG.out.trans (((Grew.refl _).alloc _).alloc _ |>.trans HB2.out)⟩
      · rename_i hne
        go_roundw
        case rel=>exact ⟨k+1,by omega,by omega,by go_num,by rw [cmpRow_miss hlt hlt' hne,HV.out],HG.out.trans (((Grew.refl _).alloc _).alloc _ |>.trans HB2.out)⟩
        case measure=>simp [intOf];omega
    · have he:=cmpRow_end hk hk' (fun h=>hlt' h.2)
      rw [HV.out,if_neg (by omega),if_pos (by omega)] at he
      have HE:=Lib.hid he
      have g4:(b.length:Int)≤(k:Int):=by omega
      clear he hb
      have HG:=Lib.hid hg
      clear hg
      go_wp2
      go_ret
      exact ⟨ret_int HE.out.symm,HG.out.trans ((Grew.refl _).alloc _)⟩
  · have he:=cmpRow_end hk hk' (fun h=>hlt h.1)
    rw [HV.out] at he
    have HE:=Lib.hid he
    clear he
    have HG:=Lib.hid hg
    clear hg
    by_cases l1:a.length<b.length
    · go_wp2
      go_ret
      exact ⟨ret_int (by rw [HE.out,if_pos l1]),HG.out⟩
    · go_wp2
      go_ret
      exact ⟨ret_int (by rw [HE.out,if_neg l1,if_neg (by omega)]),HG.out⟩
theorem f28_any (hm:Tryz.prog.follows .mixedOrders=true) (w:World) (r1 r2:Value) (a b:List Val) (D1 D2:Nat→Prop) (h1:RowAt w D1 r1 a) (h2:RowAt w D2 r2 b) :
 Calls Tryz.prog 28 #[r1,r2] w fun e w'=>e=.returned (.int .i64 (cmpRow a b))∧Grew w w':=by
 have hc:=f48_any hm w r1 r2 a b D1 D2 h1 h2
 obtain ⟨p1,cap1,rfl,hl1,hx1⟩:=h1
 obtain ⟨p2,cap2,rfl,hl2,hx2⟩:=h2
 go_enter Tryz.func28,Tryz.ntmps28
 go_wp2_with (go_at_call 48;refine hc.mono ?_;rintro e w2 ⟨rfl,hb2⟩)
 go_ret
 exact ⟨rfl,hb2⟩
theorem f43_two (w:World) (b:Nat) (x y:Int) (h0:w.cell? ⟨b,0,none⟩=some (.int .i64 x)) (h1:w.cell? ⟨b,1,none⟩=some (.int .i64 y)) :
 Calls Tryz.prog 43 #[.slice (some ⟨b,0,none⟩) 2 2] w fun e w'=>e=.returned (.int .i64 (orI x y))∧w=w':=by
 cases hx:(x != 0)
 · cases hy:(y != 0)
   · go_enter Tryz.func43,Tryz.ntmps43
     go_wp2
     refine wp_loop_rounds 3 ?_
     rw [rounds_succ]
     go_wp2
     rw [rounds_succ]
     go_wp2
     rw [rounds_succ]
     go_wp2
     go_ret
     exact ⟨ret_int (by rw [orI,hx];simp at hy;simp [hy]),rfl⟩
   · go_enter Tryz.func43,Tryz.ntmps43
     go_wp2
     refine wp_loop_rounds 2 ?_
     rw [rounds_succ]
     go_wp2
     rw [rounds_succ]
     go_wp2
     go_ret
     exact ⟨ret_int (by rw [orI,hx];simp),rfl⟩
 · go_enter Tryz.func43,Tryz.ntmps43
   go_wp2
   refine wp_loop_rounds 1 ?_
   rw [rounds_succ]
   go_wp2
   go_ret
   exact ⟨ret_int (by rw [orI,hx];simp),rfl⟩
end leaves
theorem cell_keep {w w':World} {b:Nat} (h:w'.heap[b]? = w.heap[b]?) (o:Nat):w'.cell? ⟨b,o,none⟩=w.cell? ⟨b,o,none⟩:=World.cell?_of_block (a:=⟨b,o,none⟩) h
theorem cell_lt {w:World} {b o:Nat} {v:Value} (h:w.cell? ⟨b,o,none⟩=some v):b<w.heap.size:=World.block_lt_of_cell? w ⟨b,o,none⟩ h
theorem new_cell (w:World) (b o:Nat) (x:Obj) (h:b<w.heap.size):(w.alloc x).cell? ⟨b,o,none⟩=w.cell? ⟨b,o,none⟩:=cell_keep (Below.heap_alloc w x b h) o
theorem two_boxes (w:World) (a b:Val):∃ w2,w2=(w.alloc (.cells #[.int .i64 a.k,.int .i64 a.n,.string a.s] 44)).alloc (.cells #[.int .i64 b.k,.int .i64 b.n,.string b.s] 44) ∧
 w.heap.size<w2.heap.size∧w.heap.size+1<w2.heap.size ∧
 (w2.cell? ⟨w.heap.size,0,none⟩=some (.int .i64 a.k)∧w2.cell? ⟨w.heap.size,1,none⟩=some (.int .i64 a.n)∧w2.cell? ⟨w.heap.size,2,none⟩=some (.string a.s)) ∧
 (w2.cell? ⟨w.heap.size+1,0,none⟩=some (.int .i64 b.k)∧w2.cell? ⟨w.heap.size+1,1,none⟩=some (.int .i64 b.n)∧w2.cell? ⟨w.heap.size+1,2,none⟩=some (.string b.s))∧Hid (Grew w w2):=by
 refine ⟨_,rfl,by simp;omega,by simp,⟨?_,?_,?_⟩,⟨?_,?_,?_⟩,((Grew.refl w).alloc _).alloc _⟩
 · rw [new_cell _ _ _ _ (by simp)];simp
 · rw [new_cell _ _ _ _ (by simp)];simp
 · rw [new_cell _ _ _ _ (by simp)];simp
 · have:w.heap.size+1=(w.alloc (.cells #[.int .i64 a.k,.int .i64 a.n,.string a.s] 44)).heap.size:=by simp
   rw [this];simp
 · have:w.heap.size+1=(w.alloc (.cells #[.int .i64 a.k,.int .i64 a.n,.string a.s] 44)).heap.size:=by simp
   rw [this];simp
 · have:w.heap.size+1=(w.alloc (.cells #[.int .i64 a.k,.int .i64 a.n,.string a.s] 44)).heap.size:=by simp
   rw [this];simp
theorem cmpVal_eq {a b:Val} (h:cls a.k=cls b.k):cmpVal a b=if cls a.k == 1 then cmpI a.n b.n else if cls a.k == 2 then cmpS a.s b.s else 0:=by
 have:cmpI (cls a.k) (cls b.k)=0:=by rw [h];exact cmpI_3.refl _
 rw [cmpVal,orI,this]
 rfl
theorem cmpVal_ne {a b:Val} (h:(cls a.k != cls b.k)=true):cmpVal a b=if cls a.k<cls b.k then -1 else 1:=by
 have h':cls a.k≠cls b.k:=by simpa using h
 have:cmpI (cls a.k) (cls b.k)=if cls a.k<cls b.k then -1 else 1:=by
  unfold cmpI
  split
  · rfl
  · rw [if_pos (by omega)]
 rw [cmpVal,orI,this]
 split <;> rfl
section leaves
set_option maxHeartbeats 1000000
set_option maxRecDepth 10000
theorem f140_grew (v:Val) (w:World) :
 Calls Tryz.prog 140 #[v.v] w fun e w'=>e=.returned (.int .i64 (cls v.k))∧Grew w w':=by
 go_enter Tryz.func140,Tryz.ntmps140
 go_wp2
 all_goals go_ret
 all_goals (exact ⟨ret_int (by simp_all [cls]),(Grew.refl _).alloc _⟩)
theorem f99_any (hm:Tryz.prog.follows .mixedOrders=true) (a b:Val) (w:World) :
 Calls Tryz.prog 99 #[a.v,b.v] w fun e w'=>e=.returned (.int .i64 (cmpVal a b))∧Grew w w':=by
 have mixed:=hm
 obtain ⟨w2,hw2,z1,z2,⟨c0,c1,c2⟩,⟨d0,d1,d2⟩,H0⟩:=two_boxes w a b
 have HA:Hid (∀ W,Calls Tryz.prog 140 #[a.v] W fun e w'=>e=.returned (.int .i64 (cls a.k))∧Grew W w'):=fun W=>f140_grew a W
 have HB:Hid (∀ W,Calls Tryz.prog 140 #[b.v] W fun e w'=>e=.returned (.int .i64 (cls b.k))∧Grew W w'):=fun W=>f140_grew b W
 cases hne:(cls a.k != cls b.k)
 · have he:cls a.k=cls b.k:=by simpa using hne
   have HE:=Lib.hid (cmpVal_eq he)
   have hg:=gtr_less a.s.toList b.s.toList
   go_enter Tryz.func99,Tryz.ntmps99
   go_wp2_with fail
   rw [← hw2]
   clear hw2
   have hcl:=fun n os b' o' h=>grown_cl w2 n os b' o' h
   refine wp_region_quiet_grown mixed (by kernel_rfl) ?_
   repeat (quiet_step (first | with_reducible exact Calls.grown_of (HA.out _) | with_reducible exact Calls.grown_of (HB.out _)))
   refine wpQuiet_nil ?_
   intro w3 hw'
   have hb3:=Grew.of hw'
   clear hw' hcl
   rw [← (grown_cells hb3).1 _ _ z1] at c0 c1 c2
   rw [← (grown_cells hb3).1 _ _ z2] at d0 d1 d2
   replace z1:=Nat.lt_of_lt_of_le z1 hb3.below.size
   replace z2:=Nat.lt_of_lt_of_le z2 hb3.below.size
   have H3:Hid (Grew w w3):=H0.out.trans hb3
   clear hb3 H0
   rw [← he] at HB hne
   clear he
   rcases cls_vals a.k with e | e | e
   all_goals (rw [e] at HE HA HB hne)
   · go_wp2_with (go_at_call 140;with_reducible refine (HA.out _).mono ?_;rintro e w4 ⟨rfl,hb4⟩;rw [← (grown_cells hb4).1 _ _ z1] at c0 c1 c2;rw [← (grown_cells hb4).1 _ _ z2] at d0 d1 d2;replace z1:=Nat.lt_of_lt_of_le z1 hb4.below.size;replace z2:=Nat.lt_of_lt_of_le z2 hb4.below.size;replace H3:=Lib.hid (H3.out.trans hb4);clear hb4)
     go_ret
     exact ⟨ret_int (by rw [HE.out];rfl),H3.out⟩
   · go_wp2_with (go_at_call 140;with_reducible refine (HA.out _).mono ?_;rintro e w4 ⟨rfl,hb4⟩;rw [← (grown_cells hb4).1 _ _ z1] at c0 c1 c2;rw [← (grown_cells hb4).1 _ _ z2] at d0 d1 d2;replace z1:=Nat.lt_of_lt_of_le z1 hb4.below.size;replace z2:=Nat.lt_of_lt_of_le z2 hb4.below.size;replace H3:=Lib.hid (H3.out.trans hb4);clear hb4)
     all_goals go_ret
     all_goals (refine ⟨ret_int ?_,H3.out⟩;rw [HE.out];simp only [cmpI];simp;(repeat' split) <;> omega)
   · go_wp2_with (go_at_call 140;with_reducible refine (HA.out _).mono ?_;rintro e w4 ⟨rfl,hb4⟩;rw [← (grown_cells hb4).1 _ _ z1] at c0 c1 c2;rw [← (grown_cells hb4).1 _ _ z2] at d0 d1 d2;replace z1:=Nat.lt_of_lt_of_le z1 hb4.below.size;replace z2:=Nat.lt_of_lt_of_le z2 hb4.below.size;replace H3:=Lib.hid (H3.out.trans hb4);clear hb4)
     all_goals go_ret
     all_goals (refine ⟨ret_int ?_,H3.out⟩;rw [HE.out];simp only [cmpS,lessS];simp_all)
 · have HNE:=Lib.hid hne
   go_enter Tryz.func99,Tryz.ntmps99
   go_wp2_with fail
   rw [← hw2]
   clear hw2
   have hcl:=fun n os b' o' h=>grown_cl w2 n os b' o' h
   refine wp_region_quiet_grown mixed (by kernel_rfl) ?_
   repeat (quiet_step (first | with_reducible exact Calls.grown_of (HA.out _) | with_reducible exact Calls.grown_of (HB.out _)))
   refine wpQuiet_nil ?_
   intro w3 hw'
   have hb3:=Grew.of hw'
   clear hw' hcl
   rw [← (grown_cells hb3).1 _ _ z1] at c0 c1 c2
   rw [← (grown_cells hb3).1 _ _ z2] at d0 d1 d2
   replace z1:=Nat.lt_of_lt_of_le z1 hb3.below.size
   replace z2:=Nat.lt_of_lt_of_le z2 hb3.below.size
   have H3:Hid (Grew w w3):=H0.out.trans hb3
   clear hb3 H0
   go_wp2_with fail
   have hcl:=fun n os b' o' h=>grown_cl w3 n os b' o' h
   refine wp_region_quiet_grown mixed (by kernel_rfl) ?_
   repeat (quiet_step (first | with_reducible exact Calls.grown_of (HA.out _) | with_reducible exact Calls.grown_of (HB.out _)))
   refine wpQuiet_nil ?_
   intro w4 hw'
   have hb3:=Grew.of hw'
   clear hw' hcl
   rw [← (grown_cells hb3).1 _ _ z1] at c0 c1 c2
   rw [← (grown_cells hb3).1 _ _ z2] at d0 d1 d2
   replace z1:=Nat.lt_of_lt_of_le z1 hb3.below.size
   replace z2:=Nat.lt_of_lt_of_le z2 hb3.below.size
   have H4:Hid (Grew w w4):=H3.out.trans hb3
   clear hb3 H3
   go_wp2_with fail
   all_goals go_ret
   all_goals (exact ⟨ret_int (by rw [cmpVal_ne HNE.out];split <;> omega),H4.out⟩)
theorem f51_any (hm:Tryz.prog.follows .mixedOrders=true) (w:World) (r1 r2:Value) (a b:List Val) (D1 D2:Nat→Prop) (h1:RowAt w D1 r1 a) (h2:RowAt w D2 r2 b) :
 Calls Tryz.prog 51 #[r1,r2] w fun e w'=>e=.returned (.int .i64 (cmpRow a b))∧Grew w w':=by
 have mixed:=hm
 obtain ⟨p1,cap1,rfl,hl1,hx1⟩:=h1
 obtain ⟨p2,cap2,rfl,hl2,hx2⟩:=h2
 go_enter Tryz.func51,Tryz.ntmps51
 go_wp2
 go_loopw [5] (fun i wr=>∃ k:Nat,k≤a.length∧k≤b.length∧i=.int .i64 k∧Hid (cmpRow (a.drop k) (b.drop k)=cmpRow a b)∧Hid (Grew w wr)) (fun i _=>a.length - (intOf i).toNat)
 case atStart=>exact ⟨0,by omega,by omega,rfl,Lib.hid rfl,Lib.hid (Grew.refl _)⟩
 case round =>
  obtain ⟨k,hk,hk',rfl,HV,hg⟩:=hrel
  by_cases hlt:k<a.length
  · by_cases hlt':k<b.length
    · rcases hx1 with rfl | ⟨b1,o1,rfl,hD1,hc1⟩
      · simp at hlt
      obtain ⟨x0,x1,x2⟩:=hc1 k hlt
      rcases hx2 with rfl | ⟨b2,o2,rfl,hD2,hc2⟩
      · simp at hlt'
      obtain ⟨y0,y1,y2⟩:=hc2 k hlt'
      have hbx:=cell_lt x0
      have hby:=cell_lt y0
      rw [← hg.out.below.cell (p:=⟨b1,_,none⟩) hbx] at x0 x1 x2
      rw [← hg.out.below.cell (p:=⟨b2,_,none⟩) hby] at y0 y1 y2
      have hbx':b1<wr.heap.size:=Nat.lt_of_lt_of_le hbx hg.out.below.size
      have hby':b2<wr.heap.size:=Nat.lt_of_lt_of_le hby hg.out.below.size
      have g1:(0:Int)≤(k:Int):=by omega
      have g2:(k:Int)<(a.length:Int):=by omega
      have g3:(k:Int)<(b.length:Int):=by omega
      have HC:Hid (∀ W,Calls Tryz.prog 99 #[a[k].v,b[k].v] W fun e w'=>e=.returned (.int .i64 (cmpVal a[k] b[k]))∧Grew W w'):=fun W=>f99_any hm a[k] b[k] W
      clear hc1 hc2 hbx hby
      go_wp2_with fail
      have hcl:=fun n os b' o' h=>grown_cl wr n os b' o' h
      refine wp_region_quiet_grown mixed (by kernel_rfl) ?_
      repeat (quiet_step (with_reducible exact Calls.grown_of (HC.out _)))
      refine wpQuiet_nil ?_
      intro w3 hw'
      have hb3:=Lib.hid (hg.out.trans (Grew.of hw'))
      clear hw' hcl
      go_wp2_with fail
      · rename_i hne
        go_ret
        exact ⟨ret_int (by rw [← HV.out,cmpRow_hit hlt hlt' hne]),hb3.out⟩
      · rename_i hne
        go_roundw
        case rel=>exact ⟨k+1,by omega,by omega,by go_num,Lib.hid (by rw [cmpRow_miss hlt hlt' hne,HV.out]),hb3⟩
        case measure=>simp [intOf];omega
    · have he:=cmpRow_end hk hk' (fun h=>hlt' h.2)
      rw [HV.out,if_neg (by omega),if_pos (by omega)] at he
      have HE:=Lib.hid he
      have g4:(b.length:Int)≤(k:Int):=by omega
      have g5:¬ (k:Int)<(b.length:Int):=by omega
      have g6:(b.length:Int)<(a.length:Int):=by omega
      have g7:¬ (a.length:Int)<(b.length:Int):=by omega
      clear he
      go_wp2
      go_ret
      exact ⟨ret_int HE.out.symm,hg.out⟩
  · have he:=cmpRow_end hk hk' (fun h=>hlt h.1)
    rw [HV.out] at he
    have HE:=Lib.hid he
    clear he
    by_cases l1:a.length<b.length
    · go_wp2
      go_ret
      exact ⟨ret_int (by rw [HE.out,if_pos l1]),hg.out⟩
    · have g7:¬ (a.length:Int)<(b.length:Int):=by omega
      have g8:¬ (b.length:Int)<(a.length:Int):=by omega
      go_wp2
      go_ret
      exact ⟨ret_int (by rw [HE.out,if_neg l1,if_neg (by omega)]),hg.out⟩
end leaves
end Go.Proofs.YtjhknhgkjfabaaaGreatDoor
namespace Go.Proofs.YtjhknhgkjfabaaaGreatDoor
open Go.RowKit
def SlOwn (w:World) (e:TypeId) (size:Nat) (v:Value) (n:Nat) (xs:List Value) (blk:Option Nat):Prop :=
 xs.length=n * size∧((v=.slice none 0 0∧n=0∧blk=none) ∨
  ∃ g o cap cur,blk=some g∧v=.slice (some ⟨g,o,none⟩) n cap∧w.heap[g]? = some (.cells cur e (0,0))∧n≤cap∧cap≤maxLen∧o+cap * size≤cur.size∧(cur.toList.drop o).take (n * size)=xs)
def Src (w:World) (size:Nat) (x:Value) (m:Nat) (news:List Value):Prop :=
 news.length=m * size∧∃ a c,x=.slice a m c∧(news=[]∨∃ ad,a=some ad∧∀ j u,news[j]? = some u→w.cell? (ad.add j)=some u)
theorem SlOwn.nil (w:World) (e:TypeId) (size:Nat):SlOwn w e size (.slice none 0 0) 0 [] none:=⟨by simp,.inl ⟨rfl,rfl,rfl⟩⟩
theorem add_at (g o j:Nat):(⟨g,o,none⟩:Addr).add j=⟨g,o+j,none⟩:=by unfold Addr.add;split <;> simp_all
theorem heap_lt {w:World} {g:Nat} {o:Obj} (h:w.heap[g]? = some o):g<w.heap.size:=by
 rcases Nat.lt_or_ge g w.heap.size with hlt | hge
 · exact hlt
 · rw [Array.getElem?_eq_none hge] at h;cases h
theorem SlOwn.blk_lt {w:World} {e:TypeId} {size:Nat} {v:Value} {n:Nat} {xs:List Value} {g:Nat} (h:SlOwn w e size v n xs (some g)):g<w.heap.size:=by
 rcases h.2 with ⟨_,_,h⟩ | ⟨g',o,cap,cur,hb,_,hg,_⟩
 · cases h
 · injection hb with hb
   subst hb
   exact heap_lt hg
theorem SlOwn.cell {w:World} {e:TypeId} {size:Nat} {g o n cap:Nat} {xs:List Value} {blk:Option Nat} (h:SlOwn w e size (.slice (some ⟨g,o,none⟩) n cap) n xs blk):∀ j u,xs[j]? = some u→w.cell? ⟨g,o+j,none⟩=some u:=by
 intro j u hu
 rcases h.2 with ⟨h,_⟩ | ⟨g',o',cap',cur,hb,hv,hg,_,_,_,ht⟩
 · cases h
 · injection hv with ha _ _
   injection ha with ha
   injection ha with ha ho _
   subst ha ho
   rw [cell_of_row w g (o+j) cur e (0,0) hg]
   rw [← ht,List.getElem?_take] at hu
   split at hu
   · rw [List.getElem?_drop] at hu;simpa using hu
   · cases hu
theorem SlOwn.keep {w w':World} {e:TypeId} {size:Nat} {v:Value} {n:Nat} {xs:List Value} {blk:Option Nat} (h:SlOwn w e size v n xs blk) (hk:∀ g,blk=some g→w'.heap[g]? = w.heap[g]?):SlOwn w' e size v n xs blk:=by
 refine ⟨h.1,?_⟩
 rcases h.2 with h | ⟨g',o,cap,cur,hb,hv,hg,rest⟩
 · exact .inl h
 · exact .inr ⟨g',o,cap,cur,hb,hv,(hk g' hb).trans hg,rest⟩
theorem run_append_S {P:Program} (w:World) (t ty e:TypeId) (i:TypeInfo) (z:Value) (size bytes:Nat) (ht:P.underlying t=some (.slice e)) (hi:P.info? e=some i) (hz:i.zero=some z)
 (hsize:i.size=size) (hby:i.bytes=bytes) (hzs:z.cells.size=size) (hsz:0<size)
 (v:Value) (n:Nat) (xs:List Value) (blk:Option Nat) (hown:SlOwn w e size v n xs blk)
 (x:Value) (m:Nat) (news:List Value) (hsrc:Src w size x m news) (h1:∀ u ∈ news,u.oneCell'=true)
 (h63:n+m≤maxLen) (hbytes:(n+m) * bytes≤140737488355328) :
 ∃ v' w' blk',(Builtin.append_ #[t,t] ty #[v,x]).run P w=.ok v' w'∧SlOwn w' e size v' (n+m) (xs ++ news) blk'∧w.grownBy w' blk∧(blk'=blk∨blk'=some w.heap.size):=by
 subst hsize
 subst hby
 obtain ⟨hl,a,c,rfl,hnew⟩:=hsrc
 have hsmall:n+m≤9223372036854775807:=by simp only [maxLen] at h63;omega
 have hlen:(xs ++ news).length=(n+m) * i.size:=by rw [List.length_append,hown.1,hl,Nat.add_mul]
 rcases a with _ | ad
 · -- nothing is appended
   have hn:news=[]:=by
    rcases hnew with h | ⟨ad,h,_⟩
    · exact h
    · cases h
   subst hn
   have hm:m=0:=by
    rcases Nat.eq_zero_or_pos m with h | h
    · exact h
    · have:0<m * i.size:=Nat.mul_pos h hsz
      simp at hl
      omega
   subst hm
   refine ⟨v,w,blk,?_,by simpa using hown,⟨rfl,rfl,rfl,Nat.le_refl _,fun _ _ _=>rfl⟩,.inl rfl⟩
   rcases hown.2 with ⟨rfl,rfl,_⟩ | ⟨g,o,cap,cur,_,rfl,_,hnc,_⟩
   · simp [Builtin.append_,run_underlying ht,sizeOf,typeInfo,hi,Builtin.lenOf,Builtin.firstCells]
   · simp [Builtin.append_,run_underlying ht,sizeOf,typeInfo,hi,Builtin.lenOf,Builtin.firstCells,hnc,storeCells]
 have hnews:∀ j u,news[j]? = some u→w.cell? (ad.add j)=some u:=by
  rcases hnew with h | ⟨ad',h,hc⟩
  · subst h;intro j u hu;simp at hu
  · injection h with h;subst h;exact hc
 have grown:∀ (old:Nat),old<n+m→∀ (row:Option Nat),
  SlOwn (w.drew.alloc (.cells (xs.toArray ++ news.toArray ++ Builtin.zeroCells z.cells (grownCap w (n+m) old e - (n+m))) e)) e i.size
   (.slice (some ⟨w.heap.size,0,none⟩) (n+m) (grownCap w (n+m) old e)) (n+m) (xs ++ news) (some w.heap.size) ∧
  w.grownBy (w.drew.alloc (.cells (xs.toArray ++ news.toArray ++ Builtin.zeroCells z.cells (grownCap w (n+m) old e - (n+m))) e)) row:=by
  intro old ho row
  have hge:=grownCap_ge w (n+m) old e
  have hcm:grownCap w (n+m) old e≤maxLen:=grownCap_le_maxLen w (n+m) old e h63
  refine ⟨⟨hlen,.inr ⟨w.heap.size,0,_,_,rfl,rfl,heap_alloc_new w.drew _,hge,hcm,?_,?_⟩⟩,⟨rfl,rfl,rfl,by simp,fun k hk _=>Below.heap_alloc w.drew _ k hk⟩⟩
  · simp only [Array.size_append,List.size_toArray,size_zeroCells,hzs,hown.1,hl,← Nat.add_mul,Nat.zero_add]
    rw [Nat.le_iff_lt_or_eq]
    right
    congr 1
    omega
  · simp only [Array.toList_append,List.append_assoc,List.drop_zero]
    rw [← List.append_assoc,← hlen]
    exact List.take_left
 rcases hown.2 with ⟨rfl,rfl,rfl⟩ | ⟨g,o,cap,cur,rfl,rfl,hg,hnc,hcm,hcs,htake⟩
 · have hx:xs=[]:=List.eq_nil_of_length_eq_zero (by simpa using hown.1)
   subst hx
   by_cases hm:m=0
   · subst hm
     have hn:news=[]:=List.eq_nil_of_length_eq_zero (by simpa using hl)
     subst hn
     refine ⟨.slice none 0 0,w,none,?_,SlOwn.nil w e i.size,⟨rfl,rfl,rfl,Nat.le_refl _,fun _ _ _=>rfl⟩,Or.inl rfl⟩
     simp [Builtin.append_,run_underlying ht,sizeOf,typeInfo,hi,Builtin.lenOf,Builtin.firstCells,loadCells,loadCellsFrom]
   · have hr:=run_append_nil (P:=P) w t ty e i z ht hi hz ad m c news hl hnews (by omega) (by omega) (by have hb:=hbytes;simp only [Nat.zero_add] at hb;omega)
     have hgr:=grown 0 (by omega) none
     simp only [Nat.zero_add,List.nil_append,Array.empty_append] at hgr ⊢
     exact ⟨_,_,_,hr,hgr.1,hgr.2,Or.inr rfl⟩
 · by_cases hroom:n+m≤cap
   · have hfit:o+n * i.size+0+news.length≤cur.size:=by
      rw [hl]
      have h2:(n+m) * i.size≤cap * i.size:=Nat.mul_le_mul_right _ hroom
      rw [Nat.add_mul] at h2
      omega
     have hf:=run_firstCells_some (P:=P) w i.size m ad m c news hl hnews
     have hst:=run_storeCells_at P g (o+n * i.size) e news 0 cur w hg hfit h1
     have hr:(Builtin.append_ #[t,t] ty #[.slice (some ⟨g,o,none⟩) n cap,.slice (some ad) m c]).run P w =
      .ok (.slice (some ⟨g,o,none⟩) (n+m) cap) (w.setRow g (cur.toList.take (o+n * i.size+0) ++ news ++ cur.toList.drop (o+n * i.size+0+news.length)).toArray):=by
      simp only [Nat.add_zero] at hst ⊢
      simp [Builtin.append_,run_underlying ht,sizeOf,typeInfo,hi,Builtin.lenOf,hroom,hf,add_at,hst]
     refine ⟨_,_,some g,hr,⟨hlen,.inr ⟨g,o,cap,_,rfl,rfl,setRow_heap w g cur _ e _ hg,hroom,hcm,?_,?_⟩⟩,⟨rfl,rfl,rfl,by simp,fun k _ hk=>setRow_other w g k _ (fun e=>hk (by simp [e]))⟩,Or.inl rfl⟩
     · simp only [List.size_toArray,List.length_append,List.length_take,List.length_drop,Array.length_toList]
       omega
     · have hlx:xs.length=n * i.size:=hown.1
       have e1:cur.toList.take (o+n * i.size+0)=cur.toList.take o ++ xs:=by
        rw [Nat.add_zero,← htake,List.take_add]
       have hol:(cur.toList.take o).length=o:=by rw [List.length_take,Array.length_toList];omega
       simp only [e1]
       rw [List.append_assoc,List.append_assoc,List.drop_append_of_le_length (by rw [hol];omega),List.drop_of_length_le (by rw [hol];omega),List.nil_append,← List.append_assoc,← hlen]
       exact List.take_left
   · have holds:∀ j u,xs[j]? = some u→w.cell? ((⟨g,o,none⟩:Addr).add j)=some u:=by
      intro j u hu
      rw [add_at]
      exact hown.cell j u hu
     have hr:=run_append_grow (P:=P) w t ty e i z ht hi hz ⟨g,o,none⟩ n cap xs hown.1 holds ad m c news hl hnews (by omega) (by omega) (growslice_fits (by omega) hbytes)
     have hgr:=grown cap (by omega) (some g)
     exact ⟨_,_,_,hr,hgr.1,hgr.2,Or.inr rfl⟩
theorem wp_append_S {P:Program} {w:World} {o:Oper} {a:Act} {K:Act→World→Prop} {Q:Exit→Act→World→Prop} (s x:Operand) (t:TypeId)
 (ho:o.op=.call { callee:=.builtin .append,args:=#[s,x],argTypes:=#[t,t] })
 (e:TypeId) (i:TypeInfo) (z:Value) (size bytes:Nat) (ht:P.underlying t=some (.slice e)) (hi:P.info? e=some i) (hz:i.zero=some z)
 (hsize:i.size=size) (hby:i.bytes=bytes) (hzs:z.cells.size=size) (hsz:0<size)
 (v:Value) (n:Nat) (xs:List Value) (blk:Option Nat) (hs:a.eval s=v) (hown:SlOwn w e size v n xs blk)
 (xv:Value) (m:Nat) (news:List Value) (hx:a.eval x=xv) (hsrc:Src w size xv m news) (h1:∀ u ∈ news,u.oneCell'=true)
 (h63:n+m≤maxLen) (hbytes:(n+m) * bytes≤140737488355328)
 (h:∀ v' w' blk',SlOwn w' e size v' (n+m) (xs ++ news) blk'→w.grownBy w' blk→(blk'=blk∨blk'=some w.heap.size)→K (a.put o.dst v') w'):o.wp P a w K Q:=by
 obtain ⟨v',w',blk',hr,h2,h3,h4⟩:=run_append_S (P:=P) w t o.type e i z size bytes ht hi hz hsize hby hzs hsz v n xs blk hown xv m news hsrc h1 h63 hbytes
 unfold Oper.wp execOp
 simp only [ho,resolve,invoke,builtin,Sem.run_bind,Sem.run_pure,Result.andThen_ok,List.map_toArray,List.map_cons,List.map_nil,hs,hx,hr]
 exact h v' w' blk' h2 h3 h4
theorem wpList_append_S {P:Program} {w:World} {ops:Array Oper} {rest:List Oper} {o:Oper} {a:Act} {Q:Exit→Act→World→Prop} (hgd:o.guard=none) (s x:Operand) (t:TypeId)
 (ho:o.op=.call { callee:=.builtin .append,args:=#[s,x],argTypes:=#[t,t] })
 (e:TypeId) (i:TypeInfo) (z:Value) (size bytes:Nat) (ht:P.underlying t=some (.slice e)) (hi:P.info? e=some i) (hz:i.zero=some z)
 (hsize:i.size=size) (hby:i.bytes=bytes) (hzs:z.cells.size=size) (hsz:0<size)
 (v:Value) (n:Nat) (xs:List Value) (blk:Option Nat) (hs:a.eval s=v) (hown:SlOwn w e size v n xs blk)
 (xv:Value) (m:Nat) (news:List Value) (hx:a.eval x=xv) (hsrc:Src w size xv m news) (h1:∀ u ∈ news,u.oneCell'=true)
 (h63:n+m≤maxLen) (hbytes:(n+m) * bytes≤140737488355328)
 (h:∀ v' w' blk',SlOwn w' e size v' (n+m) (xs ++ news) blk'→w.grownBy w' blk→(blk'=blk∨blk'=some w.heap.size)→wpList P ops Q rest (a.put o.dst v') w'):wpList P ops Q (o :: rest) a w :=
 wpList_plain hgd fun _ hK=>wp_append_S s x t ho e i z size bytes ht hi hz hsize hby hzs hsz v n xs blk hs hown xv m news hx hsrc h1 h63 hbytes fun v' w' blk' h2 h3 h4=>hK _ _ (h v' w' blk' h2 h3 h4)
theorem SlOwn.form {w:World} {e:TypeId} {size:Nat} {v:Value} {n:Nat} {xs:List Value} {blk:Option Nat} (h:SlOwn w e size v n xs blk):∃ a c,v=.slice a n c:=by
 rcases h.2 with ⟨rfl,rfl,_⟩ | ⟨g,o,cap,cur,_,rfl,_⟩
 · exact ⟨_,_,rfl⟩
 · exact ⟨_,_,rfl⟩
theorem SlOwn.lt_of {w:World} {e:TypeId} {size:Nat} {v:Value} {n:Nat} {xs:List Value} {blk:Option Nat} (h:SlOwn w e size v n xs blk) {g:Nat} (hg:blk=some g):g<w.heap.size:=by
 subst hg
 exact h.blk_lt
theorem SlOwn.src {w:World} {e:TypeId} {size:Nat} {v:Value} {n:Nat} {xs:List Value} {blk:Option Nat} (h:SlOwn w e size v n xs blk):Src w size v n xs:=by
 refine ⟨h.1,?_⟩
 rcases h.2 with ⟨rfl,rfl,_⟩ | ⟨g,o,cap,cur,_,rfl,_⟩
 · exact ⟨_,_,rfl,.inl (List.eq_nil_of_length_eq_zero (by simpa using h.1))⟩
 · exact ⟨_,_,rfl,.inr ⟨_,rfl,fun j u hu=>by rw [add_at];exact h.cell j u hu⟩⟩
structure Ints (w w':World) (v:Value) (l:List Int) (blk:Option Nat):Prop where
 own:SlOwn w' 3 1 v l.length (l.map (Value.int .i64)) blk
 new:∀ g,blk=some g→w.heap.size≤g
 below:Below w.heap.size w w'
theorem Ints.next {w w' w2:World} {v:Value} {l:List Int} {blk:Option Nat} (h:Ints w w' v l blk) (hb:Below w'.heap.size w' w2):Ints w w2 v l blk :=
 ⟨h.own.keep fun g hg=>hb.block g (h.own.lt_of hg),h.new,h.below.trans (hb.mono h.below.size)⟩
theorem Ints.start (w:World):Ints w w (.slice none 0 0) [] none:=⟨SlOwn.nil _ _ _,(fun g hg=>by cases hg),Below.refl _ _⟩
theorem Ints.add {w wr w':World} {v v':Value} {l:List Int} {k:Int} {blk blk':Option Nat} {o:Obj} (h:Ints w wr v l blk) (hs:SlOwn w' 3 1 v' (l.length+1) (l.map (Value.int .i64) ++ [.int .i64 k]) blk') (hg:(wr.alloc o).grownBy w' blk) (hat:blk'=blk∨blk'=some (wr.alloc o).heap.size):Ints w w' v' (l ++ [k]) blk':=by
 have hsz:=h.below.size
 refine ⟨by simpa using hs,fun g hgg=>?_,(h.below.alloc hsz o).grown hg (by simp;omega) (fun q hq=>h.new q hq)⟩
 rcases hat with e | e
 · exact h.new g (e ▸ hgg)
 · rw [hgg] at e;injection e with e;rw [e];simp;omega
end Go.Proofs.YtjhknhgkjfabaaaGreatDoor
namespace Go.Proofs.YtjhknhgkjfabaaaGreatDoor
open Go.RowKit Go.Proofs.YtjhknhgkjfabaaaGreatDoor.Cmps
structure Chg where
 t:Int
 r:List Val
 n:Int
def numB (n:Int):Bool:=(n != 0) && withinB n (-1000000) 1000000
def validChg (c:Chg):Bool:=validTime c.t && validRow c.r && numB c.n
theorem cells_at {w:World} {b:Nat} {cs:Array Value} {t:TypeId} (h:w.heap[b]? = some (.cells cs t (0,0))) (o:Nat):w.cell? ⟨b,o,none⟩=cs[o]? := by
 rw [cell_of_row w b o cs t (0,0) h]
theorem heap_new (w:World) (o:Obj):(w.alloc o).heap[w.heap.size]? = some o:=World.alloc_heap_new w o
theorem box_in {w w':World} {o:Obj} {B:Nat} (h:Below B (w.alloc o) w') (hB:w.heap.size<B):w'.heap[w.heap.size]? = some o:=(h.block _ hB).trans (heap_new w o)
section leaves
set_option maxHeartbeats 400000
set_option maxRecDepth 10000
theorem f74_any (n lo hi:Int) (w:World) :
 Calls Tryz.prog 74 #[.int .i64 n,.int .i64 lo,.int .i64 hi] w fun e w'=>e=.returned (.bool (withinB n lo hi))∧w=w':=by
 go_enter Tryz.func74,Tryz.ntmps74
 go_wp2
 all_goals go_ret
 all_goals (exact ⟨ret_bool (by simp [withinB, *] <;> omega),rfl⟩)
theorem f98_any (n lo hi:Int) (w:World) :
 Calls Tryz.prog 98 #[.int .i64 n,.int .i64 lo,.int .i64 hi] w fun e w'=>e=.returned (.bool (withinB n lo hi))∧w=w':=by
 go_enter Tryz.func98,Tryz.ntmps98
 go_wp2
 all_goals go_ret
 all_goals (exact ⟨ret_bool (by simp [withinB, *] <;> omega),rfl⟩)
theorem f24_any (n lo hi:Int) (w:World) :
 Calls Tryz.prog 24 #[.int .i64 n,.int .i64 lo,.int .i64 hi] w fun e w'=>e=.returned (.bool (withinB n lo hi))∧w=w':=by
 go_enter Tryz.func24,Tryz.ntmps24
 go_wp2
 all_goals go_ret
 all_goals (exact ⟨ret_bool (by simp [withinB, *] <;> omega),rfl⟩)
theorem f30_any (n lo hi:Int) (w:World) :
 Calls Tryz.prog 30 #[.int .i64 n,.int .i64 lo,.int .i64 hi] w fun e w'=>e=.returned (.bool (withinB n lo hi))∧w=w':=by
 go_enter Tryz.func30,Tryz.ntmps30
 go_wp2
 all_goals go_ret
 all_goals (exact ⟨ret_bool (by simp [withinB, *] <;> omega),rfl⟩)
theorem f76_any (n:Int) (w:World) :
 Calls Tryz.prog 76 #[.int .i64 n] w fun e w'=>e=.returned (.bool (numB n))∧w=w':=by
 go_enter Tryz.func76,Tryz.ntmps76
 go_wp2_with (go_at_call 74;refine (f74_any _ _ _ _).mono ?_;rintro e w' ⟨rfl,rfl⟩)
 all_goals go_ret
 all_goals (exact ⟨ret_bool (by simp [numB, *]),rfl⟩)
theorem f40_any (w:World) (rv:Value) (c:Chg) (D:Nat→Prop) (hr:RowAt w D rv c.r) :
 Calls Tryz.prog 40 #[.agg #[.int .i64 c.t,rv,.int .i64 c.n]] w fun e w'=>e=.returned (.bool (validChg c))∧Below w.heap.size w w':=by
 have H75:=Lib.hid fun W (hb:Below w.heap.size w W)=>f75_any W rv c.r D (hr.keep fun b _ hl=>hb.block b hl)
 have e0:withinB c.t (-1000000000000) 1000000000000=validTime c.t:=rfl
 obtain ⟨t,hv,n⟩:=c
 obtain ⟨a,cap,rfl,-,-⟩:=hr
 dsimp only at H75 e0 ⊢
 have HB0:=Lib.hid (fun o:Obj=>((Below.refl w.heap.size w).alloc (Nat.le_refl _) o))
 go_enter Tryz.func40,Tryz.ntmps40
 go_wp2_with (first
  | (go_at_call 74;refine (f74_any _ _ _ _).mono ?_;rintro e w' ⟨rfl,rfl⟩)
  | (go_at_call 75;refine (H75.out _ (HB0.out _)).mono ?_;rintro e w' ⟨rfl,hb1⟩;have A1:=box_in hb1 (by simp);have v0:=cells_at A1 0;have v1:=cells_at A1 1;have v2:=cells_at A1 2;have HB1:=Lib.hid ((HB0.out _).trans (hb1.mono (by simp)));clear hb1 A1)
  | (go_at_call 76;refine (f76_any _ _).mono ?_;rintro e w' ⟨rfl,rfl⟩))
 all_goals go_ret
 all_goals first
  | exact ⟨ret_bool (by simp [validChg, *]),HB1.out⟩
  | exact ⟨ret_bool (by simp [validChg, *]),HB0.out _⟩
theorem f50_any (w:World) (rv:Value) (c:Chg) (D:Nat→Prop) (hr:RowAt w D rv c.r) :
 Calls Tryz.prog 50 #[.agg #[.int .i64 c.t,rv,.int .i64 c.n]] w fun e w'=>e=.returned (.bool (validChg c))∧Below w.heap.size w w':=by
 have H97:=Lib.hid fun W (hb:Below w.heap.size w W)=>f97_any W rv c.r D (hr.keep fun b _ hl=>hb.block b hl)
 obtain ⟨t,hv,n⟩:=c
 obtain ⟨a,cap,rfl,-,-⟩:=hr
 dsimp only at H97 ⊢
 have HB0:=Lib.hid (fun o:Obj=>((Below.refl w.heap.size w).alloc (Nat.le_refl _) o))
 go_enter Tryz.func50,Tryz.ntmps50
 go_wp2_with (first
  | (go_at_call 96;refine (f96_any _ _).mono ?_;rintro e w' ⟨rfl,rfl⟩)
  | (go_at_call 97;refine (H97.out _ (HB0.out _)).mono ?_;rintro e w' ⟨rfl,hb1⟩;have A1:=box_in hb1 (by simp);have v0:=cells_at A1 0;have v1:=cells_at A1 1;have v2:=cells_at A1 2;have HB1:=Lib.hid ((HB0.out _).trans (hb1.mono (by simp)));clear hb1 A1)
  | (go_at_call 98;refine (f98_any _ _ _ _).mono ?_;rintro e w' ⟨rfl,rfl⟩))
 all_goals go_ret
 all_goals first
  | exact ⟨ret_bool (by simp [validChg,numB, *]),HB1.out⟩
  | exact ⟨ret_bool (by simp [validChg,numB, *]),HB0.out _⟩
end leaves
def ChgsAt (w:World) (D:Nat→Prop) (v:Value) (l:List Chg):Prop :=
 ∃ a cap,v=.slice a l.length cap∧l.length≤9223372036854775807∧(l=[]∨∃ b off,a=some ⟨b,off,none⟩∧D b∧∃ rs:Nat→Value,∀ i,(h:i<l.length) →
  w.cell? ⟨b,off+i * 3,none⟩=some (.int .i64 l[i].t)∧w.cell? ⟨b,off+i * 3+1,none⟩=some (rs i)∧w.cell? ⟨b,off+i * 3+2,none⟩=some (.int .i64 l[i].n)∧RowAt w D (rs i) l[i].r)
theorem ChgsAt.keep {w w':World} {D:Nat→Prop} {v:Value} {l:List Chg} (h:ChgsAt w D v l) (hk:∀ b,D b→b<w.heap.size→w'.heap[b]? = w.heap[b]?):ChgsAt w' D v l:=by
 obtain ⟨a,cap,rfl,hl,hx⟩:=h
 refine ⟨a,cap,rfl,hl,?_⟩
 rcases hx with rfl | ⟨b,off,rfl,hd,rs,hc⟩
 · exact .inl rfl
 · refine .inr ⟨b,off,rfl,hd,rs,fun i hi=>?_⟩
   obtain ⟨h0,h1,h2,h3⟩:=hc i hi
   have hb:=hk b hd (cell_lt h0)
   exact ⟨(cell_keep hb _).trans h0,(cell_keep hb _).trans h1,(cell_keep hb _).trans h2,h3.keep hk⟩
theorem ChgsAt.below {w w':World} {D:Nat→Prop} {v:Value} {l:List Chg} (h:ChgsAt w D v l) (hb:Below w.heap.size w w'):ChgsAt w' D v l:=h.keep fun b _ hl=>hb.block b hl
def firstAt {α:Type} (p:α→Bool) (l:List α):Int:=match l.findIdx? p with
 | some i=>i
 | none => -1
theorem firstAt_hit {α:Type} {p:α→Bool} {l:List α} {k:Nat} (hk:k<l.length) (hb:p l[k]=true) (h:∀ j (h:j<l.length),j<k→p l[j]=false):firstAt p l=k:=by
 have:l.findIdx? p=some k:=by
  rw [List.findIdx?_eq_some_iff_getElem]
  exact ⟨hk,hb,fun j hj=>by simp [h j (by omega) hj]⟩
 simp [firstAt,this]
theorem firstAt_none {α:Type} {p:α→Bool} {l:List α} (h:∀ j (h:j<l.length),p l[j]=false):firstAt p l = -1:=by
 have:l.findIdx? p=none:=by
  rw [List.findIdx?_eq_none_iff]
  intro x hx
  obtain ⟨i,hi,rfl⟩:=List.mem_iff_getElem.1 hx
  exact h i hi
 simp [firstAt,this]
theorem firstAt_any {α:Type} (p:α→Bool) (l:List α):decide (0≤firstAt p l)=l.any p:=by
 unfold firstAt
 cases h:l.findIdx? p with
 | none =>
   rw [List.findIdx?_eq_none_iff] at h
   have:l.any p=false:=by rw [List.any_eq_false];intro x hx;simp [h x hx]
   simp [this]
 | some i =>
   rw [List.findIdx?_eq_some_iff_getElem] at h
   obtain ⟨hi,hb,_⟩:=h
   have:l.any p=true:=List.any_eq_true.2 ⟨l[i],List.getElem_mem hi,hb⟩
   simp [this]
section leaves
set_option maxHeartbeats 400000
set_option maxRecDepth 10000
theorem f39_any (w:World) (rv:Value) (c:Chg) (D:Nat→Prop) (hr:RowAt w D rv c.r) :
 Calls Tryz.prog 39 #[.agg #[.int .i64 c.t,rv,.int .i64 c.n]] w fun e w'=>e=.returned (.bool (!validChg c))∧Below w.heap.size w w':=by
 have H40:=Lib.hid fun W (hb:Below w.heap.size w W)=>f40_any W rv c D (hr.keep fun b _ hl=>hb.block b hl)
 obtain ⟨a,cap,rfl,-,-⟩:=hr
 have HB0:=Lib.hid (fun o:Obj=>((Below.refl w.heap.size w).alloc (Nat.le_refl _) o))
 go_enter Tryz.func39,Tryz.ntmps39
 go_wp2_with (go_at_call 40;refine (H40.out _ (HB0.out _)).mono ?_;rintro e w' ⟨rfl,hb1⟩)
 go_ret
 exact ⟨rfl,(HB0.out _).trans (hb1.mono (by simp))⟩
theorem f19_any (w:World) (rv:Value) (c:Chg) (D:Nat→Prop) (hr:RowAt w D rv c.r) :
 Calls Tryz.prog 19 #[.agg #[.int .i64 c.t,rv,.int .i64 c.n]] w fun e w'=>e=.returned (.bool (decide (c.n<0)))∧Below w.heap.size w w':=by
 obtain ⟨a,cap,rfl,-,-⟩:=hr
 have HB0:=Lib.hid (fun o:Obj=>((Below.refl w.heap.size w).alloc (Nat.le_refl _) o))
 go_enter Tryz.func19,Tryz.ntmps19
 go_wp2
 go_ret
 exact ⟨rfl,HB0.out _⟩
theorem f34_any (w:World) (rv:Value) (c:Chg) (D:Nat→Prop) (hr:RowAt w D rv c.r) :
 Calls Tryz.prog 34 #[.agg #[.int .i64 c.t,rv,.int .i64 c.n]] w fun e w'=>e=.returned (.bool (decide (c.n<0)))∧Below w.heap.size w w':=by
 obtain ⟨a,cap,rfl,-,-⟩:=hr
 have HB0:=Lib.hid (fun o:Obj=>((Below.refl w.heap.size w).alloc (Nat.le_refl _) o))
 go_enter Tryz.func34,Tryz.ntmps34
 go_wp2
 go_ret
 exact ⟨rfl,HB0.out _⟩
theorem f41_of (g:FuncId) (hg:g=39∨g=19∨g=34∨g=58) (p:Chg→Bool) (hG:∀ (W:World) (rv:Value) (c:Chg) (D:Nat→Prop),RowAt W D rv c.r→Calls Tryz.prog g #[.agg #[.int .i64 c.t,rv,.int .i64 c.n]] W fun e w'=>e=.returned (.bool (p c))∧Below W.heap.size W w')
 (w:World) (v:Value) (l:List Chg) (D:Nat→Prop) (h:ChgsAt w D v l) :
 Calls Tryz.prog 41 #[v,.func (.func g) #[] #[]] w fun e w'=>e=.returned (.int .i64 (firstAt p l))∧Below w.heap.size w w':=by
 have HG:=Lib.hid hG
 have HC:=Lib.hid h
 clear hG
 obtain ⟨a,cap,rfl,hl,hx⟩:=h
 rcases hg with rfl | rfl | rfl | rfl
 all_goals (
  go_enter Tryz.func41,Tryz.ntmps41
  go_wp2
  go_loopw [8] (fun i wr=>∃ k:Nat,k≤l.length∧i=.int .i64 k∧(∀ j (h:j<l.length),j<k→p l[j]=false)∧Below w.heap.size w wr) (fun i _=>l.length - (intOf i).toNat)
  case atStart=>exact ⟨0,by omega,rfl,by omega,Below.refl _ _⟩
  case round =>
   obtain ⟨k,hk,rfl,hv,hb⟩:=hrel
   by_cases hlt:k<l.length
   · rcases hx with rfl | ⟨b,off,rfl,hbD,rs,hc⟩
     · simp at hlt
     · obtain ⟨h0,h1,h2,h3⟩:=hc k hlt
       have hbb:b<w.heap.size:=World.block_lt_of_cell? w ⟨b,off+k * 3,none⟩ h0
       rw [← hb.cell (p:=⟨b,_,none⟩) hbb] at h0 h1 h2
       clear hc
       obtain ⟨ra,rc,hrs,-,-⟩:=id h3
       have HR:=Lib.hid (h3.keep fun b _ hl=>hb.block b hl)
       rw [hrs] at h1 HR
       have HGK:=Lib.hid (HG.out wr _ l[k] D HR.out)
       clear h3
       go_wp2_with (first
        | (go_at_call 39;refine HGK.out.mono ?_;rintro e w' ⟨rfl,hb1⟩)
        | (go_at_call 19;refine HGK.out.mono ?_;rintro e w' ⟨rfl,hb1⟩)
        | (go_at_call 34;refine HGK.out.mono ?_;rintro e w' ⟨rfl,hb1⟩)
        | (go_at_call 58;refine HGK.out.mono ?_;rintro e w' ⟨rfl,hb1⟩))
       · have hbad:p l[k]=true:=by assumption
         go_ret
         exact ⟨ret_int (firstAt_hit hlt hbad hv).symm,hb.trans (hb1.mono hb.size)⟩
       · have hok:p l[k]=false:=by assumption
         go_roundw
         case rel =>
          refine ⟨k+1,by omega,by go_num,fun j hj hjk=>?_,hb.trans (hb1.mono hb.size)⟩
          by_cases e:j=k
          · subst e;exact hok
          · exact hv j hj (by omega)
         case measure=>simp [intOf];omega
   · go_wp2
     go_ret
     exact ⟨ret_int (firstAt_none (fun j hj=>hv j hj (by omega))).symm,hb⟩)
end leaves
def validChgs (l:List Chg):Bool:=decide ((l.length:Int)≤400) && l.all validChg
section leaves
set_option maxHeartbeats 400000
set_option maxRecDepth 10000
theorem f58_any (w:World) (rv:Value) (c:Chg) (D:Nat→Prop) (hr:RowAt w D rv c.r) :
 Calls Tryz.prog 58 #[.agg #[.int .i64 c.t,rv,.int .i64 c.n]] w fun e w'=>e=.returned (.bool (c.n == 0))∧Below w.heap.size w w':=by
 obtain ⟨a,cap,rfl,-,-⟩:=hr
 have HB0:=Lib.hid (fun o:Obj=>((Below.refl w.heap.size w).alloc (Nat.le_refl _) o))
 go_enter Tryz.func58,Tryz.ntmps58
 go_wp2
 go_ret
 exact ⟨rfl,HB0.out _⟩
theorem f18_of (g:FuncId) (hg:g=39∨g=19∨g=34∨g=58) (p:Chg→Bool) (hG:∀ (W:World) (rv:Value) (c:Chg) (D:Nat→Prop),RowAt W D rv c.r→Calls Tryz.prog g #[.agg #[.int .i64 c.t,rv,.int .i64 c.n]] W fun e w'=>e=.returned (.bool (p c))∧Below W.heap.size W w')
 (w:World) (v:Value) (l:List Chg) (D:Nat→Prop) (h:ChgsAt w D v l) :
 Calls Tryz.prog 18 #[v,.func (.func g) #[] #[]] w fun e w'=>e=.returned (.bool (l.any p))∧Below w.heap.size w w':=by
 have e:=firstAt_any p l
 have HF:=Lib.hid (f41_of g hg p hG w v l D h)
 obtain ⟨a,cap,rfl,-,-⟩:=h
 clear hG
 go_enter Tryz.func18,Tryz.ntmps18
 go_wp2_with (go_at_call 41;refine HF.out.mono ?_;rintro e w' ⟨rfl,hb1⟩)
 go_ret
 exact ⟨rfl,hb1⟩
theorem f17_any (w:World) (v:Value) (l:List Chg) (D:Nat→Prop) (h:ChgsAt w D v l) :
 Calls Tryz.prog 17 #[v] w fun e w'=>e=.returned (.bool (validChgs l))∧Below w.heap.size w w':=by
 have HF:=Lib.hid (f18_of 39 (.inl rfl) (fun c => !validChg c) f39_any w v l D h)
 have he:l.any (fun c => !validChg c) = !l.all validChg:=by simp [List.any_eq_not_all_not]
 rw [he] at HF
 obtain ⟨a,cap,rfl,hl,-⟩:=h
 go_enter Tryz.func17,Tryz.ntmps17
 go_wp2_with (go_at_call 18;refine HF.out.mono ?_;rintro e w' ⟨rfl,hb1⟩)
 all_goals go_ret
 · exact ⟨ret_bool (by simp [validChgs, *]),hb1⟩
 · exact ⟨ret_bool (by simp [validChgs, *] <;> omega),Below.refl _ _⟩
theorem f29_any (w:World) (v:Value) (l:List Chg) (D:Nat→Prop) (h:ChgsAt w D v l) :
 Calls Tryz.prog 29 #[v] w fun e w'=>e=.returned (.bool (validChgs l))∧Below w.heap.size w w':=by
 obtain ⟨a,cap,rfl,hl,hx⟩:=h
 go_enter Tryz.func29,Tryz.ntmps29
 go_wp2
 go_loopw [3] (fun i wr=>∃ k:Nat,k≤l.length∧i=.int .i64 k∧(∀ j (h:j<l.length),j<k→validChg l[j]=true)∧Below w.heap.size w wr) (fun i _=>l.length - (intOf i).toNat)
 case atStart=>exact ⟨0,by omega,rfl,by omega,Below.refl _ _⟩
 case round =>
  obtain ⟨k,hk,rfl,hv,hb⟩:=hrel
  by_cases hlt:k<l.length
  · rcases hx with rfl | ⟨b,off,rfl,hbD,rs,hc⟩
    · simp at hlt
    · obtain ⟨h0,h1,h2,h3⟩:=hc k hlt
      have hbb:b<w.heap.size:=World.block_lt_of_cell? w ⟨b,off+k * 3,none⟩ h0
      rw [← hb.cell (p:=⟨b,_,none⟩) hbb] at h0 h1 h2
      clear hc
      obtain ⟨ra,rc,hrs,-,-⟩:=id h3
      have HR:=Lib.hid (h3.keep fun b _ hl=>hb.block b hl)
      rw [hrs] at h1 HR
      have H50:=Lib.hid (f50_any wr _ l[k] D HR.out)
      clear h3
      go_wp2_with (go_at_call 50;refine H50.out.mono ?_;rintro e w' ⟨rfl,hb1⟩)
      · have hbad':(!validChg l[k])=true:=by assumption
        have hbad:validChg l[k]=false:=by simpa using hbad'
        go_ret
        refine ⟨ret_bool ?_,hb.trans (hb1.mono hb.size)⟩
        have:l.all validChg=false:=by
         rw [List.all_eq_false];exact ⟨l[k],List.getElem_mem hlt,by simp [hbad]⟩
        simp [validChgs,this]
      · have hok':(!validChg l[k])=false:=by assumption
        have hok:validChg l[k]=true:=by simpa using hok'
        go_roundw
        case rel =>
         refine ⟨k+1,by omega,by go_num,fun j hj hjk=>?_,hb.trans (hb1.mono hb.size)⟩
         by_cases e:j=k
         · subst e;exact hok
         · exact hv j hj (by omega)
        case measure=>simp [intOf];omega
  · go_wp2
    go_ret
    refine ⟨ret_bool ?_,hb⟩
    have:l.all validChg=true:=by
     rw [List.all_eq_true]
     intro x hx
     obtain ⟨i,hi,rfl⟩:=List.mem_iff_getElem.1 hx
     exact hv i hi (by omega)
    simp [validChgs,this]
theorem f14_any (w:World) (b:Nat) (r:Value) (row:List Val) (D:Nat→Prop) (hr:RowAt w D r row) (hb:w.cell? ⟨b,0,none⟩=some r) :
 Calls Tryz.prog 14 #[.slice (some ⟨b,0,none⟩) 1 1] w fun e w'=>(∃ x,e=.returned (.bool x))∧w'=w:=by
 obtain ⟨a,cap,rfl,hl,hx⟩:=hr
 go_enter Tryz.func14,Tryz.ntmps14
 go_wp2
 go_loopw [3,4,5] (fun n i _ wr=>(∃ x:Int,n=.int .i64 x)∧(i=.int .i64 0∨i=.int .i64 1)∧wr=w) (fun _ i _ _=>1 - (intOf i).toNat)
 case atStart=>exact ⟨⟨_,rfl⟩,.inl rfl,rfl⟩
 case round =>
  obtain ⟨⟨x,rfl⟩,hi,hww⟩:=hrel
  subst wr
  rcases hi with rfl | rfl
  · go_wp2
    go_loopw [3,5] (fun n k wr=>(∃ x:Int,n=.int .i64 x)∧(∃ q:Nat,q≤row.length∧k=.int .i64 q)∧wr=w) (fun _ k _=>row.length - (intOf k).toNat)
    case atStart=>exact ⟨⟨_,rfl⟩,⟨0,by omega,rfl⟩,rfl⟩
    case round =>
     obtain ⟨⟨y,rfl⟩,⟨q,hq,rfl⟩,hww⟩:=hrel
     subst wr
     by_cases hlt:q<row.length
     · rcases hx with rfl | ⟨b',off,rfl,hbD,hc⟩
       · simp at hlt
       · obtain ⟨h0,h1,h2⟩:=hc q hlt
         clear hc
         go_wp2
         go_roundw
         case rel=>exact ⟨⟨_,rfl⟩,⟨q+1,by omega,by go_num⟩,trivial⟩
         case measure=>simp [intOf];omega
     · go_wp2
       go_roundw
       case rel=>exact ⟨⟨_,rfl⟩,.inr rfl,trivial⟩
       case measure=>simp [intOf]
  · go_wp2
    go_ret
    exact ⟨⟨_,rfl⟩,rfl⟩
theorem f4_any (w:World) (v:Value) (l:List Chg) (D:Nat→Prop) (h:ChgsAt w D v l) :
 Calls Tryz.prog 4 #[v] w fun e w'=>(∃ x,e=.returned (.bool x)∧(x=true→l.length≤60))∧Below w.heap.size w w':=by
 obtain ⟨a,cap,rfl,hl,hx⟩:=h
 go_enter Tryz.func4,Tryz.ntmps4
 go_wp2
 go_loopw [3] (fun i wr=>∃ k:Nat,k≤l.length∧i=.int .i64 k∧Below w.heap.size w wr) (fun i _=>l.length - (intOf i).toNat)
 case atStart=>exact ⟨0,by omega,rfl,Below.refl _ _⟩
 case round =>
  obtain ⟨k,hk,rfl,hb⟩:=hrel
  by_cases hlt:k<l.length
  · rcases hx with rfl | ⟨b,off,rfl,hbD,rs,hc⟩
    · simp at hlt
    · obtain ⟨h0,h1,h2,h3⟩:=hc k hlt
      have hbb:b<w.heap.size:=World.block_lt_of_cell? w ⟨b,off+k * 3,none⟩ h0
      rw [← hb.cell (p:=⟨b,_,none⟩) hbb] at h0 h1 h2
      clear hc
      obtain ⟨ra,rc,hrs,-,-⟩:=id h3
      have HR:=Lib.hid (h3.keep fun b _ hl=>hb.block b hl)
      rw [hrs] at h1 HR
      have H14:=Lib.hid (f14_any (wr.alloc (.cells #[.slice ra l[k].r.length rc] 40)) wr.heap.size (.slice ra l[k].r.length rc) l[k].r D (HR.out.keep fun b _ hl=>Below.heap_alloc _ _ _ hl) (cells_at (heap_new wr (.cells #[.slice ra l[k].r.length rc] 40)) 0))
      have hb2:Below w.heap.size w (wr.alloc (.cells #[.slice ra l[k].r.length rc] 40)):=hb.alloc hb.size _
      clear h3
      go_wp2_with (go_at_call 14;refine H14.out.mono ?_;rintro e w' ⟨⟨x,rfl⟩,rfl⟩)
      · go_ret
        exact ⟨⟨_,rfl,fun hx=>by cases hx⟩,hb2⟩
      · go_roundw
        case rel=>exact ⟨k+1,by omega,by go_num,hb2⟩
        case measure=>simp [intOf];omega
  · go_wp2
    go_ret
    exact ⟨⟨_,rfl,fun hx=>by simp at hx;omega⟩,hb⟩
end leaves
end Go.Proofs.YtjhknhgkjfabaaaGreatDoor
namespace Go.Proofs.YtjhknhgkjfabaaaGreatDoor
open Go.RowKit
theorem put_inj {b b':Act} {d:Option Tmp} {v v':Value} (h:b.put d v'=b.put d v) (hs:b'.tmps.size=b.tmps.size):b'.put d v'=b'.put d v:=by
 cases d with
 | none=>rfl
 | some s =>
   rcases Nat.lt_or_ge s b.tmps.size with hlt | hge
   · have h1:(b.put (some s) v').tmps[s]? = (b.put (some s) v).tmps[s]? := by rw [h]
     have e:v'=v:=by simpa [Act.put,hlt] using h1
     rw [e]
   · have h1:∀ u,b'.tmps.setIfInBounds s u=b'.tmps:=fun u=>by
      apply Array.ext_getElem?
      intro i
      rw [Array.getElem?_setIfInBounds]
      split
      · rename_i e
        subst e
        rw [if_neg (by omega)]
        simp;omega
      · rfl
     simp [Act.put,h1]
def wpFloatC (P:Program) (ops:Array Oper) (C:World→Prop) (Q:Act→Prop):List Oper→Act→Prop
 | [],a=>Q a
 | o :: rest,a=>∃ v,(∀ w,C w→o.wp P a w (fun a' w'=>a'=a.put o.dst v∧w'=w) NoOut)∧wpFloatC P ops C Q rest (a.put o.dst v)
section
variable {P : Program} {ops : Array Oper} {val val' : Nat → Value} {a a' a1 a2 : Act} {L L' : Nat → Prop}
end
def waits3 (ops:Array Oper) (i j:Nat):Bool :=
 Region.waitsFor .any ops i j || (List.range ops.size).any fun k=>Region.waitsFor .any ops i k && (Region.waitsFor .any ops k j || (List.range ops.size).any fun q=>Region.waitsFor .any ops k q && Region.waitsFor .any ops q j)
structure Game (ops:Array Oper) (fl:List Nat):Prop where
 sel:Region.noSelect ops=true
 lt:∀ i ∈ fl,i<ops.size
 asc:fl.Pairwise (·<·)
 grd:∀ {i:Nat} {o:Oper},ops[i]? = some o→o.guard=none
 low:∀ {i:Nat} {o:Oper},ops[i]? = some o→∀ e ∈ o.after,Region.binds .any e=true→e.on<i
 fle:∀ {i:Nat} {o:Oper},ops[i]? = some o→i ∈ fl→∀ e ∈ o.after,Region.binds .any e=true→e.on ∈ fl
 look:∀ {i j:Nat} {o oj:Oper} {d:Tmp},ops[i]? = some o→ops[j]? = some oj→oj.dst=some d→d ∈ o.looksAt ops→(j<i∧Region.waitsFor .any ops i j=true)∨(i<j∧Region.waitsFor .any ops j i=true)
 dist:∀ {i j:Nat} {o oj:Oper} {d:Tmp},ops[i]? = some o→ops[j]? = some oj→i≠j→oj.dst=some d→o.dst≠some d
def freeRest (ops:Array Oper) (fl done:List Nat):List Nat :=
 (List.range ops.size).filter fun i => !fl.contains i && !done.contains i && (match ops[i]? with | some o=>o.after.all fun e => !Region.binds .any e || fl.contains e.on || done.contains e.on | none=>false)
def pend (ops:Array Oper) (fl done:List Nat):Bool := !(fl.all fun j=>done.any fun i=>waits3 ops i j)
section
variable {P : Program} {ops : Array Oper} {a : Act}
theorem floats_fill {C:World→Prop} {Q:Act→Prop} (hdist:∀ {i j:Nat} {o oj:Oper} {d:Tmp},ops[i]? = some o→ops[j]? = some oj→i≠j→oj.dst=some d→o.dst≠some d) :
 ∀ (ls pre:List Nat) (val0:Nat→Value) (a0:Act),(∀ i ∈ ls,i<ops.size)→(∀ i ∈ ls,i ∉ pre)→ls.Pairwise (·<·)→FillSt ops val0 a (fun j=>j ∈ pre) a0→wpFloatC P ops C Q (ls.filterMap fun i=>ops[i]?) a0 →
 ∃ val:Nat→Value,(∀ j,j ∈ pre→val j=val0 j)∧(∀ i,i ∈ ls→∃ (ai:Act) (o:Oper),FillSt ops val a (fun j=>j ∈ pre∨(j ∈ ls∧j<i)) ai∧ops[i]? = some o∧∀ w,C w→o.wp P ai w (fun a' w'=>a'=ai.put o.dst (val i)∧w'=w) NoOut) ∧
  ∃ b,FillSt ops val a (fun j=>j ∈ pre∨j ∈ ls) b∧Q b
 | [],pre,val0,a0,_,_,_,hf,h=>⟨val0,fun _ _=>rfl,fun i hi=>(by cases hi),a0,hf.congr fun j=>by simp,h⟩
 | i :: rest,pre,val0,a0,hlt,hnp,hasc,hf,h=>by
   have hi:=hlt i (List.mem_cons_self ..)
   obtain ⟨o,ho⟩:∃ o,ops[i]? = some o:=⟨_,Array.getElem?_eq_getElem hi⟩
   rw [List.filterMap_cons,ho] at h
   obtain ⟨v,hy,hK⟩:=h
   have hip:=hnp i (List.mem_cons_self ..)
   have hlo:∀ {q:Nat},q ∈ rest→i<q:=fun hq=>List.rel_of_pairwise_cons hasc hq
   let val1:Nat→Value:=fun j=>if j=i then v else val0 j
   have hv1:val1 i=v:=by simp [val1]
   have hv0:∀ j,j ∈ pre→val0 j=val1 j:=fun j hj=>by
    have:j≠i:=fun e=>hip (e ▸ hj)
    simp [val1,this]
   have hf1:=hf.revalue hv0
   have hf2:=hf1.put' hdist ho
   rw [hv1] at hf2
   obtain ⟨val,e1,e2,b,e3,e4⟩:=floats_fill hdist rest (i :: pre) val1 _ (fun j hj=>hlt j (List.mem_cons_of_mem _ hj)) (fun j hj hjp=>by
    rcases List.mem_cons.1 hjp with e | e
    · have:=hlo hj;omega
    · exact hnp j (List.mem_cons_of_mem _ hj) e) (List.Pairwise.of_cons hasc) (hf2.congr fun j=>by simp [or_comm]) hK
   have hvi:val i=v:=(e1 i (List.mem_cons_self ..)).trans hv1
   refine ⟨val,fun j hj=>(e1 j (List.mem_cons_of_mem _ hj)).trans (hv0 j hj).symm,fun j hj=>?_,b,e3.congr fun j=>by simp [or_assoc,or_left_comm],e4⟩
   rcases List.mem_cons.1 hj with rfl | hj'
   · refine ⟨a0,o,(hf1.revalue fun q hq=>(e1 q (List.mem_cons_of_mem _ hq)).symm).congr fun q=>⟨fun hq=>.inl hq,fun hq=>?_⟩,ho,by rw [hvi];exact hy⟩
     rcases hq with hq | ⟨hq,hql⟩
     · exact hq
     · rcases List.mem_cons.1 hq with e | e
       · omega
       · have:=hlo e;omega
   · obtain ⟨ai,o',f1,f2,f3⟩:=e2 j hj'
     refine ⟨ai,o',f1.congr fun q=>?_,f2,f3⟩
     have hij:=hlo hj'
     constructor
     · rintro (hq | ⟨hq,hql⟩)
       · rcases List.mem_cons.1 hq with e | e
         · subst e;exact .inr ⟨List.mem_cons_self ..,hij⟩
         · exact .inl e
       · exact .inr ⟨List.mem_cons_of_mem _ hq,hql⟩
     · rintro (hq | ⟨hq,hql⟩)
       · exact .inl (List.mem_cons_of_mem _ hq)
       · rcases List.mem_cons.1 hq with e | e
         · subst e;exact .inl (List.mem_cons_self ..)
         · exact .inr ⟨e,hql⟩
end
theorem waits3_listed {ops:Array Oper} {listed:Array Bool} (hcl:Closed .any ops listed) {i j:Nat} (hi:listed.getD i false=true) (h:waits3 ops i j=true):listed.getD j false=true:=by
 have one:∀ {x y:Nat},listed.getD x false=true→Region.waitsFor .any ops x y=true→listed.getD y false=true:=by
  intro x y hx hw
  obtain ⟨o,ho,e,he,hb,hon⟩:=Region.waitsFor_spec hw
  rw [← hon]
  exact hcl x o ho hx e he hb
 unfold waits3 at h
 simp only [Bool.or_eq_true,List.any_eq_true,Bool.and_eq_true] at h
 rcases h with h | ⟨k,_,h1,h | ⟨q,_,h2,h3⟩⟩
 · exact one hi h
 · exact one (one hi h1) h
 · exact one (one (one hi h1) h2) h3
section
variable {P : Program} {ops : Array Oper} {fl : List Nat} {C : World → Prop} {Q : Exit → Act → World → Prop} {n : Nat} {done : List Nat} {a : Act} {w : World}
end
end Go.Proofs.YtjhknhgkjfabaaaGreatDoor
