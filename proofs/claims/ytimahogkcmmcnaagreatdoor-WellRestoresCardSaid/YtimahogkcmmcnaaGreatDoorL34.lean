/-
 The well, part 59: what both tell is the same. If the wells lie in the world as the words say.
-/
import Derived.Test.YtimahogkcmmcnaaGreatDoorL18
import Derived.Test.YtimahogkcmmcnaaGreatDoorL21
import Derived.Test.YtimahogkcmmcnaaGreatDoorL23
import Derived.Test.YtimahogkcmmcnaaGreatDoorL14
import Derived.Test.YtimahogkcmmcnaaGreatDoorL26
set_option linter.unusedSimpArgs false
set_option linter.unusedVariables false
namespace Go.Proofs.YtimahogkcmmcnaaGreatDoor
open Go.RowKit Go.Proofs.YtimahogkcmmcnaaGreatDoor.Cmps
section leaves
set_option maxHeartbeats 4000000
set_option maxRecDepth 100000
theorem f24_any (hm:Tryz.prog.follows .mixedOrders=true) (w:World) (col:Nat→Nat) (D:Nat→Prop) (s:List Col) (ws:WS) (m:WlM) (p:RS) (h:WAt w col s ws m) (hr:RefAt w D s m p) (hok:WOk m) (hrow:WRow m) :
 Calls Tryz.prog 24 #[ptr ws.W,refV m p] w fun e w'=>e=.returned (.bool true)∧Below w.heap.size w w':=by
 have mixed:=hm
 obtain ⟨sch,⟨sa,sc⟩,⟨ma,mc⟩,back⟩:=p
 have hB0:Below w.heap.size w (w.alloc (.cells #[sch,.int .i64 m.bound,.slice sa m.splits.length sc,.slice ma m.marks.length mc,.bool m.sealed,back] 45)):=(Below.refl _ _).alloc (Nat.le_refl _) _
 have hX0:(w.alloc (.cells #[sch,.int .i64 m.bound,.slice sa m.splits.length sc,.slice ma m.marks.length mc,.bool m.sealed,back] 45)).heap[w.heap.size]? = some (.cells #[sch,.int .i64 m.bound,.slice sa m.splits.length sc,.slice ma m.marks.length mc,.bool m.sealed,back] 45 (0,0)):=heap_alloc_new w _
 have h16:=hok.hi
 have hsz0:(w.alloc (.cells #[sch,.int .i64 m.bound,.slice sa m.splits.length sc,.slice ma m.marks.length mc,.bool m.sealed,back] 45)).heap.size=w.heap.size+1:=by simp
 have HW:Hid (∀ W,Below (w.heap.size+1) (w.alloc (.cells #[sch,.int .i64 m.bound,.slice sa m.splits.length sc,.slice ma m.marks.length mc,.bool m.sealed,back] 45)) W→WAt W col s ws m):=fun W hb=>h.below (hB0.trans (hb.mono (by omega)))
 have HRF:Hid (∀ W,Below (w.heap.size+1) (w.alloc (.cells #[sch,.int .i64 m.bound,.slice sa m.splits.length sc,.slice ma m.marks.length mc,.bool m.sealed,back] 45)) W→RefAt W D s m ⟨sch,(sa,sc),(ma,mc),back⟩):=fun W hb=>hr.below (hB0.trans (hb.mono (by omega)))
 have HBX0:Hid (∀ W,Below (w.heap.size+1) (w.alloc (.cells #[sch,.int .i64 m.bound,.slice sa m.splits.length sc,.slice ma m.marks.length mc,.bool m.sealed,back] 45)) W→W.heap[w.heap.size]? = some (.cells #[sch,.int .i64 m.bound,.slice sa m.splits.length sc,.slice ma m.marks.length mc,.bool m.sealed,back] 45 (0,0))):=fun W hb=>(hb.block _ (by omega)).trans hX0
 have HB0:=Lib.hid hB0
 have HZ0:=Lib.hid hsz0
 have HOK:=Lib.hid hok
 have HROW:=Lib.hid hrow
 have HMX:=Lib.hid hm
 clear h hr hok hrow hB0 hX0 hsz0 hm
 unfold ptr
 go_enter Tryz.func24,Tryz.ntmps24
 go_wp2_with fail
 generalize hw1:w.alloc (.cells #[sch,.int .i64 m.bound,.slice sa m.splits.length sc,.slice ma m.marks.length mc,.bool m.sealed,back] 45)=w1 at HW HRF HBX0 HB0 HZ0 ⊢
 clear hw1
 go_loopw [5] (fun i wr=>∃ k:Nat,k≤m.marks.length+2∧i=.int .i64 ((k:Int) - 1)∧Hid (Below (w.heap.size+1) w1 wr)) (fun i _=>m.marks.length+2 - ((intOf i)+1).toNat)
 case atStart=>exact ⟨0,by omega,rfl,Lib.hid (Below.refl _ _)⟩
 case round =>
  obtain ⟨k,hk,rfl,hbr⟩:=hrel
  obtain ⟨x0,x1,x2,x3,x4,x5,xf⟩:=box45_cells (HBX0.out _ hbr.out)
  by_cases hlt:k<m.marks.length+2
  · have hle:(k:Int) - 1≤(m.marks.length:Int):=by omega
    have hzr:w.heap.size+1≤wr.heap.size:=by have:=hbr.out.size;have:=HZ0.out;omega
    have HT:Hid (∀ W,Below wr.heap.size wr W→Below (w.heap.size+1) w1 W):=fun W hb=>hbr.out.trans (hb.mono hzr)
    have HBX:Hid (∀ W,Below wr.heap.size wr W→W.cell? ⟨w.heap.size,0,none⟩=some sch∧W.cell? ⟨w.heap.size,1,none⟩=some (.int .i64 m.bound)∧W.cell? ⟨w.heap.size,2,none⟩=some (.slice sa m.splits.length sc)∧W.cell? ⟨w.heap.size,3,none⟩=some (.slice ma m.marks.length mc)∧W.cell? ⟨w.heap.size,4,none⟩=some (.bool m.sealed)∧W.cell? ⟨w.heap.size,5,none⟩=some back):=fun W hb=>by
     obtain ⟨y0,y1,y2,y3,y4,y5,_⟩:=box45_cells (HBX0.out _ (HT.out _ hb))
     exact ⟨y0,y1,y2,y3,y4,y5⟩
    have H18:Hid (∀ W,Below wr.heap.size wr W→∀ r:Int,Calls Tryz.prog 18 #[.pointer (some ⟨ws.W,0,none⟩),.int .i64 r] W fun e w'=>e=.returned (.int .i64 (markI m r))∧W=w'):=fun W hb r=>f18_any W col s ws m r (HW.out _ (HT.out _ hb)) HOK.out
    have H64:Hid (∀ W,Below wr.heap.size wr W→∀ r:Int,Calls Tryz.prog 64 #[.pointer (some ⟨ws.W,0,none⟩),.int .i64 r] W fun e w'=>e=.returned (.bool (idleB m r))∧W=w'):=fun W hb r=>f64_any W col s ws m r (HW.out _ (HT.out _ hb)) HOK.out
    have H22:Hid (∀ W,Below wr.heap.size wr W→∀ r:Int,Calls Tryz.prog 22 #[.pointer (some ⟨ws.W,0,none⟩),.int .i64 r] W fun e w'=>e=.returned (.int .i64 (leftI m.splits r))∧Below W.heap.size W w'):=fun W hb r=>f22_any W col s ws m r (HW.out _ (HT.out _ hb)) HOK.out
    have H63:Hid (∀ W,Below wr.heap.size wr W→∀ r:Int,Calls Tryz.prog 63 #[.agg #[sch,.int .i64 m.bound,.slice sa m.splits.length sc,.slice ma m.marks.length mc,.bool m.sealed,back],.int .i64 r] W fun e w'=>e=.returned (.int .i64 (markI m r))∧Below W.heap.size W w'):=fun W hb r=>f63_any W D s m ⟨sch,(sa,sc),(ma,mc),back⟩ r (HRF.out _ (HT.out _ hb)) HOK.out
    have H65:Hid (∀ W,Below wr.heap.size wr W→∀ r:Int,Calls Tryz.prog 65 #[.agg #[sch,.int .i64 m.bound,.slice sa m.splits.length sc,.slice ma m.marks.length mc,.bool m.sealed,back],.int .i64 r] W fun e w'=>e=.returned (.bool (idleB m r))∧Below W.heap.size W w'):=fun W hb r=>f65_any W D s m ⟨sch,(sa,sc),(ma,mc),back⟩ r (HRF.out _ (HT.out _ hb)) HOK.out
    have H66:Hid (∀ W,Below wr.heap.size wr W→∀ r:Int,Calls Tryz.prog 66 #[.agg #[sch,.int .i64 m.bound,.slice sa m.splits.length sc,.slice ma m.marks.length mc,.bool m.sealed,back],.int .i64 r] W fun e w'=>e=.returned (.int .i64 (leftI m.splits r))∧Below W.heap.size W w'):=fun W hb r=>f66_any W D s m ⟨sch,(sa,sc),(ma,mc),back⟩ r (HRF.out _ (HT.out _ hb)) HOK.out
    go_wp2_with fail
    clear x0 x1 x2 x3 x4 x5 xf
    have hC:Below wr.heap.size wr wr.drew:=(Below.refl _ _).drew
    refine wp_region_ord [0,1,3,4,2,5,6,7,8,9,11,12,10,13,14,15,16,17,18,20,21,19,22,23,24] (fun W=>Below wr.heap.size wr W) mixed (by kernel_rfl) (fun hg=>?_)
    iterate 2 (
     refine ord_rd hg hC (fun K hK=>?_)
     apply Exists.intro
     refine ⟨fun W hW=>?_,?_⟩
     · go_simp
       rfl
     go_simp
     refine hK _ ?_
     clear hK K)
    refine ord_rd hg hC (fun K hK=>?_)
    apply Exists.intro
    refine ⟨fun W hW=>?_,?_⟩
    · obtain ⟨q1,q2,q3,q4,q5,q6⟩:=HBX.out W hW
      go_simp
      rfl
    go_simp
    refine hK _ ?_
    clear hK K
    refine ord_rd hg hC (fun K hK=>?_)
    apply Exists.intro
    refine ⟨fun W hW=>?_,?_⟩
    · go_simp
      rfl
    go_simp
    refine hK _ ?_
    clear hK K
    refine ord_on (fun K hK=>?_)
    go_simp
    go_at_call 18
    refine (H18.out _ hC _).mono ?_
    rintro e w9 ⟨rfl,rfl⟩
    refine hK _ _ rfl hC ?_
    clear hK K
    refine ord_on (fun K hK=>?_)
    go_simp
    go_at_call 63
    refine (H63.out _ hC _).mono ?_
    rintro e w9 ⟨rfl,hb⟩
    replace hC:=hC.trans (hb.mono hC.size)
    clear hb
    refine hK _ _ rfl hC ?_
    clear hK K
    iterate 4 (
     refine ord_rd hg hC (fun K hK=>?_)
     apply Exists.intro
     refine ⟨fun W hW=>?_,?_⟩
     · go_simp
       rfl
     go_simp
     refine hK _ ?_
     clear hK K)
    refine ord_rd hg hC (fun K hK=>?_)
    apply Exists.intro
    refine ⟨fun W hW=>?_,?_⟩
    · obtain ⟨q1,q2,q3,q4,q5,q6⟩:=HBX.out W hW
      go_simp
      rfl
    go_simp
    refine hK _ ?_
    clear hK K
    refine ord_rd hg hC (fun K hK=>?_)
    apply Exists.intro
    refine ⟨fun W hW=>?_,?_⟩
    · go_simp
      rfl
    go_simp
    refine hK _ ?_
    clear hK K
    refine ord_on (fun K hK=>?_)
    go_simp
    go_at_call 64
    refine (H64.out _ hC _).mono ?_
    rintro e w9 ⟨rfl,rfl⟩
    refine hK _ _ rfl hC ?_
    clear hK K
    refine ord_on (fun K hK=>?_)
    go_simp
    go_at_call 65
    refine (H65.out _ hC _).mono ?_
    rintro e w9 ⟨rfl,hb⟩
    replace hC:=hC.trans (hb.mono hC.size)
    clear hb
    refine hK _ _ rfl hC ?_
    clear hK K
    iterate 5 (
     refine ord_rd hg hC (fun K hK=>?_)
     apply Exists.intro
     refine ⟨fun W hW=>?_,?_⟩
     · go_simp
       rfl
     go_simp
     refine hK _ ?_
     clear hK K)
    refine ord_rd hg hC (fun K hK=>?_)
    apply Exists.intro
    refine ⟨fun W hW=>?_,?_⟩
    · obtain ⟨q1,q2,q3,q4,q5,q6⟩:=HBX.out W hW
      go_simp
      rfl
    go_simp
    refine hK _ ?_
    clear hK K
    refine ord_rd hg hC (fun K hK=>?_)
    apply Exists.intro
    refine ⟨fun W hW=>?_,?_⟩
    · go_simp
      rfl
    go_simp
    refine hK _ ?_
    clear hK K
    refine ord_on (fun K hK=>?_)
    go_simp
    go_at_call 22
    refine (H22.out _ hC _).mono ?_
    rintro e w9 ⟨rfl,hb⟩
    replace hC:=hC.trans (hb.mono hC.size)
    clear hb
    refine hK _ _ rfl hC ?_
    clear hK K
    refine ord_on (fun K hK=>?_)
    go_simp
    go_at_call 66
    refine (H66.out _ hC _).mono ?_
    rintro e w9 ⟨rfl,hb⟩
    replace hC:=hC.trans (hb.mono hC.size)
    clear hb
    refine hK _ _ rfl hC ?_
    clear hK K
    iterate 2 (
     refine ord_rd hg hC (fun K hK=>?_)
     apply Exists.intro
     refine ⟨fun W hW=>?_,?_⟩
     · go_simp
       rfl
     go_simp
     refine hK _ ?_
     clear hK K)
    refine ord_end (by kernel_rfl) ?_
    go_wp2_with fail
    exact ⟨⟨k+1,by omega,by push_cast;rw [show (k:Int)+1 - 1=k by omega],Lib.hid (HT.out _ hC)⟩,by simp [intOf];omega⟩
  · have hle:¬ (k:Int) - 1≤(m.marks.length:Int):=by omega
    have hzr:w.heap.size+1≤wr.heap.size:=by have:=hbr.out.size;have:=HZ0.out;omega
    have h60:=f60_any wr col s ws m (HW.out _ hbr.out) HOK.out
    unfold ptr at h60
    have H60:=Lib.hid h60
    clear h60
    have H67:Hid (∀ W,Below (w.heap.size+1) w1 W→Calls Tryz.prog 67 #[.agg #[sch,.int .i64 m.bound,.slice sa m.splits.length sc,.slice ma m.marks.length mc,.bool m.sealed,back]] W fun e w'=>∃ v1 v2,e=.returned (.tuple #[v1,v2])∧TextsAt w' (fun b=>W.heap.size≤b) v1 (m.splits.map SpM.name)∧NumsAt w' (fun b=>W.heap.size≤b) v2 (m.splits.map fun x=>(x.read:Int))∧Below W.heap.size W w'):=fun W hb=>f67_any HMX.out W D s m ⟨sch,(sa,sc),(ma,mc),back⟩ (HRF.out _ hb) HOK.out
    go_wp2_with (first
     | (go_at_call 60;(with_reducible refine H60.out.mono ?_);rintro e w2 ⟨v1,v2,rfl,ht,hn,hb⟩
        have hb2:=hbr.out.trans (hb.mono hzr)
        have HT2:=Lib.hid ht;have HN2:=Lib.hid hn;have HB2:=Lib.hid hb2;clear ht hn hb hb2 x0 x1 x2 x3 x4 x5 xf
        obtain ⟨x0,x1,x2,x3,x4,x5,xf⟩:=box45_cells (HBX0.out _ HB2.out))
     | (go_at_call 67;(with_reducible refine (H67.out _ HB2.out).mono ?_);rintro e w3 ⟨v3,v4,rfl,ht,hn,hb⟩
        have hb3:=HB2.out.trans (hb.mono (by have:=HB2.out.size;have:=HZ0.out;omega))
        have HT1:=Lib.hid (HT2.out.below hb);have HN1:=Lib.hid (HN2.out.below hb)
        have HT3:=Lib.hid ht;have HN3:=Lib.hid hn;have HB3:=Lib.hid hb3;clear ht hn hb hb3 x0 x1 x2 x3 x4 x5 xf))
    have hz3:w.heap.size+1≤w3.heap.size:=by have:=HB3.out.size;have:=HZ0.out;omega
    have HT:Hid (∀ W,Below w3.heap.size w3 W→Below (w.heap.size+1) w1 W):=fun W hb=>HB3.out.trans (hb.mono hz3)
    have HBX:Hid (∀ W,Below w3.heap.size w3 W→W.cell? ⟨w.heap.size,0,none⟩=some sch∧W.cell? ⟨w.heap.size,1,none⟩=some (.int .i64 m.bound)∧W.cell? ⟨w.heap.size,2,none⟩=some (.slice sa m.splits.length sc)∧W.cell? ⟨w.heap.size,3,none⟩=some (.slice ma m.marks.length mc)∧W.cell? ⟨w.heap.size,4,none⟩=some (.bool m.sealed)∧W.cell? ⟨w.heap.size,5,none⟩=some back):=fun W hb=>by
     obtain ⟨y0,y1,y2,y3,y4,y5,_⟩:=box45_cells (HBX0.out _ (HT.out _ hb))
     exact ⟨y0,y1,y2,y3,y4,y5⟩
    have H68:Hid (∀ W,Below w3.heap.size w3 W→Calls Tryz.prog 68 #[v1,v3] W fun e w'=>e=.returned (.bool true)∧Below W.heap.size W w'):=fun W hb=>by
     have h:=f68_any W _ _ v1 v3 _ _ (HT1.out.below hb) (HT3.out.below hb) (by have:=HOK.out.splits;simp;omega)
     rwa [sameT_refl] at h
    have H69:Hid (∀ W,Below w3.heap.size w3 W→Calls Tryz.prog 69 #[v2,v4] W fun e w'=>e=.returned (.bool true)∧Below W.heap.size W w'):=fun W hb=>by
     have h:=f69_any W _ _ v2 v4 _ _ (HN1.out.below hb) (HN3.out.below hb) (by have:=HOK.out.splits;simp;omega)
     rwa [sameN_refl] at h
    have H23:Hid (∀ W,Below w3.heap.size w3 W→Calls Tryz.prog 23 #[.pointer (some ⟨ws.W,0,none⟩)] W fun e w'=>∃ r blk,e=.returned r∧Owned W w' r m.late blk):=fun W hb=>f23_any HMX.out W col s ws m (HW.out _ (HT.out _ hb)) HOK.out HROW.out
    have H61:Hid (∀ W W0 r blk,Below w3.heap.size w3 W→Owned W0 W r m.late blk→Calls Tryz.prog 61 #[r,back] W fun e w'=>e=.returned (.bool true)∧Below W.heap.size W w'):=fun W W0 r blk hb ho=>by
     have h:=f61_any HMX.out W _ _ r back _ _ (ho.own.evts (by have:=HROW.out.bound HOK.out;omega)) (HRF.out _ (HT.out _ hb)).back
     rw [sameE_refl] at h
     exact h.mono fun e w' ⟨he,hg⟩=>⟨he,hg.below⟩
    have H70:Hid (∀ W,Below w3.heap.size w3 W→Calls Tryz.prog 70 #[.pointer (some ⟨ws.W,0,none⟩)] W fun e w'=>e=.returned (.bool (doneB m))∧Below W.heap.size W w'):=fun W hb=>f70_any W col s ws m (HW.out _ (HT.out _ hb)) HOK.out
    have H71:Hid (∀ W,Below w3.heap.size w3 W→Calls Tryz.prog 71 #[.agg #[sch,.int .i64 m.bound,.slice sa m.splits.length sc,.slice ma m.marks.length mc,.bool m.sealed,back]] W fun e w'=>e=.returned (.bool (doneB m))∧Below W.heap.size W w'):=fun W hb=>f71_any W D s m ⟨sch,(sa,sc),(ma,mc),back⟩ (HRF.out _ (HT.out _ hb)) HOK.out
    have hC:Below w3.heap.size w3 w3.drew:=(Below.refl _ _).drew
    refine wp_region_ord [0,1,2,3,4,5,6,7,8,9,10,11,13,14,12,15,16,17,18,19,21,20,22,23,24] (fun W=>Below w3.heap.size w3 W) mixed (by kernel_rfl) (fun hg=>?_)
    iterate 2 (
     refine ord_rd hg hC (fun K hK=>?_)
     apply Exists.intro
     refine ⟨fun W hW=>?_,?_⟩
     · go_simp
       rfl
     go_simp
     refine hK _ ?_
     clear hK K)
    refine ord_on (fun K hK=>?_)
    go_simp
    go_at_call 68
    refine (H68.out _ hC).mono ?_
    rintro e w9 ⟨rfl,hb⟩
    replace hC:=hC.trans (hb.mono hC.size)
    clear hb
    refine hK _ _ rfl hC ?_
    clear hK K
    iterate 4 (
     refine ord_rd hg hC (fun K hK=>?_)
     apply Exists.intro
     refine ⟨fun W hW=>?_,?_⟩
     · go_simp
       rfl
     go_simp
     refine hK _ ?_
     clear hK K)
    refine ord_on (fun K hK=>?_)
    go_simp
    go_at_call 69
    refine (H69.out _ hC).mono ?_
    rintro e w9 ⟨rfl,hb⟩
    replace hC:=hC.trans (hb.mono hC.size)
    clear hb
    refine hK _ _ rfl hC ?_
    clear hK K
    iterate 5 (
     refine ord_rd hg hC (fun K hK=>?_)
     apply Exists.intro
     refine ⟨fun W hW=>?_,?_⟩
     · go_simp
       rfl
     go_simp
     refine hK _ ?_
     clear hK K)
    refine ord_rd hg hC (fun K hK=>?_)
    apply Exists.intro
    refine ⟨fun W hW=>?_,?_⟩
    · obtain ⟨q1,q2,q3,q4,q5,q6⟩:=HBX.out W hW
      go_simp
      rfl
    go_simp
    refine hK _ ?_
    clear hK K
    refine ord_on (fun K hK=>?_)
    go_simp
    go_at_call 23
    refine (H23.out _ hC).mono ?_
    rintro e w9 ⟨r9,blk9,rfl,ho⟩
    have HO9:=Lib.hid ho
    replace hC:=hC.trans (ho.below.mono hC.size)
    clear ho
    refine hK _ _ rfl hC ?_
    clear hK K
    refine ord_on (fun K hK=>?_)
    go_simp
    go_at_call 61
    refine (H61.out _ _ _ _ hC HO9.out).mono ?_
    rintro e w9 ⟨rfl,hb⟩
    replace hC:=hC.trans (hb.mono hC.size)
    clear hb
    refine hK _ _ rfl hC ?_
    clear hK K
    iterate 4 (
     refine ord_rd hg hC (fun K hK=>?_)
     apply Exists.intro
     refine ⟨fun W hW=>?_,?_⟩
     · go_simp
       rfl
     go_simp
     refine hK _ ?_
     clear hK K)
    refine ord_rd hg hC (fun K hK=>?_)
    apply Exists.intro
    refine ⟨fun W hW=>?_,?_⟩
    · obtain ⟨q1,q2,q3,q4,q5,q6⟩:=HBX.out W hW
      go_simp
      rfl
    go_simp
    refine hK _ ?_
    clear hK K
    refine ord_on (fun K hK=>?_)
    go_simp
    go_at_call 70
    refine (H70.out _ hC).mono ?_
    rintro e w9 ⟨rfl,hb⟩
    replace hC:=hC.trans (hb.mono hC.size)
    clear hb
    refine hK _ _ rfl hC ?_
    clear hK K
    refine ord_on (fun K hK=>?_)
    go_simp
    go_at_call 71
    refine (H71.out _ hC).mono ?_
    rintro e w9 ⟨rfl,hb⟩
    replace hC:=hC.trans (hb.mono hC.size)
    clear hb
    refine hK _ _ rfl hC ?_
    clear hK K
    iterate 2 (
     refine ord_rd hg hC (fun K hK=>?_)
     apply Exists.intro
     refine ⟨fun W hW=>?_,?_⟩
     · go_simp
       rfl
     go_simp
     refine hK _ ?_
     clear hK K)
    refine ord_end (by kernel_rfl) ?_
    obtain ⟨va,vc,rfl⟩:∃ a c,v3=.slice a m.splits.length c:=by obtain ⟨a,c,e,_⟩:=HT3.out;exact ⟨a,c,by rw [e,List.length_map]⟩
    have HB9:=Lib.hid (HT.out _ hC)
    have HT9:=Lib.hid (HT3.out.below hC)
    clear hC
    clear H60 H67 H68 H69 H23 H61 H70 H71 HT1 HT2 HT3 HN1 HN2 HN3 HBX HB2
    go_wp2_with fail
    go_loopw [10] (fun i wz=>∃ j:Nat,j≤m.splits.length∧i=.int .i64 j∧Hid (Below w9.heap.size w9 wz)) (fun i _=>m.splits.length - (intOf i).toNat)
    case atStart=>exact ⟨0,by omega,rfl,Lib.hid (Below.refl _ _)⟩
    case round =>
     obtain ⟨j,hj,rfl,hbz⟩:=hrel
     have h50:=HOK.out.splits
     have hz9:w.heap.size+1≤w9.heap.size:=by have:=HB9.out.size;have:=HZ0.out;omega
     have HT4:Hid (∀ W,Below wr.heap.size wr W→Below (w.heap.size+1) w1 W):=fun W hb=>HB9.out.trans ((hbz.out.trans (hb.mono hbz.out.size)).mono hz9)
     by_cases hlj:j<m.splits.length
     · have hln:j<(m.splits.map SpM.name).length:=by simpa using hlj
       have hslen:(m.splits.map SpM.name).length=m.splits.length:=by simp
       have htz:=HT9.out.below hbz.out
       rw [← hslen] at htz
       obtain ⟨g,o,rfl,hg9,hc9⟩:=htz.at hln
       obtain ⟨nm,hnm⟩:∃ v,(m.splits.map SpM.name)[j]=v:=⟨_,rfl⟩
       rw [hnm] at hc9
       have H72:Hid (Calls Tryz.prog 72 #[.pointer (some ⟨ws.W,0,none⟩),.string nm] wr fun e w'=>e=.returned (.tuple #[.int .i64 (ownerI m nm).1,.int .i64 (ownerI m nm).2])∧wr=w'):=f72_any wr col s ws m nm (HW.out _ (HT4.out _ (Below.refl _ _)))
       have H73:Hid (∀ W,Below wr.heap.size wr W→Calls Tryz.prog 73 #[.agg #[sch,.int .i64 m.bound,.slice sa m.splits.length sc,.slice ma m.marks.length mc,.bool m.sealed,back],.string nm] W fun e w'=>e=.returned (.tuple #[.int .i64 (ownerI m nm).1,.int .i64 (ownerI m nm).2])∧Below W.heap.size W w'):=fun W hb=>f73_any W D s m ⟨sch,(sa,sc),(ma,mc),back⟩ nm (HRF.out _ (HT4.out _ hb)) HOK.out
       have HBX:Hid (∀ W,Below wr.heap.size wr W→W.cell? ⟨w.heap.size,0,none⟩=some sch∧W.cell? ⟨w.heap.size,1,none⟩=some (.int .i64 m.bound)∧W.cell? ⟨w.heap.size,2,none⟩=some (.slice sa m.splits.length sc)∧W.cell? ⟨w.heap.size,3,none⟩=some (.slice ma m.marks.length mc)∧W.cell? ⟨w.heap.size,4,none⟩=some (.bool m.sealed)∧W.cell? ⟨w.heap.size,5,none⟩=some back∧W.cell? ⟨g,o+j,none⟩=some (.string nm)):=fun W hb=>by
        obtain ⟨y0,y1,y2,y3,y4,y5,_⟩:=box45_cells (HBX0.out _ (HT4.out _ hb))
        exact ⟨y0,y1,y2,y3,y4,y5,by rw [hb.cell (p:=⟨g,o+j,none⟩) hg9];exact hc9⟩
       have hjl:(j:Int)<(m.splits.length:Int):=by omega
       have hj0:(0:Int)≤(j:Int):=by omega
       clear htz hnm hln hslen
       go_wp2_with (go_at_call 72;(with_reducible refine H72.out.mono ?_);rintro e w5 ⟨rfl,rfl⟩)
       have hC:Below wr.heap.size wr wr.drew:=(Below.refl _ _).drew
       refine wp_region_ord [0,1,2,3,4,5,6,7,8,9,10] (fun W=>Below wr.heap.size wr W) mixed (by kernel_rfl) (fun hg=>?_)
       refine ord_rd hg hC (fun K hK=>?_)
       apply Exists.intro
       refine ⟨fun W hW=>?_,?_⟩
       · obtain ⟨q1,q2,q3,q4,q5,q6,q7⟩:=HBX.out W hW
         go_simp
         rfl
       go_simp
       iterate 3 (
        refine hK _ ?_
        clear hK K
        refine ord_rd hg hC (fun K hK=>?_)
        apply Exists.intro
        refine ⟨fun W hW=>?_,?_⟩
        · go_simp
          rfl
        go_simp)
       refine hK _ ?_
       clear hK K
       refine ord_rd hg hC (fun K hK=>?_)
       apply Exists.intro
       refine ⟨fun W hW=>?_,?_⟩
       · obtain ⟨q1,q2,q3,q4,q5,q6,q7⟩:=HBX.out W hW
         go_simp
         rfl
       go_simp
       refine hK _ ?_
       clear hK K
       refine ord_on (fun K hK=>?_)
       go_simp
       go_at_call 73
       refine (H73.out _ hC).mono ?_
       rintro e w9 ⟨rfl,hb⟩
       replace hC:=hC.trans (hb.mono hC.size)
       clear hb
       refine hK _ _ rfl hC ?_
       clear hK K
       iterate 5 (
        refine ord_rd hg hC (fun K hK=>?_)
        apply Exists.intro
        refine ⟨fun W hW=>?_,?_⟩
        · go_simp
          rfl
        go_simp
        refine hK _ ?_
        clear hK K)
       refine ord_end (by kernel_rfl) ?_
       have HB10:=Lib.hid (hbz.out.trans (hC.mono hbz.out.size))
       clear hC
       go_wp2_with fail
       go_roundw
       case rel=>exact ⟨j+1,by omega,by go_num,HB10⟩
       case measure=>simp [intOf];omega
     · have hjl:¬ (j:Int)<(m.splits.length:Int):=by omega
       go_wp2_with fail
       go_ret
       exact ⟨rfl,HB0.out.trans ((HT4.out _ (Below.refl _ _)).mono (by omega))⟩
end leaves
end Go.Proofs.YtimahogkcmmcnaaGreatDoor
