/-
 The well, part 44: the program finds a split. If the well and the events lie in the world as the words say.
-/
import Derived.Test.YtimahogkcmmcnaaGreatDoorL18
import Derived.Deep.RegionHeld3
set_option linter.unusedSimpArgs false
set_option linter.unusedVariables false
namespace Go.Proofs.YtimahogkcmmcnaaGreatDoor
open Go.RowKit Go.Proofs.YtimahogkcmmcnaaGreatDoor.Cmps
theorem info126:(Tryz.prog.info? 126).map (fun i=>(i.zero,i.size,i.bytes))=some (some (.pointer none),1,8):=by kernel_rfl
section leaves
set_option maxHeartbeats 1000000
set_option maxRecDepth 10000
theorem f42_any (hm:Tryz.prog.follows .mixedOrders=true) (w:World) (col:Nat→Nat) (s:List Col) (ws:WS) (m:WlM) (src nm:ByteArray) (v:Value) (l:List Evt) (h:WAt w col s ws m) (hok:WOk m) (hl:EvtsAt w (Calm w col) v l) (hn:nm.size≤9223372036854775807) :
 Calls Tryz.prog 42 #[ptr ws.W,.agg #[.string src,.string nm,v]] w fun e w'=>e=.returned (.tuple #[.int .i64 (findR s m nm l).2.1,.int .i64 (findR s m nm l).2.2])∧∃ col' ws',ws'.W=ws.W∧WAt w' col' s ws' (findR s m nm l).1∧Went w w' col col':=by
 have mixed:=hm
 obtain ⟨c0,_,_,c3,_,_,_⟩:=h.cells
 obtain ⟨sha,shc,hsch⟩:∃ a c,ws.sch=.slice a s.length c:=by obtain ⟨a,c,e,_⟩:=h.hC;exact ⟨a,c,e⟩
 obtain ⟨va,vc,rfl⟩:∃ a c,v=.slice a l.length c:=by obtain ⟨a,c,e,_⟩:=hl;exact ⟨a,c,e⟩
 have hWlt0:=cell_lt c0
 have hw1:Below w.heap.size w (w.alloc (.cells #[.string src,.string nm,.slice va l.length vc] 88)):=(Below.refl _ _).alloc (Nat.le_refl _) _
 have HW1:=Lib.hid hw1
 have hX1:(w.alloc (.cells #[.string src,.string nm,.slice va l.length vc] 88)).heap[w.heap.size]? = some (.cells #[.string src,.string nm,.slice va l.length vc] 88 (0,0)):=heap_alloc_new w _
 have HX1:=Lib.hid hX1
 have H50:Hid (∀ d os,Calls Tryz.prog 50 #[.slice sha s.length shc,.agg #[.string src,.string nm,.slice va l.length vc]] (Sort.grow (redrawn (w.alloc (.cells #[.string src,.string nm,.slice va l.length vc] 88)) d) os) fun e w''=>e=.returned (.bool (splitB s nm l))∧∃ p:Regrown,w''=Sort.grow (redrawn (w.alloc (.cells #[.string src,.string nm,.slice va l.length vc] 88)) p.d) p.os) :=
  fun d os=>Calls.regrown_of (by
   have hb:=hw1.trans ((below_regrown (w.alloc (.cells #[.string src,.string nm,.slice va l.length vc] 88)) d os).mono hw1.size)
   have h1:=(h.hC.keep (w':=Sort.grow (redrawn (w.alloc (.cells #[.string src,.string nm,.slice va l.length vc] 88)) d) os) fun b _ hlt=>hb.block b hlt)
   rw [hsch] at h1
   exact f50_any hm _ (Calm w col) (Calm w col) (.slice sha s.length shc) (.slice va l.length vc) s src nm l h1 (hl.below hb) hn)
 rw [hsch] at c0
 have c0':(w.alloc (.cells #[.string src,.string nm,.slice va l.length vc] 88)).cell? ⟨ws.W,0,none⟩=some (.slice sha s.length shc):=by rw [hw1.cell (p:=⟨ws.W,0,none⟩) hWlt0];exact c0
 obtain ⟨x10,x11,x12⟩:=cells3 hX1
 have hW1lt:ws.W<(w.alloc (.cells #[.string src,.string nm,.slice va l.length vc] 88)).heap.size:=cell_lt c0'
 have hX1lt:=heap_lt hX1
 have H:=Lib.hid h
 have HL:=Lib.hid hl
 have HOK:=Lib.hid hok
 have hN:=hok.all
 have h50:=hok.splits
 obtain ⟨spa,spc,espl⟩:=h.splForm
 have HL3:Hid (∀ W,Below (w.alloc (.cells #[.string src,.string nm,.slice va l.length vc] 88)).heap.size (w.alloc (.cells #[.string src,.string nm,.slice va l.length vc] 88)) W→W.cell? ⟨ws.W,3,none⟩=some (.map (some ws.mp))∧W.cell? ⟨w.heap.size,1,none⟩=some (.string nm)∧W.cell? ⟨w.heap.size,2,none⟩=some (.slice va l.length vc) ∧
  (Instr.lookup 95 (.map (some ws.mp)) (.string nm) false).run Tryz.prog W=.ok ((valS (namesW m.splits ws.xb) nm).getD (.pointer none)) W∧W.cell? ⟨ws.W,1,none⟩=some (.int .i64 m.bound)∧W.cell? ⟨ws.W,2,none⟩=some (.slice spa m.splits.length spc)∧W.cell? ⟨ws.W,5,none⟩=some (.bool m.sealed)):=by
  intro W hb
  have hbw:=hw1.trans (hb.mono hw1.size)
  have hh:=h.below hbw
  have hx:=(hb.block _ (heap_lt hX1)).trans hX1
  obtain ⟨q0,q1,q2,q3,q4,q5,q6⟩:=hh.cells
  rw [espl] at q2
  exact ⟨q3,cells_at hx 1,cells_at hx 2,lookup_p W ws.mp ws.clock nm hh.ents hh.hM,q1,q2,q5⟩
 clear h hl hok hw1 hX1
 obtain ⟨sb,hsb⟩:∃ b,splitB s nm l=b:=⟨_,rfl⟩
 rw [hsb] at H50
 unfold ptr
 cases sb
 · have HR:Hid (findR s m nm l=(m,0,1)):=findR_err (by rw [findE,if_pos hsb]) (by omega)
   clear hsb
   go_enter Tryz.func42,Tryz.ntmps42
   go_wp2_with fail
   have hcl:=fun d os b' o' h=>(below_regrown (w.alloc (.cells #[.string src,.string nm,.slice va l.length vc] 88)) d os).cell (p:=⟨b',o',none⟩) h
   refine wp_region_quiet_below mixed (by kernel_rfl) ?_
   repeat (first | go_big_quiet_skip | quiet_step (with_reducible exact H50.out _ _))
   refine wpQuiet_nil ?_
   intro w2 hw'
   have HB2:=Lib.hid (below_of_class hw')
   clear hw' hcl
   go_wp2_with fail
   go_ret2
   have hb:=HW1.out.trans (HB2.out.mono HW1.out.size)
   exact ⟨by rw [HR.out];rfl,col,ws,rfl,by rw [HR.out];exact H.out.below hb,Went.below hb⟩
 · obtain ⟨hrt1,hrt2⟩:=split_facts hsb
   obtain ⟨hL,hT,hRW⟩:=right_facts hrt2
   have HT:=Lib.hid hT;have HRW:=Lib.hid hRW
   rcases idxI_lt (p:=fun x:SpM=>eqS x.name nm) (l:=m.splits) with hi | ⟨k,hlt,hi⟩
   · have hi':findI m.splits nm<0:=hi
     have HV:Hid ((valS (namesW m.splits ws.xb) nm).getD (.pointer none)=.pointer none):=by show _=_;rw [valS_none hi'];rfl
     have HVN:=Lib.hid (valS_none (xb:=ws.xb) hi')
     have HFE:Hid (findE s m nm l=if m.sealed=true then 10 else if 400<allN m.splits+l.length∨m.splits.length=50 then 4 else 0):=by show findE s m nm l=_;rw [findE,hsb,if_neg (by simp),if_neg (by omega)]
     obtain ⟨sl,hsl⟩:∃ b,m.sealed=b:=⟨_,rfl⟩
     have HSL:=Lib.hid hsl
     clear hi hi' hsb hsl
     cases sl
     · have hwr:IntKind.i64.wrap ((allN m.splits:Int)+(l.length:Int))=(allN m.splits:Int)+(l.length:Int):=wrapI (by omega)
       have H119A:Hid (∀ W,Below (w.alloc (.cells #[.string src,.string nm,.slice va l.length vc] 88)).heap.size (w.alloc (.cells #[.string src,.string nm,.slice va l.length vc] 88)) W→∀ d os,Calls Tryz.prog 119 #[.pointer (some ⟨ws.W,0,none⟩)] (Sort.grow (redrawn W d) os) fun e w''=>e=.returned (.int .i64 (allN m.splits))∧∃ p:Regrown,w''=Sort.grow (redrawn W p.d) p.os) :=
        fun W hb d os=>Calls.regrown_of ((f119_any _ col s ws m ((H.out.below (HW1.out.trans (hb.mono HW1.out.size))).below (below_regrown W d os)) HOK.out).mono fun e w' ⟨h,hw⟩=>⟨h,hw ▸ Below.refl _ _⟩)
       by_cases hB:m.splits.length=50
       · have HR:Hid (findR s m nm l=(m,0,4)):=findR_err (by rw [HFE.out,HSL.out,if_neg (by simp),if_pos (.inr hB)]) (by omega)
         have gB:((m.splits.length:Int) == 50)=true:=by simp;omega
         clear hB
         go_enter Tryz.func42,Tryz.ntmps42
         go_wp2_with fail
         have hcl:=fun d os b' o' h=>(below_regrown (w.alloc (.cells #[.string src,.string nm,.slice va l.length vc] 88)) d os).cell (p:=⟨b',o',none⟩) h
         refine wp_region_quiet_below mixed (by kernel_rfl) ?_
         repeat (first | go_big_quiet_skip | quiet_step (with_reducible exact H50.out _ _))
         refine wpQuiet_nil ?_
         intro w2 hw'
         have HB2:=Lib.hid (below_of_class hw')
         clear hw' hcl
         go_wp2_with fail
         refine wp_region_float 9 0 (fun W=>Below w2.heap.size w2 W) mixed (by kernel_rfl) ((Below.refl w2.heap.size w2).drew) ?_
         simp only [List.take_succ_cons,List.take_zero,List.drop_succ_cons,List.drop_zero]
         repeat (
          refine wpFloat_ex (fun K hK=>?_)
          apply Exists.intro
          refine ⟨fun W hW=>?_,?_⟩
          · obtain ⟨k1,k2,k3,k4,k5,k6,k7⟩:=HL3.out W (below_then HB2.out hW)
            rw [HV.out] at k4
            clear hW
            go_simp
            rfl
          go_simp
          refine hK _ ?_
          clear hK K)
         refine wpFloat_nil ?_
         refine wpChain_nil ?_
         have HB3:Hid (Below (w.alloc (.cells #[.string src,.string nm,.slice va l.length vc] 88)).heap.size (w.alloc (.cells #[.string src,.string nm,.slice va l.length vc] 88)) w2.drew):=HB2.out.drew
         obtain ⟨w3,hw3⟩:∃ w3,w2.drew=w3:=⟨_,rfl⟩
         rw [hw3] at HB3 ⊢
         clear hw3
         obtain ⟨j1,j2,j3,j4,j5,j6,j7⟩:=HL3.out w3 HB3.out
         rw [HSL.out] at j7
         have H119:=Lib.hid (H119A.out w3 HB3.out)
         have hw3a:=cell_lt j6
         have hw3b:=cell_lt j3
         go_wp2_with fail
         have hcl:=fun d os b' o' h=>(below_regrown w3 d os).cell (p:=⟨b',o',none⟩) h
         refine wp_region_quiet_below mixed (by kernel_rfl) ?_
         repeat (first | go_big_quiet_skip | quiet_step (with_reducible exact H119.out _ _))
         refine wpQuiet_nil ?_
         intro w4 hw'
         have HB4:=Lib.hid (below_then HB3.out (below_of_class hw'))
         clear hw' hcl
         go_wp2_with fail
         go_ret2
         have hb:=HW1.out.trans (HB4.out.mono HW1.out.size)
         exact ⟨by rw [HR.out];rfl,col,ws,rfl,by rw [HR.out];exact H.out.below hb,Went.below hb⟩
       · have gB:((m.splits.length:Int) == 50)=false:=by simp;omega
         have HB50:=Lib.hid hB
         clear hB
         by_cases hA:400<allN m.splits+l.length
         · have HR:Hid (findR s m nm l=(m,0,4)):=findR_err (by rw [HFE.out,HSL.out,if_neg (by simp),if_pos (.inl hA)]) (by omega)
           have gA:(400:Int)<(allN m.splits:Int)+(l.length:Int):=by omega
           go_enter Tryz.func42,Tryz.ntmps42
           go_wp2_with fail
           have hcl:=fun d os b' o' h=>(below_regrown (w.alloc (.cells #[.string src,.string nm,.slice va l.length vc] 88)) d os).cell (p:=⟨b',o',none⟩) h
           refine wp_region_quiet_below mixed (by kernel_rfl) ?_
           repeat (first | go_big_quiet_skip | quiet_step (with_reducible exact H50.out _ _))
           refine wpQuiet_nil ?_
           intro w2 hw'
           have HB2:=Lib.hid (below_of_class hw')
           clear hw' hcl
           go_wp2_with fail
           refine wp_region_float 9 0 (fun W=>Below w2.heap.size w2 W) mixed (by kernel_rfl) ((Below.refl w2.heap.size w2).drew) ?_
           simp only [List.take_succ_cons,List.take_zero,List.drop_succ_cons,List.drop_zero]
           repeat (
            refine wpFloat_ex (fun K hK=>?_)
            apply Exists.intro
            refine ⟨fun W hW=>?_,?_⟩
            · obtain ⟨k1,k2,k3,k4,k5,k6,k7⟩:=HL3.out W (below_then HB2.out hW)
              rw [HV.out] at k4
              clear hW
              go_simp
              rfl
            go_simp
            refine hK _ ?_
            clear hK K)
           refine wpFloat_nil ?_
           refine wpChain_nil ?_
           have HB3:Hid (Below (w.alloc (.cells #[.string src,.string nm,.slice va l.length vc] 88)).heap.size (w.alloc (.cells #[.string src,.string nm,.slice va l.length vc] 88)) w2.drew):=HB2.out.drew
           obtain ⟨w3,hw3⟩:∃ w3,w2.drew=w3:=⟨_,rfl⟩
           rw [hw3] at HB3 ⊢
           clear hw3
           obtain ⟨j1,j2,j3,j4,j5,j6,j7⟩:=HL3.out w3 HB3.out
           rw [HSL.out] at j7
           have H119:=Lib.hid (H119A.out w3 HB3.out)
           have hw3a:=cell_lt j6
           have hw3b:=cell_lt j3
           go_wp2_with fail
           have hcl:=fun d os b' o' h=>(below_regrown w3 d os).cell (p:=⟨b',o',none⟩) h
           refine wp_region_quiet_below mixed (by kernel_rfl) ?_
           repeat (first | go_big_quiet_skip | quiet_step (with_reducible exact H119.out _ _))
           refine wpQuiet_nil ?_
           intro w4 hw'
           have HB4:=Lib.hid (below_then HB3.out (below_of_class hw'))
           clear hw' hcl
           go_wp2_with fail
           go_ret2
           have hb:=HW1.out.trans (HB4.out.mono HW1.out.size)
           exact ⟨by rw [HR.out];rfl,col,ws,rfl,by rw [HR.out];exact H.out.below hb,Went.below hb⟩
         · have HR:Hid (findR s m nm l=(findM m nm l,((fewN m.splits (m.marks.length - 1):Nat):Int),0)):=by
            show _=_
            rw [findR,if_pos (by rw [HFE.out,HSL.out,if_neg (by simp),if_neg (by have:=HB50.out;omega)])]
           have gA:¬ (400:Int)<(allN m.splits:Int)+(l.length:Int):=by omega
           go_enter Tryz.func42,Tryz.ntmps42
           go_wp2_with fail
           have hcl:=fun d os b' o' h=>(below_regrown (w.alloc (.cells #[.string src,.string nm,.slice va l.length vc] 88)) d os).cell (p:=⟨b',o',none⟩) h
           refine wp_region_quiet_below mixed (by kernel_rfl) ?_
           repeat (first | go_big_quiet_skip | quiet_step (with_reducible exact H50.out _ _))
           refine wpQuiet_nil ?_
           intro w2 hw'
           have HB2:=Lib.hid (below_of_class hw')
           clear hw' hcl
           go_wp2_with fail
           refine wp_region_float 9 0 (fun W=>Below w2.heap.size w2 W) mixed (by kernel_rfl) ((Below.refl w2.heap.size w2).drew) ?_
           simp only [List.take_succ_cons,List.take_zero,List.drop_succ_cons,List.drop_zero]
           repeat (
            refine wpFloat_ex (fun K hK=>?_)
            apply Exists.intro
            refine ⟨fun W hW=>?_,?_⟩
            · obtain ⟨k1,k2,k3,k4,k5,k6,k7⟩:=HL3.out W (below_then HB2.out hW)
              rw [HV.out] at k4
              clear hW
              go_simp
              rfl
            go_simp
            refine hK _ ?_
            clear hK K)
           refine wpFloat_nil ?_
           refine wpChain_nil ?_
           have HB3:Hid (Below (w.alloc (.cells #[.string src,.string nm,.slice va l.length vc] 88)).heap.size (w.alloc (.cells #[.string src,.string nm,.slice va l.length vc] 88)) w2.drew):=HB2.out.drew
           obtain ⟨w3,hw3⟩:∃ w3,w2.drew=w3:=⟨_,rfl⟩
           rw [hw3] at HB3 ⊢
           clear hw3
           obtain ⟨j1,j2,j3,j4,j5,j6,j7⟩:=HL3.out w3 HB3.out
           rw [HSL.out] at j7
           have H119:=Lib.hid (H119A.out w3 HB3.out)
           have hw3a:=cell_lt j6
           have hw3b:=cell_lt j3
           go_wp2_with fail
           have hcl:=fun d os b' o' h=>(below_regrown w3 d os).cell (p:=⟨b',o',none⟩) h
           refine wp_region_quiet_below mixed (by kernel_rfl) ?_
           repeat (first | go_big_quiet_skip | quiet_step (with_reducible exact H119.out _ _))
           refine wpQuiet_nil ?_
           intro w4 hw'
           have HB4:=Lib.hid (below_then HB3.out (below_of_class hw'))
           clear hw' hcl
           have hb4:=HW1.out.trans (HB4.out.mono HW1.out.size)
           have H4:=Lib.hid (H.out.below hb4)
           have HW4:=Lib.hid hb4
           have hX4:=(HB4.out.block _ (heap_lt HX1.out)).trans HX1.out
           obtain ⟨l1,l2,l3,l4,l5,l6,l7⟩:=HL3.out w4 HB4.out
           have HG:=Lib.hid (f120_any w4 m.bound HOK.out.bound.1 HOK.out.bound.2)
           unfold ptr at HG
           have hw5:Below w4.heap.size w4 (w4.alloc (.cells #[.int .i64 m.bound,.int .i64 (-1000000000000),.bool false] 215)):=(Below.refl _ _).alloc (Nat.le_refl _) _
           have hX5:=(hw5.block _ (heap_lt hX4)).trans hX4
           have HX5:=Lib.hid hX5
           have HW5:=Lib.hid hw5
           clear hb4 hX4 hX5 hw5
           go_wp2_with (first
            | (go_at_call 120;(with_reducible refine HG.out.mono ?_);rintro e w5 ⟨rfl,rfl⟩))
           have hG5:(w4.alloc (.cells #[.int .i64 m.bound,.int .i64 (-1000000000000),.bool false] 215)).heap[w4.heap.size]? = some (.cells #[.int .i64 m.bound,.int .i64 (-1000000000000),.bool false] 215 (0,0)):=heap_alloc_new w4 _
           have hz5:(w4.alloc (.cells #[.int .i64 m.bound,.int .i64 (-1000000000000),.bool false] 215)).heap.size=w4.heap.size+1:=by simp
           obtain ⟨w5,hw5⟩:∃ w5,(w4.alloc (.cells #[.int .i64 m.bound,.int .i64 (-1000000000000),.bool false] 215))=w5:=⟨_,rfl⟩
           rw [hw5] at HX5 HW5 hG5 hz5 ⊢
           clear hw5 l1 l2 l3 l4 l5 l6 l7 j1 j2 j3 j4 j5 j6 j7
           have HG5:=Lib.hid hG5
           have HZ5:=Lib.hid hz5
           obtain ⟨-,y1,y2⟩:=cells3 HX5.out
           have hXlt:=heap_lt HX5.out
           have HC0:Hid (Below w5.heap.size w5 w5.drew):=(Below.refl w5.heap.size w5).drew
           have hbw5:Below w.heap.size w w5:=HW4.out.trans (HW5.out.mono HW4.out.size)
           have HBW5:=Lib.hid hbw5
           have H62:=Lib.hid (f62_any hm w5.drew (Calm w col) (.slice va l.length vc) l (HL.out.below hbw5.drew) HRW.out (by omega))
           have H78A:=Lib.hid (fun (W:World) (hb:Below w5.heap.size w5 W)=>f78_any hm W col s ws m (H4.out.below (HW5.out.trans (hb.mono HW5.out.size))) HOK.out)
           unfold ptr at H78A
           clear hG5 hz5 hbw5
           go_region_held3 (fun W=>W.cell? ⟨w.heap.size,1,none⟩=some (.string nm)∧W.cell? ⟨w.heap.size,2,none⟩=some (.slice va l.length vc)) (go_keep) (first
            | (go_at_call 62;(with_reducible refine H62.out.mono ?_);rintro e w6 ⟨r,be,rfl,ho⟩
               obtain ⟨ra,rn,rc,rfl⟩:∃ a n c,r=.slice a n c:=by obtain ⟨a,c,h⟩:=ho.own.form;exact ⟨a,_,c,h⟩
               have hb6:Below w5.heap.size w5 w6:=HC0.out.trans ho.below
               have u1:w6.cell? ⟨w.heap.size,1,none⟩=some (.string nm):=by rw [hb6.cell (p:=⟨w.heap.size,1,none⟩) hXlt];exact y1
               have u2:w6.cell? ⟨w.heap.size,2,none⟩=some (.slice va l.length vc):=by rw [hb6.cell (p:=⟨w.heap.size,2,none⟩) hXlt];exact y2
               have HO:=Lib.hid ho;have HB6:=Lib.hid hb6;have H78:=Lib.hid (H78A.out w6 hb6);clear ho hb6)
            | (go_at_call 78;(with_reducible refine H78.out.mono ?_);rintro e w7 ⟨rfl,hb⟩
               have hb7:Below w5.heap.size w5 w7:=below_then HB6.out hb
               have u3:w7.cell? ⟨w.heap.size,1,none⟩=some (.string nm):=by rw [hb7.cell (p:=⟨w.heap.size,1,none⟩) hXlt];exact y1
               have u4:w7.cell? ⟨w.heap.size,2,none⟩=some (.slice va l.length vc):=by rw [hb7.cell (p:=⟨w.heap.size,2,none⟩) hXlt];exact y2
               have HB7:=Lib.hid hb7;have HB67:=Lib.hid hb;clear hb hb7))
           obtain ⟨qs,hqs,hqo,hqr⟩:=HO.out.own
           have hrn:rn=l.length:=by obtain ⟨a',c',e⟩:=hqo.form;injection e
           subst hrn
           have HQS:=Lib.hid hqs;have HQO:=Lib.hid hqo;have HQR:=Lib.hid hqr
           clear hqs hqo hqr u1 u2 u3 u4 y1 y2
           obtain ⟨i1,hi1,hz10,hz11,hz12⟩:=info_parts info126
           have hX8:(w7.alloc (.cells #[.string nm,.slice ra l.length rc,.int .i64 0,.pointer (some ⟨w4.heap.size,0,none⟩),.bool false,.int .i64 (fewN m.splits (m.marks.length - 1):Nat)] 129)).heap[w7.heap.size]? = some (.cells #[.string nm,.slice ra l.length rc,.int .i64 0,.pointer (some ⟨w4.heap.size,0,none⟩),.bool false,.int .i64 (fewN m.splits (m.marks.length - 1):Nat)] 129 (0,0)):=heap_alloc_new w7 _
           have hb8:Below w5.heap.size w5 (w7.alloc (.cells #[.string nm,.slice ra l.length rc,.int .i64 0,.pointer (some ⟨w4.heap.size,0,none⟩),.bool false,.int .i64 (fewN m.splits (m.marks.length - 1):Nat)] 129)):=HB7.out.alloc HB7.out.size _
           have hz8:(w7.alloc (.cells #[.string nm,.slice ra l.length rc,.int .i64 0,.pointer (some ⟨w4.heap.size,0,none⟩),.bool false,.int .i64 (fewN m.splits (m.marks.length - 1):Nat)] 129)).heap.size=w7.heap.size+1:=by simp
           obtain ⟨w8,hw8⟩:∃ w8,w7.alloc (.cells #[.string nm,.slice ra l.length rc,.int .i64 0,.pointer (some ⟨w4.heap.size,0,none⟩),.bool false,.int .i64 (fewN m.splits (m.marks.length - 1):Nat)] 129)=w8:=⟨_,rfl⟩
           have hb68:Below w6.heap.size w6 (w7.alloc (.cells #[.string nm,.slice ra l.length rc,.int .i64 0,.pointer (some ⟨w4.heap.size,0,none⟩),.bool false,.int .i64 (fewN m.splits (m.marks.length - 1):Nat)] 129)):=HB67.out.alloc HB67.out.size _
           rw [hw8] at hX8 hb8 hz8 hb68 ⊢
           have HB68:=Lib.hid hb68
           clear hw8 hb68
           have hb48:=HW5.out.trans (hb8.mono HW5.out.size)
           have h8:=H4.out.below hb48
           obtain ⟨_,_,q2,_,_,_,_⟩:=h8.cells
           rw [espl] at q2
           have hS8:=h8.hS
           rw [espl] at hS8
           have hz58:=hb8.size
           have HX8:=Lib.hid hX8;have HZ8:=Lib.hid hz8;have HB8:=Lib.hid hb8;have H8:=Lib.hid h8;have HS8:=Lib.hid hS8
           have howna:SlOwn (w8.alloc (.cells #[.pointer (some ⟨w7.heap.size,0,none⟩)] 126)) 126 1 (.slice spa m.splits.length spc) m.splits.length ((List.range m.splits.length).map fun k=>ptr (ws.xb k)) ws.sb:=hS8.keep fun g hg=>Below.heap_alloc _ _ _ (hS8.lt_of hg)
           have hsrc:Src (w8.alloc (.cells #[.pointer (some ⟨w7.heap.size,0,none⟩)] 126)) 1 (.slice (some ⟨w8.heap.size,0,none⟩) 1 1) 1 [ptr w7.heap.size] :=
            SlOwn.src (e:=126) (blk:=some w8.heap.size) ⟨rfl,.inr ⟨_,0,1,_,rfl,rfl,World.alloc_heap_new w8 _,Nat.le_refl _,by simp [maxLen],by simp,rfl⟩⟩
           have HOWNA:=Lib.hid howna;have HSRC:=Lib.hid hsrc
           have HNX:Hid (∀ w10 sb',(w8.alloc (.cells #[.pointer (some ⟨w7.heap.size,0,none⟩)] 126)).grownBy w10 ws.sb→(sb'=ws.sb∨sb'=some (w8.alloc (.cells #[.pointer (some ⟨w7.heap.size,0,none⟩)] 126)).heap.size) →
            (∀ b o,w8.heap[b]? = some o→ws.sb≠some b→w10.heap[b]? = some o)∧w8.heap.size≤w10.heap.size∧(∀ b,sb'=some b→ws.sb=some b∨b=w8.heap.size+1)):=by
            intro w10 sb' hg hat
            refine ⟨fun b o hb hne=>(hg.block b (by have:=heap_lt hb;simp;omega) (fun e=>hne e.symm)).trans (alloc_keep hb),by have:=hg.size;simp at this;omega,fun b hb=>?_⟩
            rcases hat with e | e
            · exact .inl (e ▸ hb)
            · rw [hb] at e;injection e with e;simp at e;exact .inr e
           have hmpw:=h8.cM
           have hWc:=h8.cW
           have hsbc:∀ b,ws.sb=some b→col b=2:=h8.cS
           have hc0:∀ b,col b≠0→b<w4.heap.size:=H4.out.c0
           have hbxc:col w7.heap.size=0:=by
            rcases Nat.eq_zero_or_pos (col w7.heap.size) with e | e
            · exact e
            · have h1:=hc0 w7.heap.size (by omega);have h2:=HW5.out.size;have h3:=HB7.out.size;omega
           clear hS8 howna hsrc h8 hb48 hb8 hX8 hz8
           have HHS:=Lib.hid hsbc
           clear hsbc
           go_wp2_with (at_builtin
                        refine wpList_append_S rfl (.tmp 73) (.tmp 75) 96 rfl 126 i1 _ 1 8 Tryz.underlying96 hi1 hz10 hz11 hz12 rfl (by omega) (.slice spa m.splits.length spc) m.splits.length ((List.range m.splits.length).map fun k=>ptr (ws.xb k)) ws.sb rfl HOWNA.out (.slice (some ⟨w8.heap.size,0,none⟩) 1 1) 1 [ptr w7.heap.size] rfl HSRC.out (fun u hu=>by rw [List.mem_singleton] at hu;subst hu;rfl) (by simp only [maxLen];omega) (by omega) ?_
                        intro v10 w10 sb' h1 h2 h3
                        obtain ⟨a10,c10,rfl⟩:=h1.form
                        obtain ⟨n1,n2,n3⟩:=HNX.out w10 sb' h2 h3
                        have hW10:=n1 ws.W _ H8.out.hW (fun e=>by have:=HHS.out _ e;omega)
                        have hX10:=n1 w7.heap.size _ HX8.out (fun e=>by have:=HHS.out _ e;omega)
                        have hM10:=n1 ws.mp _ H8.out.hM (fun e=>by have:=HHS.out _ e;omega)
                        have r2:=cells_at hW10 2
                        have rf2:w10.frozen? ⟨ws.W,2,none⟩=false:=by simp [World.frozen?,hW10]
                        have H1:=Lib.hid h1;have H2:=Lib.hid h2;have N1:=Lib.hid n1;have N2:=Lib.hid n2;have N3:=Lib.hid n3;have HW10:=Lib.hid hW10;have HX10:=Lib.hid hX10;have HM10:=Lib.hid hM10
                        clear h1 h2 h3 n1 n2 n3 hW10 hX10 hM10)
           have hWm:ws.W≠ws.mp:=fun e=>by rw [e] at hWc;omega
           have hWx:ws.W≠w7.heap.size:=fun e=>by rw [e] at hWc;omega
           have hmx:ws.mp≠w7.heap.size:=fun e=>by rw [e] at hmpw;omega
           have hW11:(w10.setCell ⟨ws.W,2,none⟩ (.slice a10 (m.splits.length+1) c10)).heap[ws.W]? = some (.cells #[ws.sch,.int .i64 m.bound,.slice a10 (m.splits.length+1) c10,.map (some ws.mp),ws.rd,.bool m.sealed,ws.late] 99 (0,0)):=by simpa using heap_set (j:=2) HW10.out (.slice a10 (m.splits.length+1) c10)
           have hX11:=(heap_set_ne (w:=w10) (g:=ws.W) (j:=2) (.slice a10 (m.splits.length+1) c10) (Ne.symm hWx)).trans HX10.out
           have hM11:=(heap_set_ne (w:=w10) (g:=ws.W) (j:=2) (.slice a10 (m.splits.length+1) c10) (Ne.symm hWm)).trans HM10.out
           have hk11:∀ b o,w8.heap[b]? = some o→b≠ws.W→ws.sb≠some b→(w10.setCell ⟨ws.W,2,none⟩ (.slice a10 (m.splits.length+1) c10)).heap[b]? = some o:=fun b o hb h1 h2=>(heap_set_ne _ h1).trans (N1.out b o hb h2)
           have hz11:(w10.setCell ⟨ws.W,2,none⟩ (.slice a10 (m.splits.length+1) c10)).heap.size=w10.heap.size:=by simp
           have hS11:=H1.out.keep (w':=(w10.setCell ⟨ws.W,2,none⟩ (.slice a10 (m.splits.length+1) c10))) fun g hg=>heap_set_ne _ (by
            rintro rfl
            rcases N3.out _ hg with e | e
            · have:=HHS.out _ e;omega
            · have h1:=hc0 ws.W (by omega);have h2:=HB8.out.size;have h3:=HW5.out.size;omega)
           have henv:(w10.setCell ⟨ws.W,2,none⟩ (.slice a10 (m.splits.length+1) c10)).os=w4.os∧(w10.setCell ⟨ws.W,2,none⟩ (.slice a10 (m.splits.length+1) c10)).tape=w4.tape∧(w10.setCell ⟨ws.W,2,none⟩ (.slice a10 (m.splits.length+1) c10)).output=w4.output:=by
            have hb:=HW5.out.trans (HB8.out.mono HW5.out.size)
            exact ⟨H2.out.os.trans hb.os,H2.out.tape.trans hb.tape,H2.out.output.trans hb.output⟩
           obtain ⟨w11,hw11⟩:∃ w11,(w10.setCell ⟨ws.W,2,none⟩ (.slice a10 (m.splits.length+1) c10))=w11:=⟨_,rfl⟩
           rw [hw11] at hW11 hX11 hM11 hk11 hz11 hS11 henv ⊢
           have HENV:=Lib.hid henv
           clear hw11 henv
           have HW11:=Lib.hid hW11;have HX11:=Lib.hid hX11;have HM11:=Lib.hid hM11;have HK11:=Lib.hid hk11;have HZ11:=Lib.hid hz11;have HS11:=Lib.hid hS11
           have hst:=store_p w11.drew ws.mp ws.clock nm (.pointer (some ⟨w7.heap.size,0,none⟩)) H8.out.ents hM11 HVN.out
           have HLF:Hid (∀ W,Below w11.heap.size w11 W→W.cell? ⟨ws.W,3,none⟩=some (.map (some ws.mp))∧W.cell? ⟨w7.heap.size,0,none⟩=some (.string nm)) :=
            fun W hb=>⟨cells_at ((hb.block _ (heap_lt HW11.out)).trans HW11.out) 3,cells_at ((hb.block _ (heap_lt HX11.out)).trans HX11.out) 0⟩
           clear hk11 hz11 hS11 hM11 hW11 hX11 r2 rf2
           refine wp_region_float 9 0 (fun W=>Below w11.heap.size w11 W) mixed (by kernel_rfl) ((Below.refl w11.heap.size w11).drew) ?_
           simp only [List.take_succ_cons,List.take_zero,List.drop_succ_cons,List.drop_zero]
           repeat (
            refine wpFloat_ex (fun K hK=>?_)
            apply Exists.intro
            refine ⟨fun W hW=>?_,?_⟩
            · obtain ⟨k1,k2⟩:=HLF.out W hW
              clear hW
              go_simp
              rfl
            go_simp
            refine hK _ ?_
            clear hK K)
           refine wpFloat_nil ?_
           refine wpChain_step (fun K hK=>?_)
           go_simp
           refine hK _ _ rfl (fun h=>by omega) ?_
           clear hK K
           refine wpChain_nil ?_
           have hmplt:=heap_lt HM11.out
           obtain ⟨w12,hw12⟩:∃ w12,w11.drew.putObj ws.mp (.map (ws.ents.push { key:=.string nm,val:=.pointer (some ⟨w7.heap.size,0,none⟩),born:=ws.clock }) (ws.clock+1))=w12:=⟨_,rfl⟩
           have hM12:w12.heap[ws.mp]? = some (.map (ws.ents.push { key:=.string nm,val:=.pointer (some ⟨w7.heap.size,0,none⟩),born:=ws.clock }) (ws.clock+1)):=by rw [← hw12];exact World.putObj_heap_same hmplt
           have hk12:∀ b,b≠ws.mp→w12.heap[b]? = w11.heap[b]? := fun b hb=>by rw [← hw12];exact World.putObj_heap_other hb
           have hz12:w12.heap.size=w11.heap.size:=by rw [← hw12];simp [World.putObj]
           have ho12:w12.os=w11.os∧w12.tape=w11.tape∧w12.output=w11.output:=by rw [← hw12];exact ⟨rfl,rfl,rfl⟩
           rw [hw12]
           clear hw12 hst
           have hX12:=(hk12 w7.heap.size (Ne.symm hmx)).trans HX11.out
           have x5:=cells_at hX12 5
           have HX12:=Lib.hid hX12;have HM12:=Lib.hid hM12;have HK12:=Lib.hid hk12;have HZ12:=Lib.hid hz12;have HO12:=Lib.hid ho12
           clear hX12 hM12 hk12 hz12 ho12
           go_wp2_with fail
           go_ret2
           have z5:=HZ5.out
           have z6:w5.heap.size≤w6.heap.size:=HB6.out.size
           have z7:w6.heap.size≤w7.heap.size:=HB67.out.size
           have z8:=HZ8.out
           have z10:=N2.out
           have z11:=HZ11.out
           have z12:=HZ12.out
           have hbe:∀ b,be=some b→w5.heap.size≤b∧b<w6.heap.size:=fun b hb=>⟨HO.out.new b hb,HQO.out.lt_of hb⟩
           have hsb':∀ b,sb'=some b→(ws.sb=some b∧col b=2∧b<w4.heap.size)∨b=w8.heap.size+1:=fun b hb=>by
            rcases N3.out b hb with e | e
            · have h2:=HHS.out b e
              exact .inl ⟨e,h2,hc0 b (by omega)⟩
            · exact .inr e
           have hW4:=hc0 ws.W (by omega)
           have hM4:=hc0 ws.mp (by omega)
           have hkn:∀ b o,w8.heap[b]? = some o→b≠ws.W→b≠ws.mp→ws.sb≠some b→w12.heap[b]? = some o:=fun b o hb h1 h2 h3=>(HK12.out b h2).trans (HK11.out b o hb h1 h3)
           have hcol:∀ b,b<w4.heap.size→(paint (paint (paint (paint col sb' 2) be (8 * m.splits.length+10)) (some w4.heap.size) (8 * m.splits.length+9)) (some w7.heap.size) (8 * m.splits.length+8)) b=col b:=fun b hb=>by
            unfold paint
            rw [if_neg (by intro e;injection e with e;omega),if_neg (by intro e;injection e with e;omega),if_neg (by intro e;have:=hbe b e;omega)]
            split
            · rename_i e
              rcases hsb' b e with h | h
              · exact h.2.1.symm
              · omega
            · rfl
           have hone:Only (fun b=>b=ws.W∨b=ws.mp∨ws.sb=some b) w4 w12:=by
            obtain ⟨o1,o2,o3⟩:=HO12.out
            have hg:=(Only.of_below (S:=fun b=>b=ws.W∨b=ws.mp∨ws.sb=some b) (HW5.out.trans (HB8.out.mono HW5.out.size)))
            have hg1:w11.os=w4.os∧w11.tape=w4.tape∧w11.output=w4.output:=HENV.out
            refine ⟨o1.trans hg1.1,o2.trans hg1.2.1,o3.trans hg1.2.2,by have:=HW5.out.size;have:=HB8.out.size;omega,fun b hb hn=>?_⟩
            have h8:w8.heap[b]? = w4.heap[b]? := (HB8.out.block b (by omega)).trans (HW5.out.block b hb)
            obtain ⟨o,ho⟩:∃ o,w8.heap[b]? = some o:=⟨_,Array.getElem?_eq_getElem (by have:=HB8.out.size;omega)⟩
            rw [← h8,ho]
            exact hkn b o ho (fun e=>hn (.inl e)) (fun e=>hn (.inr (.inl e))) (fun e=>hn (.inr (.inr e)))
           have hkept:Kept w4 w12 col (paint (paint (paint (paint col sb' 2) be (8 * m.splits.length+10)) (some w4.heap.size) (8 * m.splits.length+9)) (some w7.heap.size) (8 * m.splits.length+8)) (fun c=>c=1∨c=2∨c=3):=by
            refine ⟨hone.size,hcol,fun b hb hn=>hone.block b hb (fun e=>?_),fun b hb=>?_⟩
            · rcases e with rfl | rfl | e
              · exact hn (.inl hWc)
              · exact hn (.inr (.inr hmpw))
              · exact hn (.inr (.inl (HHS.out b e)))
            · unfold paint at hb
              by_cases e1:some w7.heap.size=some b
              · injection e1 with e1;omega
              · rw [if_neg e1] at hb
                by_cases e2:some w4.heap.size=some b
                · injection e2 with e2;omega
                · rw [if_neg e2] at hb
                  by_cases e3:be=some b
                  · have:=hbe b e3;omega
                  · rw [if_neg e3] at hb
                    by_cases e4:sb'=some b
                    · rcases hsb' b e4 with h | h
                      · omega
                      · have:=HS11.out.lt_of e4;omega
                    · rw [if_neg e4] at hb
                      have:=hc0 b hb;omega
           have hnew0:∀ b,w5.heap.size≤b→col b=0:=fun b hb=>by
            rcases Nat.eq_zero_or_pos (col b) with e | e
            · exact e
            · have:=hc0 b (by omega);omega
           have hG12:w12.heap[w4.heap.size]? = some (.cells #[.int .i64 m.bound,.int .i64 (-1000000000000),.bool false] 215 (0,0)) :=
            hkn _ _ ((HB8.out.block w4.heap.size (by omega)).trans HG5.out) (by omega) (by omega) (fun e=>by have:=hc0 w4.heap.size (by rw [HHS.out _ e];omega);omega)
           have hW12:w12.heap[ws.W]? = some (.cells #[ws.sch,.int .i64 m.bound,.slice a10 (m.splits.length+1) c10,.map (some ws.mp),ws.rd,.bool m.sealed,ws.late] 99 (0,0)):=(HK12.out ws.W hWm).trans HW11.out
           have hS12:=HS11.out.keep (w':=w12) fun g hg=>HK12.out g (by
            rintro rfl
            rcases hsb' _ hg with h | h
            · have:=h.2.1;omega
            · omega)
           have hev12:EvsOwn w12 (Calm w12 (paint (paint (paint (paint col sb' 2) be (8 * m.splits.length+10)) (some w4.heap.size) (8 * m.splits.length+9)) (some w7.heap.size) (8 * m.splits.length+8))) (.slice ra l.length rc) l be:=by
            refine ⟨qs,HQS.out,HQO.out.keep fun g hg=>?_,fun p hp=>?_⟩
            · have hgb:=hbe g hg
              obtain ⟨o,ho⟩:∃ o,w6.heap[g]? = some o:=⟨_,Array.getElem?_eq_getElem hgb.2⟩
              rw [ho]
              exact hkn g o (((HB68.out.block g hgb.2)).trans ho) (by omega) (by omega) (fun e=>by have h1:=HHS.out g e;have h2:=hnew0 g hgb.1;omega)
            · have hD:∀ b,(w5.drew.heap.size≤b∧b<w6.heap.size∧be≠some b)→w5.heap.size≤b:=fun b hb=>hb.1
              refine ((HQR.out p hp).keep fun b hb hlt'=>?_).mono fun b hb=>⟨by have:=hb.2.1;omega,?_⟩
              · have hbb:=hD b hb
                obtain ⟨o,ho⟩:∃ o,w6.heap[b]? = some o:=⟨_,Array.getElem?_eq_getElem hlt'⟩
                rw [ho]
                exact hkn b o ((HB68.out.block b hlt').trans ho) (by omega) (by omega) (fun e=>by have h1:=HHS.out b e;have h2:=hnew0 b hbb;omega)
              · have hbb:=hD b hb
                have hb2:=hb.2.1
                unfold paint
                rw [if_neg (by intro e;injection e with e;omega),if_neg (by intro e;injection e with e;omega),if_neg hb.2.2,if_neg (by
                 intro e
                 rcases hsb' b e with h | h
                 · omega
                 · omega)]
                exact hnew0 b hbb
           have hfin:=H4.out.addSplit (x:=(⟨nm,fewN m.splits (m.marks.length - 1),l,0,-1000000000000,false⟩:SpM)) (bx:=w7.heap.size) (bg:=w4.heap.size) (ev:=.slice ra l.length rc) (be:=be) (spl:=.slice a10 (m.splits.length+1) c10) (sb:=sb') (en:=(ws.ents.push { key:=.string nm,val:=.pointer (some ⟨w7.heap.size,0,none⟩),born:=ws.clock })) (ck:=ws.clock+1) hkept rfl
            (by unfold paint;rw [if_pos rfl]) (by unfold paint;rw [if_neg (by intro e;injection e with e;omega),if_pos rfl])
            (fun b hb=>by unfold paint;rw [if_neg (by intro e;injection e with e;have:=hbe b hb;omega),if_neg (by intro e;injection e with e;have:=hbe b hb;omega),if_pos hb])
            (fun b hb=>by
              unfold paint
              rcases hsb' b hb with h | h
              · rw [if_neg (by intro e;injection e with e;omega),if_neg (by intro e;injection e with e;omega),if_neg (by intro e;have:=hbe b e;omega),if_pos hb]
              · rw [if_neg (by intro e;injection e with e;omega),if_neg (by intro e;injection e with e;omega),if_neg (by intro e;have:=hbe b e;omega),if_pos hb])
            hW12 hS12 HX12.out hG12 hev12 HM12.out (H4.out.ents.push nm (ptr w7.heap.size) ws.clock)
           refine ⟨by rw [HR.out];rfl,(paint (paint (paint (paint col sb' 2) be (8 * m.splits.length+10)) (some w4.heap.size) (8 * m.splits.length+9)) (some w7.heap.size) (8 * m.splits.length+8)),{ ws with spl:=.slice a10 (m.splits.length+1) c10,sb:=sb',xb:=updF ws.xb m.splits.length w7.heap.size,gb:=updF ws.gb m.splits.length w4.heap.size,ev:=updF ws.ev m.splits.length (.slice ra l.length rc),eb:=updF ws.eb m.splits.length be,ents:=(ws.ents.push { key:=.string nm,val:=.pointer (some ⟨w7.heap.size,0,none⟩),born:=ws.clock }),clock:=ws.clock+1 },rfl,by rw [HR.out];exact hfin,?_⟩
           refine Went.trans (Went.below HW4.out) ⟨hone.mono fun b _ e=>?_,hcol⟩
           rcases e with rfl | rfl | e
           · rw [hWc];omega
           · rw [hmpw];omega
           · rw [HHS.out b e];omega
     · have HR:Hid (findR s m nm l=(m,0,10)):=findR_err (by rw [HFE.out,HSL.out];rfl) (by omega)
       go_enter Tryz.func42,Tryz.ntmps42
       go_wp2_with fail
       have hcl:=fun d os b' o' h=>(below_regrown (w.alloc (.cells #[.string src,.string nm,.slice va l.length vc] 88)) d os).cell (p:=⟨b',o',none⟩) h
       refine wp_region_quiet_below mixed (by kernel_rfl) ?_
       repeat (first | go_big_quiet_skip | quiet_step (with_reducible exact H50.out _ _))
       refine wpQuiet_nil ?_
       intro w2 hw'
       have HB2:=Lib.hid (below_of_class hw')
       clear hw' hcl
       go_wp2_with fail
       refine wp_region_float 9 0 (fun W=>Below w2.heap.size w2 W) mixed (by kernel_rfl) ((Below.refl w2.heap.size w2).drew) ?_
       simp only [List.take_succ_cons,List.take_zero,List.drop_succ_cons,List.drop_zero]
       repeat (
        refine wpFloat_ex (fun K hK=>?_)
        apply Exists.intro
        refine ⟨fun W hW=>?_,?_⟩
        · obtain ⟨k1,k2,k3,k4,k5,k6,k7⟩:=HL3.out W (below_then HB2.out hW)
          rw [HV.out] at k4
          clear hW
          go_simp
          rfl
        go_simp
        refine hK _ ?_
        clear hK K)
       refine wpFloat_nil ?_
       refine wpChain_nil ?_
       have HB3:Hid (Below (w.alloc (.cells #[.string src,.string nm,.slice va l.length vc] 88)).heap.size (w.alloc (.cells #[.string src,.string nm,.slice va l.length vc] 88)) w2.drew):=HB2.out.drew
       obtain ⟨w3,hw3⟩:∃ w3,w2.drew=w3:=⟨_,rfl⟩
       rw [hw3] at HB3 ⊢
       clear hw3
       obtain ⟨-,-,-,-,-,-,k7⟩:=HL3.out w3 HB3.out
       rw [HSL.out] at k7
       go_wp2_with fail
       go_ret2
       have hb:=HW1.out.trans (HB3.out.mono HW1.out.size)
       exact ⟨by rw [HR.out];rfl,col,ws,rfl,by rw [HR.out];exact H.out.below hb,Went.below hb⟩
   · have hi':findI m.splits nm=k:=hi
     have HV:Hid ((valS (namesW m.splits ws.xb) nm).getD (.pointer none)=.pointer (some ⟨ws.xb k,0,none⟩)):=by show _=_;rw [valS_some hi'];rfl
     have HR:Hid (findR s m nm l=(m,0,6)):=findR_err (by rw [findE,hsb,if_neg (by simp),if_pos (by omega)]) (by omega)
     clear hi hi' hsb
     go_enter Tryz.func42,Tryz.ntmps42
     go_wp2_with fail
     have hcl:=fun d os b' o' h=>(below_regrown (w.alloc (.cells #[.string src,.string nm,.slice va l.length vc] 88)) d os).cell (p:=⟨b',o',none⟩) h
     refine wp_region_quiet_below mixed (by kernel_rfl) ?_
     repeat (first | go_big_quiet_skip | quiet_step (with_reducible exact H50.out _ _))
     refine wpQuiet_nil ?_
     intro w2 hw'
     have HB2:=Lib.hid (below_of_class hw')
     clear hw' hcl
     go_wp2_with fail
     refine wp_region_float 9 0 (fun W=>Below w2.heap.size w2 W) mixed (by kernel_rfl) ((Below.refl w2.heap.size w2).drew) ?_
     simp only [List.take_succ_cons,List.take_zero,List.drop_succ_cons,List.drop_zero]
     repeat (
      refine wpFloat_ex (fun K hK=>?_)
      apply Exists.intro
      refine ⟨fun W hW=>?_,?_⟩
      · obtain ⟨k1,k2,k3,k4,k5,k6,k7⟩:=HL3.out W (below_then HB2.out hW)
        rw [HV.out] at k4
        clear hW
        go_simp
        rfl
      go_simp
      refine hK _ ?_
      clear hK K)
     refine wpFloat_nil ?_
     refine wpChain_nil ?_
     have HB3:Hid (Below (w.alloc (.cells #[.string src,.string nm,.slice va l.length vc] 88)).heap.size (w.alloc (.cells #[.string src,.string nm,.slice va l.length vc] 88)) w2.drew):=HB2.out.drew
     obtain ⟨w3,hw3⟩:∃ w3,w2.drew=w3:=⟨_,rfl⟩
     rw [hw3] at HB3 ⊢
     clear hw3
     go_wp2_with fail
     go_ret2
     have hb:=HW1.out.trans (HB3.out.mono HW1.out.size)
     exact ⟨by rw [HR.out];rfl,col,ws,rfl,by rw [HR.out];exact H.out.below hb,Went.below hb⟩
end leaves
end Go.Proofs.YtimahogkcmmcnaaGreatDoor
