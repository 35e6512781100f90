/-
 The well, part 50: the reference's offsets. If the well lies in the world as the words say.
-/
import Derived.Test.YtimahogkcmmcnaaGreatDoorL20
import Derived.Test.YtimahogkcmmcnaaGreatDoorL13
import Derived.Deep.RegionHeld3
set_option linter.unusedSimpArgs false
set_option linter.unusedVariables false
namespace Go.Proofs.YtimahogkcmmcnaaGreatDoor
open Go.RowKit Go.Proofs.YtimahogkcmmcnaaGreatDoor.Cmps
theorem Two.next {w w' w3:World} {e1 e2:TypeId} {v1 v2:Value} {xs1 xs2:List Value} {b1 b2:Option Nat} (h:Two w w' e1 e2 v1 v2 xs1 xs2 b1 b2) (hb:Below w'.heap.size w' w3):Two w w3 e1 e2 v1 v2 xs1 xs2 b1 b2 :=
 ⟨h.own1.keep fun g hg=>hb.block g (h.own1.lt_of hg),h.own2.keep fun g hg=>hb.block g (h.own2.lt_of hg),h.new1,h.new2,h.apart,h.below.trans (hb.mono h.below.size)⟩
theorem Two.add0 {w w' w3:World} {e1 e2:TypeId} {v1 v2 v3:Value} {xs1 xs2:List Value} {b1 b2 b3:Option Nat} {x:Value} (h:Two w w' e1 e2 v1 v2 xs1 xs2 b1 b2) (ho:SlOwn w3 e1 1 v3 (xs1.length+1) (xs1 ++ [x]) b3)
 (hg:w'.grownBy w3 b1) (hat:b3=b1∨b3=some w'.heap.size):Two w w3 e1 e2 v3 v2 (xs1 ++ [x]) xs2 b3 b2:=by
 have hs:=h.below.size
 have hn:∀ g,b3=some g→b1=some g∨g=w'.heap.size:=fun g hgg=>by
  rcases hat with e | e
  · exact .inl (e ▸ hgg)
  · rw [hgg] at e;injection e with e;exact .inr e
 refine ⟨by simpa using ho,h.own2.keep fun g hgg=>?_,fun g hgg=>?_,h.new2,fun g hgg e=>?_,h.below.grown hg hs (fun q hq=>h.new1 q hq)⟩
 · have hlt:=h.own2.lt_of hgg
   exact hg.block g hlt (fun e=>h.apart g e.symm hgg)
 · rcases hn g hgg with e | e
   · exact h.new1 g e
   · omega
 · rcases hn g hgg with e' | e'
   · exact h.apart g e' e
   · have:=h.own2.lt_of e;omega
section leaves
set_option maxHeartbeats 2000000
set_option maxRecDepth 10000
theorem f67_any (hm:Tryz.prog.follows .mixedOrders=true) (w:World) (D:Nat→Prop) (s:List Col) (m:WlM) (p:RS) (h:RefAt w D s m p) (hok:WOk m) :
 Calls Tryz.prog 67 #[refV m p] w fun e w'=>∃ v1 v2,e=.returned (.tuple #[v1,v2])∧TextsAt w' (fun b=>w.heap.size≤b) v1 (m.splits.map SpM.name)∧NumsAt w' (fun b=>w.heap.size≤b) v2 (m.splits.map fun x=>(x.read:Int))∧Below w.heap.size w w':=by
 have mixed:=hm
 obtain ⟨i0,hi0,hz0,hz1,hz2⟩:=info_parts info9
 obtain ⟨k0,hk0,hy0,hy1,hy2⟩:=info_parts info3
 obtain ⟨sch,⟨sa,sc⟩,⟨ma,mc⟩,back⟩:=p
 obtain ⟨sha,shc,rfl⟩:∃ a c,sch=.slice a s.length c:=by obtain ⟨a,c,e,_⟩:=h.sch;exact ⟨a,c,e⟩
 obtain ⟨ba,bc,rfl⟩:∃ a c,back=.slice a m.late.length c:=by obtain ⟨a,c,e,_⟩:=h.back;exact ⟨a,c,e⟩
 have h50:=hok.splits
 have HS:=Lib.hid h.spl
 dsimp only at HS
 have hbx:(w.alloc (.cells #[.slice sha s.length shc,.int .i64 m.bound,.slice sa m.splits.length sc,.slice ma m.marks.length mc,.bool m.sealed,.slice ba m.late.length bc] 45)).heap[w.heap.size]? = some (.cells #[.slice sha s.length shc,.int .i64 m.bound,.slice sa m.splits.length sc,.slice ma m.marks.length mc,.bool m.sealed,.slice ba m.late.length bc] 45 (0,0)):=heap_alloc_new w _
 have hw1:Below w.heap.size w (w.alloc (.cells #[.slice sha s.length shc,.int .i64 m.bound,.slice sa m.splits.length sc,.slice ma m.marks.length mc,.bool m.sealed,.slice ba m.late.length bc] 45)):=(Below.refl _ _).alloc (Nat.le_refl _) _
 have HBX:=Lib.hid hbx
 have HW1:=Lib.hid hw1
 clear h hok hbx hw1
 go_enter Tryz.func67,Tryz.ntmps67
 go_wp2_with fail
 go_loopw [4,5,6] (fun u v i wr=>∃ (k:Nat) (b1 b2:Option Nat),k≤m.splits.length∧i=.int .i64 k∧Hid (Two (w.alloc (.cells #[.slice sha s.length shc,.int .i64 m.bound,.slice sa m.splits.length sc,.slice ma m.marks.length mc,.bool m.sealed,.slice ba m.late.length bc] 45)) wr 9 3 u v ((m.splits.take k).map fun x=>Value.string x.name) ((m.splits.take k).map fun x=>Value.int .i64 (x.read:Int)) b1 b2)) (fun _ _ i _=>m.splits.length - (intOf i).toNat)
 case atStart=>exact ⟨0,none,none,by omega,rfl,Lib.hid (Two.start _ _ 9 3 (Below.refl _ _))⟩
 case round =>
  obtain ⟨k,b1,b2,hk,rfl,hT⟩:=hrel
  obtain ⟨ua,uc,hu⟩:=hT.out.own1.form
  obtain ⟨va,vc,hv⟩:=hT.out.own2.form
  have hl1:((m.splits.take k).map fun x=>Value.string x.name).length=k:=by simp;omega
  have hl2:((m.splits.take k).map fun x=>Value.int .i64 (x.read:Int)).length=k:=by simp;omega
  rw [hl1] at hu
  rw [hl2] at hv
  subst hu hv
  have hbr:=hT.out.below
  have c2:wr.cell? ⟨w.heap.size,2,none⟩=some (.slice sa m.splits.length sc):=cells_at ((hbr.block _ (heap_lt HBX.out)).trans HBX.out) 2
  by_cases hlt:k<m.splits.length
  · have hbw:=HW1.out.trans (hbr.mono HW1.out.size)
    obtain ⟨g,o,e1,e2,rfl,hg,-,x0,-,-,x3,-,-⟩:=(HS.out.below hbw).at hlt
    have HT2:Hid (m.splits.take (k+1)=m.splits.take k ++ [m.splits[k]]):=(List.take_append_getElem hlt).symm
    have HCE0:Hid (∀ W,Below (w.alloc (.cells #[.slice sha s.length shc,.int .i64 m.bound,.slice (some ⟨g,o,none⟩) m.splits.length sc,.slice ma m.marks.length mc,.bool m.sealed,.slice ba m.late.length bc] 45)).heap.size (w.alloc (.cells #[.slice sha s.length shc,.int .i64 m.bound,.slice (some ⟨g,o,none⟩) m.splits.length sc,.slice ma m.marks.length mc,.bool m.sealed,.slice ba m.late.length bc] 45)) W→W.cell? ⟨w.heap.size,2,none⟩=some (.slice (some ⟨g,o,none⟩) m.splits.length sc)∧W.cell? ⟨g,o+k * 6,none⟩=some (.string m.splits[k].name)∧W.cell? ⟨g,o+k * 6+3,none⟩=some (.int .i64 m.splits[k].read)):=by
     intro W hb
     obtain ⟨_,_,_,_,q0,_,_,q3,_⟩:=(HS.out.below (HW1.out.trans (hb.mono HW1.out.size))).at' hlt
     exact ⟨cells_at ((hb.block _ (heap_lt HBX.out)).trans HBX.out) 2,q0,q3⟩
    generalize m.splits[k]=y at x0 x3 HT2 HCE0
    obtain ⟨nm,hnm⟩:∃ nm,y.name=nm:=⟨_,rfl⟩
    obtain ⟨rd,hrd⟩:∃ rd,y.read=rd:=⟨_,rfl⟩
    rw [hnm] at x0
    rw [hrd] at x3
    have hkl:(k:Int)<(m.splits.length:Int):=by omega
    have hk0':(0:Int)≤(k:Int):=by omega
    have hBl:=cell_lt c2
    have HT:=Lib.hid hT.out
    have hTd:=hT.out.next (w3:=wr.drew) (Below.refl wr.heap.size wr).drew
    have hzd:wr.drew.heap.size=wr.heap.size:=rfl
    have hTB:=hTd.next (w3:=wr.drew.alloc (.cells #[.string nm] 9)) ((Below.refl _ _).alloc (Nat.le_refl _) _)
    have hTC:=hTd.next (w3:=wr.drew.alloc (.cells #[.int .i64 (rd:Int)] 3)) ((Below.refl _ _).alloc (Nat.le_refl _) _)
    have hA:=hTd.alloc1 (.cells #[.string nm] 9)
    have hB:=hTB.alloc1 (.cells #[.int .i64 (rd:Int)] 3)
    have hC:=hTC.alloc1 (.cells #[.string nm] 9)
    rw [hl1] at hA hB hC
    have HA:=Lib.hid hA;have HB:=Lib.hid hB;have HC:=Lib.hid hC;have HTD:=Lib.hid hTd;have HTB:=Lib.hid hTB;have HTC:=Lib.hid hTC
    rw [hnm,hrd] at HCE0
    have hb1lt:∀ b,b1=some b→b<wr.heap.size:=fun b hb=>HT.out.own1.lt_of hb
    have HSA:Hid (Src (wr.drew.alloc (.cells #[.string nm] 9)) 1 (.slice (some ⟨wr.heap.size,0,none⟩) 1 1) 1 [.string nm]):=one_src _
    have HSB:Hid (Src ((wr.drew.alloc (.cells #[.string nm] 9)).alloc (.cells #[.int .i64 (rd:Int)] 3)) 1 (.slice (some ⟨wr.heap.size,0,none⟩) 1 1) 1 [.string nm]):=SlOwn.src (e:=9) (blk:=some wr.heap.size) ⟨rfl,.inr ⟨_,0,1,_,rfl,rfl,alloc_keep (World.alloc_heap_new wr.drew (.cells #[.string nm] 9)),Nat.le_refl _,by simp [maxLen],by simp,rfl⟩⟩
    have HSC:Hid (Src ((wr.drew.alloc (.cells #[.int .i64 (rd:Int)] 3)).alloc (.cells #[.string nm] 9)) 1 (.slice (some ⟨wr.heap.size+1,0,none⟩) 1 1) 1 [.string nm]):=by
     have:=one_src (w:=wr.drew.alloc (.cells #[.int .i64 (rd:Int)] 3)) (t:=9) (.string nm)
     show Src _ _ _ _ _
     simpa using this
    have HXA:Hid (∀ w1 v1 b3,SlOwn w1 9 1 v1 (k+1) (((m.splits.take k).map fun x=>Value.string x.name) ++ [.string nm]) b3→(wr.drew.alloc (.cells #[.string nm] 9)).grownBy w1 b1→(b3=b1∨b3=some (wr.drew.alloc (.cells #[.string nm] 9)).heap.size)→Two (w.alloc (.cells #[.slice sha s.length shc,.int .i64 m.bound,.slice (some ⟨g,o,none⟩) m.splits.length sc,.slice ma m.marks.length mc,.bool m.sealed,.slice ba m.late.length bc] 45)) w1 9 3 v1 (.slice va k vc) (((m.splits.take k).map fun x=>Value.string x.name) ++ [.string nm]) ((m.splits.take k).map fun x=>Value.int .i64 (x.read:Int)) b3 b2∧w1.cell? ⟨w.heap.size,2,none⟩=some (.slice (some ⟨g,o,none⟩) m.splits.length sc)∧w1.cell? ⟨g,o+k * 6,none⟩=some (.string nm)∧w1.cell? ⟨g,o+k * 6+3,none⟩=some (.int .i64 (rd:Int)) ∧
     SlOwn (w1.alloc (.cells #[.int .i64 (rd:Int)] 3)) 3 1 (.slice va k vc) k ((m.splits.take k).map fun x=>Value.int .i64 (x.read:Int)) b2∧Src (w1.alloc (.cells #[.int .i64 (rd:Int)] 3)) 1 (.slice (some ⟨w1.heap.size,0,none⟩) 1 1) 1 [.int .i64 (rd:Int)]):=by
     intro w1 v1 b3 h1 h2 h3
     have ht:=HTD.out.add1 (ob:=(.cells #[.string nm] 9)) (x:=.string nm) (by rw [hl1];exact h1) h2 h3
     obtain ⟨q1,q2,q3⟩:=HCE0.out w1 ht.below
     refine ⟨ht,q1,q2,q3,?_,?_⟩
     · have h5:=ht.swap.alloc1 (.cells #[.int .i64 (rd:Int)] 3);rw [hl2] at h5;exact h5
     · exact one_src _
    have HXB:Hid (∀ w1 v1 b3,SlOwn w1 9 1 v1 (k+1) (((m.splits.take k).map fun x=>Value.string x.name) ++ [.string nm]) b3→((wr.drew.alloc (.cells #[.string nm] 9)).alloc (.cells #[.int .i64 (rd:Int)] 3)).grownBy w1 b1→(b3=b1∨b3=some ((wr.drew.alloc (.cells #[.string nm] 9)).alloc (.cells #[.int .i64 (rd:Int)] 3)).heap.size)→Two (w.alloc (.cells #[.slice sha s.length shc,.int .i64 m.bound,.slice (some ⟨g,o,none⟩) m.splits.length sc,.slice ma m.marks.length mc,.bool m.sealed,.slice ba m.late.length bc] 45)) w1 9 3 v1 (.slice va k vc) (((m.splits.take k).map fun x=>Value.string x.name) ++ [.string nm]) ((m.splits.take k).map fun x=>Value.int .i64 (x.read:Int)) b3 b2∧w1.cell? ⟨w.heap.size,2,none⟩=some (.slice (some ⟨g,o,none⟩) m.splits.length sc)∧w1.cell? ⟨g,o+k * 6,none⟩=some (.string nm)∧w1.cell? ⟨g,o+k * 6+3,none⟩=some (.int .i64 (rd:Int)) ∧
     SlOwn w1 3 1 (.slice va k vc) k ((m.splits.take k).map fun x=>Value.int .i64 (x.read:Int)) b2∧Src w1 1 (.slice (some ⟨wr.heap.size+1,0,none⟩) 1 1) 1 [.int .i64 (rd:Int)]):=by
     intro w1 v1 b3 h1 h2 h3
     have ht:=HTB.out.add1 (ob:=(.cells #[.int .i64 (rd:Int)] 3)) (x:=.string nm) (by rw [hl1];exact h1) h2 h3
     obtain ⟨q1,q2,q3⟩:=HCE0.out w1 ht.below
     refine ⟨ht,q1,q2,q3,?_,?_⟩
     · have h5:=ht.own2;rw [hl2] at h5;exact h5
     · exact SlOwn.src (e:=3) (blk:=some (wr.heap.size+1)) ⟨rfl,.inr ⟨_,0,1,_,rfl,rfl,(h2.block (wr.heap.size+1) (by simp) (fun e=>by have:=hb1lt _ e.symm;omega)).trans (by simpa using World.alloc_heap_new (wr.drew.alloc (.cells #[.string nm] 9)) (.cells #[.int .i64 (rd:Int)] 3)),Nat.le_refl _,by simp [maxLen],by simp,rfl⟩⟩
    have HXC:Hid (∀ w1 v1 b3,SlOwn w1 9 1 v1 (k+1) (((m.splits.take k).map fun x=>Value.string x.name) ++ [.string nm]) b3→((wr.drew.alloc (.cells #[.int .i64 (rd:Int)] 3)).alloc (.cells #[.string nm] 9)).grownBy w1 b1→(b3=b1∨b3=some ((wr.drew.alloc (.cells #[.int .i64 (rd:Int)] 3)).alloc (.cells #[.string nm] 9)).heap.size)→Two (w.alloc (.cells #[.slice sha s.length shc,.int .i64 m.bound,.slice (some ⟨g,o,none⟩) m.splits.length sc,.slice ma m.marks.length mc,.bool m.sealed,.slice ba m.late.length bc] 45)) w1 9 3 v1 (.slice va k vc) (((m.splits.take k).map fun x=>Value.string x.name) ++ [.string nm]) ((m.splits.take k).map fun x=>Value.int .i64 (x.read:Int)) b3 b2∧w1.cell? ⟨w.heap.size,2,none⟩=some (.slice (some ⟨g,o,none⟩) m.splits.length sc)∧w1.cell? ⟨g,o+k * 6,none⟩=some (.string nm)∧w1.cell? ⟨g,o+k * 6+3,none⟩=some (.int .i64 (rd:Int)) ∧
     SlOwn w1 3 1 (.slice va k vc) k ((m.splits.take k).map fun x=>Value.int .i64 (x.read:Int)) b2∧Src w1 1 (.slice (some ⟨wr.heap.size,0,none⟩) 1 1) 1 [.int .i64 (rd:Int)]):=by
     intro w1 v1 b3 h1 h2 h3
     have ht:=HTC.out.add1 (ob:=(.cells #[.string nm] 9)) (x:=.string nm) (by rw [hl1];exact h1) h2 h3
     obtain ⟨q1,q2,q3⟩:=HCE0.out w1 ht.below
     refine ⟨ht,q1,q2,q3,?_,?_⟩
     · have h5:=ht.own2;rw [hl2] at h5;exact h5
     · exact SlOwn.src (e:=3) (blk:=some wr.heap.size) ⟨rfl,.inr ⟨_,0,1,_,rfl,rfl,(h2.block wr.heap.size (by simp;omega) (fun e=>by have:=hb1lt _ e.symm;omega)).trans (alloc_keep (World.alloc_heap_new wr.drew (.cells #[.int .i64 (rd:Int)] 3))),Nat.le_refl _,by simp [maxLen],by simp,rfl⟩⟩
    have HZA:Hid (∀ w1 w2 v1 v2 b3 b4,Two (w.alloc (.cells #[.slice sha s.length shc,.int .i64 m.bound,.slice (some ⟨g,o,none⟩) m.splits.length sc,.slice ma m.marks.length mc,.bool m.sealed,.slice ba m.late.length bc] 45)) w1 9 3 v1 (.slice va k vc) (((m.splits.take k).map fun x=>Value.string x.name) ++ [.string nm]) ((m.splits.take k).map fun x=>Value.int .i64 (x.read:Int)) b3 b2→SlOwn w2 3 1 v2 (k+1) (((m.splits.take k).map fun x=>Value.int .i64 (x.read:Int)) ++ [.int .i64 (rd:Int)]) b4→(w1.alloc (.cells #[.int .i64 (rd:Int)] 3)).grownBy w2 b2→(b4=b2∨b4=some (w1.alloc (.cells #[.int .i64 (rd:Int)] 3)).heap.size) →
     Two (w.alloc (.cells #[.slice sha s.length shc,.int .i64 m.bound,.slice (some ⟨g,o,none⟩) m.splits.length sc,.slice ma m.marks.length mc,.bool m.sealed,.slice ba m.late.length bc] 45)) w2 9 3 v1 v2 ((m.splits.take (k+1)).map fun x=>Value.string x.name) ((m.splits.take (k+1)).map fun x=>Value.int .i64 (x.read:Int)) b3 b4∧w2.cell? ⟨w.heap.size,2,none⟩=some (.slice (some ⟨g,o,none⟩) m.splits.length sc)∧w2.cell? ⟨g,o+k * 6,none⟩=some (.string nm)∧w2.cell? ⟨g,o+k * 6+3,none⟩=some (.int .i64 (rd:Int))):=by
     intro w1 w2 v1 v2 b3 b4 ht h1 h2 h3
     have h:=(ht.swap.add1 (ob:=(.cells #[.int .i64 (rd:Int)] 3)) (x:=.int .i64 (rd:Int)) (by rw [hl2];exact h1) h2 h3).swap
     obtain ⟨q1,q2,q3⟩:=HCE0.out w2 h.below
     refine ⟨?_,q1,q2,q3⟩
     rw [HT2.out,List.map_append,List.map_append]
     simpa [hnm,hrd] using h
    have HZB:Hid (∀ w1 w2 v1 v2 b3 b4,Two (w.alloc (.cells #[.slice sha s.length shc,.int .i64 m.bound,.slice (some ⟨g,o,none⟩) m.splits.length sc,.slice ma m.marks.length mc,.bool m.sealed,.slice ba m.late.length bc] 45)) w1 9 3 v1 (.slice va k vc) (((m.splits.take k).map fun x=>Value.string x.name) ++ [.string nm]) ((m.splits.take k).map fun x=>Value.int .i64 (x.read:Int)) b3 b2→SlOwn w2 3 1 v2 (k+1) (((m.splits.take k).map fun x=>Value.int .i64 (x.read:Int)) ++ [.int .i64 (rd:Int)]) b4→w1.grownBy w2 b2→(b4=b2∨b4=some w1.heap.size) →
     Two (w.alloc (.cells #[.slice sha s.length shc,.int .i64 m.bound,.slice (some ⟨g,o,none⟩) m.splits.length sc,.slice ma m.marks.length mc,.bool m.sealed,.slice ba m.late.length bc] 45)) w2 9 3 v1 v2 ((m.splits.take (k+1)).map fun x=>Value.string x.name) ((m.splits.take (k+1)).map fun x=>Value.int .i64 (x.read:Int)) b3 b4∧w2.cell? ⟨w.heap.size,2,none⟩=some (.slice (some ⟨g,o,none⟩) m.splits.length sc)∧w2.cell? ⟨g,o+k * 6,none⟩=some (.string nm)∧w2.cell? ⟨g,o+k * 6+3,none⟩=some (.int .i64 (rd:Int))):=by
     intro w1 w2 v1 v2 b3 b4 ht h1 h2 h3
     have h:=(ht.swap.add0 (x:=.int .i64 (rd:Int)) (by rw [hl2];exact h1) h2 h3).swap
     obtain ⟨q1,q2,q3⟩:=HCE0.out w2 h.below
     refine ⟨?_,q1,q2,q3⟩
     rw [HT2.out,List.map_append,List.map_append]
     simpa [hnm,hrd] using h
    have HZC:Hid (∀ w1 w2 v1 v2 b3 b4,Two (w.alloc (.cells #[.slice sha s.length shc,.int .i64 m.bound,.slice (some ⟨g,o,none⟩) m.splits.length sc,.slice ma m.marks.length mc,.bool m.sealed,.slice ba m.late.length bc] 45)) w1 9 3 v1 (.slice va k vc) (((m.splits.take k).map fun x=>Value.string x.name) ++ [.string nm]) ((m.splits.take k).map fun x=>Value.int .i64 (x.read:Int)) b3 b2→SlOwn w2 3 1 v2 (k+1) (((m.splits.take k).map fun x=>Value.int .i64 (x.read:Int)) ++ [.int .i64 (rd:Int)]) b4→w1.grownBy w2 b2→(b4=b2∨b4=some w1.heap.size) →
     Two (w.alloc (.cells #[.slice sha s.length shc,.int .i64 m.bound,.slice (some ⟨g,o,none⟩) m.splits.length sc,.slice ma m.marks.length mc,.bool m.sealed,.slice ba m.late.length bc] 45)) w2 9 3 v1 v2 ((m.splits.take (k+1)).map fun x=>Value.string x.name) ((m.splits.take (k+1)).map fun x=>Value.int .i64 (x.read:Int)) b3 b4∧w2.cell? ⟨w.heap.size,2,none⟩=some (.slice (some ⟨g,o,none⟩) m.splits.length sc)∧w2.cell? ⟨g,o+k * 6,none⟩=some (.string nm)∧w2.cell? ⟨g,o+k * 6+3,none⟩=some (.int .i64 (rd:Int))):=by
     intro w1 w2 v1 v2 b3 b4 ht h1 h2 h3
     have h:=(ht.swap.add0 (x:=.int .i64 (rd:Int)) (by rw [hl2];exact h1) h2 h3).swap
     obtain ⟨q1,q2,q3⟩:=HCE0.out w2 h.below
     refine ⟨?_,q1,q2,q3⟩
     rw [HT2.out,List.map_append,List.map_append]
     simpa [hnm,hrd] using h
    clear hl1 hl2 hb1lt hTd hTB hTC hA hB hC hbr hbw
    have HCA:Hid (∀ W,Below wr.heap.size wr W→W.cell? ⟨w.heap.size,2,none⟩=some (.slice (some ⟨g,o,none⟩) m.splits.length sc)∧W.cell? ⟨g,o+k * 6,none⟩=some (.string nm)∧W.cell? ⟨g,o+k * 6+3,none⟩=some (.int .i64 (rd:Int))):=fun W hb=>HCE0.out W (HT.out.below.trans (hb.mono HT.out.below.size))
    have HCB:Hid (∀ w1 v1 b3,Two (w.alloc (.cells #[.slice sha s.length shc,.int .i64 m.bound,.slice (some ⟨g,o,none⟩) m.splits.length sc,.slice ma m.marks.length mc,.bool m.sealed,.slice ba m.late.length bc] 45)) w1 9 3 v1 (.slice va k vc) (((m.splits.take k).map fun x=>Value.string x.name) ++ [.string nm]) ((m.splits.take k).map fun x=>Value.int .i64 (x.read:Int)) b3 b2→(w1.alloc (.cells #[.int .i64 (rd:Int)] 3)).cell? ⟨w.heap.size,2,none⟩=some (.slice (some ⟨g,o,none⟩) m.splits.length sc)∧(w1.alloc (.cells #[.int .i64 (rd:Int)] 3)).cell? ⟨g,o+k * 6,none⟩=some (.string nm)∧(w1.alloc (.cells #[.int .i64 (rd:Int)] 3)).cell? ⟨g,o+k * 6+3,none⟩=some (.int .i64 (rd:Int))):=fun w1 v1 b3 ht=>HCE0.out _ (ht.below.alloc ht.below.size _)
    go_wp2_with fail
    refine wp_region_game [0,1,2,3,4,5,6,9,10,11,12,13,14,15] 6 (fun W=>W.cell? ⟨w.heap.size,2,none⟩=some (.slice (some ⟨g,o,none⟩) m.splits.length sc)∧W.cell? ⟨g,o+k * 6,none⟩=some (.string nm)∧W.cell? ⟨g,o+k * 6+3,none⟩=some (.int .i64 (rd:Int))) mixed (by kernel_rfl) (HCA.out _ (Below.refl wr.heap.size wr).drew) ?_
    repeat (
     refine wpFloatC_ex (fun K hK=>?_)
     apply Exists.intro
     refine ⟨fun W hW=>?_,?_⟩
     · obtain ⟨q1,q2,q3⟩:=hW
       go_simp
       rfl
     go_simp
     refine hK _ ?_
     clear hK K)
    refine wpFloatC_nil ?_
    refine game_two 7 16 true true (by kernel_rfl) rfl rfl (by kernel_rfl) (by kernel_rfl) (fun K hK=>?_) (fun K hK=>?_)
    · go_simp
      refine hK _ _ rfl (fun _=>HCA.out _ (by first | exact (Below.refl wr.heap.size wr).drew.alloc (Nat.le_refl _) _ | exact ((Below.refl wr.heap.size wr).drew.alloc (Nat.le_refl _) _).alloc (by simp) _)) ?_
      clear hK K
      refine game_two 8 16 true true (by kernel_rfl) rfl rfl (by kernel_rfl) (by kernel_rfl) (fun K hK=>?_) (fun K hK=>?_)
      · refine at_w (wr.drew.alloc (.cells #[.string nm] 9)) ?_
        refine wp_append_S (.tmp 14) (.tmp 21) 120 rfl 9 i0 _ 1 16 Tryz.underlying120 hi0 hz0 hz1 hz2 rfl (by omega) (.slice ua k uc) k ((m.splits.take k).map fun x=>Value.string x.name) b1 rfl HA.out (.slice (some ⟨wr.heap.size,0,none⟩) 1 1) 1 [.string nm] rfl HSA.out (fun u hu=>by rw [List.mem_singleton] at hu;subst hu;rfl) (by simp only [maxLen];omega) (by omega) ?_
        intro v1 w1 b3 h1 h2 h3
        obtain ⟨u1,u2,u3,u4,u5,u6⟩:=HXA.out w1 v1 b3 h1 h2 h3
        have U1:=Lib.hid u1;have U5:=Lib.hid u5;have U6:=Lib.hid u6
        clear h1 h2 h3 u1 u5 u6
        refine hK _ _ rfl (fun _=>⟨u2,u3,u4⟩) ?_
        clear hK K
        refine game_on 16 true (fun K hK=>?_)
        go_simp
        refine hK _ _ rfl (fun _=>HCB.out _ _ _ U1.out) ?_
        clear hK K
        refine game_on 17 true (fun K hK=>?_)
        refine at_w (w1.alloc (.cells #[.int .i64 (rd:Int)] 3)) ?_
        refine wp_append_S (.tmp 23) (.tmp 30) 31 rfl 3 k0 _ 1 8 Tryz.underlying31 hk0 hy0 hy1 hy2 rfl (by omega) (.slice va k vc) k ((m.splits.take k).map fun x=>Value.int .i64 (x.read:Int)) b2 rfl U5.out (.slice (some ⟨w1.heap.size,0,none⟩) 1 1) 1 [.int .i64 (rd:Int)] rfl U6.out (fun u hu=>by rw [List.mem_singleton] at hu;subst hu;rfl) (by simp only [maxLen];omega) (by omega) ?_
        intro v2 w2 b4 h1 h2 h3
        obtain ⟨hf,t1,t2,t3⟩:=HZA.out w1 w2 v1 v2 b3 b4 U1.out h1 h2 h3
        have HF:=Lib.hid hf
        clear h1 h2 h3 hf
        refine hK _ _ rfl (fun _=>⟨t1,t2,t3⟩) ?_
        clear hK K
        refine game_on 18 true (fun K hK=>?_)
        go_simp
        refine hK _ _ rfl (fun _=>⟨t1,t2,t3⟩) ?_
        clear hK K
        refine game_on 19 false (fun K hK=>?_)
        go_simp
        refine hK _ _ rfl (fun h=>by cases h) ?_
        clear hK K
        refine game_end (by kernel_rfl) ?_
        go_wp2_with fail
        go_roundw
        case rel=>exact ⟨k+1,b3,b4,by omega,by go_num,HF⟩
        case measure=>simp [intOf];omega
      · go_simp
        refine hK _ _ rfl (fun _=>HCA.out _ (by first | exact (Below.refl wr.heap.size wr).drew.alloc (Nat.le_refl _) _ | exact ((Below.refl wr.heap.size wr).drew.alloc (Nat.le_refl _) _).alloc (by simp) _)) ?_
        clear hK K
        refine game_on 8 true (fun K hK=>?_)
        refine at_w ((wr.drew.alloc (.cells #[.string nm] 9)).alloc (.cells #[.int .i64 (rd:Int)] 3)) ?_
        refine wp_append_S (.tmp 14) (.tmp 21) 120 rfl 9 i0 _ 1 16 Tryz.underlying120 hi0 hz0 hz1 hz2 rfl (by omega) (.slice ua k uc) k ((m.splits.take k).map fun x=>Value.string x.name) b1 rfl HB.out (.slice (some ⟨wr.heap.size,0,none⟩) 1 1) 1 [.string nm] rfl HSB.out (fun u hu=>by rw [List.mem_singleton] at hu;subst hu;rfl) (by simp only [maxLen];omega) (by omega) ?_
        intro v1 w1 b3 h1 h2 h3
        obtain ⟨u1,u2,u3,u4,u5,u6⟩:=HXB.out w1 v1 b3 h1 h2 h3
        have U1:=Lib.hid u1;have U5:=Lib.hid u5;have U6:=Lib.hid u6
        clear h1 h2 h3 u1 u5 u6
        refine hK _ _ rfl (fun _=>⟨u2,u3,u4⟩) ?_
        clear hK K
        refine game_on 17 true (fun K hK=>?_)
        refine wp_append_S (.tmp 23) (.tmp 30) 31 rfl 3 k0 _ 1 8 Tryz.underlying31 hk0 hy0 hy1 hy2 rfl (by omega) (.slice va k vc) k ((m.splits.take k).map fun x=>Value.int .i64 (x.read:Int)) b2 rfl U5.out (.slice (some ⟨wr.heap.size+1,0,none⟩) 1 1) 1 [.int .i64 (rd:Int)] rfl U6.out (fun u hu=>by rw [List.mem_singleton] at hu;subst hu;rfl) (by simp only [maxLen];omega) (by omega) ?_
        intro v2 w2 b4 h1 h2 h3
        obtain ⟨hf,t1,t2,t3⟩:=HZB.out w1 w2 v1 v2 b3 b4 U1.out h1 h2 h3
        have HF:=Lib.hid hf
        clear h1 h2 h3 hf
        refine hK _ _ rfl (fun _=>⟨t1,t2,t3⟩) ?_
        clear hK K
        refine game_on 18 true (fun K hK=>?_)
        go_simp
        refine hK _ _ rfl (fun _=>⟨t1,t2,t3⟩) ?_
        clear hK K
        refine game_on 19 false (fun K hK=>?_)
        go_simp
        refine hK _ _ rfl (fun h=>by cases h) ?_
        clear hK K
        refine game_end (by kernel_rfl) ?_
        go_wp2_with fail
        go_roundw
        case rel=>exact ⟨k+1,b3,b4,by omega,by go_num,HF⟩
        case measure=>simp [intOf];omega
    · go_simp
      refine hK _ _ rfl (fun _=>HCA.out _ (by first | exact (Below.refl wr.heap.size wr).drew.alloc (Nat.le_refl _) _ | exact ((Below.refl wr.heap.size wr).drew.alloc (Nat.le_refl _) _).alloc (by simp) _)) ?_
      clear hK K
      refine game_on 7 true (fun K hK=>?_)
      go_simp
      refine hK _ _ rfl (fun _=>HCA.out _ (by first | exact (Below.refl wr.heap.size wr).drew.alloc (Nat.le_refl _) _ | exact ((Below.refl wr.heap.size wr).drew.alloc (Nat.le_refl _) _).alloc (by simp) _)) ?_
      clear hK K
      refine game_on 8 true (fun K hK=>?_)
      refine at_w ((wr.drew.alloc (.cells #[.int .i64 (rd:Int)] 3)).alloc (.cells #[.string nm] 9)) ?_
      refine wp_append_S (.tmp 14) (.tmp 21) 120 rfl 9 i0 _ 1 16 Tryz.underlying120 hi0 hz0 hz1 hz2 rfl (by omega) (.slice ua k uc) k ((m.splits.take k).map fun x=>Value.string x.name) b1 rfl HC.out (.slice (some ⟨wr.heap.size+1,0,none⟩) 1 1) 1 [.string nm] rfl HSC.out (fun u hu=>by rw [List.mem_singleton] at hu;subst hu;rfl) (by simp only [maxLen];omega) (by omega) ?_
      intro v1 w1 b3 h1 h2 h3
      obtain ⟨u1,u2,u3,u4,u5,u6⟩:=HXC.out w1 v1 b3 h1 h2 h3
      have U1:=Lib.hid u1;have U5:=Lib.hid u5;have U6:=Lib.hid u6
      clear h1 h2 h3 u1 u5 u6
      refine hK _ _ rfl (fun _=>⟨u2,u3,u4⟩) ?_
      clear hK K
      refine game_on 17 true (fun K hK=>?_)
      refine wp_append_S (.tmp 23) (.tmp 30) 31 rfl 3 k0 _ 1 8 Tryz.underlying31 hk0 hy0 hy1 hy2 rfl (by omega) (.slice va k vc) k ((m.splits.take k).map fun x=>Value.int .i64 (x.read:Int)) b2 rfl U5.out (.slice (some ⟨wr.heap.size,0,none⟩) 1 1) 1 [.int .i64 (rd:Int)] rfl U6.out (fun u hu=>by rw [List.mem_singleton] at hu;subst hu;rfl) (by simp only [maxLen];omega) (by omega) ?_
      intro v2 w2 b4 h1 h2 h3
      obtain ⟨hf,t1,t2,t3⟩:=HZC.out w1 w2 v1 v2 b3 b4 U1.out h1 h2 h3
      have HF:=Lib.hid hf
      clear h1 h2 h3 hf
      refine hK _ _ rfl (fun _=>⟨t1,t2,t3⟩) ?_
      clear hK K
      refine game_on 18 true (fun K hK=>?_)
      go_simp
      refine hK _ _ rfl (fun _=>⟨t1,t2,t3⟩) ?_
      clear hK K
      refine game_on 19 false (fun K hK=>?_)
      go_simp
      refine hK _ _ rfl (fun h=>by cases h) ?_
      clear hK K
      refine game_end (by kernel_rfl) ?_
      go_wp2_with fail
      go_roundw
      case rel=>exact ⟨k+1,b3,b4,by omega,by go_num,HF⟩
      case measure=>simp [intOf];omega
  · have hkl:k=m.splits.length:=by omega
    subst hkl
    have ht:=hT.out
    rw [List.take_length] at ht
    have HT:=Lib.hid ht
    clear ht hl1 hl2 hbr
    go_wp2_with fail
    go_ret2
    have h1:=HT.out.own1
    have h2:=HT.out.own2
    have hsz:=HW1.out.size
    refine ⟨_,_,rfl,?_,?_,HW1.out.trans (HT.out.below.mono HW1.out.size)⟩
    · have:=own_texts (l:=m.splits.map SpM.name) (v:=.slice ua m.splits.length uc) (blk:=b1) (by simpa [List.map_map,Function.comp_def] using h1)
      exact this.mono fun b hb=>Nat.le_trans hsz (HT.out.new1 b hb)
    · have:=own_nums (l:=m.splits.map fun x=>(x.read:Int)) (v:=.slice va m.splits.length vc) (blk:=b2) (by simpa [List.map_map,Function.comp_def] using h2)
      exact this.mono fun b hb=>Nat.le_trans hsz (HT.out.new2 b hb)
end leaves
end Go.Proofs.YtimahogkcmmcnaaGreatDoor
