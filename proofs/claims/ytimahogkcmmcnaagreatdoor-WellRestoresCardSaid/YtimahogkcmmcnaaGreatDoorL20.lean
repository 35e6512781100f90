/-
 The well, part 45: the split that the program reads next. If the well lies in the world as the words say.
-/
import Derived.Test.YtimahogkcmmcnaaGreatDoorL19
import Derived.Test.YtimahogkcmmcnaaGreatDoorL14
set_option linter.unusedSimpArgs false
set_option linter.unusedVariables false
namespace Go.Proofs.YtimahogkcmmcnaaGreatDoor
open Go.RowKit Go.Proofs.YtimahogkcmmcnaaGreatDoor.Cmps
section leaves
set_option maxHeartbeats 1000000
set_option maxRecDepth 10000
theorem f183_any (w:World) (x rb:Nat) (r:Int) (ow:Nat) (h5:w.cell? ⟨x,5,none⟩=some (.int .i64 ow)) (hr:w.cell? ⟨rb,0,none⟩=some (.int .i64 r)) :
 Calls Tryz.prog 183 #[.pointer (some ⟨x,0,none⟩),.pointer (some ⟨rb,0,none⟩)] w fun e w'=>e=.returned (.bool ((ow:Int) == r))∧Below w.heap.size w w':=by
 have hl1:=cell_lt h5
 have hl2:=cell_lt hr
 go_enter Tryz.func183,Tryz.ntmps183
 go_wp2_with fail
 all_goals (try (go_quiet (fail);go_wp2_with fail))
 go_ret
 first
  | exact ⟨rfl,Below.refl _ _⟩
  | exact ⟨rfl,Drew.belowW ⟨_,rfl⟩⟩
theorem f121_any (w:World) (r:Int) :
 Calls Tryz.prog 121 #[.int .i64 r] w fun e w'=>e=.returned (.func (.func 183) #[] #[.pointer (some ⟨w.heap.size,0,none⟩)])∧w'=w.alloc (.cells #[.int .i64 r] 3):=by
 go_enter Tryz.func121,Tryz.ntmps121
 go_wp2_with fail
 go_ret
 exact ⟨rfl,rfl⟩
theorem f124_any (hm:Tryz.prog.follows .mixedOrders=true) (w:World) (x y:Nat) (a b:Int) (h1:w.cell? ⟨x,2,none⟩=some (.int .i64 a)) (h2:w.cell? ⟨y,2,none⟩=some (.int .i64 b)) :
 Calls Tryz.prog 124 #[.pointer (some ⟨x,0,none⟩),.pointer (some ⟨y,0,none⟩)] w fun e w'=>e=.returned (.int .i64 (cmpI a b))∧Below w.heap.size w w':=by
 have mixed:=hm
 have HM:Hid (∀ (x y:Int) d os,Calls Tryz.prog 111 #[.int .i64 x,.int .i64 y] (Sort.grow (redrawn w d) os) fun e w''=>e=.returned (.int .i64 (cmpI x y))∧∃ p:Regrown,w''=Sort.grow (redrawn w p.d) p.os) :=
  fun x y d os=>Calls.regrown_of ((f111_any x y _).mono fun e w' ⟨h,hw⟩=>⟨h,hw ▸ Below.refl _ _⟩)
 have hl1:=cell_lt h1
 have hl2:=cell_lt h2
 go_enter Tryz.func124,Tryz.ntmps124
 go_wp2_with fail
 have hcl:=fun d os b' o' h=>(below_regrown w d os).cell (p:=⟨b',o',none⟩) h
 refine wp_region_quiet_below mixed (by kernel_rfl) ?_
 repeat (quiet_step (with_reducible exact HM.out _ _ _ _))
 refine wpQuiet_nil ?_
 intro wq hw'
 have HQ:=Lib.hid (below_of_class hw')
 clear hw' hcl
 go_wp2_with fail
 go_ret
 exact ⟨rfl,HQ.out⟩
theorem f123_any (hm:Tryz.prog.follows .mixedOrders=true) (w:World) (x hb rb:Nat) (r:Int) (ow rd n:Nat) (ea:Option Addr) (ec:Nat) (h5:w.cell? ⟨x,5,none⟩=some (.int .i64 ow)) (h2:w.cell? ⟨x,2,none⟩=some (.int .i64 rd)) (h1:w.cell? ⟨x,1,none⟩=some (.slice ea n ec))
 (hh:w.cell? ⟨hb,0,none⟩=some (.func (.func 183) #[] #[.pointer (some ⟨rb,0,none⟩)])) (hr:w.cell? ⟨rb,0,none⟩=some (.int .i64 r)) :
 Calls Tryz.prog 123 #[.pointer (some ⟨x,0,none⟩),.pointer (some ⟨hb,0,none⟩)] w fun e w'=>e=.returned (.bool (((ow:Int) == r) && decide (rd<n)))∧Below w.heap.size w w':=by
 have mixed:=hm
 have HM:Hid (∀ d os,Calls Tryz.prog 183 #[.pointer (some ⟨x,0,none⟩),.pointer (some ⟨rb,0,none⟩)] (Sort.grow (redrawn w d) os) fun e w''=>e=.returned (.bool ((ow:Int) == r))∧∃ p:Regrown,w''=Sort.grow (redrawn w p.d) p.os) :=
  fun d os=>Calls.regrown_of (f183_any _ x rb r ow (cell_regrown h5 d os) (cell_regrown hr d os))
 have hl1:=cell_lt h1
 have hl2:=cell_lt hh
 have hdn:decide ((rd:Int)<(n:Int))=decide (rd<n):=by simp
 clear h5 hr
 cases ho:((ow:Int) == r)
 · rw [ho] at HM
   go_enter Tryz.func123,Tryz.ntmps123
   go_wp2_with fail
   have hcl:=fun d os b' o' h=>(below_regrown w d os).cell (p:=⟨b',o',none⟩) h
   refine wp_region_quiet_below mixed (by kernel_rfl) ?_
   repeat (first | go_big_quiet_skip | quiet_step (with_reducible exact HM.out _ _))
   refine wpQuiet_nil ?_
   intro wq hw'
   have HQ:=Lib.hid (below_of_class hw')
   clear hw' hcl
   go_wp2_with fail
   go_ret
   exact ⟨rfl,HQ.out⟩
 · rw [ho] at HM
   go_enter Tryz.func123,Tryz.ntmps123
   go_wp2_with fail
   have hcl:=fun d os b' o' h=>(below_regrown w d os).cell (p:=⟨b',o',none⟩) h
   refine wp_region_quiet_below mixed (by kernel_rfl) ?_
   repeat (first | go_big_quiet_skip | quiet_step (with_reducible exact HM.out _ _))
   refine wpQuiet_nil ?_
   intro wq hw'
   have HQ:=Lib.hid (below_of_class hw')
   clear hw' hcl
   go_wp2_with fail
   go_ret
   exact ⟨ret_bool (by simp),HQ.out⟩
end leaves
def atV (xb:Nat→Nat):Option (Nat×Nat)→Value
 | none=>.pointer none
 | some p=>.pointer (some ⟨xb p.1,0,none⟩)
section leaves
set_option maxHeartbeats 1000000
set_option maxRecDepth 10000
theorem f122_any (hm:Tryz.prog.follows .mixedOrders=true) (w:World) (col:Nat→Nat) (s:List Col) (ws:WS) (m:WlM) (hb rb:Nat) (r:Int) (h:WAt w col s ws m) (hok:WOk m)
 (hh:w.cell? ⟨hb,0,none⟩=some (.func (.func 183) #[] #[.pointer (some ⟨rb,0,none⟩)])) (hr:w.cell? ⟨rb,0,none⟩=some (.int .i64 r)) :
 Calls Tryz.prog 122 #[ws.spl,.func (.func 123) #[] #[.pointer (some ⟨hb,0,none⟩)],.func (.func 124) #[] #[]] w fun e w'=>e=.returned (.tuple #[atV ws.xb (nextN m.splits r m.splits.length),.bool (nextN m.splits r m.splits.length).isSome])∧Below w.heap.size w w':=by
 obtain ⟨a,c,e⟩:=h.splForm
 rw [e]
 have H:=Lib.hid h
 have HH:=Lib.hid hh
 have HR:=Lib.hid hr
 have h50:=hok.splits
 clear h hok hh hr
 go_enter Tryz.func122,Tryz.ntmps122
 go_wp2_with fail
 go_loopw [8,9,14] (fun b f i wr=>∃ k:Nat,k≤m.splits.length∧i=.int .i64 k∧b=atV ws.xb (nextN m.splits r k)∧f=.bool (nextN m.splits r k).isSome∧Hid (Below w.heap.size w wr)) (fun _ _ i _=>m.splits.length - (intOf i).toNat)
 case atStart=>exact ⟨0,by omega,rfl,rfl,rfl,Lib.hid (Below.refl _ _)⟩
 case round =>
  obtain ⟨k,hk,rfl,rfl,rfl,hbr⟩:=hrel
  by_cases hlt:k<m.splits.length
  · have HW:=Lib.hid (H.out.below hbr.out)
    obtain ⟨g,o,e1,e2,rfl,hg,x0,hev,hxb,x1,y1,y2,y3,y4,y5⟩:=HW.out.split e hlt
    have H123:=Lib.hid (f123_any hm wr (ws.xb k) hb rb r m.splits[k].owner m.splits[k].read m.splits[k].evs.length e1 e2 y5 y2 y1 (by rw [hbr.out.cell (p:=⟨hb,0,none⟩) (cell_lt HH.out)];exact HH.out) (by rw [hbr.out.cell (p:=⟨rb,0,none⟩) (cell_lt HR.out)];exact HR.out))
    have HS:Hid (nextN m.splits r (k+1)=nextStep r (nextN m.splits r k) k m.splits[k]):=nextN_succ hlt
    have HE:=Lib.hid e
    obtain ⟨tk,htk⟩:∃ b,(((m.splits[k].owner:Int) == r) && decide (m.splits[k].read<m.splits[k].evs.length))=b:=⟨_,rfl⟩
    rw [htk] at H123
    have HY2:=Lib.hid y2
    clear e hev y1 y3 y4 y5 x1 y2
    cases tk
    · have HS2:Hid (nextN m.splits r (k+1)=nextN m.splits r k):=by show _=_;rw [HS.out,nextStep,htk];rfl
      clear htk HS
      go_wp2_with (first
       | (go_at_call 123;(with_reducible refine H123.out.mono ?_);rintro e w1 ⟨rfl,hb1⟩;have HB1:=Lib.hid hb1;clear hb1))
      go_roundw
      case rel=>exact ⟨k+1,by omega,by go_num,by rw [HS2.out],by rw [HS2.out],Lib.hid (below_then hbr.out HB1.out)⟩
      case measure=>simp [intOf];omega
    · have HS2:Hid (nextN m.splits r (k+1)=if lessO (nextN m.splits r k) m.splits[k].read=true then some (k,m.splits[k].read) else nextN m.splits r k):=by show _=_;rw [HS.out,nextStep,htk];rfl
      clear htk HS
      cases hnx:nextN m.splits r k with
      | none =>
        have HS3:Hid (nextN m.splits r (k+1)=some (k,m.splits[k].read)):=by show _=_;rw [HS2.out,hnx];rfl
        simp only [atV,Option.isSome_none]
        clear hnx HS2
        go_wp2_with (first
         | (go_at_call 123;(with_reducible refine H123.out.mono ?_);rintro e w1 ⟨rfl,hb1⟩;have HB1:=Lib.hid hb1;clear hb1))
        go_roundw
        case rel=>exact ⟨k+1,by omega,by go_num,by rw [HS3.out];first | done | rfl,by rw [HS3.out];first | done | rfl,Lib.hid (below_then hbr.out HB1.out)⟩
        case measure=>simp [intOf];omega
      | some p =>
        obtain ⟨i,n⟩:=p
        obtain ⟨hi,hik,hin,_,_⟩:=nextN_some (Nat.le_of_lt hlt) hnx
        have H124:=Lib.hid (fun (w1:World) (hb1:Below wr.heap.size wr w1)=>f124_any hm w1 (ws.xb k) (ws.xb i) (m.splits[k].read:Int) (n:Int) (by rw [hb1.cell (p:=⟨ws.xb k,2,none⟩) (cell_lt HY2.out)];exact HY2.out) (by
         obtain ⟨_,_,_,_,_,_,_,_,_,_,_,z2,_⟩:=HW.out.split HE.out hi
         rw [hb1.cell (p:=⟨ws.xb i,2,none⟩) (cell_lt z2),z2,hin]))
        have hcm:=cmpI_lt m.splits[k].read n
        simp only [atV,Option.isSome_some]
        have HL:Hid (lessO (some (i,n)) m.splits[k].read=decide (m.splits[k].read<n)):=rfl
        rw [hnx] at HS2
        rw [HL.out] at HS2
        generalize cmpI (m.splits[k].read:Int) (n:Int)=cm at H124 hcm
        by_cases hcc:m.splits[k].read<n
        · have q:cm<0:=by rw [decide_eq_true hcc] at hcm;exact of_decide_eq_true hcm
          have HS3:Hid (nextN m.splits r (k+1)=some (k,m.splits[k].read)):=by show _=_;rw [HS2.out,decide_eq_true hcc];rfl
          clear hcm hcc HS2 hnx
          go_wp2_with (first
           | (go_at_call 123;(with_reducible refine H123.out.mono ?_);rintro e w1 ⟨rfl,hb1⟩;have H124':=Lib.hid (H124.out w1 hb1);have HB1:=Lib.hid hb1;clear hb1)
           | (go_at_call 124;(with_reducible refine H124'.out.mono ?_);rintro e w2 ⟨rfl,hb1⟩;have HB2:=Lib.hid hb1;clear hb1))
          go_roundw
          case rel=>exact ⟨k+1,by omega,by go_num,by rw [HS3.out];first | done | rfl,by rw [HS3.out];first | done | rfl,Lib.hid (below_then (below_then hbr.out HB1.out) HB2.out)⟩
          case measure=>simp [intOf];omega
        · have q:¬ cm<0:=by rw [decide_eq_false hcc] at hcm;exact of_decide_eq_false hcm
          have HS3:Hid (nextN m.splits r (k+1)=some (i,n)):=by show _=_;rw [HS2.out,decide_eq_false hcc];rfl
          clear hcm hcc HS2 hnx
          go_wp2_with (first
           | (go_at_call 123;(with_reducible refine H123.out.mono ?_);rintro e w1 ⟨rfl,hb1⟩;have H124':=Lib.hid (H124.out w1 hb1);have HB1:=Lib.hid hb1;clear hb1)
           | (go_at_call 124;(with_reducible refine H124'.out.mono ?_);rintro e w2 ⟨rfl,hb1⟩;have HB2:=Lib.hid hb1;clear hb1))
          go_roundw
          case rel=>exact ⟨k+1,by omega,by go_num,by rw [HS3.out];first | done | rfl,by rw [HS3.out];first | done | rfl,Lib.hid (below_then (below_then hbr.out HB1.out) HB2.out)⟩
          case measure=>simp [intOf];omega
  · have hkl:k=m.splits.length:=by omega
    subst hkl
    clear e
    go_wp2_with fail
    go_ret2
    exact ⟨rfl,hbr.out⟩
end leaves
theorem info9:(Tryz.prog.info? 9).map (fun i=>(i.zero,i.size,i.bytes))=some (some (.string ⟨#[]⟩),1,16):=by kernel_rfl
theorem own_texts {w:World} {v:Value} {l:List ByteArray} {blk:Option Nat} (h:SlOwn w 9 1 v l.length (l.map Value.string) blk):TextsAt w (fun b=>blk=some b) v l:=by
 obtain ⟨a,c,rfl⟩:=h.form
 refine ⟨a,c,rfl,?_⟩
 by_cases h0:l=[]
 · exact .inl h0
 right
 have hpos:0<l.length:=by cases l with | nil=>exact absurd rfl h0 | cons p l=>simp
 obtain ⟨g,o,rfl⟩:=h.some_of hpos
 exact ⟨g,o,rfl,own_blk h,fun i hi=>h.cell i _ (by simp [hi])⟩
theorem TextsAt.mono {w:World} {D D':Nat→Prop} {v:Value} {l:List ByteArray} (h:TextsAt w D v l) (hd:∀ b,D b→D' b):TextsAt w D' v l:=by
 obtain ⟨a,cap,rfl,hx⟩:=h
 refine ⟨a,cap,rfl,?_⟩
 rcases hx with rfl | ⟨b,off,rfl,hb,hc⟩
 · exact .inl rfl
 · exact .inr ⟨b,off,rfl,hd b hb,hc⟩
structure Two (w w':World) (e1 e2:TypeId) (v1 v2:Value) (xs1 xs2:List Value) (b1 b2:Option Nat):Prop where
 own1:SlOwn w' e1 1 v1 xs1.length xs1 b1
 own2:SlOwn w' e2 1 v2 xs2.length xs2 b2
 new1:∀ g,b1=some g→w.heap.size≤g
 new2:∀ g,b2=some g→w.heap.size≤g
 apart:∀ g,b1=some g→b2≠some g
 below:Below w.heap.size w w'
theorem Two.start (w w':World) (e1 e2:TypeId) (hb:Below w.heap.size w w'):Two w w' e1 e2 (.slice none 0 0) (.slice none 0 0) [] [] none none :=
 ⟨SlOwn.nil _ _ _,SlOwn.nil _ _ _,(fun g hg=>by cases hg),(fun g hg=>by cases hg),(fun g hg=>by cases hg),hb⟩
theorem Two.swap {w w':World} {e1 e2:TypeId} {v1 v2:Value} {xs1 xs2:List Value} {b1 b2:Option Nat} (h:Two w w' e1 e2 v1 v2 xs1 xs2 b1 b2):Two w w' e2 e1 v2 v1 xs2 xs1 b2 b1 :=
 ⟨h.own2,h.own1,h.new2,h.new1,fun g hg e=>h.apart g e hg,h.below⟩
theorem Two.alloc1 {w w':World} {e1 e2:TypeId} {v1 v2:Value} {xs1 xs2:List Value} {b1 b2:Option Nat} (h:Two w w' e1 e2 v1 v2 xs1 xs2 b1 b2) (ob:Obj):SlOwn (w'.alloc ob) e1 1 v1 xs1.length xs1 b1 :=
 h.own1.keep fun g hg=>Below.heap_alloc _ _ _ (h.own1.lt_of hg)
theorem Two.add1 {w w' w3:World} {e1 e2:TypeId} {v1 v2 v3:Value} {xs1 xs2:List Value} {b1 b2 b3:Option Nat} {ob:Obj} {x:Value} (h:Two w w' e1 e2 v1 v2 xs1 xs2 b1 b2) (ho:SlOwn w3 e1 1 v3 (xs1.length+1) (xs1 ++ [x]) b3)
 (hg:(w'.alloc ob).grownBy w3 b1) (hat:b3=b1∨b3=some (w'.alloc ob).heap.size):Two w w3 e1 e2 v3 v2 (xs1 ++ [x]) xs2 b3 b2:=by
 have hs:=h.below.size
 have hn:∀ g,b3=some g→b1=some g∨g=w'.heap.size+1:=fun g hgg=>by
  rcases hat with e | e
  · exact .inl (e ▸ hgg)
  · rw [hgg] at e;injection e with e;simp at e;exact .inr e
 refine ⟨by simpa using ho,h.own2.keep fun g hgg=>?_,fun g hgg=>?_,h.new2,fun g hgg e=>?_,(h.below.alloc hs ob).grown hg (by simp;omega) (fun q hq=>h.new1 q hq)⟩
 · have hlt:=h.own2.lt_of hgg
   exact (hg.block g (by simp;omega) (fun e=>h.apart g e.symm hgg)).trans (Below.heap_alloc _ _ _ hlt)
 · rcases hn g hgg with e | e
   · exact h.new1 g e
   · omega
 · rcases hn g hgg with e' | e'
   · exact h.apart g e' e
   · have:=h.own2.lt_of e;omega
theorem one_src {w:World} {t:TypeId} (v:Value):Src (w.alloc (.cells #[v] t)) 1 (.slice (some ⟨w.heap.size,0,none⟩) 1 1) 1 [v] :=
 SlOwn.src (e:=t) (blk:=some w.heap.size) ⟨rfl,.inr ⟨_,0,1,_,rfl,rfl,World.alloc_heap_new w _,Nat.le_refl _,by simp [maxLen],by simp,rfl⟩⟩
section leaves
set_option maxHeartbeats 1000000
set_option maxRecDepth 10000
theorem f23_any (hm:Tryz.prog.follows .mixedOrders=true) (w:World) (col:Nat→Nat) (s:List Col) (ws:WS) (m:WlM) (h:WAt w col s ws m) (hok:WOk m) (hrow:WRow m) :
 Calls Tryz.prog 23 #[ptr ws.W] w fun e w'=>∃ r blk,e=.returned r∧Owned w w' r m.late blk:=by
 obtain ⟨_,_,_,_,_,_,c6⟩:=h.cells
 have hb:=hrow.bound hok
 obtain ⟨la,lc,hl⟩:=h.hL.form
 have H62:=Lib.hid (f62_any hm w _ ws.late m.late (h.hL.evts (by omega)) hrow.late (by omega))
 rw [hl] at c6 H62
 unfold ptr
 clear h hok hrow
 go_enter Tryz.func23,Tryz.ntmps23
 go_wp2_with (go_at_call 62;(with_reducible refine H62.out.mono ?_);rintro e w1 ⟨r,blk,rfl,ho⟩;have HO:=Lib.hid ho;clear ho)
 go_ret
 exact ⟨_,_,rfl,HO.out⟩
theorem f60_any (w:World) (col:Nat→Nat) (s:List Col) (ws:WS) (m:WlM) (h:WAt w col s ws m) (hok:WOk m) :
 Calls Tryz.prog 60 #[ptr ws.W] w fun e w'=>∃ v1 v2,e=.returned (.tuple #[v1,v2])∧TextsAt w' (fun b=>w.heap.size≤b) v1 (m.splits.map SpM.name)∧NumsAt w' (fun b=>w.heap.size≤b) v2 (m.splits.map fun x=>(x.read:Int))∧Below w.heap.size w w':=by
 obtain ⟨i0,hi0,hz0,hz1,hz2⟩:=info_parts info9
 obtain ⟨k0,hk0,hy0,hy1,hy2⟩:=info_parts info3
 obtain ⟨a,c,e⟩:=h.splForm
 obtain ⟨_,_,c2,_,_,_,_⟩:=h.cells
 rw [e] at c2
 have H:=Lib.hid h
 have h50:=hok.splits
 unfold ptr
 clear h hok
 go_enter Tryz.func60,Tryz.ntmps60
 go_wp2_with fail
 go_loopw [4,5,15] (fun u v i wr=>∃ (k:Nat) (b1 b2:Option Nat),k≤m.splits.length∧i=.int .i64 k∧Hid (Two w wr 9 3 u v ((m.splits.take k).map fun x=>Value.string x.name) ((m.splits.take k).map fun x=>Value.int .i64 (x.read:Int)) b1 b2)) (fun _ _ i _=>m.splits.length - (intOf i).toNat)
 case atStart=>exact ⟨0,none,none,by omega,rfl,Lib.hid (Two.start w w 9 3 (Below.refl _ _))⟩
 case round =>
  obtain ⟨k,b1,b2,hk,rfl,hT⟩:=hrel
  obtain ⟨ua,uc,hu⟩:=hT.out.own1.form
  obtain ⟨va,vc,hv⟩:=hT.out.own2.form
  have hl1:((m.splits.take k).map fun x=>Value.string x.name).length=k:=by simp;omega
  have hl2:((m.splits.take k).map fun x=>Value.int .i64 (x.read:Int)).length=k:=by simp;omega
  rw [hl1] at hu
  rw [hl2] at hv
  subst hu hv
  by_cases hlt:k<m.splits.length
  · obtain ⟨g,o,e1,e2,rfl,hg,x0,hev,hxb,x1,y1,y2,y3,y4,y5⟩:=(H.out.below hT.out.below).split e hlt
    have hO1:=hT.out.alloc1 (.cells #[.string m.splits[k].name] 9)
    rw [hl1] at hO1
    have HO1:=Lib.hid hO1
    have HX:Hid (∀ w1 v1 b3,SlOwn w1 9 1 v1 (k+1) (((m.splits.take k).map fun x=>Value.string x.name) ++ [.string m.splits[k].name]) b3→(wr.alloc (.cells #[.string m.splits[k].name] 9)).grownBy w1 b1→(b3=b1∨b3=some (wr.alloc (.cells #[.string m.splits[k].name] 9)).heap.size) →
     Two w w1 9 3 v1 (.slice va k vc) (((m.splits.take k).map fun x=>Value.string x.name) ++ [.string m.splits[k].name]) ((m.splits.take k).map fun x=>Value.int .i64 (x.read:Int)) b3 b2∧w1.cell? ⟨ws.xb k,2,none⟩=some (.int .i64 m.splits[k].read)∧ws.xb k<w1.heap.size ∧
     SlOwn (w1.alloc (.cells #[.int .i64 m.splits[k].read] 3)) 3 1 (.slice va k vc) k ((m.splits.take k).map fun x=>Value.int .i64 (x.read:Int)) b2):=by
     intro w1 v1 b3 h1 h2 h3
     have ht:=hT.out.add1 (x:=.string m.splits[k].name) (by rw [hl1];exact h1) h2 h3
     obtain ⟨_,_,_,_,_,_,_,_,hx,_,_,z2,_⟩:=(H.out.below ht.below).split e hlt
     have ho2:=ht.swap.alloc1 (.cells #[.int .i64 m.splits[k].read] 3)
     rw [hl2] at ho2
     exact ⟨ht,z2,hx,ho2⟩
    have HT2:Hid (m.splits.take (k+1)=m.splits.take k ++ [m.splits[k]]):=(List.take_append_getElem hlt).symm
    have HZ:Hid (∀ w1 w2 v1 v2 b3 b4,Two w w1 9 3 v1 (.slice va k vc) (((m.splits.take k).map fun x=>Value.string x.name) ++ [.string m.splits[k].name]) ((m.splits.take k).map fun x=>Value.int .i64 (x.read:Int)) b3 b2 →
     SlOwn w2 3 1 v2 (k+1) (((m.splits.take k).map fun x=>Value.int .i64 (x.read:Int)) ++ [.int .i64 m.splits[k].read]) b4→(w1.alloc (.cells #[.int .i64 m.splits[k].read] 3)).grownBy w2 b2→(b4=b2∨b4=some (w1.alloc (.cells #[.int .i64 m.splits[k].read] 3)).heap.size) →
     Two w w2 9 3 v1 v2 ((m.splits.take (k+1)).map fun x=>Value.string x.name) ((m.splits.take (k+1)).map fun x=>Value.int .i64 (x.read:Int)) b3 b4):=by
     intro w1 w2 v1 v2 b3 b4 ht h1 h2 h3
     have:=(ht.swap.add1 (x:=.int .i64 m.splits[k].read) (by rw [hl2];exact h1) h2 h3).swap
     rw [HT2.out,List.map_append,List.map_append]
     exact this
    clear hO1 e hev y1 y2 y3 y4 y5 hl1 hl2
    obtain ⟨nm,hnm⟩:∃ nm,m.splits[k].name=nm:=⟨_,rfl⟩
    obtain ⟨rd,hrd⟩:∃ rd,m.splits[k].read=rd:=⟨_,rfl⟩
    rw [hnm] at x1 HX HO1 HZ
    rw [hrd] at HX HZ
    go_wp2_with (first
     | (at_builtin
        refine wpList_append_S rfl (.tmp 19) (.tmp 24) 120 rfl 9 i0 _ 1 16 Tryz.underlying120 hi0 hz0 hz1 hz2 rfl (by omega) (.slice ua k uc) k ((m.splits.take k).map fun x=>Value.string x.name) b1 rfl HO1.out (.slice (some ⟨wr.heap.size,0,none⟩) 1 1) 1 [.string nm] rfl (one_src _) (fun u hu=>by rw [List.mem_singleton] at hu;subst hu;rfl) (by simp only [maxLen];omega) (by omega) ?_
        intro v1 w1 b3 h1 h2 h3
        obtain ⟨u1,u2,u3,u4⟩:=HX.out w1 v1 b3 h1 h2 h3
        have U1:=Lib.hid u1;have U4:=Lib.hid u4
        clear h1 h2 h3 u1 u4)
     | (at_builtin
        refine wpList_append_S rfl (.tmp 26) (.tmp 31) 31 rfl 3 k0 _ 1 8 Tryz.underlying31 hk0 hy0 hy1 hy2 rfl (by omega) (.slice va k vc) k ((m.splits.take k).map fun x=>Value.int .i64 (x.read:Int)) b2 rfl U4.out (.slice (some ⟨w1.heap.size,0,none⟩) 1 1) 1 [.int .i64 (rd:Int)] rfl (one_src _) (fun u hu=>by rw [List.mem_singleton] at hu;subst hu;rfl) (by simp only [maxLen];omega) (by omega) ?_
        intro v2 w2 b4 h1 h2 h3
        have HF:=Lib.hid (HZ.out w1 w2 v1 v2 b3 b4 U1.out h1 h2 h3)
        clear h1 h2 h3))
    go_roundw
    case rel=>exact ⟨k+1,b3,b4,by omega,by go_num,HF⟩
    case measure=>simp [intOf];omega
  · have hkl:k=m.splits.length:=by omega
    subst hkl
    have ht:=hT.out
    rw [List.take_length] at ht
    have HT:=Lib.hid ht
    clear ht e
    go_wp2_with fail
    go_ret2
    have h1:=HT.out.own1
    have h2:=HT.out.own2
    refine ⟨_,_,rfl,?_,?_,HT.out.below⟩
    · have:=own_texts (l:=m.splits.map SpM.name) (v:=.slice ua m.splits.length uc) (blk:=b1) (by simpa [List.map_map,Function.comp_def] using h1)
      exact this.keep (fun _ _ _=>rfl) |> fun h=>h.mono fun b hb=>HT.out.new1 b hb
    · have:=own_nums (l:=m.splits.map fun x=>(x.read:Int)) (v:=.slice va m.splits.length vc) (blk:=b2) (by simpa [List.map_map,Function.comp_def] using h2)
      exact this.mono fun b hb=>HT.out.new2 b hb
end leaves
end Go.Proofs.YtimahogkcmmcnaaGreatDoor
