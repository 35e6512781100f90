/-
 The well, part 53: the reference reads. If the well lies in the world as the words say.
-/
import Derived.Test.YtimahogkcmmcnaaGreatDoorL22
set_option linter.unusedSimpArgs false
set_option linter.unusedVariables false
namespace Go.Proofs.YtimahogkcmmcnaaGreatDoor
open Go.RowKit Go.Proofs.YtimahogkcmmcnaaGreatDoor.Cmps
theorem setCell_id {w:World} {b o:Nat} {v:Value} (h:w.cell? ⟨b,o,none⟩=some v):w.setCell ⟨b,o,none⟩ v=w:=by
 have hm:(w.setCell ⟨b,o,none⟩ v).heap=w.heap:=by
  unfold World.setCell
  apply Array.ext
  · simp
  · intro i h1 h2
    simp only [Array.getElem_modify]
    split
    · rename_i e
      subst e
      unfold World.cell? at h
      have hg:w.heap[b]? = some w.heap[b]:=Array.getElem?_eq_getElem h2
      simp only [hg] at h
      generalize w.heap[b]=ob at h ⊢
      cases ob with
      | cells c el fr =>
        simp only [Option.isSome_none,Bool.false_eq_true,if_false] at h ⊢
        congr 1
        apply Array.ext
        · simp
        · intro j hj1 hj2
          rw [Array.getElem_setIfInBounds]
          split
          · rename_i e
            subst e
            have:c[o]? = some v:=by simpa using h
            rw [Array.getElem?_eq_getElem hj2] at this
            exact (Option.some.inj this).symm
          · rfl
      | _=>rfl
    · rfl
 show ({ w with heap:=(w.setCell ⟨b,o,none⟩ v).heap }:World)=w
 rw [hm]
theorem size116:(Tryz.prog.info? 116).map (·.size)=some 6:=by kernel_rfl
theorem ret58 {fn:Func} {p q u:Tmp} (h:fn.results=#[.cell p 45,.cell q 116,.tmp u]) (tmps:Array Value) (w:World) (g1 g2:Nat) {a b c d e f a' b' c' d' e' f':Value} (h1:w.heap[g1]? = some (.cells #[a,b,c,d,e,f] 45 (0,0))) (h2:w.heap[g2]? = some (.cells #[a',b',c',d',e',f'] 116 (0,0)))
 (hp:tmps.getD p undef=.pointer (some ⟨g1,0,none⟩)) (hq:tmps.getD q undef=.pointer (some ⟨g2,0,none⟩)) :
 (results fn tmps).run Tryz.prog w=.ok (.tuple #[.agg #[a,b,c,d,e,f],.agg #[a',b',c',d',e',f'],tmps.getD u undef]) w:=by
 have hl1:=run_loadVar_row (P:=Tryz.prog) w g1 45 45 #[a,b,c,d,e,f] (0,0) _ h1 Tryz.underlying45 rfl size45
 have hl2:=run_loadVar_row (P:=Tryz.prog) w g2 116 116 #[a',b',c',d',e',f'] (0,0) _ h2 Tryz.underlying116 rfl size116
 have hp':tmps[p]?.getD undef=.pointer (some ⟨g1,0,none⟩):=by simpa using hp
 have hq':tmps[q]?.getD undef=.pointer (some ⟨g2,0,none⟩):=by simpa using hq
 simp [results,h,hp',hq',asAddr,hl1,hl2]
theorem fill_id {w:World} {g:Nat} {a b c d e f:Value} {t:TypeId} (h:w.heap[g]? = some (.cells #[a,b,c,d,e,f] t (0,0))):fill45 w g a b c d e f=w:=by
 obtain ⟨h0,h1,h2,h3,h4,h5,_⟩:=box6_cells h
 unfold fill45
 rw [setCell_id h0,setCell_id h1,setCell_id h2,setCell_id h3,setCell_id h4,setCell_id h5]
theorem drew_at {w:World} {b:Nat} {o:Obj} (h:w.heap[b]? = some o):w.drew.heap[b]? = some o:=h
theorem new_snd (w:World) (x y:Obj):((w.alloc x).alloc y).heap[w.heap.size+1]? = some y:=by simpa using heap_alloc_new (w.alloc x) y
def atI:Option (Nat×Nat)→Int
 | none => -1
 | some p=>p.1
def NextTo (w:World) (D:Nat→Prop) (s:List Col) (r:WlM×RdM×Int) (e:Ending) (w':World):Prop :=
 ∃ p' rv,e=.returned (.tuple #[refV r.1 p',rdV r.2.1 rv,.int .i64 r.2.2])∧RefAt w' (Plus D w w') s r.1 p'∧RowAt w' (Plus D w w') rv r.2.1.ev.r∧Below w.heap.size w w'
structure Three (w w3:World) (a b c d e f:Value):Prop where
 below:Below w.heap.size w w3
 h0:w3.heap[w.heap.size]? = some (.cells #[a,b,c,d,e,f] 45 (0,0))
 h1:w3.heap[w.heap.size+1]? = some (.cells #[.slice none 0 0,.int .i64 0,.slice none 0 0,.slice none 0 0,.bool false,.slice none 0 0] 45 (0,0))
 h2:w3.heap[w.heap.size+2]? = some (.cells #[.int .i64 0,.string ⟨#[]⟩,.int .i64 0,.slice none 0 0,.bool false,.int .i64 0] 116 (0,0))
theorem three_new (w:World) (a b c d e f:Value):Three w (((w.alloc (.cells #[a,b,c,d,e,f] 45)).alloc (.cells #[.slice none 0 0,.int .i64 0,.slice none 0 0,.slice none 0 0,.bool false,.slice none 0 0] 45)).alloc (.cells #[.int .i64 0,.string ⟨#[]⟩,.int .i64 0,.slice none 0 0,.bool false,.int .i64 0] 116)) a b c d e f :=
 ⟨(two45_below ..).alloc (by simp;omega) _,alloc_keep (two45_fst ..),alloc_keep (two45 ..),by simpa using heap_alloc_new ((w.alloc (.cells #[a,b,c,d,e,f] 45)).alloc (.cells #[.slice none 0 0,.int .i64 0,.slice none 0 0,.slice none 0 0,.bool false,.slice none 0 0] 45)) (.cells #[.int .i64 0,.string ⟨#[]⟩,.int .i64 0,.slice none 0 0,.bool false,.int .i64 0] 116)⟩
theorem Three.next {w w3 w4:World} {a b c d e f:Value} (h:Three w w3 a b c d e f) (hb:Below w3.heap.size w3 w4):Three w w4 a b c d e f :=
 ⟨h.below.trans (hb.mono h.below.size),(hb.block _ (heap_lt h.h0)).trans h.h0,(hb.block _ (heap_lt h.h1)).trans h.h1,(hb.block _ (heap_lt h.h2)).trans h.h2⟩
theorem post_hid {P:Program} {c:Code} {Q:Exit→Act→World→Prop} {a:Act} {w:World} (h:∀ B:Exit→Act→World→Prop,Hid (∀ x a w,Q x a w→B x a w)→c.wp P B a w):c.wp P Q a w:=h Q (Lib.hid fun _ _ _ h=>h)
section leaves
set_option maxHeartbeats 8000000
set_option maxRecDepth 10000
theorem f58_any (hm:Tryz.prog.follows .mixedOrders=true) (w:World) (D:Nat→Prop) (s:List Col) (m:WlM) (p:RS) (r:Int) (h:RefAt w D s m p) (hok:WOk m) (hrow:WRow m) :
 Calls Tryz.prog 58 #[refV m p,.int .i64 r] w (NextTo w D s (readR m r)):=by
 have mixed:=hm
 have H:=Lib.hid h
 have H0:=Lib.hid (h.imp (D':=fun b=>D b∧b<w.heap.size) fun b hl hb=>⟨hb,hl⟩)
 have HOK:=Lib.hid hok
 have HROW:=Lib.hid hrow
 obtain ⟨sch,⟨sa,sc⟩,⟨ma,mc⟩,back⟩:=p
 obtain ⟨sha,shc,rfl⟩:∃ a c,sch=.slice a s.length c:=by obtain ⟨a,c,e,_⟩:=h.sch;exact ⟨a,c,e⟩
 obtain ⟨ba,bc,rfl⟩:∃ a c,back=.slice a m.late.length c:=by obtain ⟨a,c,e,_⟩:=h.back;exact ⟨a,c,e⟩
 have h50:=hok.splits
 have h16:=hok.hi
 clear h hok hrow
 simp only [refV]
 have HT0:Hid _:=three_new w (.slice sha s.length shc) (.int .i64 m.bound) (.slice sa m.splits.length sc) (.slice ma m.marks.length mc) (.bool m.sealed) (.slice ba m.late.length bc)
 by_cases hib:isB m.marks.length r=false
 · have HR:Hid (readR m r=(m,rd0,7)):=by show _=_;rw [readR,if_pos hib]
   have hno:r<0∨(¬ r<0∧(m.marks.length:Int)≤r):=by simp [isB] at hib;omega
   clear hib
   rcases hno with hneg | ⟨hneg,hge⟩
   all_goals
    go_enter Tryz.func58,Tryz.ntmps58
    refine post_hid fun B HPOST=>?_
    go_wp2_with fail
    refine HPOST.out _ _ _ (bodyPost_ret (ret58 rfl _ _ (w.heap.size+1) (w.heap.size+1+1) (alloc_keep (two45 ..)) (by simpa using heap_alloc_new ((w.alloc (.cells #[.slice sha s.length shc,.int .i64 m.bound,.slice sa m.splits.length sc,.slice ma m.marks.length mc,.bool m.sealed,.slice ba m.late.length bc] 45)).alloc (.cells #[.slice sha s.length shc,.int .i64 m.bound,.slice sa m.splits.length sc,.slice ma m.marks.length mc,.bool m.sealed,.slice ba m.late.length bc] 45)) (.cells #[.int .i64 0,.string ⟨#[]⟩,.int .i64 0,.slice none 0 0,.bool false,.int .i64 0] 116)) rfl rfl) rfl ?_)
    have hbF:Below w.heap.size w (((w.alloc (.cells #[.slice sha s.length shc,.int .i64 m.bound,.slice sa m.splits.length sc,.slice ma m.marks.length mc,.bool m.sealed,.slice ba m.late.length bc] 45)).alloc (.cells #[.slice sha s.length shc,.int .i64 m.bound,.slice sa m.splits.length sc,.slice ma m.marks.length mc,.bool m.sealed,.slice ba m.late.length bc] 45)).alloc (.cells #[.int .i64 0,.string ⟨#[]⟩,.int .i64 0,.slice none 0 0,.bool false,.int .i64 0] 116)):=(two45_below ..).alloc (by simp;omega) _
    rw [HR.out]
    exact ⟨⟨.slice sha s.length shc,(sa,sc),(ma,mc),.slice ba m.late.length bc⟩,.slice none 0 0,rfl,(H.out.below hbF).mono fun b h=>.inl h,⟨none,0,rfl,by simp [rd0],.inl rfl⟩,hbF⟩
 · obtain ⟨q,rfl⟩:∃ q:Nat,r=q:=⟨r.toNat,by simp [isB] at hib;omega⟩
   have hq:q<m.marks.length:=by simp [isB] at hib;omega
   have hq1:¬ (q:Int)<0:=by omega
   have hq2:¬ (m.marks.length:Int)≤(q:Int):=by omega
   clear hib
   go_enter Tryz.func58,Tryz.ntmps58
   refine post_hid fun B HPOST=>?_
   go_wp2_with fail
   go_loopw [7,8] (fun t i wr=>∃ (k:Nat) (ao:Option (Nat×Nat)),k≤m.splits.length∧i=.int .i64 k∧t=.int .i64 (atI ao)∧Hid (nextN m.splits q k=ao)∧Hid (Three w wr (.slice sha s.length shc) (.int .i64 m.bound) (.slice sa m.splits.length sc) (.slice ma m.marks.length mc) (.bool m.sealed) (.slice ba m.late.length bc))) (fun _ i _=>m.splits.length - (intOf i).toNat)
   case atStart=>exact ⟨0,none,by omega,rfl,rfl,Lib.hid rfl,HT0⟩
   case round =>
    obtain ⟨k,ao,hk,rfl,rfl,hn,hT⟩:=hrel
    clear HT0
    by_cases hlt:k<m.splits.length
    · obtain ⟨g,o,e1,e2,rfl,hg,-,x0,x1,x2,x3,x4,x5⟩:=(H0.out.spl.below hT.out.below).at hlt
      obtain ⟨b0,b1,b2,b3,b4,b5,bf⟩:=box6_cells hT.out.h0
      have HA:Hid (Below wr.heap.size wr (wr.alloc (.cells #[.string m.splits[k].name,.int .i64 (m.splits[k].owner:Int),.slice e1 m.splits[k].evs.length e2,.int .i64 (m.splits[k].read:Int),.int .i64 m.splits[k].gauge,.bool m.splits[k].sealed] 124))):=(Below.refl _ _).alloc (Nat.le_refl _) _
      have HX:Hid ((wr.alloc (.cells #[.string m.splits[k].name,.int .i64 (m.splits[k].owner:Int),.slice e1 m.splits[k].evs.length e2,.int .i64 (m.splits[k].read:Int),.int .i64 m.splits[k].gauge,.bool m.splits[k].sealed] 124)).heap[wr.heap.size]? = some (.cells #[.string m.splits[k].name,.int .i64 (m.splits[k].owner:Int),.slice e1 m.splits[k].evs.length e2,.int .i64 (m.splits[k].read:Int),.int .i64 m.splits[k].gauge,.bool m.splits[k].sealed] 124 (0,0))):=heap_alloc_new wr _
      have hwl:=heap_lt hT.out.h0
      have HTN:=Lib.hid (hT.out.next HA.out)
      have ht2:=cells_at HTN.out.h0 2
      have hap:∀ i n,ao=some (i,n)→∃ hi:i<m.splits.length,m.splits[i].read=n:=fun i n e=>by
       obtain ⟨hi,_,hrn,_⟩:=nextN_some hk (hn.out.trans e)
       exact ⟨hi,hrn⟩
      have HSB:=Lib.hid ((H0.out.spl.below hT.out.below).below HA.out)
      have HNS:=Lib.hid (nextN_succ (r:=(q:Int)) hlt)
      rw [hn.out] at HNS
      have hkl:(k:Int)<(m.splits.length:Int):=by omega
      have hk0:(0:Int)≤(k:Int):=by omega
      obtain ⟨y,hy⟩:∃ y,m.splits[k]=y:=⟨_,rfl⟩
      obtain ⟨nm,hnm⟩:∃ v,y.name=v:=⟨_,rfl⟩
      obtain ⟨ow,how⟩:∃ v,y.owner=v:=⟨_,rfl⟩
      obtain ⟨ln,hln⟩:∃ v,y.evs.length=v:=⟨_,rfl⟩
      obtain ⟨rd,hrd⟩:∃ v,y.read=v:=⟨_,rfl⟩
      obtain ⟨gg,hgg⟩:∃ v,y.gauge=v:=⟨_,rfl⟩
      obtain ⟨sl,hsl⟩:∃ v,y.sealed=v:=⟨_,rfl⟩
      rw [hy] at x0 x1 x2 x3 x4 x5 HNS
      rw [hy,hnm,how,hln,hrd,hgg,hsl] at HX HA HTN ht2 HSB
      rw [hnm] at x0
      rw [how] at x1
      rw [hln] at x2
      rw [hrd] at x3
      rw [hgg] at x4
      rw [hsl] at x5
      have HNS2:Hid (nextN m.splits q (k+1)=if (((ow:Int) == (q:Int)) && decide (rd<ln) && lessO ao rd)=true then some (k,rd) else ao):=by
       show _=_
       rw [HNS.out,nextStep,how,hrd,hln]
      clear HNS hy hnm how hln hrd hgg hsl
      go_wp2_with fail
      have hbx:=heap_lt HX.out
      have hws:=heap_lt HTN.out.h0
      have hg5:=Nat.lt_of_lt_of_le hg HA.out.size
      clear b0 b1 b2 b3 b4 b5 bf x0 x1 x2 x3 x4 x5 hg hwl hT
      generalize wr.alloc (.cells #[.string nm,.int .i64 (ow:Int),.slice e1 ln e2,.int .i64 (rd:Int),.int .i64 gg,.bool sl] 124)=w5 at HA HX HTN ht2 HSB hbx hws hg5 ⊢
      generalize wr.heap.size=bx at HX hbx ⊢
      have z1:w5.cell? ⟨bx,1,none⟩=some (.int .i64 (ow:Int)):=cells_at HX.out 1
      have z2:w5.cell? ⟨bx,2,none⟩=some (.slice e1 ln e2):=cells_at HX.out 2
      have z3:w5.cell? ⟨bx,3,none⟩=some (.int .i64 (rd:Int)):=cells_at HX.out 3
      have ht2':w5.cell? ⟨w.heap.size,2,none⟩=some (.slice (some ⟨g,o,none⟩) m.splits.length sc):=ht2
      clear HX ht2
      have hcl:=fun d os b' o' h=>(below_regrown w5 d os).cell (p:=⟨b',o',none⟩) h
      cases c1:((ow:Int) == (q:Int))
      · refine wp_region_quiet_below mixed (by kernel_rfl) ?_
        repeat (first | go_big_quiet_skip | quiet_step (fail))
        refine wpQuiet_nil ?_
        intro wq hw'
        have HQ:=Lib.hid (below_of_class hw')
        clear hw' hcl
        go_wp2_with fail
        go_roundw
        case rel=>exact ⟨k+1,ao,by omega,by go_num,rfl,Lib.hid (by rw [HNS2.out,c1];rfl),Lib.hid (HTN.out.next HQ.out)⟩
        case measure=>simp [intOf];omega
      · by_cases c2:(rd:Int)<(ln:Int)
        · have c2':rd<ln:=by omega
          cases ao with
          | none =>
            have hneg:(-1:Int)<0:=by omega
            unfold atI
            refine wp_region_quiet_below mixed (by kernel_rfl) ?_
            repeat (first | go_big_quiet_skip | quiet_step (fail))
            refine wpQuiet_nil ?_
            intro wq hw'
            have HQ:=Lib.hid (below_of_class hw')
            clear hw' hcl
            go_wp2_with fail
            go_roundw
            case rel=>exact ⟨k+1,some (k,rd),by omega,by go_num,rfl,Lib.hid (by rw [HNS2.out,c1];simp [c2',lessO]),Lib.hid (HTN.out.next HQ.out)⟩
            case measure=>simp [intOf];omega
          | some ap =>
            obtain ⟨i,n⟩:=ap
            obtain ⟨hi,hin⟩:=hap i n rfl
            obtain ⟨_,_,_,_,_,_,_,u3,_,_⟩:=HSB.out.at' hi
            rw [hin] at u3
            have hni:¬ (i:Int)<0:=by omega
            have hil:(i:Int)<(m.splits.length:Int):=by omega
            have hi0:(0:Int)≤(i:Int):=by omega
            unfold atI
            by_cases c3:(rd:Int)<(n:Int)
            · have c3':rd<n:=by omega
              refine wp_region_quiet_below mixed (by kernel_rfl) ?_
              repeat (first | go_big_quiet_skip | quiet_step (fail))
              refine wpQuiet_nil ?_
              intro wq hw'
              have HQ:=Lib.hid (below_of_class hw')
              clear hw' hcl
              go_wp2_with fail
              go_roundw
              case rel=>exact ⟨k+1,some (k,rd),by omega,by go_num,rfl,Lib.hid (by rw [HNS2.out,c1];simp [c2',c3',lessO]),Lib.hid (HTN.out.next HQ.out)⟩
              case measure=>simp [intOf];omega
            · have c3':¬ rd<n:=by omega
              refine wp_region_quiet_below mixed (by kernel_rfl) ?_
              repeat (first | go_big_quiet_skip | quiet_step (fail))
              refine wpQuiet_nil ?_
              intro wq hw'
              have HQ:=Lib.hid (below_of_class hw')
              clear hw' hcl
              go_wp2_with fail
              go_roundw
              case rel=>exact ⟨k+1,some (i,n),by omega,by go_num,rfl,Lib.hid (by rw [HNS2.out,c1];simp [c3',lessO]),Lib.hid (HTN.out.next HQ.out)⟩
              case measure=>simp [intOf];omega
        · have c2':¬ rd<ln:=by omega
          refine wp_region_quiet_below mixed (by kernel_rfl) ?_
          repeat (first | go_big_quiet_skip | quiet_step (fail))
          refine wpQuiet_nil ?_
          intro wq hw'
          have HQ:=Lib.hid (below_of_class hw')
          clear hw' hcl
          go_wp2_with fail
          go_roundw
          case rel=>exact ⟨k+1,ao,by omega,by go_num,rfl,Lib.hid (by rw [HNS2.out,c1];simp [c2']),Lib.hid (HTN.out.next HQ.out)⟩
          case measure=>simp [intOf];omega
    · have hkl:k=m.splits.length:=by omega
      subst hkl
      obtain ⟨b0,b1,b2,b3,b4,b5,bf⟩:=box6_cells hT.out.h0
      obtain ⟨r0,r1,r2,r3,r4,r5,rf⟩:=box6_cells hT.out.h1
      obtain ⟨s0,s1,s2,s3,s4,s5,sf⟩:=box6_cells hT.out.h2
      cases ao with
      | none =>
        have HR:Hid (readR m q=(m,rd0,8)):=by
         show _=_
         have hb:isB m.marks.length (q:Int)=true:=by simp [isB];omega
         simp [readR,hb,hn.out]
        unfold atI
        go_wp2_with fail
        refine HPOST.out _ _ _ (bodyPost_ret (ret58 rfl _ _ (w.heap.size+1) (w.heap.size+1+1) ((fill_ne (by omega) _ _ _ _ _ _).trans (box45_fill hT.out.h1 _ _ _ _ _ _)) (box6_fill ((fill_ne (by omega) _ _ _ _ _ _).trans hT.out.h2) _ _ _ _ _ _) rfl rfl) rfl ?_)
        have hbF:=fill_below (fill_below hT.out.below (Nat.le_succ w.heap.size) (.slice sha s.length shc) (.int .i64 m.bound) (.slice sa m.splits.length sc) (.slice ma m.marks.length mc) (.bool m.sealed) (.slice ba m.late.length bc)) (by omega:w.heap.size≤w.heap.size+1+1) (.int .i64 0) (.string ⟨#[]⟩) (.int .i64 0) (.slice none 0 0) (.bool false) (.int .i64 0)
        rw [HR.out]
        exact ⟨⟨.slice sha s.length shc,(sa,sc),(ma,mc),.slice ba m.late.length bc⟩,.slice none 0 0,rfl,(H.out.below hbF).mono fun b h=>.inl h,⟨none,0,rfl,by simp [rd0],.inl rfl⟩,hbF⟩
      | some p =>
        obtain ⟨k,n⟩:=p
        obtain ⟨hlt,-,hrn,hne,hown⟩:=nextN_some (Nat.le_refl _) hn.out
        have hrd:m.splits[k].read<m.splits[k].evs.length:=by omega
        have HR:Hid (readR m q=_):=readR_some hq hlt hrd hn.out
        have HC:=Lib.hid (f87_any wr _ s m _ (H0.out.below hT.out.below) HOK.out)
        simp only [refV] at HC
        unfold atI
        have hkl:(k:Int)<(m.splits.length:Int):=by omega
        have hk0:(0:Int)≤(k:Int):=by omega
        have hnk:¬ (k:Int)<0:=by omega
        obtain ⟨y,hy⟩:∃ y,m.splits[k].evs[m.splits[k].read]=y:=⟨_,rfl⟩
        obtain ⟨nm,hnm⟩:∃ v,m.splits[k].name=v:=⟨_,rfl⟩
        obtain ⟨ln,hln⟩:∃ v,m.splits[k].evs.length=v:=⟨_,rfl⟩
        obtain ⟨gg,hgg⟩:∃ v,m.splits[k].gauge=v:=⟨_,rfl⟩
        obtain ⟨sl,hsl⟩:∃ v,m.splits[k].sealed=v:=⟨_,rfl⟩
        have hnl:(n:Int)<(ln:Int):=by omega
        have hn0:(0:Int)≤(n:Int):=by omega
        have HY:=Lib.hid hy;have HNM:=Lib.hid hnm;have HLN:=Lib.hid hln;have HGG:=Lib.hid hgg;have HSL:=Lib.hid hsl;have HRN:=Lib.hid hrn;have HOW:=Lib.hid hown
        clear hy hnm hln hgg hsl hrn hown hne
        go_wp2_with (first
         | (go_at_call 87;(with_reducible refine HC.out.mono ?_);rintro e w4 ⟨⟨sch',⟨sa',sc'⟩,⟨ma',mc'⟩,back'⟩,sb,mb,rfl,hro,hs,hmb,hb⟩
            simp only [refV]
            obtain ⟨sha',shc',rfl⟩:∃ a c,sch'=.slice a s.length c:=by obtain ⟨a,c,e,_⟩:=hro.sch;exact ⟨a,c,e⟩
            obtain ⟨ba',bc',rfl⟩:∃ a c,back'=.slice a m.late.length c:=by obtain ⟨a,c,e,_⟩:=hro.back;exact ⟨a,c,e⟩
            obtain ⟨g',o',rfl,hsg,-⟩:=hro.splForm (by omega)
            have hB4:=(hb.block _ (heap_lt hT.out.h0)).trans hT.out.h0
            have hR4:=(hb.block _ (heap_lt hT.out.h1)).trans hT.out.h1
            have hS4:=(hb.block _ (heap_lt hT.out.h2)).trans hT.out.h2
            have hz:=heap_lt hT.out.h2
            have hsz4:=hb.size
            have hB5:=box45_fill hB4 (.slice sha' s.length shc') (.int .i64 m.bound) (.slice (some ⟨g',o',none⟩) m.splits.length sc') (.slice ma' m.marks.length mc') (.bool m.sealed) (.slice ba' m.late.length bc')
            have hR5:=(fill_ne (by omega:w.heap.size+1≠w.heap.size) (.slice sha' s.length shc') (.int .i64 m.bound) (.slice (some ⟨g',o',none⟩) m.splits.length sc') (.slice ma' m.marks.length mc') (.bool m.sealed) (.slice ba' m.late.length bc')).trans hR4
            have hS5:=(fill_ne (by omega:w.heap.size+2≠w.heap.size) (.slice sha' s.length shc') (.int .i64 m.bound) (.slice (some ⟨g',o',none⟩) m.splits.length sc') (.slice ma' m.marks.length mc') (.bool m.sealed) (.slice ba' m.late.length bc')).trans hS4
            have hro5:=hro.fillK (g:=w.heap.size) (fun h=>by have:=h.1.2;omega) (fun e=>by have:=hs _ e;omega) (fun e=>by have:=hmb _ e;omega) (.slice sha' s.length shc') (.int .i64 m.bound) (.slice (some ⟨g',o',none⟩) m.splits.length sc') (.slice ma' m.marks.length mc') (.bool m.sealed) (.slice ba' m.late.length bc')
            have hb5:=fill_below (hT.out.below.trans (hb.mono hT.out.below.size)) (Nat.le_refl w.heap.size) (.slice sha' s.length shc') (.int .i64 m.bound) (.slice (some ⟨g',o',none⟩) m.splits.length sc') (.slice ma' m.marks.length mc') (.bool m.sealed) (.slice ba' m.late.length bc')
            obtain ⟨p0,p1,p2,p3,p4,p5,pf⟩:=box6_cells hB4
            obtain ⟨q0,q1,q2,q3,q4,q5,qf⟩:=box6_cells hB5
            obtain ⟨e1,e2,hg',hev,v0,v1,v2,v3,v4,v5⟩:=hro5.spl.spls.at' hlt
            obtain ⟨ev0,hevD,v2x⟩:=hro5.spl.evAt hlt
            rw [v2] at v2x
            obtain rfl:=Option.some.inj v2x
            obtain ⟨ge,oe,ra,rc,rfl,hge,c0,c1,hrow',-⟩:=hevD.at hrd
            rw [HY.out,HRN.out] at c0 c1
            rw [HY.out] at hrow'
            rw [HNM.out] at v0
            rw [HOW.out] at v1
            rw [HLN.out] at v2
            rw [HRN.out] at v3
            rw [HGG.out] at v4
            rw [HSL.out] at v5
            have hk10:=fun (x:Obj)=>((Below.refl (fill45 w4 w.heap.size (.slice sha' s.length shc') (.int .i64 m.bound) (.slice (some ⟨g',o',none⟩) m.splits.length sc') (.slice ma' m.marks.length mc') (.bool m.sealed) (.slice ba' m.late.length bc')).heap.size (fill45 w4 w.heap.size (.slice sha' s.length shc') (.int .i64 m.bound) (.slice (some ⟨g',o',none⟩) m.splits.length sc') (.slice ma' m.marks.length mc') (.bool m.sealed) (.slice ba' m.late.length bc'))).alloc (Nat.le_refl _) x)
            have d0:=fun (x:Obj)=>((hk10 x).cell (p:=⟨ge,oe+n * 2,none⟩) hge).trans c0
            have d1:=fun (x:Obj)=>((hk10 x).cell (p:=⟨ge,oe+n * 2+1,none⟩) hge).trans c1
            have HB5:=Lib.hid hB5;have HR5:=Lib.hid hR5;have HS5:=Lib.hid hS5;have HRO5:=Lib.hid hro5;have HBW5:=Lib.hid hb5;have HROW5:=Lib.hid hrow'
            have HSB:=Lib.hid hs;have HMB:=Lib.hid hmb;have HWR:=Lib.hid hz;have HSG:=Lib.hid hsg
            clear hB5 hR5 hS5 hro5 hb5 hrow' hs hmb hz hsg hB4 hR4 hS4 hro hb hk10 hev hevD v2x c0 c1 b0 b1 b2 b3 b4 b5 bf r0 r1 r2 r3 r4 r5 rf s0 s1 s2 s3 s4 s5 sf))
        obtain ⟨w6,hw6⟩:∃ W,((fill45 w4 w.heap.size (.slice sha' s.length shc') (.int .i64 m.bound) (.slice (some ⟨g',o',none⟩) m.splits.length sc') (.slice ma' m.marks.length mc') (.bool m.sealed) (.slice ba' m.late.length bc')).alloc (.cells #[.string nm,.int .i64 (q:Int),.slice (some ⟨ge,oe,none⟩) ln e2,.int .i64 (n:Int),.int .i64 gg,.bool sl] 124)).alloc (.cells #[.int .i64 y.t,.slice ra y.r.length rc] 30)=W:=⟨_,rfl⟩
        have hsz:(fill45 w4 w.heap.size (.slice sha' s.length shc') (.int .i64 m.bound) (.slice (some ⟨g',o',none⟩) m.splits.length sc') (.slice ma' m.marks.length mc') (.bool m.sealed) (.slice ba' m.late.length bc')).heap.size=w4.heap.size:=by simp [fill45]
        have hbl:Below (fill45 w4 w.heap.size (.slice sha' s.length shc') (.int .i64 m.bound) (.slice (some ⟨g',o',none⟩) m.splits.length sc') (.slice ma' m.marks.length mc') (.bool m.sealed) (.slice ba' m.late.length bc')).heap.size (fill45 w4 w.heap.size (.slice sha' s.length shc') (.int .i64 m.bound) (.slice (some ⟨g',o',none⟩) m.splits.length sc') (.slice ma' m.marks.length mc') (.bool m.sealed) (.slice ba' m.late.length bc')) w6:=by
         rw [← hw6];exact ((Below.refl _ _).alloc (Nat.le_refl _) _).alloc (by simp) _
        have hsbl:∀ b,sb=some b→b<w4.heap.size:=fun b e=>by
         obtain ⟨ps,_,ho,_⟩:=HRO5.out.spl
         have:=ho.lt_of e
         rw [hsz] at this;exact this
        have hmbl:∀ b,mb=some b→b<w4.heap.size:=fun b e=>by
         have:=HRO5.out.mks.lt_of e
         rw [hsz] at this;exact this
        have GS:=Lib.hid hsbl;have GN:=Lib.hid hmbl
        clear hsbl hmbl
        have G10:Hid (w6.heap[w4.heap.size]? = some (.cells #[.string nm,.int .i64 (q:Int),.slice (some ⟨ge,oe,none⟩) ln e2,.int .i64 (n:Int),.int .i64 gg,.bool sl] 124 (0,0))):=by
         show _=_
         rw [← hw6,← hsz];exact alloc_keep (heap_alloc_new _ _)
        have G11:Hid (w6.heap[w4.heap.size+1]? = some (.cells #[.int .i64 y.t,.slice ra y.r.length rc] 30 (0,0))):=by
         show _=_
         rw [← hw6,← hsz]
         simpa using heap_alloc_new ((fill45 w4 w.heap.size (.slice sha' s.length shc') (.int .i64 m.bound) (.slice (some ⟨g',o',none⟩) m.splits.length sc') (.slice ma' m.marks.length mc') (.bool m.sealed) (.slice ba' m.late.length bc')).alloc (.cells #[.string nm,.int .i64 (q:Int),.slice (some ⟨ge,oe,none⟩) ln e2,.int .i64 (n:Int),.int .i64 gg,.bool sl] 124)) (.cells #[.int .i64 y.t,.slice ra y.r.length rc] 30)
        have G0:=Lib.hid ((hbl.block _ (heap_lt HB5.out)).trans HB5.out)
        have G1:=Lib.hid ((hbl.block _ (heap_lt HR5.out)).trans HR5.out)
        have G2:=Lib.hid ((hbl.block _ (heap_lt HS5.out)).trans HS5.out)
        have GO:=Lib.hid (HRO5.out.below hbl)
        have GW:=Lib.hid (HBW5.out.trans (hbl.mono HBW5.out.size))
        have GR:=Lib.hid (HROW5.out.below hbl)
        have GE:=Lib.hid hsz4
        obtain ⟨mg,mo,rfl⟩:∃ mg mo,ma'=some ⟨mg,mo,none⟩:=by
         obtain ⟨g1,o1,h⟩:=GO.out.mks.some_of (by omega)
         exact ⟨g1,o1,h⟩
        have hmg:=own_blk GO.out.mks
        have GM:=Lib.hid hmg
        obtain ⟨mk,hmk⟩:∃ v,m.marks[q]=v:=⟨_,rfl⟩
        have c2:w6.cell? ⟨mg,mo+q,none⟩=some (.int .i64 mk):=GO.out.mks.cell q _ (by simp [hq,hmk])
        have HMK:=Lib.hid hmk
        have c0:w6.cell? ⟨w4.heap.size+1,0,none⟩=some (.int .i64 y.t):=cells_at G11.out 0
        have c1:w6.cell? ⟨w.heap.size,3,none⟩=some (.slice (some ⟨mg,mo,none⟩) m.marks.length mc'):=cells_at G0.out 3
        have z0:=cell_lt c0
        have z1:=cell_lt c1
        have z2:=cell_lt c2
        have hqi:(q:Int)<(m.marks.length:Int):=by omega
        have hqi0:(0:Int)≤(q:Int):=by omega
        have hw6':((((((((w4.setCell ⟨w.heap.size,0,none⟩ (.slice sha' s.length shc')).setCell ⟨w.heap.size,1,none⟩ (.int .i64 m.bound)).setCell ⟨w.heap.size,2,none⟩ (.slice (some ⟨g',o',none⟩) m.splits.length sc')).setCell ⟨w.heap.size,3,none⟩ (.slice (some ⟨mg,mo,none⟩) m.marks.length mc')).setCell ⟨w.heap.size,4,none⟩ (.bool m.sealed)).setCell ⟨w.heap.size,5,none⟩ (.slice ba' m.late.length bc')).alloc (.cells #[.string nm,.int .i64 (q:Int),.slice (some ⟨ge,oe,none⟩) ln e2,.int .i64 (n:Int),.int .i64 gg,.bool sl] 124)).alloc (.cells #[.int .i64 y.t,.slice ra y.r.length rc] 30))=w6:=hw6
        rw [hw6']
        have V2:=Lib.hid ((hbl.cell (p:=⟨g',o'+k * 6+2,none⟩) hg').trans v2)
        have hg6:=Nat.lt_of_lt_of_le hg' hbl.size
        clear hw6 hw6' hsz hbl hmg hmk HB5 HR5 HS5 HRO5 HBW5 HROW5 p0 p1 p2 p3 p4 p5 pf q0 q1 q2 q3 q4 q5 qf v0 v1 v2 v3 v4 v5 d0 d1 hg' hge hsz4
        generalize w4.heap.size=b10 at G10 G11 GE GS GN c0 z0 ⊢
        have hcl:=fun d os b' o' h=>(below_regrown w6 d os).cell (p:=⟨b',o',none⟩) h
        obtain ⟨lt,hlt1⟩:∃ v,decide (y.t<mk)=v:=⟨_,rfl⟩
        refine wp_region_quiet_below mixed (by kernel_rfl) ?_
        repeat (quiet_step (fail))
        refine wpQuiet_nil ?_
        intro wq hw'
        have HQ:=Lib.hid (below_of_class hw')
        have V3:=Lib.hid ((HQ.out.cell (p:=⟨g',o'+k * 6+2,none⟩) hg6).trans V2.out)
        have K10:=Lib.hid ((HQ.out.block _ (heap_lt G10.out)).trans G10.out)
        have K11:=Lib.hid ((HQ.out.block _ (heap_lt G11.out)).trans G11.out)
        have K0:=Lib.hid ((HQ.out.block _ (heap_lt G0.out)).trans G0.out)
        have K1:=Lib.hid ((HQ.out.block _ (heap_lt G1.out)).trans G1.out)
        have K2:=Lib.hid ((HQ.out.block _ (heap_lt G2.out)).trans G2.out)
        have KO:=Lib.hid (GO.out.below HQ.out)
        have KW:=Lib.hid (GW.out.trans (HQ.out.mono GW.out.size))
        have KR:=Lib.hid (GR.out.below HQ.out)
        have HLT:=Lib.hid hlt1
        clear hlt1 hw' hcl c0 c1 c2 z0 z1 z2 G10 G11 G0 G1 G2 GO GW GR HQ
        have HBD:=Lib.hid HOK.out.bound
        have HYT:Hid (-1000000000000≤y.t∧y.t≤1000000000000):=by
         rw [← HY.out];exact HOK.out.time _ (List.getElem_mem hlt) _ (List.getElem_mem _)
        have hln4:ln≤400:=by
         rw [← HLN.out]
         have h1:=allN_take hlt
         have h2:=allN_le m.splits (k+1)
         have h3:=HOK.out.all
         omega
        have hwr1:IntKind.i64.wrap ((n:Int)+1)=(n:Int)+1:=wrapI (by omega)
        have hwr2:IntKind.i64.wrap (y.t - m.bound)=y.t - m.bound:=wrapI (by have h1:=HBD.out;have h2:=HYT.out;omega)
        have hwr3:IntKind.i64.wrap (y.t - m.bound+1)=y.t - m.bound+1:=wrapI (by have h1:=HBD.out;have h2:=HYT.out;omega)
        have hgw:wr.heap.size≤g':=HSB.out _ HSG.out
        have hgb:g'<b10:=GS.out _ HSG.out
        have hwz:=HWR.out
        have hge:=GE.out
        -- the boxes' cells and what must not be
        obtain ⟨a0,a1,a2,a3,a4,a5,af⟩:=box6_cells K10.out
        obtain ⟨x0,x1,x2,x3,x4,x5,xf⟩:=box6_cells K0.out
        have hRA:=KO.out.setK (g:=b10) (fun h=>by have:=h.2;omega) (fun e=>by have:=GS.out _ e;omega) (fun e=>by have:=GN.out _ e;omega) 3 (.int .i64 ((n:Int)+1))
        have hbA:(wq.setCell ⟨b10,3,none⟩ (.int .i64 ((n:Int)+1))).heap[b10]? = some (.cells #[.string nm,.int .i64 (q:Int),.slice (some ⟨ge,oe,none⟩) ln e2,.int .i64 ((n:Int)+1),.int .i64 gg,.bool sl] 124 (0,0)):=by simpa using heap_set (j:=3) K10.out (.int .i64 ((n:Int)+1))
        have hkA:∀ b,b≠b10→(wq.setCell ⟨b10,3,none⟩ (.int .i64 ((n:Int)+1))).heap[b]? = wq.heap[b]? := fun b hb=>heap_set_ne _ hb
        have i0:(wq.setCell ⟨b10,3,none⟩ (.int .i64 ((n:Int)+1))).cell? ⟨b10+1,0,none⟩=some (.int .i64 y.t):=(World.cell?_of_block (a:=⟨b10+1,0,none⟩) (hkA (b10+1) (by omega))).trans (cells_at K11.out 0)
        obtain ⟨GX,hGX⟩:∃ v,max gg (y.t - m.bound+1)=v:=⟨_,rfl⟩
        have HGX:=Lib.hid hGX
        clear hGX
        by_cases hgt:gg<y.t - m.bound+1
        case' pos =>
         have hGX:y.t - m.bound+1=GX:=by rw [← HGX.out];omega
         have hRB:=hRA.setK (g:=b10) (fun h=>by have:=h.2;omega) (fun e=>by have:=GS.out _ e;omega) (fun e=>by have:=GN.out _ e;omega) 4 (.int .i64 (y.t - m.bound+1))
         have hbB:((wq.setCell ⟨b10,3,none⟩ (.int .i64 ((n:Int)+1))).setCell ⟨b10,4,none⟩ (.int .i64 (y.t - m.bound+1))).heap[b10]? = some (.cells #[.string nm,.int .i64 (q:Int),.slice (some ⟨ge,oe,none⟩) ln e2,.int .i64 ((n:Int)+1),.int .i64 (y.t - m.bound+1),.bool sl] 124 (0,0)):=by simpa using heap_set (j:=4) hbA (.int .i64 (y.t - m.bound+1))
         have hkB:∀ b,b≠b10→((wq.setCell ⟨b10,3,none⟩ (.int .i64 ((n:Int)+1))).setCell ⟨b10,4,none⟩ (.int .i64 (y.t - m.bound+1))).heap[b]? = wq.heap[b]? := fun b hb=>(heap_set_ne _ hb).trans (hkA b hb)
         have hBB:=((Below.refl b10 wq).setCell (p:=⟨b10,3,none⟩) (Nat.le_refl b10) (.int .i64 ((n:Int)+1))).setCell (p:=⟨b10,4,none⟩) (Nat.le_refl b10) (.int .i64 (y.t - m.bound+1))
         obtain ⟨_,_,hgz,_,v0,v1,_,v3,v4,v5⟩:=hRB.spl.spls.at' hlt
         rw [HNM.out] at v0
         rw [HOW.out] at v1
         rw [HRN.out] at v3
         rw [HGG.out] at v4
         rw [HSL.out] at v5
         have v2:((wq.setCell ⟨b10,3,none⟩ (.int .i64 ((n:Int)+1))).setCell ⟨b10,4,none⟩ (.int .i64 (y.t - m.bound+1))).cell? ⟨g',o'+k * 6+2,none⟩=some (.slice (some ⟨ge,oe,none⟩) ln e2):=(World.cell?_of_block (a:=⟨g',o'+k * 6+2,none⟩) (hkB g' (by omega))).trans V3.out
         have hfr:=hRB.frozen
         have hg1:(m.setS k { m.splits[k] with read:=m.splits[k].read+1 }).splits[k]'(by simpa [WlM.setS] using hlt)={ m.splits[k] with read:=m.splits[k].read+1 }:=by simp [WlM.setS]
         have hRS1:=hRB.setS hlt (j:=3) (by omega) (x:={ m.splits[k] with read:=m.splits[k].read+1 }) (v:=.int .i64 (((m.splits[k].read+1:Nat)):Int)) (fun ev=>rfl) rfl
         have hRS2:=hRS1.setS (k:=k) (by simpa [WlM.setS] using hlt) (j:=4) (by omega) (x:={ m.splits[k] with read:=m.splits[k].read+1,gauge:=(y.t - m.bound+1) }) (v:=.int .i64 (y.t - m.bound+1)) (fun ev=>by rw [hg1];rfl) (by rw [hg1])
         have hv:(((m.splits[k].read+1:Nat)):Int)=(n:Int)+1:=by rw [HRN.out];simp
         have hgx:(y.t - m.bound+1)=max m.splits[k].gauge (y.t - m.bound+1):=by rw [HGG.out,HGX.out];exact hGX
         have hm2:(m.setS k { m.splits[k] with read:=m.splits[k].read+1 }).setS k { m.splits[k] with read:=m.splits[k].read+1,gauge:=(y.t - m.bound+1) }=m.setS k (seenS m.bound m.splits[k] y.t):=by
          have e:({ m.splits[k] with read:=m.splits[k].read+1,gauge:=(y.t - m.bound+1) }:SpM)=seenS m.bound m.splits[k] y.t:=congrArg (fun v=>({ m.splits[k] with read:=m.splits[k].read+1,gauge:=v }:SpM)) hgx
          rw [e]
          simp only [WlM.setS,List.set_set]
         rw [hv,← Nat.add_assoc,← Nat.add_assoc,hm2] at hRS2
         have hl2:k<(m.setS k (seenS m.bound m.splits[k] y.t)).splits.length:=by simpa [WlM.setS] using hlt
         have v5':((((wq.setCell ⟨b10,3,none⟩ (.int .i64 ((n:Int)+1))).setCell ⟨b10,4,none⟩ (.int .i64 (y.t - m.bound+1))).setCell ⟨g',o'+k * 6+3,none⟩ (.int .i64 ((n:Int)+1))).setCell ⟨g',o'+k * 6+4,none⟩ (.int .i64 (y.t - m.bound+1))).cell? ⟨g',o'+k * 6+5,none⟩=some (.bool sl):=by
          obtain ⟨_,_,_,_,_,_,_,_,_,h5⟩:=hRS2.spl.spls.at' hl2
          rw [h5]
          have:((m.setS k (seenS m.bound m.splits[k] y.t)).splits[k]'hl2)=seenS m.bound m.splits[k] y.t:=by simp [WlM.setS]
          rw [this]
          show some (Value.bool m.splits[k].sealed)=_
          rw [HSL.out]
         have hid:(((((((wq.setCell ⟨b10,3,none⟩ (.int .i64 ((n:Int)+1))).setCell ⟨b10,4,none⟩ (.int .i64 (y.t - m.bound+1))).setCell ⟨g',o'+k * 6,none⟩ (.string nm)).setCell ⟨g',o'+k * 6+1,none⟩ (.int .i64 (q:Int))).setCell ⟨g',o'+k * 6+2,none⟩ (.slice (some ⟨ge,oe,none⟩) ln e2)).setCell ⟨g',o'+k * 6+3,none⟩ (.int .i64 ((n:Int)+1))).setCell ⟨g',o'+k * 6+4,none⟩ (.int .i64 (y.t - m.bound+1))).setCell ⟨g',o'+k * 6+5,none⟩ (.bool sl)=(((wq.setCell ⟨b10,3,none⟩ (.int .i64 ((n:Int)+1))).setCell ⟨b10,4,none⟩ (.int .i64 (y.t - m.bound+1))).setCell ⟨g',o'+k * 6+3,none⟩ (.int .i64 ((n:Int)+1))).setCell ⟨g',o'+k * 6+4,none⟩ (.int .i64 (y.t - m.bound+1)):=by
          rw [setCell_id v0,setCell_id v1,setCell_id v2,setCell_id v5']
         obtain ⟨t0,t1,t2,t3,t4,t5,tf⟩:=box6_cells hbB
         obtain ⟨y0,y1,y2,y3,y4,y5,yf⟩:=box6_cells ((hkB w.heap.size (by omega)).trans K0.out)
         have i1:((wq.setCell ⟨b10,3,none⟩ (.int .i64 ((n:Int)+1))).setCell ⟨b10,4,none⟩ (.int .i64 (y.t - m.bound+1))).cell? ⟨b10+1,0,none⟩=some (.int .i64 y.t):=(World.cell?_of_block (a:=⟨b10+1,0,none⟩) (hkB (b10+1) (by omega))).trans (cells_at K11.out 0)
         have HID:=Lib.hid hid
         have HRS2:=Lib.hid hRS2
         have HBB:=Lib.hid hBB;have HKB:=Lib.hid hkB;have HBT:=Lib.hid hbB
         clear hgx hid hRS2 hRS1 v5' hl2 hm2 hv hg1 hRB hkB hBB hbB hGX
         have kk8:∀ b,b≠g'→((((wq.setCell ⟨b10,3,none⟩ (.int .i64 ((n:Int)+1))).setCell ⟨b10,4,none⟩ (.int .i64 (y.t - m.bound+1))).setCell ⟨g',o'+k * 6+3,none⟩ (.int .i64 ((n:Int)+1))).setCell ⟨g',o'+k * 6+4,none⟩ (.int .i64 (y.t - m.bound+1))).heap[b]? = (((wq.setCell ⟨b10,3,none⟩ (.int .i64 ((n:Int)+1))).setCell ⟨b10,4,none⟩ (.int .i64 (y.t - m.bound+1)))).heap[b]? := fun b hb=>(heap_set_ne _ hb).trans (heap_set_ne _ hb)
         have L0:=Lib.hid ((kk8 w.heap.size (by omega)).trans ((HKB.out w.heap.size (by omega)).trans K0.out))
         have L1:=Lib.hid ((kk8 (w.heap.size+1) (by omega)).trans ((HKB.out (w.heap.size+1) (by omega)).trans K1.out))
         have L2:=Lib.hid ((kk8 (w.heap.size+2) (by omega)).trans ((HKB.out (w.heap.size+2) (by omega)).trans K2.out))
         have L10:=Lib.hid ((kk8 b10 (by omega)).trans HBT.out)
         have L11:=Lib.hid ((kk8 (b10+1) (by omega)).trans ((HKB.out (b10+1) (by omega)).trans K11.out))
         have LW:=Lib.hid (((KW.out.trans (HBB.out.mono (by omega:w.heap.size≤b10))).setCell (p:=⟨g',o'+k * 6+3,none⟩) (by show w.heap.size≤g';omega) (.int .i64 ((n:Int)+1))).setCell (p:=⟨g',o'+k * 6+4,none⟩) (by show w.heap.size≤g';omega) (.int .i64 (y.t - m.bound+1)))
         have LR:=Lib.hid (KR.out.keep (w':=((((wq.setCell ⟨b10,3,none⟩ (.int .i64 ((n:Int)+1))).setCell ⟨b10,4,none⟩ (.int .i64 (y.t - m.bound+1))).setCell ⟨g',o'+k * 6+3,none⟩ (.int .i64 ((n:Int)+1))).setCell ⟨g',o'+k * 6+4,none⟩ (.int .i64 (y.t - m.bound+1)))) fun b hb _=>(kk8 b (by have:=hb.2;omega)).trans (HKB.out b (by have:=hb.2;omega)))
         have LB:=Lib.hid (heap_lt L11.out)
         clear kk8
         cases lt
         all_goals
          go_wp2_with fail
          rw [HID.out]
          clear HID i0 i1 t0 t1 t2 t3 t4 t5 tf y0 y1 y2 y3 y4 y5 yf v0 v1 v2 v3 v4 v5 hfr hgz a0 a1 a2 a3 a4 a5 af x0 x1 x2 x3 x4 x5 xf hkA hbA hRA
          have HRS3:Hid (RefO ((((wq.setCell ⟨b10,3,none⟩ (.int .i64 ((n:Int)+1))).setCell ⟨b10,4,none⟩ (.int .i64 (y.t - m.bound+1))).setCell ⟨g',o'+k * 6+3,none⟩ (.int .i64 ((n:Int)+1))).setCell ⟨g',o'+k * 6+4,none⟩ (.int .i64 (y.t - m.bound+1))) (fun b=>(D b∧b<w.heap.size)∧b<wr.heap.size) s { m.setS k (seenS m.bound m.splits[k] y.t) with late:=m.late } ⟨.slice sha' s.length shc',(some ⟨g',o',none⟩,sc'),(some ⟨mg,mo,none⟩,mc'),.slice ba' m.late.length bc'⟩ sb mb):=HRS2.out
          clear HRS2
          generalize ((((wq.setCell ⟨b10,3,none⟩ (.int .i64 ((n:Int)+1))).setCell ⟨b10,4,none⟩ (.int .i64 (y.t - m.bound+1))).setCell ⟨g',o'+k * 6+3,none⟩ (.int .i64 ((n:Int)+1))).setCell ⟨g',o'+k * 6+4,none⟩ (.int .i64 (y.t - m.bound+1)))=w8 at L0 L1 L2 L10 L11 LW LR LB HRS3 ⊢
        case' neg =>
         have hGX:gg=GX:=by rw [← HGX.out];omega
         have hRB:=hRA
         have hbB:=hbA
         have hkB:=hkA
         have hBB:=(Below.refl b10 wq).setCell (p:=⟨b10,3,none⟩) (Nat.le_refl b10) (.int .i64 ((n:Int)+1))
         obtain ⟨_,_,hgz,_,v0,v1,_,v3,v4,v5⟩:=hRB.spl.spls.at' hlt
         rw [HNM.out] at v0
         rw [HOW.out] at v1
         rw [HRN.out] at v3
         rw [HGG.out] at v4
         rw [HSL.out] at v5
         have v2:(wq.setCell ⟨b10,3,none⟩ (.int .i64 ((n:Int)+1))).cell? ⟨g',o'+k * 6+2,none⟩=some (.slice (some ⟨ge,oe,none⟩) ln e2):=(World.cell?_of_block (a:=⟨g',o'+k * 6+2,none⟩) (hkB g' (by omega))).trans V3.out
         have hfr:=hRB.frozen
         have hg1:(m.setS k { m.splits[k] with read:=m.splits[k].read+1 }).splits[k]'(by simpa [WlM.setS] using hlt)={ m.splits[k] with read:=m.splits[k].read+1 }:=by simp [WlM.setS]
         have hRS1:=hRB.setS hlt (j:=3) (by omega) (x:={ m.splits[k] with read:=m.splits[k].read+1 }) (v:=.int .i64 (((m.splits[k].read+1:Nat)):Int)) (fun ev=>rfl) rfl
         have hRS2:=hRS1.setS (k:=k) (by simpa [WlM.setS] using hlt) (j:=4) (by omega) (x:={ m.splits[k] with read:=m.splits[k].read+1,gauge:=gg }) (v:=.int .i64 gg) (fun ev=>by rw [hg1];rfl) (by rw [hg1])
         have hv:(((m.splits[k].read+1:Nat)):Int)=(n:Int)+1:=by rw [HRN.out];simp
         have hgx:gg=max m.splits[k].gauge (y.t - m.bound+1):=by rw [HGG.out,HGX.out];exact hGX
         have hm2:(m.setS k { m.splits[k] with read:=m.splits[k].read+1 }).setS k { m.splits[k] with read:=m.splits[k].read+1,gauge:=gg }=m.setS k (seenS m.bound m.splits[k] y.t):=by
          have e:({ m.splits[k] with read:=m.splits[k].read+1,gauge:=gg }:SpM)=seenS m.bound m.splits[k] y.t:=congrArg (fun v=>({ m.splits[k] with read:=m.splits[k].read+1,gauge:=v }:SpM)) hgx
          rw [e]
          simp only [WlM.setS,List.set_set]
         rw [hv,← Nat.add_assoc,← Nat.add_assoc,hm2] at hRS2
         have hl2:k<(m.setS k (seenS m.bound m.splits[k] y.t)).splits.length:=by simpa [WlM.setS] using hlt
         have v5':(((wq.setCell ⟨b10,3,none⟩ (.int .i64 ((n:Int)+1))).setCell ⟨g',o'+k * 6+3,none⟩ (.int .i64 ((n:Int)+1))).setCell ⟨g',o'+k * 6+4,none⟩ (.int .i64 gg)).cell? ⟨g',o'+k * 6+5,none⟩=some (.bool sl):=by
          obtain ⟨_,_,_,_,_,_,_,_,_,h5⟩:=hRS2.spl.spls.at' hl2
          rw [h5]
          have:((m.setS k (seenS m.bound m.splits[k] y.t)).splits[k]'hl2)=seenS m.bound m.splits[k] y.t:=by simp [WlM.setS]
          rw [this]
          show some (Value.bool m.splits[k].sealed)=_
          rw [HSL.out]
         have hid:((((((wq.setCell ⟨b10,3,none⟩ (.int .i64 ((n:Int)+1))).setCell ⟨g',o'+k * 6,none⟩ (.string nm)).setCell ⟨g',o'+k * 6+1,none⟩ (.int .i64 (q:Int))).setCell ⟨g',o'+k * 6+2,none⟩ (.slice (some ⟨ge,oe,none⟩) ln e2)).setCell ⟨g',o'+k * 6+3,none⟩ (.int .i64 ((n:Int)+1))).setCell ⟨g',o'+k * 6+4,none⟩ (.int .i64 gg)).setCell ⟨g',o'+k * 6+5,none⟩ (.bool sl)=((wq.setCell ⟨b10,3,none⟩ (.int .i64 ((n:Int)+1))).setCell ⟨g',o'+k * 6+3,none⟩ (.int .i64 ((n:Int)+1))).setCell ⟨g',o'+k * 6+4,none⟩ (.int .i64 gg):=by
          rw [setCell_id v0,setCell_id v1,setCell_id v2,setCell_id v5']
         obtain ⟨t0,t1,t2,t3,t4,t5,tf⟩:=box6_cells hbB
         obtain ⟨y0,y1,y2,y3,y4,y5,yf⟩:=box6_cells ((hkB w.heap.size (by omega)).trans K0.out)
         have i1:(wq.setCell ⟨b10,3,none⟩ (.int .i64 ((n:Int)+1))).cell? ⟨b10+1,0,none⟩=some (.int .i64 y.t):=(World.cell?_of_block (a:=⟨b10+1,0,none⟩) (hkB (b10+1) (by omega))).trans (cells_at K11.out 0)
         have HID:=Lib.hid hid
         have HRS2:=Lib.hid hRS2
         have HBB:=Lib.hid hBB;have HKB:=Lib.hid hkB;have HBT:=Lib.hid hbB
         clear hgx hid hRS2 hRS1 v5' hl2 hm2 hv hg1 hRB hkB hBB hbB hGX
         have kk8:∀ b,b≠g'→(((wq.setCell ⟨b10,3,none⟩ (.int .i64 ((n:Int)+1))).setCell ⟨g',o'+k * 6+3,none⟩ (.int .i64 ((n:Int)+1))).setCell ⟨g',o'+k * 6+4,none⟩ (.int .i64 gg)).heap[b]? = ((wq.setCell ⟨b10,3,none⟩ (.int .i64 ((n:Int)+1)))).heap[b]? := fun b hb=>(heap_set_ne _ hb).trans (heap_set_ne _ hb)
         have L0:=Lib.hid ((kk8 w.heap.size (by omega)).trans ((HKB.out w.heap.size (by omega)).trans K0.out))
         have L1:=Lib.hid ((kk8 (w.heap.size+1) (by omega)).trans ((HKB.out (w.heap.size+1) (by omega)).trans K1.out))
         have L2:=Lib.hid ((kk8 (w.heap.size+2) (by omega)).trans ((HKB.out (w.heap.size+2) (by omega)).trans K2.out))
         have L10:=Lib.hid ((kk8 b10 (by omega)).trans HBT.out)
         have L11:=Lib.hid ((kk8 (b10+1) (by omega)).trans ((HKB.out (b10+1) (by omega)).trans K11.out))
         have LW:=Lib.hid (((KW.out.trans (HBB.out.mono (by omega:w.heap.size≤b10))).setCell (p:=⟨g',o'+k * 6+3,none⟩) (by show w.heap.size≤g';omega) (.int .i64 ((n:Int)+1))).setCell (p:=⟨g',o'+k * 6+4,none⟩) (by show w.heap.size≤g';omega) (.int .i64 gg))
         have LR:=Lib.hid (KR.out.keep (w':=(((wq.setCell ⟨b10,3,none⟩ (.int .i64 ((n:Int)+1))).setCell ⟨g',o'+k * 6+3,none⟩ (.int .i64 ((n:Int)+1))).setCell ⟨g',o'+k * 6+4,none⟩ (.int .i64 gg))) fun b hb _=>(kk8 b (by have:=hb.2;omega)).trans (HKB.out b (by have:=hb.2;omega)))
         have LB:=Lib.hid (heap_lt L11.out)
         clear kk8
         cases lt
         all_goals
          go_wp2_with fail
          rw [HID.out]
          clear HID i0 i1 t0 t1 t2 t3 t4 t5 tf y0 y1 y2 y3 y4 y5 yf v0 v1 v2 v3 v4 v5 hfr hgz a0 a1 a2 a3 a4 a5 af x0 x1 x2 x3 x4 x5 xf hkA hbA hRA
          have HRS3:Hid (RefO (((wq.setCell ⟨b10,3,none⟩ (.int .i64 ((n:Int)+1))).setCell ⟨g',o'+k * 6+3,none⟩ (.int .i64 ((n:Int)+1))).setCell ⟨g',o'+k * 6+4,none⟩ (.int .i64 gg)) (fun b=>(D b∧b<w.heap.size)∧b<wr.heap.size) s { m.setS k (seenS m.bound m.splits[k] y.t) with late:=m.late } ⟨.slice sha' s.length shc',(some ⟨g',o',none⟩,sc'),(some ⟨mg,mo,none⟩,mc'),.slice ba' m.late.length bc'⟩ sb mb):=HRS2.out
          clear HRS2
          generalize (((wq.setCell ⟨b10,3,none⟩ (.int .i64 ((n:Int)+1))).setCell ⟨g',o'+k * 6+3,none⟩ (.int .i64 ((n:Int)+1))).setCell ⟨g',o'+k * 6+4,none⟩ (.int .i64 gg))=w8 at L0 L1 L2 L10 L11 LW LR LB HRS3 ⊢
        all_goals first
         | (have hF0:Hid (_=false):=HLT
            have HL:Hid ((if y.t<m.marks.getD q 0 then m.late ++ [y] else m.late)=m.late):=by
             have h1:¬ y.t<m.marks.getD q 0:=by rw [show m.marks.getD q 0=mk by rw [← HMK.out];simp [List.getD,hq]];simpa using HLT.out
             exact if_neg h1
            have HBK:Hid (m.late.length=m.late.length):=rfl
            have TD:Hid (∀ b,(D b∧b<w.heap.size)∧b<wr.heap.size→(D b∨w.heap.size≤b)∧b≠w.heap.size∧b≠w.heap.size+1∧b≠w.heap.size+2):=fun b hb=>⟨.inl hb.1.1,by have:=hb.1.2;omega,by have:=hb.1.2;omega,by have:=hb.1.2;omega⟩
            obtain ⟨L,hL⟩:∃ l,m.late=l:=⟨_,rfl⟩
            obtain ⟨bl2,hbl2⟩:∃ l,m.late.length=l:=⟨_,rfl⟩
            have TO:=HRS3
            clear HRS3
            rw [hbl2] at TO L0 ⊢
            have HL':Hid ((if y.t<m.marks.getD q 0 then m.late ++ [y] else m.late)=L):=HL.out.trans hL
            clear HL
            have HL:=HL'
            clear HL'
            rw [hL] at TO
            obtain ⟨ba2,hba2⟩:∃ v,ba'=v:=⟨_,rfl⟩
            obtain ⟨bc2,hbc2⟩:∃ v,bc'=v:=⟨_,rfl⟩
            rw [hba2,hbc2] at TO L0 ⊢
            clear hba2 hbc2 hL hbl2 HBK
            obtain ⟨D2,hD2⟩:∃ d,(fun b=>(D b∧b<w.heap.size)∧b<wr.heap.size)=d:=⟨_,rfl⟩
            have TD2:Hid (∀ b,D2 b→(D b∨w.heap.size≤b)∧b≠w.heap.size∧b≠w.heap.size+1∧b≠w.heap.size+2):=by rw [← hD2];exact TD.out
            rw [hD2] at TO LR
            clear hD2 TD
            obtain ⟨w9,hw9⟩:∃ W:World,W=w8:=⟨_,rfl⟩
            subst hw9)
         | (have HB:=Lib.hid (HROW.out.bound HOK.out)
            have HBK:Hid (EvtsAt w8 (fun b=>(D b∧b<w.heap.size)∧b<wr.heap.size) (.slice ba' m.late.length bc') m.late):=HRS3.out.back
            obtain ⟨i0,hi0,hz0,hz1,hz2⟩:=info_parts info30
            have n0:w8.cell? ⟨w.heap.size,5,none⟩=some (.slice ba' m.late.length bc'):=cells_at L0.out 5
            have n1:w8.cell? ⟨b10+1,0,none⟩=some (.int .i64 y.t):=cells_at L11.out 0
            have n2:w8.cell? ⟨b10+1,1,none⟩=some (.slice ra y.r.length rc):=cells_at L11.out 1
            obtain ⟨C,hC⟩:∃ C:World→Prop,∀ W,C W↔Below w8.heap.size w8 W:=⟨_,fun _=>Iff.rfl⟩
            have HC:=Lib.hid hC
            have HC22:Hid (∀ W,C W→W.cell? ⟨w.heap.size,5,none⟩=some (.slice ba' m.late.length bc')∧W.cell? ⟨b10+1,0,none⟩=some (.int .i64 y.t)∧W.cell? ⟨b10+1,1,none⟩=some (.slice ra y.r.length rc)):=fun W h=>by
             have hb:=(HC.out W).1 h
             exact ⟨by rw [hb.cell (p:=⟨w.heap.size,5,none⟩) (cell_lt n0)];exact n0,by rw [hb.cell (p:=⟨b10+1,0,none⟩) (cell_lt n1)];exact n1,by rw [hb.cell (p:=⟨b10+1,1,none⟩) (cell_lt n2)];exact n2⟩
            have HCD:=Lib.hid ((hC w8.drew).2 (Below.refl w8.heap.size w8).drew)
            clear n0 n1 n2 hC
            refine wp_region_game [1,2,4] 6 C mixed (by kernel_rfl) HCD.out ?_
            iterate 3 (
             refine wpFloatC_ex (fun K hK=>?_)
             apply Exists.intro
             refine ⟨fun W hW=>?_,?_⟩
             · obtain ⟨q1,q2,q3⟩:=HC22.out W hW
               clear hW
               go_simp
               rfl
             go_simp
             refine hK _ ?_
             clear hK K)
            refine wpFloatC_nil ?_
            apply join_goal
            case hu =>
             intro hT0
             have hT:Unit→_:=fun _=>hT0
             clear hT0
             refine game_two 0 5 true true (by kernel_rfl) rfl rfl (by kernel_rfl) (by kernel_rfl) (fun K hK=>?_) (fun K hK=>?_)
             · go_simp
               refine hK _ _ rfl (fun _=>(HC.out _).2 ((Below.refl w8.heap.size w8).alloc (Nat.le_refl _) _).drew) ?_
               clear hK K
               refine game_two 3 5 true true (by kernel_rfl) rfl rfl (by kernel_rfl) (by kernel_rfl) (fun K hK=>?_) (fun K hK=>?_)
               · have hb1:Below w8.heap.size w8 (w8.alloc (.cells #[] 30)).drew:=((Below.refl w8.heap.size w8).alloc (Nat.le_refl _) _).drew
                 obtain ⟨ps,hps,hsrc,hpr⟩:=(HBK.out.below hb1).parts
                 have ho1:SlOwn (w8.alloc (.cells #[] 30)).drew 30 2 (.slice (some ⟨w8.heap.size,0,none⟩) 0 0) 0 [] (some (w8.heap.size)):=⟨by simp,.inr ⟨_,0,0,#[],rfl,rfl,heap_alloc_new w8 _,by omega,by simp [maxLen],by simp,by simp⟩⟩
                 refine at_w (w8.alloc (.cells #[] 30)).drew ?_
                 refine wp_append_S (.tmp 112) (.tmp 114) 24 rfl 30 i0 _ 2 32 Tryz.underlying24 hi0 hz0 hz1 hz2 rfl (by omega) (.slice (some ⟨w8.heap.size,0,none⟩) 0 0) 0 [] (some (w8.heap.size)) rfl ho1 (.slice ba' m.late.length bc') m.late.length (evC ps) rfl hsrc (evC_one hpr) (by simp only [maxLen];have:=HB.out;omega) (by have:=HB.out;omega) ?_
                 intro v2 w12 blk2 h1 h2 h3
                 have hb2:Below w8.heap.size w8 w12:=((Only.of_below (S:=fun _=>False) hb1).grown h2 (fun b e hl=>by injection e with e <;> omega)).below (Nat.le_refl _) (fun _ h=>h.elim)
                 have hn2:∀ b,blk2=some b→w8.heap.size≤b:=fun b e=>by
                  rcases h3 with e' | e' <;> rw [e] at e' <;> injection e' with e'
                  · omega
                  · have:=hb1.size;omega
                 refine hK _ _ rfl (fun _=>(HC.out _).2 hb2) ?_
                 clear hK K
                 refine game_on 5 false (fun K hK=>?_)
                 go_simp
                 refine hK _ _ rfl (fun h=>by cases h) ?_
                 clear hK K
                 refine game_on 6 false (fun K hK=>?_)
                 have hb3:Below w8.heap.size w8 (w12.alloc (.cells #[.int .i64 y.t,.slice ra y.r.length rc] 30)):=hb2.alloc hb2.size _
                 have hs3:Src (w12.alloc (.cells #[.int .i64 y.t,.slice ra y.r.length rc] 30)) 2 (.slice (some ⟨w12.heap.size,0,none⟩) 1 1) 1 (evC [(y,.slice ra y.r.length rc)]):=SlOwn.src (e:=30) (blk:=some (w12.heap.size)) ⟨by simp [evC],.inr ⟨_,0,1,#[.int .i64 y.t,.slice ra y.r.length rc],rfl,rfl,heap_alloc_new w12 _,by omega,by simp [maxLen],by simp,by simp [evC]⟩⟩
                 refine at_w (w12.alloc (.cells #[.int .i64 y.t,.slice ra y.r.length rc] 30)) ?_
                 refine wp_append_S (.tmp 115) (.tmp 117) 24 rfl 30 i0 _ 2 32 Tryz.underlying24 hi0 hz0 hz1 hz2 rfl (by omega) v2 (0+m.late.length) ([] ++ evC ps) blk2 rfl (h1.keep fun g hg=>Below.heap_alloc _ _ _ (h1.lt_of hg)) (.slice (some ⟨w12.heap.size,0,none⟩) 1 1) 1 (evC [(y,.slice ra y.r.length rc)]) rfl hs3 (by intro u hu;simp only [evC,List.mem_cons,List.not_mem_nil,or_false] at hu;rcases hu with rfl | rfl <;> rfl) (by simp only [maxLen];have:=HB.out;omega) (by have:=HB.out;omega) ?_
                 intro v4 w14 blk4 h4 h5 h6
                 have hb4:Below w8.heap.size w8 w14:=((Only.of_below (S:=fun _=>False) hb3).grown h5 (fun b e hl=>by have:=hn2 b e;omega)).below (Nat.le_refl _) (fun _ h=>h.elim)
                 have hn4:∀ b,blk4=some b→w8.heap.size≤b:=fun b e=>by
                  rcases h6 with e' | e'
                  · exact hn2 b (e' ▸ e)
                  · rw [e] at e';injection e' with e';have:=hb3.size;omega
                 refine hK _ _ rfl (fun h=>by cases h) ?_
                 clear hK K
                 have f1:EvtsAt w14 (fun b=>((D b∧b<w.heap.size)∧b<wr.heap.size)∨(w8.heap.size≤b∧b<w14.heap.size)) v4 (m.late ++ [y]):=by
                  have he:EvsOwn w14 (fun b=>(D b∧b<w.heap.size)∧b<wr.heap.size) v4 (m.late ++ [y]) blk4:=by
                   refine ⟨ps ++ [(y,.slice ra y.r.length rc)],by rw [List.map_append,hps];rfl,?_,fun p hp=>?_⟩
                   · rw [evC_app]
                     simpa using h4
                   · rcases List.mem_append.1 hp with hp | hp
                     · exact (hpr p hp).keep fun b hb hl=>(hb4.block b (by have:=hb.2;have:=LB.out;omega)).trans (hb1.block b (by have:=hb.2;have:=LB.out;omega)).symm
                     · obtain rfl:=List.mem_singleton.1 hp
                       exact LR.out.below hb4
                  exact (he.evts (by simp;have:=HB.out;omega)).imp fun b hl hb=>hb.imp id fun e=>⟨hn4 b e,hl⟩
                 obtain ⟨a4,c4,hv4⟩:=h4.form
                 subst hv4
                 obtain ⟨bl2,hbl2⟩:∃ x,x=0+m.late.length+1:=⟨_,rfl⟩
                 rw [← hbl2] at f1 ⊢
                 have m0:=(hb4.block _ (heap_lt L0.out)).trans L0.out
                 have e5:w14.cell? ⟨w.heap.size,5,none⟩=some (.slice ba' m.late.length bc'):=cells_at m0 5
                 have ef:w14.frozen? ⟨w.heap.size,5,none⟩=false:=by simp [World.frozen?,m0]
                 refine game_on 7 false (fun K hK=>?_)
                 go_simp
                 refine hK _ _ rfl (fun h=>by cases h) ?_
                 clear hK K
                 refine game_on 8 false (fun K hK=>?_)
                 go_simp
                 refine hK _ _ rfl (fun h=>by cases h) ?_
                 clear hK K
                 refine game_end (by kernel_rfl) ?_
                 clear m0 e5 ef
                 have f3:bl2=m.late.length+1:=by omega
                 obtain ⟨nB,hnB⟩:∃ x,x=w12.heap.size:=⟨_,rfl⟩
                 rw [← hnB]
                 clear hnB
                 obtain ⟨n1,hn1⟩:∃ x,x=w8.heap.size:=⟨_,rfl⟩
                 rw [← hn1]
                 clear hn1
                 have F1:=Lib.hid f1;have F2:=Lib.hid hb4;have F3:=Lib.hid f3
                 clear f1 f3 hbl2 hb4 hn4 h4 h5 h6 hs3 hb3 hn2 hb2 h1 h2 h3 ho1 hps hsrc hpr hb1
                 clear blk4 blk2 ps
                 clear w12
                 revert v2 w14 a4 c4 bl2 nB n1
                 exact hT ()
               · go_simp
                 refine hK _ _ rfl (fun _=>(HC.out _).2 (((Below.refl w8.heap.size w8).alloc (Nat.le_refl _) _).alloc (by simp) _).drew) ?_
                 clear hK K
                 refine game_on 3 false (fun K hK=>?_)
                 have hb1:Below w8.heap.size w8 ((w8.alloc (.cells #[] 30)).alloc (.cells #[.int .i64 y.t,.slice ra y.r.length rc] 30)).drew:=(((Below.refl w8.heap.size w8).alloc (Nat.le_refl _) _).alloc (by simp) _).drew
                 obtain ⟨ps,hps,hsrc,hpr⟩:=(HBK.out.below hb1).parts
                 have ho1:SlOwn ((w8.alloc (.cells #[] 30)).alloc (.cells #[.int .i64 y.t,.slice ra y.r.length rc] 30)).drew 30 2 (.slice (some ⟨w8.heap.size,0,none⟩) 0 0) 0 [] (some (w8.heap.size)):=⟨by simp,.inr ⟨_,0,0,#[],rfl,rfl,alloc_keep (heap_alloc_new w8 _),by omega,by simp [maxLen],by simp,by simp⟩⟩
                 refine at_w ((w8.alloc (.cells #[] 30)).alloc (.cells #[.int .i64 y.t,.slice ra y.r.length rc] 30)).drew ?_
                 refine wp_append_S (.tmp 112) (.tmp 114) 24 rfl 30 i0 _ 2 32 Tryz.underlying24 hi0 hz0 hz1 hz2 rfl (by omega) (.slice (some ⟨w8.heap.size,0,none⟩) 0 0) 0 [] (some (w8.heap.size)) rfl ho1 (.slice ba' m.late.length bc') m.late.length (evC ps) rfl hsrc (evC_one hpr) (by simp only [maxLen];have:=HB.out;omega) (by have:=HB.out;omega) ?_
                 intro v2 w12 blk2 h1 h2 h3
                 have hb2:Below w8.heap.size w8 w12:=((Only.of_below (S:=fun _=>False) hb1).grown h2 (fun b e hl=>by injection e with e <;> omega)).below (Nat.le_refl _) (fun _ h=>h.elim)
                 have hn2:∀ b,blk2=some b→w8.heap.size≤b:=fun b e=>by
                  rcases h3 with e' | e' <;> rw [e] at e' <;> injection e' with e'
                  · omega
                  · have:=hb1.size;omega
                 refine hK _ _ rfl (fun h=>by cases h) ?_
                 clear hK K
                 have hx2:w12.heap[w8.heap.size+1]? = _:=(h2.block (w8.heap.size+1) (by first | (simp;done) | (simp;omega)) (by first | (simp;done) | (simp;omega))).trans (new_snd w8 _ _)
                 refine game_on 6 false (fun K hK=>?_)
                 have hb3:Below w8.heap.size w8 w12:=hb2
                 have hs3:Src w12 2 (.slice (some ⟨w8.heap.size+1,0,none⟩) 1 1) 1 (evC [(y,.slice ra y.r.length rc)]):=SlOwn.src (e:=30) (blk:=some (w8.heap.size+1)) ⟨by simp [evC],.inr ⟨_,0,1,#[.int .i64 y.t,.slice ra y.r.length rc],rfl,rfl,hx2,by omega,by simp [maxLen],by simp,by simp [evC]⟩⟩
                 refine at_w w12 ?_
                 refine wp_append_S (.tmp 115) (.tmp 117) 24 rfl 30 i0 _ 2 32 Tryz.underlying24 hi0 hz0 hz1 hz2 rfl (by omega) v2 (0+m.late.length) ([] ++ evC ps) blk2 rfl h1 (.slice (some ⟨w8.heap.size+1,0,none⟩) 1 1) 1 (evC [(y,.slice ra y.r.length rc)]) rfl hs3 (by intro u hu;simp only [evC,List.mem_cons,List.not_mem_nil,or_false] at hu;rcases hu with rfl | rfl <;> rfl) (by simp only [maxLen];have:=HB.out;omega) (by have:=HB.out;omega) ?_
                 intro v4 w14 blk4 h4 h5 h6
                 have hb4:Below w8.heap.size w8 w14:=((Only.of_below (S:=fun _=>False) hb3).grown h5 (fun b e hl=>by have:=hn2 b e;omega)).below (Nat.le_refl _) (fun _ h=>h.elim)
                 have hn4:∀ b,blk4=some b→w8.heap.size≤b:=fun b e=>by
                  rcases h6 with e' | e'
                  · exact hn2 b (e' ▸ e)
                  · rw [e] at e';injection e' with e';have:=hb3.size;omega
                 refine hK _ _ rfl (fun h=>by cases h) ?_
                 clear hK K
                 have f1:EvtsAt w14 (fun b=>((D b∧b<w.heap.size)∧b<wr.heap.size)∨(w8.heap.size≤b∧b<w14.heap.size)) v4 (m.late ++ [y]):=by
                  have he:EvsOwn w14 (fun b=>(D b∧b<w.heap.size)∧b<wr.heap.size) v4 (m.late ++ [y]) blk4:=by
                   refine ⟨ps ++ [(y,.slice ra y.r.length rc)],by rw [List.map_append,hps];rfl,?_,fun p hp=>?_⟩
                   · rw [evC_app]
                     simpa using h4
                   · rcases List.mem_append.1 hp with hp | hp
                     · exact (hpr p hp).keep fun b hb hl=>(hb4.block b (by have:=hb.2;have:=LB.out;omega)).trans (hb1.block b (by have:=hb.2;have:=LB.out;omega)).symm
                     · obtain rfl:=List.mem_singleton.1 hp
                       exact LR.out.below hb4
                  exact (he.evts (by simp;have:=HB.out;omega)).imp fun b hl hb=>hb.imp id fun e=>⟨hn4 b e,hl⟩
                 obtain ⟨a4,c4,hv4⟩:=h4.form
                 subst hv4
                 obtain ⟨bl2,hbl2⟩:∃ x,x=0+m.late.length+1:=⟨_,rfl⟩
                 rw [← hbl2] at f1 ⊢
                 have m0:=(hb4.block _ (heap_lt L0.out)).trans L0.out
                 have e5:w14.cell? ⟨w.heap.size,5,none⟩=some (.slice ba' m.late.length bc'):=cells_at m0 5
                 have ef:w14.frozen? ⟨w.heap.size,5,none⟩=false:=by simp [World.frozen?,m0]
                 refine game_on 7 false (fun K hK=>?_)
                 go_simp
                 refine hK _ _ rfl (fun h=>by cases h) ?_
                 clear hK K
                 refine game_on 8 false (fun K hK=>?_)
                 go_simp
                 refine hK _ _ rfl (fun h=>by cases h) ?_
                 clear hK K
                 refine game_end (by kernel_rfl) ?_
                 clear m0 e5 ef
                 have f3:bl2=m.late.length+1:=by omega
                 obtain ⟨nB,hnB⟩:∃ x,x=w8.heap.size+1:=⟨_,rfl⟩
                 rw [← hnB]
                 clear hnB
                 obtain ⟨n1,hn1⟩:∃ x,x=w8.heap.size:=⟨_,rfl⟩
                 rw [← hn1]
                 clear hn1
                 have F1:=Lib.hid f1;have F2:=Lib.hid hb4;have F3:=Lib.hid f3
                 clear hx2 f1 f3 hbl2 hb4 hn4 h4 h5 h6 hs3 hb3 hn2 hb2 h1 h2 h3 ho1 hps hsrc hpr hb1
                 clear blk4 blk2 ps
                 skip
                 revert v2 w14 a4 c4 bl2 nB n1
                 exact hT ()
             · go_simp
               refine hK _ _ rfl (fun _=>(HC.out _).2 ((Below.refl w8.heap.size w8).alloc (Nat.le_refl _) _).drew) ?_
               clear hK K
               refine game_on 0 true (fun K hK=>?_)
               go_simp
               refine hK _ _ rfl (fun _=>(HC.out _).2 (((Below.refl w8.heap.size w8).alloc (Nat.le_refl _) _).alloc (by simp) _).drew) ?_
               clear hK K
               refine game_on 3 false (fun K hK=>?_)
               have hb1:Below w8.heap.size w8 ((w8.alloc (.cells #[.int .i64 y.t,.slice ra y.r.length rc] 30)).alloc (.cells #[] 30)).drew:=(((Below.refl w8.heap.size w8).alloc (Nat.le_refl _) _).alloc (by simp) _).drew
               obtain ⟨ps,hps,hsrc,hpr⟩:=(HBK.out.below hb1).parts
               have ho1:SlOwn ((w8.alloc (.cells #[.int .i64 y.t,.slice ra y.r.length rc] 30)).alloc (.cells #[] 30)).drew 30 2 (.slice (some ⟨w8.heap.size+1,0,none⟩) 0 0) 0 [] (some (w8.heap.size+1)):=⟨by simp,.inr ⟨_,0,0,#[],rfl,rfl,new_snd w8 _ _,by omega,by simp [maxLen],by simp,by simp⟩⟩
               refine at_w ((w8.alloc (.cells #[.int .i64 y.t,.slice ra y.r.length rc] 30)).alloc (.cells #[] 30)).drew ?_
               refine wp_append_S (.tmp 112) (.tmp 114) 24 rfl 30 i0 _ 2 32 Tryz.underlying24 hi0 hz0 hz1 hz2 rfl (by omega) (.slice (some ⟨w8.heap.size+1,0,none⟩) 0 0) 0 [] (some (w8.heap.size+1)) rfl ho1 (.slice ba' m.late.length bc') m.late.length (evC ps) rfl hsrc (evC_one hpr) (by simp only [maxLen];have:=HB.out;omega) (by have:=HB.out;omega) ?_
               intro v2 w12 blk2 h1 h2 h3
               have hb2:Below w8.heap.size w8 w12:=((Only.of_below (S:=fun _=>False) hb1).grown h2 (fun b e hl=>by injection e with e <;> omega)).below (Nat.le_refl _) (fun _ h=>h.elim)
               have hn2:∀ b,blk2=some b→w8.heap.size≤b:=fun b e=>by
                rcases h3 with e' | e' <;> rw [e] at e' <;> injection e' with e'
                · omega
                · have:=hb1.size;omega
               refine hK _ _ rfl (fun h=>by cases h) ?_
               clear hK K
               have hx2:w12.heap[w8.heap.size]? = _:=(h2.block (w8.heap.size) (by first | (simp;done) | (simp;omega)) (by first | (simp;done) | (simp;omega))).trans (alloc_keep (heap_alloc_new w8 _))
               refine game_on 6 false (fun K hK=>?_)
               have hb3:Below w8.heap.size w8 w12:=hb2
               have hs3:Src w12 2 (.slice (some ⟨w8.heap.size,0,none⟩) 1 1) 1 (evC [(y,.slice ra y.r.length rc)]):=SlOwn.src (e:=30) (blk:=some (w8.heap.size)) ⟨by simp [evC],.inr ⟨_,0,1,#[.int .i64 y.t,.slice ra y.r.length rc],rfl,rfl,hx2,by omega,by simp [maxLen],by simp,by simp [evC]⟩⟩
               refine at_w w12 ?_
               refine wp_append_S (.tmp 115) (.tmp 117) 24 rfl 30 i0 _ 2 32 Tryz.underlying24 hi0 hz0 hz1 hz2 rfl (by omega) v2 (0+m.late.length) ([] ++ evC ps) blk2 rfl h1 (.slice (some ⟨w8.heap.size,0,none⟩) 1 1) 1 (evC [(y,.slice ra y.r.length rc)]) rfl hs3 (by intro u hu;simp only [evC,List.mem_cons,List.not_mem_nil,or_false] at hu;rcases hu with rfl | rfl <;> rfl) (by simp only [maxLen];have:=HB.out;omega) (by have:=HB.out;omega) ?_
               intro v4 w14 blk4 h4 h5 h6
               have hb4:Below w8.heap.size w8 w14:=((Only.of_below (S:=fun _=>False) hb3).grown h5 (fun b e hl=>by have:=hn2 b e;omega)).below (Nat.le_refl _) (fun _ h=>h.elim)
               have hn4:∀ b,blk4=some b→w8.heap.size≤b:=fun b e=>by
                rcases h6 with e' | e'
                · exact hn2 b (e' ▸ e)
                · rw [e] at e';injection e' with e';have:=hb3.size;omega
               refine hK _ _ rfl (fun h=>by cases h) ?_
               clear hK K
               have f1:EvtsAt w14 (fun b=>((D b∧b<w.heap.size)∧b<wr.heap.size)∨(w8.heap.size≤b∧b<w14.heap.size)) v4 (m.late ++ [y]):=by
                have he:EvsOwn w14 (fun b=>(D b∧b<w.heap.size)∧b<wr.heap.size) v4 (m.late ++ [y]) blk4:=by
                 refine ⟨ps ++ [(y,.slice ra y.r.length rc)],by rw [List.map_append,hps];rfl,?_,fun p hp=>?_⟩
                 · rw [evC_app]
                   simpa using h4
                 · rcases List.mem_append.1 hp with hp | hp
                   · exact (hpr p hp).keep fun b hb hl=>(hb4.block b (by have:=hb.2;have:=LB.out;omega)).trans (hb1.block b (by have:=hb.2;have:=LB.out;omega)).symm
                   · obtain rfl:=List.mem_singleton.1 hp
                     exact LR.out.below hb4
                exact (he.evts (by simp;have:=HB.out;omega)).imp fun b hl hb=>hb.imp id fun e=>⟨hn4 b e,hl⟩
               obtain ⟨a4,c4,hv4⟩:=h4.form
               subst hv4
               obtain ⟨bl2,hbl2⟩:∃ x,x=0+m.late.length+1:=⟨_,rfl⟩
               rw [← hbl2] at f1 ⊢
               have m0:=(hb4.block _ (heap_lt L0.out)).trans L0.out
               have e5:w14.cell? ⟨w.heap.size,5,none⟩=some (.slice ba' m.late.length bc'):=cells_at m0 5
               have ef:w14.frozen? ⟨w.heap.size,5,none⟩=false:=by simp [World.frozen?,m0]
               refine game_on 7 false (fun K hK=>?_)
               go_simp
               refine hK _ _ rfl (fun h=>by cases h) ?_
               clear hK K
               refine game_on 8 false (fun K hK=>?_)
               go_simp
               refine hK _ _ rfl (fun h=>by cases h) ?_
               clear hK K
               refine game_end (by kernel_rfl) ?_
               clear m0 e5 ef
               have f3:bl2=m.late.length+1:=by omega
               obtain ⟨nB,hnB⟩:∃ x,x=w8.heap.size:=⟨_,rfl⟩
               rw [← hnB]
               clear hnB
               obtain ⟨n1,hn1⟩:∃ x,x=nB+1:=⟨_,rfl⟩
               rw [← hn1]
               clear hn1
               have F1:=Lib.hid f1;have F2:=Lib.hid hb4;have F3:=Lib.hid f3
               clear hx2 f1 f3 hbl2 hb4 hn4 h4 h5 h6 hs3 hb3 hn2 hb2 h1 h2 h3 ho1 hps hsrc hpr hb1
               clear blk4 blk2 ps
               skip
               revert v2 w14 a4 c4 bl2 nB n1
               exact hT ()
            case' hp =>
             intro v2 w14 ba2 bc2 bl3 nB n1 F1 F2 F3
             have h3:=F3.out
             clear F3
             subst h3
             obtain ⟨bl2,hbl2⟩:∃ x,m.late.length+1=x:=⟨_,rfl⟩
             rw [hbl2] at F1 ⊢
             clear hbl2
             have M0:=Lib.hid ((F2.out.block _ (heap_lt L0.out)).trans L0.out)
             have zl:=LB.out
             have kn:∀ b,b≠w.heap.size→b<w8.heap.size→(w14.setCell ⟨w.heap.size,5,none⟩ (.slice ba2 bl2 bc2)).heap[b]? = w8.heap[b]? := fun b hb hl=>(heap_set_ne _ hb).trans (F2.out.block b hl)
             have N0:Hid ((w14.setCell ⟨w.heap.size,5,none⟩ (.slice ba2 bl2 bc2)).heap[w.heap.size]? = some (.cells #[.slice sha' s.length shc',.int .i64 m.bound,.slice (some ⟨g',o',none⟩) m.splits.length sc',.slice (some ⟨mg,mo,none⟩) m.marks.length mc',.bool m.sealed,.slice ba2 bl2 bc2] 45 (0,0))):=by
              show _=_
              simpa using heap_set (j:=5) M0.out (.slice ba2 bl2 bc2)
             have N1:=Lib.hid ((kn (w.heap.size+1) (by omega) (heap_lt L1.out)).trans L1.out)
             have N2:=Lib.hid ((kn (w.heap.size+2) (by omega) (heap_lt L2.out)).trans L2.out)
             have N10:=Lib.hid ((kn b10 (by omega) (heap_lt L10.out)).trans L10.out)
             have N11:=Lib.hid ((kn (b10+1) (by omega) (heap_lt L11.out)).trans L11.out)
             have NW:=Lib.hid ((LW.out.trans (F2.out.mono LW.out.size)).setCell (p:=⟨w.heap.size,5,none⟩) (Nat.le_refl _) (.slice ba2 bl2 bc2))
             obtain ⟨D2,hD2⟩:∃ d,(fun b=>((D b∧b<w.heap.size)∧b<wr.heap.size)∨(w8.heap.size≤b∧b<w14.heap.size))=d:=⟨_,rfl⟩
             have hD3:∀ b,(D b∧b<w.heap.size)∧b<wr.heap.size→D2 b:=fun b hb=>by rw [← hD2];exact .inl hb
             have hD4:∀ b,D2 b→((D b∧b<w.heap.size)∧b<wr.heap.size)∨(w8.heap.size≤b∧b<w14.heap.size):=fun b hb=>by rw [← hD2] at hb;exact hb
             have TD2:Hid (∀ b,D2 b→(D b∨w.heap.size≤b)∧b≠w.heap.size∧b≠w.heap.size+1∧b≠w.heap.size+2):=fun b hb=>by
              rcases hD4 b hb with hb | hb
              · exact ⟨.inl hb.1.1,by have:=hb.1.2;omega,by have:=hb.1.2;omega,by have:=hb.1.2;omega⟩
              · exact ⟨.inr (by omega),by omega,by omega,by omega⟩
             have NR:=Lib.hid ((LR.out.keep fun b hb hl=>kn b (by have:=hb.1.2;omega) hl).mono hD3)
             have ho8:=HRS3.out.keep (w':=w14.setCell ⟨w.heap.size,5,none⟩ (.slice ba2 bl2 bc2)) fun b hb hl=>kn b (by
              rcases hb with hb | hb | hb
              · have:=hb.1.2;omega
              · have:=HSB.out _ hb;omega
              · have:=HMB.out _ hb;omega) hl
             have TO:Hid (RefO (w14.setCell ⟨w.heap.size,5,none⟩ (.slice ba2 bl2 bc2)) D2 s { m.setS k (seenS m.bound m.splits[k] y.t) with late:=m.late ++ [y] } ⟨.slice sha' s.length shc',(some ⟨g',o',none⟩,sc'),(some ⟨mg,mo,none⟩,mc'),.slice ba2 bl2 bc2⟩ sb mb):=by
              refine ⟨ho8.sch.mono hD3,?_,ho8.mks,?_,fun b e hd=>?_,fun b e hd=>?_,ho8.ne⟩
              · obtain ⟨ps,e,ho,hr⟩:=ho8.spl
                exact ⟨ps,e,ho,fun p hp=>(hr p hp).mono hD3⟩
              · have h1:=F1.out
                rw [hD2] at h1
                exact h1.keep fun b hb hl=>heap_set_ne _ ((TD2.out b hb).2.1)
              · rcases hD4 b hd with h | h
                · exact ho8.sD b e h
                · have:=GS.out _ e;omega
              · rcases hD4 b hd with h | h
                · exact ho8.mD b e h
                · have:=GN.out _ e;omega
             have HL:Hid ((if y.t<m.marks.getD q 0 then m.late ++ [y] else m.late)=m.late ++ [y]):=by
              have h1:y.t<m.marks.getD q 0:=by rw [show m.marks.getD q 0=mk by rw [← HMK.out];simp [List.getD,hq]];simpa using HLT.out
              exact if_pos h1
             obtain ⟨L,hL⟩:∃ l,m.late ++ [y]=l:=⟨_,rfl⟩
             rw [hL] at TO
             have HL':Hid ((if y.t<m.marks.getD q 0 then m.late ++ [y] else m.late)=L):=HL.out.trans hL
             clear HL
             have HL:=HL'
             have NB:Hid (b10+1<(w14.setCell ⟨w.heap.size,5,none⟩ (.slice ba2 bl2 bc2)).heap.size):=heap_lt N11.out
             clear HL' hL ho8 hD3 hD4 hD2 kn M0 L0 L1 L2 L10 L11 LW LR HRS3 HB HBK HC22 HC HCD F1 LB
             generalize w14.setCell ⟨w.heap.size,5,none⟩ (.slice ba2 bl2 bc2)=w9 at TO N0 N1 N2 N10 N11 NW NR NB ⊢
             clear zl F2 w14
             clear C w8
             have L0:=N0;have L1:=N1;have L2:=N2;have L10:=N10;have L11:=N11;have LW:=NW;have LR:=NR;have LB:=NB
             clear N0 N1 N2 N10 N11 NW NR NB
             obtain ⟨x0,x1,x2,x3,x4,x5,xf⟩:=box6_cells L0.out
             go_wp2_with fail)
        all_goals
         have hsd:=TO.out.sD
         have TN:Hid (∀ b,mb=some b→w.heap.size+2<b∧b<b10):=fun b e=>⟨by have:=HMB.out _ e;omega,GN.out _ e⟩
         have TS:Hid (∀ b,sb=some b→w.heap.size+2<b∧b<b10):=fun b e=>⟨by have:=HSB.out _ e;omega,GS.out _ e⟩
         have HOK8:Hid (WOk ({ m.setS k (seenS m.bound m.splits[k] y.t) with late:=L })):=by
          have h0:=HOK.out.seen hlt hrd
          rw [HY.out] at h0
          exact ⟨h0.splits,h0.all,h0.read,h0.owner,h0.lo,h0.hi,h0.bound,h0.gauge,h0.marks,h0.name,h0.time⟩
         have HV8:Hid (refV { m.setS k (seenS m.bound m.splits[k] y.t) with late:=L } ⟨.slice sha' s.length shc',(some ⟨g',o',none⟩,sc'),(some ⟨mg,mo,none⟩,mc'),.slice ba2 bl2 bc2⟩=.agg #[.slice sha' s.length shc',.int .i64 m.bound,.slice (some ⟨g',o',none⟩) m.splits.length sc',.slice (some ⟨mg,mo,none⟩) m.marks.length mc',.bool m.sealed,.slice ba2 bl2 bc2]):=by
          show _=_
          have hl7:(m.splits.set k (seenS m.bound m.splits[k] y.t)).length=m.splits.length:=by simp
          simp only [refV,WlM.setS,hl7]
         have HM8:Hid (readM m k m.splits[k] y q=risenM { m.setS k (seenS m.bound m.splits[k] y.t) with late:=L } q):=by
          show _=_
          rw [← HL.out];rfl
         obtain ⟨m8,hm8⟩:∃ x:WlM,{ m.setS k (seenS m.bound m.splits[k] y.t) with late:=L }=x:=⟨_,rfl⟩
         have HML8:Hid (m8.marks.length=m.marks.length):=by show _=_;rw [← hm8];rfl
         rw [hm8] at HOK8 HV8 HM8 TO
         clear hm8
         have H133:=Lib.hid (f133_any w9 D2 s m8 _ sb mb q TO.out HOK8.out (by rw [HML8.out];exact hq))
         rw [refV_risen,HV8.out] at H133
         with_reducible refine H133.out.mono ?_
         rintro e w10 ⟨rfl,hro10,ho10⟩
         have kk:∀ b,mb≠some b→b<w9.heap.size→w10.heap[b]? = w9.heap[b]? := fun b hb hl=>ho10.block b hl (fun e=>hb e)
         have U0:=Lib.hid ((kk w.heap.size (fun e=>by have:=TN.out _ e;omega) (heap_lt L0.out)).trans L0.out)
         have U1:=Lib.hid ((kk (w.heap.size+1) (fun e=>by have:=TN.out _ e;omega) (heap_lt L1.out)).trans L1.out)
         have U2:=Lib.hid ((kk (w.heap.size+2) (fun e=>by have:=TN.out _ e;omega) (heap_lt L2.out)).trans L2.out)
         have U10:=Lib.hid ((kk b10 (fun e=>by have:=TN.out _ e;omega) (heap_lt L10.out)).trans L10.out)
         have U11:=Lib.hid ((kk (b10+1) (fun e=>by have:=TN.out _ e;omega) (heap_lt L11.out)).trans L11.out)
         have UW:=Lib.hid (LW.out.trans (ho10.below LW.out.size (fun b e=>by have:=TN.out _ e;omega)))
         have UR:=Lib.hid (LR.out.keep fun b hb hl=>kk b (fun e=>TO.out.mD b e hb) hl)
         have hq9:q<(risenM m8 q).marks.length:=by rw [risenM_len,HML8.out];exact hq
         obtain ⟨mk2,hmk2⟩:∃ v,(risenM m8 q).marks[q]=v:=⟨_,rfl⟩
         have hc2:w10.cell? ⟨mg,mo+q,none⟩=some (.int .i64 mk2):=hro10.mks.cell q _ (by simp [hq9,hmk2])
         have HMK2:=Lib.hid hmk2
         have hmg:∀ b,mb=some b→w.heap.size+2<b:=fun b e=>(TN.out b e).1
         have hmgl:w.heap.size+2<mg:=hmg mg GM.out
         have UO:=Lib.hid hro10
         have hid10:=Lib.hid (fill_id U0.out)
         unfold fill45 at hid10
         obtain ⟨x0,x1,x2,x3,x4,x5,xf⟩:=box6_cells U0.out
         clear hro10 ho10 kk hmk2 L0 L1 L2 L10 L11 LW LR LB TO H133 hsd
         go_wp2_with fail
         rw [hid10.out]
         clear x0 x1 x2 x3 x4 x5 xf hid10
         have HCW:Hid (∀ W:World,Only (fun b=>b=w.heap.size+1) w10 W→(W.cell? ⟨w.heap.size,0,none⟩=some (.slice sha' s.length shc')∧W.cell? ⟨w.heap.size,1,none⟩=some (.int .i64 m.bound)∧W.cell? ⟨w.heap.size,2,none⟩=some (.slice (some ⟨g',o',none⟩) m.splits.length sc')∧W.cell? ⟨w.heap.size,3,none⟩=some (.slice (some ⟨mg,mo,none⟩) m.marks.length mc')∧W.cell? ⟨w.heap.size,4,none⟩=some (.bool m.sealed)∧W.cell? ⟨w.heap.size,5,none⟩=some (.slice ba2 bl2 bc2)) ∧
          W.cell? ⟨b10,0,none⟩=some (.string nm)∧W.cell? ⟨b10+1,0,none⟩=some (.int .i64 y.t)∧W.cell? ⟨b10+1,1,none⟩=some (.slice ra y.r.length rc)∧W.cell? ⟨mg,mo+q,none⟩=some (.int .i64 mk2)):=by
          intro W ho
          have h0:=(ho.block w.heap.size (heap_lt U0.out) (by omega)).trans U0.out
          have h10:=(ho.block b10 (heap_lt U10.out) (by omega)).trans U10.out
          have h11:=(ho.block (b10+1) (heap_lt U11.out) (by omega)).trans U11.out
          exact ⟨⟨cells_at h0 0,cells_at h0 1,cells_at h0 2,cells_at h0 3,cells_at h0 4,cells_at h0 5⟩,cells_at h10 0,cells_at h11 0,cells_at h11 1,by rw [ho.cell mg (mo+q) (cell_lt hc2) (by omega)];exact hc2⟩
         clear hc2
         have hqi':(q:Int)<(m.marks.length:Int):=by omega
         refine wp_region_game [0,1,2,3,4,5,6,7,8,9,10,11] 3 (fun W=>Only (fun b=>b=w.heap.size+1) w10 W) mixed (by kernel_rfl) ((Only.refl _ _).drew) ?_
         iterate 12 (
          refine wpFloatC_ex (fun K hK=>?_)
          apply Exists.intro
          refine ⟨fun W hW=>?_,?_⟩
          · obtain ⟨⟨q1,q2,q3,q4,q5,q6⟩,q7,q8,q9,q10⟩:=HCW.out W hW
            clear hW
            go_simp
            rfl
          go_simp
          refine hK _ ?_
          clear hK K)
         refine wpFloatC_nil ?_
         refine game_on 12 true (fun K hK=>?_)
         obtain ⟨r0,r1,r2,r3,r4,r5,rf⟩:=box6_cells U1.out
         go_simp
         refine hK _ _ rfl (fun _=>((Only.refl (fun b=>b=w.heap.size+1) w10).fill (g:=w.heap.size+1) (fun _=>rfl) (.slice sha' s.length shc') (.int .i64 m.bound) (.slice (some ⟨g',o',none⟩) m.splits.length sc') (.slice (some ⟨mg,mo,none⟩) m.marks.length mc') (.bool m.sealed) (.slice ba2 bl2 bc2)).drew) ?_
         clear hK K r0 r1 r2 r3 r4 r5 rf
         obtain ⟨w12,hw12⟩:∃ W,(fill45 w10 (w.heap.size+1) (.slice sha' s.length shc') (.int .i64 m.bound) (.slice (some ⟨g',o',none⟩) m.splits.length sc') (.slice (some ⟨mg,mo,none⟩) m.marks.length mc') (.bool m.sealed) (.slice ba2 bl2 bc2)).drew=W:=⟨_,rfl⟩
         have Z2:Hid (w12.heap[w.heap.size+2]? = some (.cells #[.int .i64 0,.string ⟨#[]⟩,.int .i64 0,.slice none 0 0,.bool false,.int .i64 0] 116 (0,0))):=by
          show _=_
          rw [← hw12]
          exact drew_at ((fill_ne (w:=w10) (by omega:w.heap.size+2≠w.heap.size+1) (.slice sha' s.length shc') (.int .i64 m.bound) (.slice (some ⟨g',o',none⟩) m.splits.length sc') (.slice (some ⟨mg,mo,none⟩) m.marks.length mc') (.bool m.sealed) (.slice ba2 bl2 bc2)).trans U2.out)
         have Z1:Hid (w12.heap[w.heap.size+1]? = some (.cells #[.slice sha' s.length shc',.int .i64 m.bound,.slice (some ⟨g',o',none⟩) m.splits.length sc',.slice (some ⟨mg,mo,none⟩) m.marks.length mc',.bool m.sealed,.slice ba2 bl2 bc2] 45 (0,0))):=by
          show _=_
          rw [← hw12]
          exact drew_at (box45_fill (w:=w10) U1.out (.slice sha' s.length shc') (.int .i64 m.bound) (.slice (some ⟨g',o',none⟩) m.splits.length sc') (.slice (some ⟨mg,mo,none⟩) m.marks.length mc') (.bool m.sealed) (.slice ba2 bl2 bc2))
         have ZO:Hid (Only (fun b=>b=w.heap.size+1) w10 w12):=by
          rw [← hw12]
          exact ((Only.refl (fun b=>b=w.heap.size+1) w10).fill (g:=w.heap.size+1) (fun _=>rfl) (.slice sha' s.length shc') (.int .i64 m.bound) (.slice (some ⟨g',o',none⟩) m.splits.length sc') (.slice (some ⟨mg,mo,none⟩) m.marks.length mc') (.bool m.sealed) (.slice ba2 bl2 bc2)).drew
         unfold fill45 at hw12
         rw [hw12]
         clear hw12
         obtain ⟨r0,r1,r2,r3,r4,r5,rf⟩:=box6_cells Z2.out
         refine game_on 13 false (fun K hK=>?_)
         go_simp
         refine hK _ _ rfl (fun h=>by cases h) ?_
         clear hK K r0 r1 r2 r3 r4 r5 rf
         refine game_on 14 false (fun K hK=>?_)
         go_simp
         refine hK _ _ rfl (fun h=>by cases h) ?_
         clear hK K
         refine game_end (by kernel_rfl) ?_
         go_wp2_with fail
         have hF1:∀ bv,(fill45 w12 (w.heap.size+1+1) (.int .i64 (q:Int)) (.string nm) (.int .i64 y.t) (.slice ra y.r.length rc) (.bool bv) (.int .i64 mk2)).heap[w.heap.size+1]? = some (.cells #[.slice sha' s.length shc',.int .i64 m.bound,.slice (some ⟨g',o',none⟩) m.splits.length sc',.slice (some ⟨mg,mo,none⟩) m.marks.length mc',.bool m.sealed,.slice ba2 bl2 bc2] 45 (0,0)):=fun bv=>(fill_ne (w:=w12) (g:=w.heap.size+1+1) (by omega) (.int .i64 (q:Int)) (.string nm) (.int .i64 y.t) (.slice ra y.r.length rc) (.bool bv) (.int .i64 mk2)).trans Z1.out
         have hF2:∀ bv,(fill45 w12 (w.heap.size+1+1) (.int .i64 (q:Int)) (.string nm) (.int .i64 y.t) (.slice ra y.r.length rc) (.bool bv) (.int .i64 mk2)).heap[w.heap.size+1+1]? = some (.cells #[.int .i64 (q:Int),.string nm,.int .i64 y.t,.slice ra y.r.length rc,.bool bv,.int .i64 mk2] 116 (0,0)):=fun bv=>box6_fill (w:=w12) (g:=w.heap.size+1+1) Z2.out _ _ _ _ _ _
         unfold fill45 at hF1 hF2
         refine HPOST.out _ _ _ (bodyPost_ret (ret58 rfl _ _ (w.heap.size+1) (w.heap.size+1+1) (hF1 _) (hF2 _) rfl rfl) rfl ?_)
         clear hF1 hF2
         have oF:∀ bv,Only (fun b=>b=w.heap.size+1∨b=w.heap.size+2) w10 (fill45 w12 (w.heap.size+1+1) (.int .i64 (q:Int)) (.string nm) (.int .i64 y.t) (.slice ra y.r.length rc) (.bool bv) (.int .i64 mk2)):=fun bv=>(ZO.out.mono (fun b _ e=>.inl e)).fill (g:=w.heap.size+1+1) (fun _=>.inr rfl) _ _ _ _ _ _
         have hbF:=fun bv=>UW.out.trans ((oF bv).below UW.out.size (fun b e=>by rcases e with rfl | rfl <;> omega))
         have hroF:=fun bv=>UO.out.keep fun b hb hl=>(oF bv).block b hl (fun e=>by
          rcases hb with hb | hb | hb
          · have:=TD2.out b hb;omega
          · have:=TS.out b hb;omega
          · have:=TN.out b hb;omega)
         have hRow:=fun bv=>UR.out.keep fun b hb hl=>(oF bv).block b hl (fun e=>by have:=TD2.out b hb;omega)
         have hmk:m.marks.getD q 0=mk:=by rw [← HMK.out];simp [List.getD,hq]
         have hm2:(risenM m8 q).marks.getD q 0=mk2:=by rw [← HMK2.out];simp [List.getD,hq9]
         rw [HR.out,HY.out,HM8.out]
         refine ⟨⟨.slice sha' s.length shc',(some ⟨g',o',none⟩,sc'),(some ⟨mg,mo,none⟩,mc'),.slice ba2 bl2 bc2⟩,.slice ra y.r.length rc,?_,?_,?_,hbF _⟩
         · show _=Ending.returned (Value.tuple #[refV (risenM m8 q) _,rdV ⟨(q:Int),m.splits[k].name,y,decide (y.t<m.marks.getD q 0),(risenM m8 q).marks.getD q 0⟩ _,.int .i64 0])
           rw [refV_risen,HV8.out,hmk,HLT.out,hm2,HNM.out]
           rfl
         · exact (hroF _).ref.imp fun b hl hb=>by
            rcases hb with hb | hb | hb
            · exact (TD2.out b hb).1.imp id fun h=>⟨h,hl⟩
            · exact .inr ⟨by have:=TS.out b hb;omega,hl⟩
            · exact .inr ⟨by have:=TN.out b hb;omega,hl⟩
         · exact (hRow _).imp fun b hl hb=>(TD2.out b hb).1.imp id fun h=>⟨h,hl⟩
end leaves
end Go.Proofs.YtimahogkcmmcnaaGreatDoor
