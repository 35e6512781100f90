/-
 The well, part 39: the reference finds a split: where it refuses. If the well lies in the world as the words say.
-/
import Derived.Test.YtimahogkcmmcnaaGreatDoorL11
set_option linter.unusedSimpArgs false
set_option linter.unusedVariables false
namespace Go.Proofs.YtimahogkcmmcnaaGreatDoor
open Go.RowKit Go.Proofs.YtimahogkcmmcnaaGreatDoor.Cmps
theorem right_facts {s:List Col} {l:List Evt} (h:rightB s l=true):l.length≤400∧(∀ y ∈ l,-1000000000000≤y.t∧y.t≤1000000000000)∧(∀ y ∈ l,y.r.length≤1000000):=by
 simp only [rightB,Bool.and_eq_true,decide_eq_true_eq,List.all_eq_true] at h
 refine ⟨h.1,fun y hy=>?_,fun y hy=>?_⟩
 · have h1:=h.2 y hy
   simp only [eventB,Bool.and_eq_true] at h1
   by_cases e1:y.t < -1000000000000
   · rw [validTime_lo e1] at h1;cases h1.1
   · by_cases e2:1000000000000<y.t
     · rw [validTime_hi e2] at h1;cases h1.1
     · omega
 · have h1:=h.2 y hy
   simp only [eventB,fitsB,validRow,Bool.and_eq_true,decide_eq_true_eq] at h1
   have:=h1.2.1.1.2.1
   omega
theorem split_facts {s:List Col} {nm:ByteArray} {l:List Evt} (h:splitB s nm l=true):nm.size≤16∧rightB s l=true:=by
 simp only [splitB,nameB,Bool.and_eq_true,decide_eq_true_eq] at h
 exact ⟨h.1.2.2.2,h.2⟩
def findE (s:List Col) (m:WlM) (nm:ByteArray) (l:List Evt):Int :=
 if splitB s nm l=false then 1 else if 0≤findI m.splits nm then 6 else if m.sealed=true then 10 else if 400<allN m.splits+l.length∨m.splits.length=50 then 4 else 0
def findR (s:List Col) (m:WlM) (nm:ByteArray) (l:List Evt):WlM×Int×Int :=
 if findE s m nm l=0 then (findM m nm l,(fewN m.splits (m.marks.length - 1):Nat),0) else (m,0,findE s m nm l)
theorem findR_err {s:List Col} {m:WlM} {nm:ByteArray} {l:List Evt} {e:Int} (h:findE s m nm l=e) (h0:e≠0):findR s m nm l=(m,0,e):=by
 subst h;rw [findR,if_neg h0]
theorem ret45_3 {fn:Func} {p u v:Tmp} (h:fn.results=#[.cell p 45,.tmp u,.tmp v]) (tmps:Array Value) (w:World) (g:Nat) {a b c d e f:Value} (hg:w.heap[g]? = some (.cells #[a,b,c,d,e,f] 45 (0,0))) (hp:tmps.getD p undef=.pointer (some ⟨g,0,none⟩)) :
 (results fn tmps).run Tryz.prog w=.ok (.tuple #[.agg #[a,b,c,d,e,f],tmps.getD u undef,tmps.getD v undef]) w:=by
 have hl:=run_loadVar_row (P:=Tryz.prog) w g 45 45 #[a,b,c,d,e,f] (0,0) _ hg Tryz.underlying45 rfl size45
 have hp':tmps[p]?.getD undef=.pointer (some ⟨g,0,none⟩):=by simpa using hp
 simp [results,h,hp',asAddr,hl]
def Steps3 (w:World) (D:Nat→Prop) (s:List Col) (r:WlM×Int×Int) (e:Ending) (w':World):Prop :=
 ∃ p',e=.returned (.tuple #[refV r.1 p',.int .i64 r.2.1,.int .i64 r.2.2])∧RefAt w' (Plus D w w') s r.1 p'∧Below w.heap.size w w'
theorem findI_neg {l:List SpM} {n:ByteArray} (h:findI l n<0):findI l n = -1:=by
 unfold findI idxI at *
 split
 · rename_i i hi;rw [hi] at h;simp at h;omega
 · rfl
section three
variable (w : World) (a b c d e f x y z a' b' c' d' e' f' : Value)
theorem three_fst:(((w.alloc (.cells #[a,b,c,d,e,f] 45)).alloc (.cells #[x,y,z] 88)).alloc (.cells #[a',b',c',d',e',f'] 45)).heap[w.heap.size]? = some (.cells #[a,b,c,d,e,f] 45 (0,0)):=alloc_keep (alloc_keep (heap_alloc_new w _))
theorem three_snd:(((w.alloc (.cells #[a,b,c,d,e,f] 45)).alloc (.cells #[x,y,z] 88)).alloc (.cells #[a',b',c',d',e',f'] 45)).heap[w.heap.size+1]? = some (.cells #[x,y,z] 88 (0,0)):=alloc_keep (by simpa using heap_alloc_new (w.alloc (.cells #[a,b,c,d,e,f] 45)) (.cells #[x,y,z] 88))
theorem three_trd:(((w.alloc (.cells #[a,b,c,d,e,f] 45)).alloc (.cells #[x,y,z] 88)).alloc (.cells #[a',b',c',d',e',f'] 45)).heap[w.heap.size+2]? = some (.cells #[a',b',c',d',e',f'] 45 (0,0)):=by simpa using heap_alloc_new ((w.alloc (.cells #[a,b,c,d,e,f] 45)).alloc (.cells #[x,y,z] 88)) (.cells #[a',b',c',d',e',f'] 45)
theorem three_below:Below w.heap.size w (((w.alloc (.cells #[a,b,c,d,e,f] 45)).alloc (.cells #[x,y,z] 88)).alloc (.cells #[a',b',c',d',e',f'] 45)):=(((Below.refl _ _).alloc (Nat.le_refl _) _).alloc (by simp) _).alloc (by simp;omega) _
end three
theorem cells3 {w:World} {g:Nat} {t:TypeId} {a b c:Value} (h:w.heap[g]? = some (.cells #[a,b,c] t (0,0))):w.cell? ⟨g,0,none⟩=some a∧w.cell? ⟨g,1,none⟩=some b∧w.cell? ⟨g,2,none⟩=some c :=
 ⟨cells_at h 0,cells_at h 1,cells_at h 2⟩
section leaves
set_option maxHeartbeats 1000000
set_option maxRecDepth 10000
theorem f49_any (hm:Tryz.prog.follows .mixedOrders=true) (w:World) (D:Nat→Prop) (s:List Col) (m:WlM) (p:RS) (src nm:ByteArray) (v:Value) (l:List Evt) (h:RefAt w D s m p) (hok:WOk m) (hl:EvtsAt w D v l) (hn:nm.size≤9223372036854775807) :
 Calls Tryz.prog 49 #[refV m p,.agg #[.string src,.string nm,v]] w (Steps3 w D s (findR s m nm l)):=by
 have mixed:=hm
 have H:=Lib.hid h
 have H0:=Lib.hid (h.imp (D':=fun b=>D b∧b<w.heap.size) fun b hl hb=>⟨hb,hl⟩)
 have HL0:=Lib.hid (hl.imp (D':=fun b=>D b∧b<w.heap.size) fun b hl hb=>⟨hb,hl⟩)
 have HOK:=Lib.hid hok
 obtain ⟨sch,⟨sa,sc⟩,⟨ma,mc⟩,back⟩:=p
 obtain ⟨sha,shc,rfl⟩:∃ a c,sch=.slice a s.length c:=by obtain ⟨a,c,e,_⟩:=h.sch;exact ⟨a,c,e⟩
 obtain ⟨ba,bc,rfl⟩:∃ a c,back=.slice a m.late.length c:=by obtain ⟨a,c,e,_⟩:=h.back;exact ⟨a,c,e⟩
 obtain ⟨va,vc,rfl⟩:∃ a c,v=.slice a l.length c:=by obtain ⟨a,c,e,_⟩:=hl;exact ⟨a,c,e⟩
 have h50:=hok.splits
 have h16:=hok.hi
 clear h hok hl
 have HB3:Hid _:=three_fst w (.slice sha s.length shc) (.int .i64 m.bound) (.slice sa m.splits.length sc) (.slice ma m.marks.length mc) (.bool m.sealed) (.slice ba m.late.length bc) (.string src) (.string nm) (.slice va l.length vc) (.slice none 0 0) (.int .i64 0) (.slice none 0 0) (.slice none 0 0) (.bool false) (.slice none 0 0)
 have HX3:Hid _:=three_snd w (.slice sha s.length shc) (.int .i64 m.bound) (.slice sa m.splits.length sc) (.slice ma m.marks.length mc) (.bool m.sealed) (.slice ba m.late.length bc) (.string src) (.string nm) (.slice va l.length vc) (.slice none 0 0) (.int .i64 0) (.slice none 0 0) (.slice none 0 0) (.bool false) (.slice none 0 0)
 have HR3:Hid _:=three_trd w (.slice sha s.length shc) (.int .i64 m.bound) (.slice sa m.splits.length sc) (.slice ma m.marks.length mc) (.bool m.sealed) (.slice ba m.late.length bc) (.string src) (.string nm) (.slice va l.length vc) (.slice none 0 0) (.int .i64 0) (.slice none 0 0) (.slice none 0 0) (.bool false) (.slice none 0 0)
 have HW3:Hid _:=three_below w (.slice sha s.length shc) (.int .i64 m.bound) (.slice sa m.splits.length sc) (.slice ma m.marks.length mc) (.bool m.sealed) (.slice ba m.late.length bc) (.string src) (.string nm) (.slice va l.length vc) (.slice none 0 0) (.int .i64 0) (.slice none 0 0) (.slice none 0 0) (.bool false) (.slice none 0 0)
 obtain ⟨W3,hW3⟩:∃ W3,(((w.alloc (.cells #[.slice sha s.length shc,.int .i64 m.bound,.slice sa m.splits.length sc,.slice ma m.marks.length mc,.bool m.sealed,.slice ba m.late.length bc] 45)).alloc (.cells #[.string src,.string nm,.slice va l.length vc] 88)).alloc (.cells #[.slice none 0 0,.int .i64 0,.slice none 0 0,.slice none 0 0,.bool false,.slice none 0 0] 45))=W3:=⟨_,rfl⟩
 rw [hW3] at HB3 HX3 HR3 HW3
 have H51:=Lib.hid (f51_any hm W3 (fun b=>D b∧b<w.heap.size) (fun b=>D b∧b<w.heap.size) (.slice sha s.length shc) (.slice va l.length vc) s src nm l (H0.out.sch.keep fun b _ hlt=>HW3.out.block b hlt) (HL0.out.below HW3.out) hn)
 have HF:=fun (W:World) (hb:Below W3.heap.size W3 W)=>f88_any W (fun b=>D b∧b<w.heap.size) s m ⟨.slice sha s.length shc,(sa,sc),(ma,mc),.slice ba m.late.length bc⟩ nm ((H0.out.below HW3.out).below hb) HOK.out
 simp only [refV] at HF ⊢
 have HF':=Lib.hid HF
 have HK:Hid (∀ W,Below W3.heap.size W3 W→W.heap[w.heap.size]? = some (.cells #[.slice sha s.length shc,.int .i64 m.bound,.slice sa m.splits.length sc,.slice ma m.marks.length mc,.bool m.sealed,.slice ba m.late.length bc] 45 (0,0)) ∧
  W.heap[w.heap.size+1]? = some (.cells #[.string src,.string nm,.slice va l.length vc] 88 (0,0))∧W.heap[w.heap.size+2]? = some (.cells #[.slice none 0 0,.int .i64 0,.slice none 0 0,.slice none 0 0,.bool false,.slice none 0 0] 45 (0,0))∧Below w.heap.size w W) :=
  fun W hb=>⟨(hb.block _ (heap_lt HB3.out)).trans HB3.out,(hb.block _ (heap_lt HX3.out)).trans HX3.out,(hb.block _ (heap_lt HR3.out)).trans HR3.out,HW3.out.trans (hb.mono HW3.out.size)⟩
 have HE:Hid (∀ W:World,Below w.heap.size w W→W.heap[w.heap.size+2]? = some (.cells #[.slice none 0 0,.int .i64 0,.slice none 0 0,.slice none 0 0,.bool false,.slice none 0 0] 45 (0,0))→∀ er:Int,
  Steps3 w D s (m,0,er) (.returned (.tuple #[.agg #[.slice sha s.length shc,.int .i64 m.bound,.slice sa m.splits.length sc,.slice ma m.marks.length mc,.bool m.sealed,.slice ba m.late.length bc],.int .i64 0,.int .i64 er]))
   (fill45 W (w.heap.size+2) (.slice sha s.length shc) (.int .i64 m.bound) (.slice sa m.splits.length sc) (.slice ma m.marks.length mc) (.bool m.sealed) (.slice ba m.late.length bc))):=by
  intro W hb hR er
  have hbF:=fill_below hb (Nat.le_add_right w.heap.size 2) (.slice sha s.length shc) (.int .i64 m.bound) (.slice sa m.splits.length sc) (.slice ma m.marks.length mc) (.bool m.sealed) (.slice ba m.late.length bc)
  exact ⟨⟨.slice sha s.length shc,(sa,sc),(ma,mc),.slice ba m.late.length bc⟩,rfl,(H.out.below hbF).mono fun b h=>.inl h,hbF⟩
 clear HF
 obtain ⟨sb,hsb⟩:∃ b,splitB s nm l=b:=⟨_,rfl⟩
 rw [hsb] at H51
 obtain ⟨b30,b31,b32,b33,b34,b35,bf3⟩:=box45_cells HB3.out
 obtain ⟨x30,x31,x32⟩:=cells3 HX3.out
 cases sb
 · rw [findR_err (e:=1) (by rw [findE,if_pos hsb]) (by omega)]
   clear hsb
   go_enter Tryz.func49,Tryz.ntmps49
   go_wp2_with (first
    | (go_at_call 51;(try rw [hW3]);(with_reducible refine H51.out.mono ?_);rintro e w4 ⟨rfl,hb⟩
       obtain ⟨kB,kX,kR,kW⟩:=HK.out w4 hb
       obtain ⟨b40,b41,b42,b43,b44,b45,bf4⟩:=box45_cells kB
       obtain ⟨r40,r41,r42,r43,r44,r45,rf4⟩:=box45_cells kR
       have KR:=Lib.hid kR;have KW:=Lib.hid kW;clear hb kB kX kR kW))
   refine bodyPost_ret (ret45_3 rfl _ _ (w.heap.size+2) (box45_fill KR.out _ _ _ _ _ _) rfl) rfl ?_
   exact HE.out w4 KW.out KR.out 1
 · by_cases hf:0≤findI m.splits nm
   · rw [findR_err (e:=6) (by rw [findE,hsb,if_neg (by simp),if_pos hf]) (by omega)]
     generalize findI m.splits nm=fi at hf HF'
     clear hsb
     go_enter Tryz.func49,Tryz.ntmps49
     go_wp2_with (first
      | (go_at_call 51;(try rw [hW3]);(with_reducible refine H51.out.mono ?_);rintro e w4 ⟨rfl,hb⟩
         obtain ⟨kB,kX,kR,kW⟩:=HK.out w4 hb
         obtain ⟨b40,b41,b42,b43,b44,b45,bf4⟩:=box45_cells kB
         obtain ⟨x40,x41,x42⟩:=cells3 kX
         have HF4:=Lib.hid (HF'.out w4 hb);have HB4:=Lib.hid hb;clear hb kB kX kR kW)
      | (go_at_call 88;(with_reducible refine HF4.out.mono ?_);rintro e w5 ⟨rfl,hb⟩
         obtain ⟨kB,kX,kR,kW⟩:=HK.out w5 (below_then HB4.out hb)
         obtain ⟨b50,b51,b52,b53,b54,b55,bf5⟩:=box45_cells kB
         obtain ⟨r50,r51,r52,r53,r54,r55,rf5⟩:=box45_cells kR
         have KR:=Lib.hid kR;have KW:=Lib.hid kW;clear hb kB kX kR kW))
     refine bodyPost_ret (ret45_3 rfl _ _ (w.heap.size+2) (box45_fill KR.out _ _ _ _ _ _) rfl) rfl ?_
     exact HE.out w5 KW.out KR.out 6
   · obtain ⟨sl,hsl⟩:∃ b,m.sealed=b:=⟨_,rfl⟩
     cases sl
     · have hfi:=findI_neg (l:=m.splits) (n:=nm) (by omega)
       obtain ⟨hrt1,hrt2⟩:=split_facts hsb
       obtain ⟨hL,hT,hRW⟩:=right_facts hrt2
       have hN:=HOK.out.all
       have HKN:Hid (∀ W,Below W3.heap.size W3 W→∀ d os,Calls Tryz.prog 90 #[.agg #[.slice sha s.length shc,.int .i64 m.bound,.slice sa m.splits.length sc,.slice ma m.marks.length mc,.bool m.sealed,.slice ba m.late.length bc]] (Sort.grow (redrawn W d) os) fun e w''=>e=.returned (.int .i64 (allN m.splits))∧∃ p:Regrown,w''=Sort.grow (redrawn W p.d) p.os) :=
        fun W hb d os=>Calls.regrown_of (f90_any _ (fun b=>D b∧b<w.heap.size) s m ⟨.slice sha s.length shc,(sa,sc),(ma,mc),.slice ba m.late.length bc⟩ (((H0.out.below HW3.out).below hb).below (below_regrown W d os)) HOK.out)
       have hwr:IntKind.i64.wrap ((allN m.splits:Int)+(l.length:Int))=(allN m.splits:Int)+(l.length:Int):=wrapI (by omega)
       simp only [hsl] at HKN HK HE HB3 HX3 HR3 hW3 b34 HF' ⊢
       have hfl:findI m.splits nm<0:=by omega
       have HFE:Hid (findE s m nm l=if 400<allN m.splits+l.length∨m.splits.length=50 then 4 else 0):=by show findE s m nm l=_;rw [findE,hsb,if_neg (by simp),if_neg hf,hsl,if_neg (by simp)]
       clear hsb hf hrt2
       generalize findI m.splits nm=fi at hfl HF' hfi
       clear hfi
       by_cases hA:400<allN m.splits+l.length
       · rw [findR_err (e:=4) (by rw [HFE.out,if_pos (.inl hA)]) (by omega)]
         have gA:(400:Int)<(allN m.splits:Int)+(l.length:Int):=by omega
         go_enter Tryz.func49,Tryz.ntmps49
         go_wp2_with (first
          | (go_at_call 51;(try rw [hW3]);(with_reducible refine H51.out.mono ?_);rintro e w4 ⟨rfl,hb⟩
             obtain ⟨kB,kX,kR,kW⟩:=HK.out w4 hb
             obtain ⟨b40,b41,b42,b43,b44,b45,bf4⟩:=box45_cells kB
             obtain ⟨x40,x41,x42⟩:=cells3 kX
             have HF4:=Lib.hid (HF'.out w4 hb);have HB4:=Lib.hid hb;clear hb kB kX kR kW)
          | (go_at_call 88;(with_reducible refine HF4.out.mono ?_);rintro e w5 ⟨rfl,hb⟩
             have HB5:=Lib.hid (below_then HB4.out hb)
             obtain ⟨kB,kX,kR,kW⟩:=HK.out w5 HB5.out
             obtain ⟨b50,b51,b52,b53,b54,b55,bf5⟩:=box45_cells kB
             obtain ⟨x50,x51,x52⟩:=cells3 kX
             clear hb kB kX kR kW b40 b41 b42 b43 b44 b45 bf4 x40 x41 x42))
         have HKN5:=Lib.hid (HKN.out w5 HB5.out)
         have hcl:=fun d os b' o' h=>(below_regrown w5 d os).cell (p:=⟨b',o',none⟩) h
         have hw5:w.heap.size<w5.heap.size:=by have:=HB5.out.size;have:=heap_lt HR3.out;omega
         have hw5':w.heap.size+1<w5.heap.size:=by have:=HB5.out.size;have:=heap_lt HR3.out;omega
         refine wp_region_quiet_below mixed (by kernel_rfl) ?_
         repeat (first | go_big_quiet_skip | quiet_step (with_reducible exact HKN5.out _ _))
         refine wpQuiet_nil ?_
         intro wq hw'
         have HQ:=Lib.hid (below_then HB5.out (below_of_class hw'))
         clear hw' hcl
         obtain ⟨kB,kX,kR,kW⟩:=HK.out wq HQ.out
         obtain ⟨b60,b61,b62,b63,b64,b65,bf6⟩:=box45_cells kB
         obtain ⟨x60,x61,x62⟩:=cells3 kX
         obtain ⟨r60,r61,r62,r63,r64,r65,rf6⟩:=box45_cells kR
         have KR:=Lib.hid kR;have KW:=Lib.hid kW;clear kB kX kR kW
         go_wp2_with fail
         refine bodyPost_ret (ret45_3 rfl _ _ (w.heap.size+2) (box45_fill KR.out _ _ _ _ _ _) rfl) rfl ?_
         exact HE.out wq KW.out KR.out 4
       · have gA:¬ (400:Int)<(allN m.splits:Int)+(l.length:Int):=by omega
         by_cases hB:m.splits.length=50
         · rw [findR_err (e:=4) (by rw [HFE.out,if_pos (.inr hB)]) (by omega)]
           have gB:((m.splits.length:Int) == 50)=true:=by simp;omega
           clear hB
           go_enter Tryz.func49,Tryz.ntmps49
           go_wp2_with (first
            | (go_at_call 51;(try rw [hW3]);(with_reducible refine H51.out.mono ?_);rintro e w4 ⟨rfl,hb⟩
               obtain ⟨kB,kX,kR,kW⟩:=HK.out w4 hb
               obtain ⟨b40,b41,b42,b43,b44,b45,bf4⟩:=box45_cells kB
               obtain ⟨x40,x41,x42⟩:=cells3 kX
               have HF4:=Lib.hid (HF'.out w4 hb);have HB4:=Lib.hid hb;clear hb kB kX kR kW)
            | (go_at_call 88;(with_reducible refine HF4.out.mono ?_);rintro e w5 ⟨rfl,hb⟩
               have HB5:=Lib.hid (below_then HB4.out hb)
               obtain ⟨kB,kX,kR,kW⟩:=HK.out w5 HB5.out
               obtain ⟨b50,b51,b52,b53,b54,b55,bf5⟩:=box45_cells kB
               obtain ⟨x50,x51,x52⟩:=cells3 kX
               clear hb kB kX kR kW b40 b41 b42 b43 b44 b45 bf4 x40 x41 x42))
           have HKN5:=Lib.hid (HKN.out w5 HB5.out)
           have hcl:=fun d os b' o' h=>(below_regrown w5 d os).cell (p:=⟨b',o',none⟩) h
           have hw5:w.heap.size<w5.heap.size:=by have:=HB5.out.size;have:=heap_lt HR3.out;omega
           have hw5':w.heap.size+1<w5.heap.size:=by have:=HB5.out.size;have:=heap_lt HR3.out;omega
           refine wp_region_quiet_below mixed (by kernel_rfl) ?_
           repeat (first | go_big_quiet_skip | quiet_step (with_reducible exact HKN5.out _ _))
           refine wpQuiet_nil ?_
           intro wq hw'
           have HQ:=Lib.hid (below_then HB5.out (below_of_class hw'))
           clear hw' hcl
           obtain ⟨kB,kX,kR,kW⟩:=HK.out wq HQ.out
           obtain ⟨b60,b61,b62,b63,b64,b65,bf6⟩:=box45_cells kB
           obtain ⟨x60,x61,x62⟩:=cells3 kX
           obtain ⟨r60,r61,r62,r63,r64,r65,rf6⟩:=box45_cells kR
           have KR:=Lib.hid kR;have KW:=Lib.hid kW;clear kB kX kR kW
           go_wp2_with fail
           refine bodyPost_ret (ret45_3 rfl _ _ (w.heap.size+2) (box45_fill KR.out _ _ _ _ _ _) rfl) rfl ?_
           exact HE.out wq KW.out KR.out 4
         · have gB:((m.splits.length:Int) == 50)=false:=by simp;omega
           rw [findR,if_pos (by rw [HFE.out,if_neg (by omega)])]
           have HFO:=Lib.hid (fun (W:World) (E:Nat→Prop) (a:Option Addr) (c:Nat) (h:SplsAt W E (.slice a m.splits.length c) m.splits)=>f91_any W E a c m.splits m.marks.length h HOK.out.owner HOK.out.lo HOK.out.hi HOK.out.splits)
           have HC:=Lib.hid (fun (W:World) (hb:Below W3.heap.size W3 W)=>f87_any W (fun b=>D b∧b<w.heap.size) s m ⟨.slice sha s.length shc,(sa,sc),(ma,mc),.slice ba m.late.length bc⟩ ((H0.out.below HW3.out).below hb) HOK.out)
           simp only [refV,hsl] at HC
           obtain ⟨i0,hi0,hz0,hz1,hz2⟩:=info_parts info124
           have hz3:w.heap.size+2<W3.heap.size:=heap_lt HR3.out
           have HZ3:=Lib.hid hz3
           have HB50:=Lib.hid hB
           clear hB hz3
           go_enter Tryz.func49,Tryz.ntmps49
           go_wp2_with (first
            | (go_at_call 51;(try rw [hW3]);(with_reducible refine H51.out.mono ?_);rintro e w4 ⟨rfl,hb⟩
               obtain ⟨kB,kX,kR,kW⟩:=HK.out w4 hb
               obtain ⟨b40,b41,b42,b43,b44,b45,bf4⟩:=box45_cells kB
               obtain ⟨x40,x41,x42⟩:=cells3 kX
               have HF4:=Lib.hid (HF'.out w4 hb);have HB4:=Lib.hid hb;clear hb kB kX kR kW)
            | (go_at_call 88;(with_reducible refine HF4.out.mono ?_);rintro e w5 ⟨rfl,hb⟩
               have HB5:=Lib.hid (below_then HB4.out hb)
               obtain ⟨kB,kX,kR,kW⟩:=HK.out w5 HB5.out
               obtain ⟨b50,b51,b52,b53,b54,b55,bf5⟩:=box45_cells kB
               obtain ⟨x50,x51,x52⟩:=cells3 kX
               clear hb kB kX kR kW b40 b41 b42 b43 b44 b45 bf4 x40 x41 x42))
           have HKN5:=Lib.hid (HKN.out w5 HB5.out)
           have hcl:=fun d os b' o' h=>(below_regrown w5 d os).cell (p:=⟨b',o',none⟩) h
           have hw5:w.heap.size<w5.heap.size:=by have:=HB5.out.size;have:=heap_lt HR3.out;omega
           have hw5':w.heap.size+1<w5.heap.size:=by have:=HB5.out.size;have:=heap_lt HR3.out;omega
           refine wp_region_quiet_below mixed (by kernel_rfl) ?_
           repeat (first | go_big_quiet_skip | quiet_step (with_reducible exact HKN5.out _ _))
           refine wpQuiet_nil ?_
           intro wq hw'
           have HQ:=Lib.hid (below_then HB5.out (below_of_class hw'))
           clear hw' hcl
           obtain ⟨kB,kX,kR,kW⟩:=HK.out wq HQ.out
           obtain ⟨b60,b61,b62,b63,b64,b65,bf6⟩:=box45_cells kB
           obtain ⟨x60,x61,x62⟩:=cells3 kX
           obtain ⟨r60,r61,r62,r63,r64,r65,rf6⟩:=box45_cells kR
           have KB:=Lib.hid kB;have KX:=Lib.hid kX;have KR:=Lib.hid kR;have KW:=Lib.hid kW;clear kB kX kR kW r60 r61 r62 r63 r64 r65 rf6 x60 x61 x62
           have HCq:=Lib.hid (HC.out wq HQ.out)
           have hzq:w.heap.size+2<wq.heap.size:=Nat.lt_of_lt_of_le HZ3.out HQ.out.size
           have HZq:=Lib.hid hzq
           clear hzq hw5 hw5'
           go_wp2_with (first
            | (go_at_call 87;(with_reducible refine HCq.out.mono ?_);rintro e w6 ⟨⟨sch',⟨sa',sc'⟩,⟨ma',mc'⟩,back'⟩,sb,mb,rfl,hro,hs,hm,hb⟩
               simp only [refV,hsl]
               obtain ⟨sha',shc',rfl⟩:∃ a c,sch'=.slice a s.length c:=by obtain ⟨a,c,e,_⟩:=hro.sch;exact ⟨a,c,e⟩
               obtain ⟨ba',bc',rfl⟩:∃ a c,back'=.slice a m.late.length c:=by obtain ⟨a,c,e,_⟩:=hro.back;exact ⟨a,c,e⟩
               have hzq:=HZq.out
               have hB6:=(hb.block _ (heap_lt KB.out)).trans KB.out
               have hX6:=(hb.block _ (heap_lt KX.out)).trans KX.out
               have hR6:=(hb.block _ (heap_lt KR.out)).trans KR.out
               have hB7:=box45_fill hB6 (.slice sha' s.length shc') (.int .i64 m.bound) (.slice sa' m.splits.length sc') (.slice ma' m.marks.length mc') (.bool false) (.slice ba' m.late.length bc')
               have hX7:=(fill_ne (by omega:w.heap.size+1≠w.heap.size) (.slice sha' s.length shc') (.int .i64 m.bound) (.slice sa' m.splits.length sc') (.slice ma' m.marks.length mc') (.bool false) (.slice ba' m.late.length bc')).trans hX6
               have hR7:=(fill_ne (by omega:w.heap.size+2≠w.heap.size) (.slice sha' s.length shc') (.int .i64 m.bound) (.slice sa' m.splits.length sc') (.slice ma' m.marks.length mc') (.bool false) (.slice ba' m.late.length bc')).trans hR6
               have hro7:=hro.fillK (g:=w.heap.size) (fun h=>by have:=h.1.2;omega) (fun e=>by have:=hs _ e;omega) (fun e=>by have:=hm _ e;omega) (.slice sha' s.length shc') (.int .i64 m.bound) (.slice sa' m.splits.length sc') (.slice ma' m.marks.length mc') (.bool false) (.slice ba' m.late.length bc')
               have hb7:Below w.heap.size w (fill45 w6 w.heap.size (.slice sha' s.length shc') (.int .i64 m.bound) (.slice sa' m.splits.length sc') (.slice ma' m.marks.length mc') (.bool false) (.slice ba' m.late.length bc')):=fill_below (KW.out.trans (hb.mono KW.out.size)) (Nat.le_refl _) _ _ _ _ _ _
               have H91:=Lib.hid (HFO.out _ _ _ _ hro7.ref.spl)
               have HB7:=Lib.hid hB7;have HX7:=Lib.hid hX7;have HR7:=Lib.hid hR7;have HRO7:=Lib.hid hro7;have HW7:=Lib.hid hb7;have HS:=Lib.hid hs;have HM:=Lib.hid hm
               obtain ⟨b70,b71,b72,b73,b74,b75,bf7⟩:=box45_cells hB7
               obtain ⟨c60,c61,c62,c63,c64,c65,cf6⟩:=box45_cells hB6
               clear hro hs hm hb hB6 hX6 hR6 hB7 hX7 hR7 hro7 hb7 hzq)
            | (go_at_call 91;(with_reducible refine H91.out.mono ?_);rintro e w8 ⟨rfl,hb⟩
               have hB8:=(hb.block _ (heap_lt HB7.out)).trans HB7.out
               have hX8:=(hb.block _ (heap_lt HX7.out)).trans HX7.out
               have hR8:=(hb.block _ (heap_lt HR7.out)).trans HR7.out
               have hro8:=HRO7.out.below hb
               have hb8:=HW7.out.trans (hb.mono HW7.out.size)
               obtain ⟨b80,b81,b82,b83,b84,b85,bf8⟩:=box45_cells hB8
               obtain ⟨x80,x81,x82⟩:=cells3 hX8
               have HB8:=Lib.hid hB8;have HR8:=Lib.hid hR8;have HRO8:=Lib.hid hro8;have HW8:=Lib.hid hb8
               clear hb hB8 hX8 hR8 hro8 hb8)
            | (at_builtin
               obtain ⟨ps,hps,hown,hrows⟩:=HRO8.out.spl
               dsimp only at hps hown hrows
               have hone:∀ u ∈ spsC [((⟨nm,fewN m.splits (m.marks.length - 1),l,0,-1000000000000,false⟩:SpM),Value.slice va l.length vc)],u.oneCell'=true:=by
                intro u hu
                simp only [spsC,spC,List.append_nil,List.mem_cons,List.not_mem_nil,or_false] at hu
                rcases hu with rfl | rfl | rfl | rfl | rfl | rfl <;> rfl
               have hsrc:Src (w8.alloc (.cells #[.string nm,.int .i64 (fewN m.splits (m.marks.length - 1):Nat),.slice va l.length vc,.int .i64 0,.int .i64 (-1000000000000),.bool false] 124)) 6 (.slice (some ⟨w8.heap.size,0,none⟩) 1 1) 1 (spsC [((⟨nm,fewN m.splits (m.marks.length - 1),l,0,-1000000000000,false⟩:SpM),Value.slice va l.length vc)]):=SlOwn.src (e:=124) (blk:=some w8.heap.size) ⟨rfl,.inr ⟨_,0,1,_,rfl,rfl,World.alloc_heap_new w8 _,Nat.le_refl _,by simp [maxLen],by simp,rfl⟩⟩
               have howna:SlOwn (w8.alloc (.cells #[.string nm,.int .i64 (fewN m.splits (m.marks.length - 1):Nat),.slice va l.length vc,.int .i64 0,.int .i64 (-1000000000000),.bool false] 124)) 124 6 (.slice sa' m.splits.length sc') m.splits.length (spsC ps) sb:=hown.keep fun g hg=>Below.heap_alloc _ _ _ (hown.lt_of hg)
               refine wpList_append_S rfl (.tmp 46) (.tmp 53) 43 rfl 124 i0 _ 6 72 Tryz.underlying43 hi0 hz0 hz1 hz2 rfl (by omega) (.slice sa' m.splits.length sc') m.splits.length (spsC ps) sb rfl howna (.slice (some ⟨w8.heap.size,0,none⟩) 1 1) 1 (spsC [((⟨nm,fewN m.splits (m.marks.length - 1),l,0,-1000000000000,false⟩:SpM),Value.slice va l.length vc)]) rfl hsrc hone (by simp only [maxLen];omega) (by omega) ?_
               intro v10 w10 sb' hown10 hgrow hat
               obtain ⟨a10,c10,rfl⟩:=hown10.form
               have hz8:=heap_lt HR8.out
               have hza:(w8.alloc (.cells #[.string nm,.int .i64 (fewN m.splits (m.marks.length - 1):Nat),.slice va l.length vc,.int .i64 0,.int .i64 (-1000000000000),.bool false] 124)).heap.size=w8.heap.size+1:=by simp
               have hsbB:∀ b,b<w.heap.size+3→some b≠sb:=fun b hb e=>by have h1:=HS.out b e.symm;have h2:=HZq.out;omega
               have hB10:=(hgrow.block w.heap.size (by omega) (hsbB _ (by omega))).trans (alloc_keep HB8.out)
               have hR10:=(hgrow.block (w.heap.size+2) (by omega) (hsbB _ (by omega))).trans (alloc_keep HR8.out)
               have hB11:=box45_set2 hB10 (.slice a10 (m.splits.length+1) c10)
               have hR11:=(heap_set_ne (w:=w10) (g:=w.heap.size) (j:=2) (.slice a10 (m.splits.length+1) c10) (by omega:w.heap.size+2≠w.heap.size)).trans hR10
               obtain ⟨d100,d101,d102,d103,d104,d105,df10⟩:=box45_cells hB10
               obtain ⟨d110,d111,d112,d113,d114,d115,df11⟩:=box45_cells hB11
               obtain ⟨e110,e111,e112,e113,e114,e115,ef11⟩:=box45_cells hR11
               have HPS:=Lib.hid hps;have HOWN10:=Lib.hid hown10;have HGR:=Lib.hid hgrow;have HAT:=Lib.hid hat;have HR11:=Lib.hid hR11;have HRW:=Lib.hid hrows
               have HOLT:=Lib.hid (fun g (hg:sb=some g)=>hown.lt_of hg)
               clear hps hown hrows hone hsrc howna hown10 hgrow hat hB10 hR10 hB11 hR11 hz8 hza hsbB))
           refine bodyPost_ret (ret45_3 rfl _ _ (w.heap.size+2) (box45_fill HR11.out _ _ _ _ _ _) rfl) rfl ?_
           have hza:(w8.alloc (.cells #[.string nm,.int .i64 (fewN m.splits (m.marks.length - 1):Nat),.slice va l.length vc,.int .i64 0,.int .i64 (-1000000000000),.bool false] 124)).heap.size=w8.heap.size+1:=by simp
           have hz10:=HGR.out.size
           have hzq:=HZq.out
           have hz8:=heap_lt HR8.out
           have hb10:Below w.heap.size w w10:=(HW8.out.alloc HW8.out.size (.cells #[.string nm,.int .i64 (fewN m.splits (m.marks.length - 1):Nat),.slice va l.length vc,.int .i64 0,.int .i64 (-1000000000000),.bool false] 124)).grown HGR.out (by have:=HW8.out.size;omega) (fun k hk=>by have:=HS.out k hk;omega)
           have hbF:=fill_below (hb10.setCell (p:=⟨w.heap.size,2,none⟩) (Nat.le_refl _) (.slice a10 (m.splits.length+1) c10)) (Nat.le_add_right w.heap.size 2) (.slice sha' s.length shc') (.int .i64 m.bound) (.slice a10 (m.splits.length+1) c10) (.slice ma' m.marks.length mc') (.bool false) (.slice ba' m.late.length bc')
           have hkF:∀ b,b<w8.heap.size→b≠w.heap.size→b≠w.heap.size+2→sb≠some b→(fill45 (w10.setCell ⟨w.heap.size,2,none⟩ (.slice a10 (m.splits.length+1) c10)) (w.heap.size+2) (.slice sha' s.length shc') (.int .i64 m.bound) (.slice a10 (m.splits.length+1) c10) (.slice ma' m.marks.length mc') (.bool false) (.slice ba' m.late.length bc')).heap[b]? = w8.heap[b]? := fun b h0 h1 h2 h3 =>
            (fill_ne h2 (.slice sha' s.length shc') (.int .i64 m.bound) (.slice a10 (m.splits.length+1) c10) (.slice ma' m.marks.length mc') (.bool false) (.slice ba' m.late.length bc')).trans ((heap_set_ne _ h1).trans ((HGR.out.block b (by omega) (fun e=>h3 e.symm)).trans (Below.heap_alloc _ _ _ h0)))
           have hnew:∀ b,sb'=some b→sb=some b∨b=w8.heap.size+1:=fun b hb=>by
            rcases HAT.out with e | e
            · exact .inl (e ▸ hb)
            · rw [hb] at e;injection e with e;exact .inr (by omega)
           have hroF:RefO (fill45 (w10.setCell ⟨w.heap.size,2,none⟩ (.slice a10 (m.splits.length+1) c10)) (w.heap.size+2) (.slice sha' s.length shc') (.int .i64 m.bound) (.slice a10 (m.splits.length+1) c10) (.slice ma' m.marks.length mc') (.bool false) (.slice ba' m.late.length bc')) (fun b=>(D b∧b<w.heap.size)∧b<wq.heap.size) s (findM m nm l) ⟨.slice sha' s.length shc',(a10,c10),(ma',mc'),.slice ba' m.late.length bc'⟩ sb' mb:=by
            have hDk:∀ b,((D b∧b<w.heap.size)∧b<wq.heap.size)→b<w8.heap.size→_=w8.heap[b]? := fun b hb hlt=>hkF b hlt (by have:=hb.1.2;omega) (by have:=hb.1.2;omega) (fun e=>by have:=HS.out b e;omega)
            refine ⟨HRO8.out.sch.keep hDk,⟨ps ++ [((⟨nm,fewN m.splits (m.marks.length - 1),l,0,-1000000000000,false⟩:SpM),.slice va l.length vc)],?_,?_,?_⟩,?_,HRO8.out.back.keep hDk,?_,?_,?_⟩
            · rw [List.map_append,HPS.out];rfl
            · rw [spsC_app]
              have h1:=HOWN10.out.keep (w':=fill45 (w10.setCell ⟨w.heap.size,2,none⟩ (.slice a10 (m.splits.length+1) c10)) (w.heap.size+2) (.slice sha' s.length shc') (.int .i64 m.bound) (.slice a10 (m.splits.length+1) c10) (.slice ma' m.marks.length mc') (.bool false) (.slice ba' m.late.length bc')) fun g hg=>(fill_ne (by rcases hnew g hg with e | e;have:=HS.out g e;omega;omega) (.slice sha' s.length shc') (.int .i64 m.bound) (.slice a10 (m.splits.length+1) c10) (.slice ma' m.marks.length mc') (.bool false) (.slice ba' m.late.length bc')).trans (heap_set_ne _ (by rcases hnew g hg with e | e;have:=HS.out g e;omega;omega))
              simpa [findM] using h1
            · intro p hp
              rcases List.mem_append.1 hp with hp | hp
              · exact (HRW.out p hp).keep hDk
              · rw [List.mem_singleton.1 hp]
                exact ((HL0.out.below hbF).imp fun b _ hb=>⟨hb,by have:=hb.2;omega⟩)
            · exact HRO8.out.mks.keep fun g hg=>hkF g (HRO8.out.mks.lt_of hg) (by have:=HM.out g hg;omega) (by have:=HM.out g hg;omega) (fun e=>HRO8.out.ne g e hg)
            · intro b hb hD
              rcases hnew b hb with e | e
              · exact HRO8.out.sD b e hD
              · have:=hD.1.2;omega
            · exact HRO8.out.mD
            · intro b hb e
              rcases hnew b hb with e' | e'
              · exact HRO8.out.ne b e' e
              · have:=HRO8.out.mks.lt_of e;omega
           refine ⟨⟨.slice sha' s.length shc',(a10,c10),(ma',mc'),.slice ba' m.late.length bc'⟩,by simp [refV,findM,hsl],hroF.plus (fun b hb=>hb.1.1) (fun b hb=>?_) (fun b hb=>?_),hbF⟩
           · rcases hnew b hb with e | e
             · have:=HS.out b e;omega
             · omega
           · have:=HM.out b hb;omega
     · rw [findR_err (e:=10) (by rw [findE,hsb,if_neg (by simp),if_neg hf,if_pos hsl]) (by omega)]
       generalize findI m.splits nm=fi at hf HF'
       simp only [hsl] at *
       clear hsb
       go_enter Tryz.func49,Tryz.ntmps49
       go_wp2_with (first
        | (go_at_call 51;(try rw [hW3]);(with_reducible refine H51.out.mono ?_);rintro e w4 ⟨rfl,hb⟩
           obtain ⟨kB,kX,kR,kW⟩:=HK.out w4 hb
           obtain ⟨b40,b41,b42,b43,b44,b45,bf4⟩:=box45_cells kB
           obtain ⟨x40,x41,x42⟩:=cells3 kX
           have HF4:=Lib.hid (HF'.out w4 hb);have HB4:=Lib.hid hb;clear hb kB kX kR kW)
        | (go_at_call 88;(with_reducible refine HF4.out.mono ?_);rintro e w5 ⟨rfl,hb⟩
           obtain ⟨kB,kX,kR,kW⟩:=HK.out w5 (below_then HB4.out hb)
           obtain ⟨b50,b51,b52,b53,b54,b55,bf5⟩:=box45_cells kB
           obtain ⟨r50,r51,r52,r53,r54,r55,rf5⟩:=box45_cells kR
           have KR:=Lib.hid kR;have KW:=Lib.hid kW;clear hb kB kX kR kW))
       refine bodyPost_ret (ret45_3 rfl _ _ (w.heap.size+2) (box45_fill KR.out _ _ _ _ _ _) rfl) rfl ?_
       exact HE.out w5 KW.out KR.out 10
end leaves
end Go.Proofs.YtimahogkcmmcnaaGreatDoor
namespace Go.Proofs.YtimahogkcmmcnaaGreatDoor
open Go.RowKit
theorem put_inj {b b':Act} {d:Option Tmp} {v v':Value} (h:b.put d v'=b.put d v) (hs:b'.tmps.size=b.tmps.size):b'.put d v'=b'.put d v:=by
 cases d with
 | none=>rfl
 | some s =>
   rcases Nat.lt_or_ge s b.tmps.size with hlt | hge
   · have h1:(b.put (some s) v').tmps[s]? = (b.put (some s) v).tmps[s]? := by rw [h]
     have e:v'=v:=by simpa [Act.put,hlt] using h1
     rw [e]
   · have h1:∀ u,b'.tmps.setIfInBounds s u=b'.tmps:=fun u=>by
      apply Array.ext_getElem?
      intro i
      rw [Array.getElem?_setIfInBounds]
      split
      · rename_i e
        subst e
        rw [if_neg (by omega)]
        simp;omega
      · rfl
     simp [Act.put,h1]
def wpFloatC (P:Program) (ops:Array Oper) (C:World→Prop) (Q:Act→Prop):List Oper→Act→Prop
 | [],a=>Q a
 | o :: rest,a=>∃ v,(∀ w,C w→o.wp P a w (fun a' w'=>a'=a.put o.dst v∧w'=w) NoOut)∧wpFloatC P ops C Q rest (a.put o.dst v)
section
variable {P : Program} {ops : Array Oper} {val val' : Nat → Value} {a a' a1 a2 : Act} {L L' : Nat → Prop}
end
theorem wpFloatC_nil {P:Program} {ops:Array Oper} {C:World→Prop} {Q:Act→Prop} {a:Act} (h:Q a):wpFloatC P ops C Q [] a:=h
theorem wpFloatC_ex {P:Program} {ops:Array Oper} {C:World→Prop} {Q:Act→Prop} {o:Oper} {rest:List Oper} {a:Act}
 (h:∀ K:Act→Prop,(∀ a',wpFloatC P ops C Q rest a'→K a')→∃ v,(∀ w,C w→(execOp a.eval o).run P w=.ok (.value v) w)∧K (a.put o.dst v)):wpFloatC P ops C Q (o :: rest) a:=by
 obtain ⟨v,h1,h2⟩:=h _ fun _ h=>h
 refine ⟨v,fun w hw=>?_,h2⟩
 unfold Oper.wp
 rw [h1 w hw,Oper.upon_value]
 exact ⟨rfl,rfl⟩
theorem wpFloatC_call {P:Program} {ops:Array Oper} {C:World→Prop} {Q:Act→Prop} {o:Oper} {rest:List Oper} {a:Act} (v:Value)
 (h:∀ w,C w→∀ K:Act→World→Prop,K (a.put o.dst v) w→o.wp P a w K NoOut) (hn:∀ K:Act→Prop,(∀ a',wpFloatC P ops C Q rest a'→K a')→K (a.put o.dst v)):wpFloatC P ops C Q (o :: rest) a :=
 ⟨v,fun w hw=>h w hw _ ⟨rfl,rfl⟩,hn _ fun _ h=>h⟩
end Go.Proofs.YtimahogkcmmcnaaGreatDoor
