/-
 The well, part 61: acts on both wells. If the wells and the act lie in the world as the words say.
-/
import Derived.Test.YtimahogkcmmcnaaGreatDoorL24
set_option linter.unusedSimpArgs false
set_option linter.unusedVariables false
namespace Go.Proofs.YtimahogkcmmcnaaGreatDoor
open Go.RowKit Go.Proofs.YtimahogkcmmcnaaGreatDoor.Cmps
structure Bxs (w w3:World) (a b c d e f k r n v:Value):Prop where
 below:Below w.heap.size w w3
 size:w3.heap.size=w.heap.size+3
 h4:w3.heap[w.heap.size]? = some (.cells #[a,b,c,d,e,f] 45 (0,0))
 h5:w3.heap[w.heap.size+1]? = some (.cells #[k,r,n,v] 50 (0,0))
 h6:w3.heap[w.heap.size+2]? = some (.cells #[.slice none 0 0,.int .i64 0,.slice none 0 0,.slice none 0 0,.bool false,.slice none 0 0] 45 (0,0))
theorem bxs_new (w:World) (a b c d e f k r n v:Value):Bxs w (((w.alloc (.cells #[a,b,c,d,e,f] 45)).alloc (.cells #[k,r,n,v] 50)).alloc (.cells #[.slice none 0 0,.int .i64 0,.slice none 0 0,.slice none 0 0,.bool false,.slice none 0 0] 45)) a b c d e f k r n v:=by
 have h1:((w.alloc (.cells #[a,b,c,d,e,f] 45)).alloc (.cells #[k,r,n,v] 50)).heap[w.heap.size+1]? = some (.cells #[k,r,n,v] 50 (0,0)):=by simpa using heap_alloc_new (w.alloc (.cells #[a,b,c,d,e,f] 45)) (.cells #[k,r,n,v] 50)
 refine ⟨(((Below.refl _ _).alloc (Nat.le_refl _) _).alloc (by simp) _).alloc (by simp;omega) _,by simp,alloc_keep (alloc_keep (heap_alloc_new _ _)),alloc_keep h1,?_⟩
 simpa using heap_alloc_new ((w.alloc (.cells #[a,b,c,d,e,f] 45)).alloc (.cells #[k,r,n,v] 50)) (.cells #[.slice none 0 0,.int .i64 0,.slice none 0 0,.slice none 0 0,.bool false,.slice none 0 0] 45)
section leaves
set_option maxHeartbeats 4000000
set_option maxRecDepth 100000
theorem f19_k1 (hm:Tryz.prog.follows .mixedOrders=true) (w:World) (col:Nat→Nat) (s:List Col) (ws:WS) (m:WlM) (p:RS) (x:ActM) (ev:Value) (D:Nat→Prop) (hD:∀ b,D b→Calm w col b) (h:WAt w col s ws m) (hr:RefAt w D s m p) (hg:Good m) (he:EvtsAt w D ev x.evs) (hn:x.name.size≤9223372036854775807) (hk:x.kind.tmod 10=1) :
 Calls Tryz.prog 19 #[ptr ws.W,refV m p,.agg #[.int .u8 x.kind,.int .i64 x.reader,.string x.name,ev]] w fun e w'=>∃ p',e=.returned (.tuple #[refV (moreR s m x.name x.evs).1 p',.bool true])∧DidTo w col D s ws.W (moreR s m x.name x.evs).1 p' w':=by
 have mixed:=hm
 obtain ⟨xk,xr,xn,xe⟩:=x
 dsimp only at hk he hn ⊢
 obtain ⟨ea,ec,rfl⟩:∃ a c,ev=.slice a xe.length c:=by obtain ⟨a,c,e,_⟩:=he;exact ⟨a,c,e⟩
 obtain ⟨sch,⟨sa,sc⟩,⟨ma,mc⟩,back⟩:=p
 obtain ⟨sha,shc,rfl⟩:∃ a c,sch=.slice a s.length c:=by obtain ⟨a,c,e,_⟩:=hr.sch;exact ⟨a,c,e⟩
 obtain ⟨ba,bc,rfl⟩:∃ a c,back=.slice a m.late.length c:=by obtain ⟨a,c,e,_⟩:=hr.back;exact ⟨a,c,e⟩
 have HBX:=Lib.hid (bxs_new w (.slice sha s.length shc) (.int .i64 m.bound) (.slice sa m.splits.length sc) (.slice ma m.marks.length mc) (.bool m.sealed) (.slice ba m.late.length bc) (.int .u8 xk) (.int .i64 xr) (.string xn) (.slice ea xe.length ec))
 have H:=Lib.hid h
 have HR:=Lib.hid hr
 have HE:=Lib.hid he
 have HG:=Lib.hid hg
 have HD:=Lib.hid hD
 have hc0:=h.c0
 have HC0:Hid (∀ b,w.heap.size≤b→col b=0):=fun b hb=>by
  by_cases e:col b=0
  · exact e
  · have:=hc0 b e;omega
 clear h hr hg he hc0 hD
 unfold ptr
 go_enter Tryz.func19,Tryz.ntmps19
 go_wp2_with fail
 generalize hw3:(((w.alloc (.cells #[.slice sha s.length shc,.int .i64 m.bound,.slice sa m.splits.length sc,.slice ma m.marks.length mc,.bool m.sealed,.slice ba m.late.length bc] 45)).alloc (.cells #[.int .u8 xk,.int .i64 xr,.string xn,.slice ea xe.length ec] 50)).alloc (.cells #[.slice none 0 0,.int .i64 0,.slice none 0 0,.slice none 0 0,.bool false,.slice none 0 0] 45))=w3 at HBX ⊢
 clear hw3
 go_at_call 52
 refine (f52_any hm w3 D s m ⟨.slice sha s.length shc,(sa,sc),(ma,mc),.slice ba m.late.length bc⟩ xn (.slice ea xe.length ec) xe (HR.out.below HBX.out.below) HG.out.ok (HE.out.below HBX.out.below)).mono ?_
 rintro e w4 ⟨p',rfl,hr4,hb4⟩
 obtain ⟨m',hm'⟩:∃ v,(moreR s m xn xe).1=v:=⟨_,rfl⟩
 obtain ⟨er,her⟩:∃ v,(moreR s m xn xe).2=v:=⟨_,rfl⟩
 rw [hm'] at hr4
 simp only [hm',her]
 obtain ⟨sch',⟨sa',sc'⟩,⟨ma',mc'⟩,back'⟩:=p'
 obtain ⟨sha',shc',rfl⟩:∃ a c,sch'=.slice a s.length c:=by obtain ⟨a,c,e,_⟩:=hr4.sch;exact ⟨a,c,e⟩
 obtain ⟨ba',bc',rfl⟩:∃ a c,back'=.slice a m'.late.length c:=by obtain ⟨a,c,e,_⟩:=hr4.back;exact ⟨a,c,e⟩
 have HM:=Lib.hid hm';have HER:=Lib.hid her
 have HR4:=Lib.hid hr4
 have HB4:=Lib.hid hb4
 clear hm' her hr4 hb4
 go_wp2_with fail
 have hz3:=HBX.out.size
 have hz4:=HB4.out.size
 have X14:Hid ((w4.alloc (.cells #[.slice sha' s.length shc',.int .i64 m'.bound,.slice sa' m'.splits.length sc',.slice ma' m'.marks.length mc',.bool m'.sealed,.slice ba' m'.late.length bc'] 45)).heap[w4.heap.size]? = some (.cells #[.slice sha' s.length shc',.int .i64 m'.bound,.slice sa' m'.splits.length sc',.slice ma' m'.marks.length mc',.bool m'.sealed,.slice ba' m'.late.length bc'] 45 (0,0))):=heap_alloc_new w4 _
 have B5:Hid (Below w4.heap.size w4 (w4.alloc (.cells #[.slice sha' s.length shc',.int .i64 m'.bound,.slice sa' m'.splits.length sc',.slice ma' m'.marks.length mc',.bool m'.sealed,.slice ba' m'.late.length bc'] 45))):=(Below.refl _ _).alloc (Nat.le_refl _) _
 have Z5:Hid ((w4.alloc (.cells #[.slice sha' s.length shc',.int .i64 m'.bound,.slice sa' m'.splits.length sc',.slice ma' m'.marks.length mc',.bool m'.sealed,.slice ba' m'.late.length bc'] 45)).heap.size=w4.heap.size+1):=by show _=_;simp
 generalize w4.alloc (.cells #[.slice sha' s.length shc',.int .i64 m'.bound,.slice sa' m'.splits.length sc',.slice ma' m'.marks.length mc',.bool m'.sealed,.slice ba' m'.late.length bc'] 45)=w5 at X14 B5 Z5 ⊢
 have B45:Hid (Below w3.heap.size w3 w5):=HB4.out.trans (B5.out.mono hz4)
 have X5:=Lib.hid ((B45.out.block _ (heap_lt HBX.out.h5)).trans HBX.out.h5)
 have X6:=Lib.hid ((B45.out.block _ (heap_lt HBX.out.h6)).trans HBX.out.h6)
 have BW:Hid (Below w.heap.size w w5):=HBX.out.below.trans (B45.out.mono HBX.out.below.size)
 have R5:=Lib.hid (HR4.out.below B5.out)
 have HPC:=f53_any hm w5.drew col s ws m xn (.slice ea xe.length ec) xe (H.out.below (BW.out.trans ((Below.refl w5.heap.size w5).drew.mono BW.out.size))) HG.out.ok ((HE.out.below (BW.out.trans ((Below.refl w5.heap.size w5).drew.mono BW.out.size))).mono fun b hb=>⟨Nat.lt_of_lt_of_le (HD.out b hb).1 BW.out.size,(HD.out b hb).2⟩)
 simp only [HM.out,HER.out] at HPC
 have HP:=Lib.hid HPC
 clear HPC
 unfold ptr at HP
 have hC:w5.drew.heap[w4.heap.size]? = some (.cells #[.slice sha' s.length shc',.int .i64 m'.bound,.slice sa' m'.splits.length sc',.slice ma' m'.marks.length mc',.bool m'.sealed,.slice ba' m'.late.length bc'] 45 (0,0))∧w5.drew.heap[w.heap.size+1]? = some (.cells #[.int .u8 xk,.int .i64 xr,.string xn,.slice ea xe.length ec] 50 (0,0)):=⟨X14.out,X5.out⟩
 refine wp_region_ord [0,1,2,3,4,5,7,6,8,9,10] (fun W=>W.heap[w4.heap.size]? = some (.cells #[.slice sha' s.length shc',.int .i64 m'.bound,.slice sa' m'.splits.length sc',.slice ma' m'.marks.length mc',.bool m'.sealed,.slice ba' m'.late.length bc'] 45 (0,0))∧W.heap[w.heap.size+1]? = some (.cells #[.int .u8 xk,.int .i64 xr,.string xn,.slice ea xe.length ec] 50 (0,0))) mixed (by kernel_rfl) (fun hg=>?_)
 iterate 7 (
  refine ord_rd hg hC (fun K hK=>?_)
  apply Exists.intro
  refine ⟨fun W hW=>?_,?_⟩
  · obtain ⟨k1,k2⟩:=hW
    obtain ⟨q0,q1,q2,q3,q4,q5,-⟩:=box45_cells k1
    have u0:=cells_at k2 0
    have u1:=cells_at k2 1
    have u2:=cells_at k2 2
    have u3:=cells_at k2 3
    clear k1 k2
    go_simp
    rfl
  go_simp
  refine hK _ ?_
  clear hK K)
 refine ord_on (fun K hK=>?_)
 go_simp
 go_at_call 53
 refine HP.out.mono ?_
 rintro e w6 ⟨rfl,col6,ws6,hws,hwa6,hwent⟩
 replace hwent:Went w5 w6 col col6:=(Went.below ((Below.refl w5.heap.size w5).drew)).trans hwent
 have hkeep:∀ b o,w.heap.size≤b→w5.heap[b]? = some o→w6.heap[b]? = some o:=fun b o h1 h2=>(hwent.only.block b (heap_lt h2) (fun hn=>hn (HC0.out b h1))).trans h2
 replace hC:=And.intro (hkeep _ _ (by have:=HBX.out.below.size;omega) hC.1) (hkeep _ _ (by omega) hC.2)
 have Y6:=Lib.hid (hkeep _ _ (by omega) X6.out)
 have WW:=Lib.hid hwa6;have WE:=Lib.hid hwent
 clear hwa6 hwent hkeep
 refine hK _ _ rfl hC ?_
 clear hK K
 refine ord_rd hg hC (fun K hK=>?_)
 apply Exists.intro
 refine ⟨fun W hW=>?_,?_⟩
 · go_simp
   rfl
 go_simp
 refine hK _ ?_
 clear hK K
 obtain ⟨r0,r1,r2,r3,r4,r5,rf⟩:=box45_cells Y6.out
 refine ord_on (fun K hK=>?_)
 go_simp
 have hz6:=WE.out.only.size
 have hz5:=Z5.out
 have hzw:=HBX.out.below.size
 replace hC:(fill45 w6 (w.heap.size+1+1) (.slice sha' s.length shc') (.int .i64 m'.bound) (.slice sa' m'.splits.length sc') (.slice ma' m'.marks.length mc') (.bool m'.sealed) (.slice ba' m'.late.length bc')).heap[w4.heap.size]? = some (.cells #[.slice sha' s.length shc',.int .i64 m'.bound,.slice sa' m'.splits.length sc',.slice ma' m'.marks.length mc',.bool m'.sealed,.slice ba' m'.late.length bc'] 45 (0,0))∧(fill45 w6 (w.heap.size+1+1) (.slice sha' s.length shc') (.int .i64 m'.bound) (.slice sa' m'.splits.length sc') (.slice ma' m'.marks.length mc') (.bool m'.sealed) (.slice ba' m'.late.length bc')).heap[w.heap.size+1]? = some (.cells #[.int .u8 xk,.int .i64 xr,.string xn,.slice ea xe.length ec] 50 (0,0)) :=
  ⟨(fill_ne (w:=w6) (g:=w.heap.size+1+1) (by omega) _ _ _ _ _ _).trans hC.1,(fill_ne (w:=w6) (g:=w.heap.size+1+1) (by omega) _ _ _ _ _ _).trans hC.2⟩
 refine hK _ _ rfl hC ?_
 clear hK K r0 r1 r2 r3 r4 r5 rf
 refine ord_rd hg hC (fun K hK=>?_)
 apply Exists.intro
 refine ⟨fun W hW=>?_,?_⟩
 · go_simp
   rfl
 go_simp
 refine hK _ ?_
 clear hK K
 refine ord_end (by kernel_rfl) ?_
 go_wp2_with fail
 have hF:(fill45 w6 (w.heap.size+1+1) (.slice sha' s.length shc') (.int .i64 m'.bound) (.slice sa' m'.splits.length sc') (.slice ma' m'.marks.length mc') (.bool m'.sealed) (.slice ba' m'.late.length bc')).heap[w.heap.size+1+1]? = some (.cells #[.slice sha' s.length shc',.int .i64 m'.bound,.slice sa' m'.splits.length sc',.slice ma' m'.marks.length mc',.bool m'.sealed,.slice ba' m'.late.length bc'] 45 (0,0)):=box45_fill (w:=w6) (g:=w.heap.size+1+1) Y6.out _ _ _ _ _ _
 unfold fill45 at hF
 refine bodyPost_ret (ret45_2 rfl _ _ (w.heap.size+1+1) hF rfl) rfl ?_
 clear hF
 rw [HM.out]
 refine ⟨⟨.slice sha' s.length shc',(sa',sc'),(ma',mc'),.slice ba' m'.late.length bc'⟩,rfl,?_⟩
 have oF:Only (fun b=>b=w.heap.size+1+1) w6 (fill45 w6 (w.heap.size+1+1) (.slice sha' s.length shc') (.int .i64 m'.bound) (.slice sa' m'.splits.length sc') (.slice ma' m'.marks.length mc') (.bool m'.sealed) (.slice ba' m'.late.length bc')):=(Only.refl (fun b=>b=w.heap.size+1+1) w6).fill (g:=w.heap.size+1+1) (fun _=>rfl) _ _ _ _ _ _
 have hcol6:∀ b,b<w5.heap.size→w.heap.size≤b→col6 b=0:=fun b h1 h2=>(WE.out.colE b h1).trans (HC0.out b h2)
 rw [← hws]
 refine did_end (D:=D) (w7:=w6) (col7:=col6) (D7:=Plus D w3 w4) (b6:=w.heap.size+1+1) WW.out ?_ ?_ Y6.out (hcol6 _ (by have:=heap_lt X6.out;omega) (by omega)) ((Went.below BW.out).trans WE.out) (by omega) oF
 · refine R5.out.keep fun b hb hl=>WE.out.only.block b hl (fun hn=>hn ?_)
   rcases hb with hb | hb
   · exact (HD.out b hb).2
   · exact HC0.out b (by omega)
 · intro b hb
   rcases hb with hb | hb
   · have h1:=(HD.out b hb).1
     exact ⟨by omega,(WE.out.colE b (by omega)).trans (HD.out b hb).2,by omega,.inl hb⟩
   · exact ⟨by omega,hcol6 b (by omega) (by omega),by omega,.inr (by omega)⟩
theorem f19_k2 (hm:Tryz.prog.follows .mixedOrders=true) (w:World) (col:Nat→Nat) (s:List Col) (ws:WS) (m:WlM) (p:RS) (x:ActM) (ev:Value) (D:Nat→Prop) (hD:∀ b,D b→Calm w col b) (h:WAt w col s ws m) (hr:RefAt w D s m p) (hg:Good m) (he:EvtsAt w D ev x.evs) (hn:x.name.size≤9223372036854775807) (hk:x.kind.tmod 10=2) :
 Calls Tryz.prog 19 #[ptr ws.W,refV m p,.agg #[.int .u8 x.kind,.int .i64 x.reader,.string x.name,ev]] w fun e w'=>∃ p',e=.returned (.tuple #[refV (sealR m x.name).1 p',.bool true])∧DidTo w col D s ws.W (sealR m x.name).1 p' w':=by
 have mixed:=hm
 obtain ⟨xk,xr,xn,xe⟩:=x
 dsimp only at hk he hn ⊢
 obtain ⟨ea,ec,rfl⟩:∃ a c,ev=.slice a xe.length c:=by obtain ⟨a,c,e,_⟩:=he;exact ⟨a,c,e⟩
 obtain ⟨sch,⟨sa,sc⟩,⟨ma,mc⟩,back⟩:=p
 obtain ⟨sha,shc,rfl⟩:∃ a c,sch=.slice a s.length c:=by obtain ⟨a,c,e,_⟩:=hr.sch;exact ⟨a,c,e⟩
 obtain ⟨ba,bc,rfl⟩:∃ a c,back=.slice a m.late.length c:=by obtain ⟨a,c,e,_⟩:=hr.back;exact ⟨a,c,e⟩
 have HBX:=Lib.hid (bxs_new w (.slice sha s.length shc) (.int .i64 m.bound) (.slice sa m.splits.length sc) (.slice ma m.marks.length mc) (.bool m.sealed) (.slice ba m.late.length bc) (.int .u8 xk) (.int .i64 xr) (.string xn) (.slice ea xe.length ec))
 have H:=Lib.hid h
 have HR:=Lib.hid hr
 have HE:=Lib.hid he
 have HG:=Lib.hid hg
 have HD:=Lib.hid hD
 have hc0:=h.c0
 have HC0:Hid (∀ b,w.heap.size≤b→col b=0):=fun b hb=>by
  by_cases e:col b=0
  · exact e
  · have:=hc0 b e;omega
 clear h hr hg he hc0 hD
 unfold ptr
 go_enter Tryz.func19,Tryz.ntmps19
 go_wp2_with fail
 generalize hw3:(((w.alloc (.cells #[.slice sha s.length shc,.int .i64 m.bound,.slice sa m.splits.length sc,.slice ma m.marks.length mc,.bool m.sealed,.slice ba m.late.length bc] 45)).alloc (.cells #[.int .u8 xk,.int .i64 xr,.string xn,.slice ea xe.length ec] 50)).alloc (.cells #[.slice none 0 0,.int .i64 0,.slice none 0 0,.slice none 0 0,.bool false,.slice none 0 0] 45))=w3 at HBX ⊢
 clear hw3
 go_at_call 54
 refine (f54_any hm w3 D s m ⟨.slice sha s.length shc,(sa,sc),(ma,mc),.slice ba m.late.length bc⟩ xn (HR.out.below HBX.out.below) HG.out.ok).mono ?_
 rintro e w4 ⟨p',rfl,hr4,hb4⟩
 obtain ⟨m',hm'⟩:∃ v,(sealR m xn).1=v:=⟨_,rfl⟩
 obtain ⟨er,her⟩:∃ v,(sealR m xn).2=v:=⟨_,rfl⟩
 rw [hm'] at hr4
 simp only [hm',her]
 obtain ⟨sch',⟨sa',sc'⟩,⟨ma',mc'⟩,back'⟩:=p'
 obtain ⟨sha',shc',rfl⟩:∃ a c,sch'=.slice a s.length c:=by obtain ⟨a,c,e,_⟩:=hr4.sch;exact ⟨a,c,e⟩
 obtain ⟨ba',bc',rfl⟩:∃ a c,back'=.slice a m'.late.length c:=by obtain ⟨a,c,e,_⟩:=hr4.back;exact ⟨a,c,e⟩
 have HM:=Lib.hid hm';have HER:=Lib.hid her
 have HR4:=Lib.hid hr4
 have HB4:=Lib.hid hb4
 clear hm' her hr4 hb4
 go_wp2_with fail
 have hz3:=HBX.out.size
 have hz4:=HB4.out.size
 have X14:Hid ((w4.alloc (.cells #[.slice sha' s.length shc',.int .i64 m'.bound,.slice sa' m'.splits.length sc',.slice ma' m'.marks.length mc',.bool m'.sealed,.slice ba' m'.late.length bc'] 45)).heap[w4.heap.size]? = some (.cells #[.slice sha' s.length shc',.int .i64 m'.bound,.slice sa' m'.splits.length sc',.slice ma' m'.marks.length mc',.bool m'.sealed,.slice ba' m'.late.length bc'] 45 (0,0))):=heap_alloc_new w4 _
 have B5:Hid (Below w4.heap.size w4 (w4.alloc (.cells #[.slice sha' s.length shc',.int .i64 m'.bound,.slice sa' m'.splits.length sc',.slice ma' m'.marks.length mc',.bool m'.sealed,.slice ba' m'.late.length bc'] 45))):=(Below.refl _ _).alloc (Nat.le_refl _) _
 have Z5:Hid ((w4.alloc (.cells #[.slice sha' s.length shc',.int .i64 m'.bound,.slice sa' m'.splits.length sc',.slice ma' m'.marks.length mc',.bool m'.sealed,.slice ba' m'.late.length bc'] 45)).heap.size=w4.heap.size+1):=by show _=_;simp
 generalize w4.alloc (.cells #[.slice sha' s.length shc',.int .i64 m'.bound,.slice sa' m'.splits.length sc',.slice ma' m'.marks.length mc',.bool m'.sealed,.slice ba' m'.late.length bc'] 45)=w5 at X14 B5 Z5 ⊢
 have B45:Hid (Below w3.heap.size w3 w5):=HB4.out.trans (B5.out.mono hz4)
 have X5:=Lib.hid ((B45.out.block _ (heap_lt HBX.out.h5)).trans HBX.out.h5)
 have X6:=Lib.hid ((B45.out.block _ (heap_lt HBX.out.h6)).trans HBX.out.h6)
 have BW:Hid (Below w.heap.size w w5):=HBX.out.below.trans (B45.out.mono HBX.out.below.size)
 have R5:=Lib.hid (HR4.out.below B5.out)
 have HPC:=f55_any w5.drew col s ws m xn (H.out.below (BW.out.trans ((Below.refl w5.heap.size w5).drew.mono BW.out.size))) HG.out.ok
 simp only [HM.out,HER.out] at HPC
 have HP:=Lib.hid HPC
 clear HPC
 unfold ptr at HP
 have hC:w5.drew.heap[w4.heap.size]? = some (.cells #[.slice sha' s.length shc',.int .i64 m'.bound,.slice sa' m'.splits.length sc',.slice ma' m'.marks.length mc',.bool m'.sealed,.slice ba' m'.late.length bc'] 45 (0,0))∧w5.drew.heap[w.heap.size+1]? = some (.cells #[.int .u8 xk,.int .i64 xr,.string xn,.slice ea xe.length ec] 50 (0,0)):=⟨X14.out,X5.out⟩
 refine wp_region_ord [0,1,2,3,5,4,6,7,8] (fun W=>W.heap[w4.heap.size]? = some (.cells #[.slice sha' s.length shc',.int .i64 m'.bound,.slice sa' m'.splits.length sc',.slice ma' m'.marks.length mc',.bool m'.sealed,.slice ba' m'.late.length bc'] 45 (0,0))∧W.heap[w.heap.size+1]? = some (.cells #[.int .u8 xk,.int .i64 xr,.string xn,.slice ea xe.length ec] 50 (0,0))) mixed (by kernel_rfl) (fun hg=>?_)
 iterate 5 (
  refine ord_rd hg hC (fun K hK=>?_)
  apply Exists.intro
  refine ⟨fun W hW=>?_,?_⟩
  · obtain ⟨k1,k2⟩:=hW
    obtain ⟨q0,q1,q2,q3,q4,q5,-⟩:=box45_cells k1
    have u0:=cells_at k2 0
    have u1:=cells_at k2 1
    have u2:=cells_at k2 2
    have u3:=cells_at k2 3
    clear k1 k2
    go_simp
    rfl
  go_simp
  refine hK _ ?_
  clear hK K)
 refine ord_on (fun K hK=>?_)
 go_simp
 go_at_call 55
 refine HP.out.mono ?_
 rintro e w6 ⟨rfl,hwa6,hon6⟩
 obtain ⟨col6,hc6⟩:∃ c,c=col:=⟨_,rfl⟩
 obtain ⟨ws6,hws6⟩:∃ c,c=ws:=⟨_,rfl⟩
 have hws:ws6.W=ws.W:=by rw [hws6]
 rw [← hc6,← hws6] at hwa6
 have hwent:Went w5.drew w6 col col6:=⟨hon6,fun _ _=>by rw [hc6]⟩
 clear hon6
 replace hwent:Went w5 w6 col col6:=(Went.below ((Below.refl w5.heap.size w5).drew)).trans hwent
 have hkeep:∀ b o,w.heap.size≤b→w5.heap[b]? = some o→w6.heap[b]? = some o:=fun b o h1 h2=>(hwent.only.block b (heap_lt h2) (fun hn=>hn (HC0.out b h1))).trans h2
 replace hC:=And.intro (hkeep _ _ (by have:=HBX.out.below.size;omega) hC.1) (hkeep _ _ (by omega) hC.2)
 have Y6:=Lib.hid (hkeep _ _ (by omega) X6.out)
 have WW:=Lib.hid hwa6;have WE:=Lib.hid hwent
 clear hwa6 hwent hkeep
 refine hK _ _ rfl hC ?_
 clear hK K
 refine ord_rd hg hC (fun K hK=>?_)
 apply Exists.intro
 refine ⟨fun W hW=>?_,?_⟩
 · go_simp
   rfl
 go_simp
 refine hK _ ?_
 clear hK K
 obtain ⟨r0,r1,r2,r3,r4,r5,rf⟩:=box45_cells Y6.out
 refine ord_on (fun K hK=>?_)
 go_simp
 have hz6:=WE.out.only.size
 have hz5:=Z5.out
 have hzw:=HBX.out.below.size
 replace hC:(fill45 w6 (w.heap.size+1+1) (.slice sha' s.length shc') (.int .i64 m'.bound) (.slice sa' m'.splits.length sc') (.slice ma' m'.marks.length mc') (.bool m'.sealed) (.slice ba' m'.late.length bc')).heap[w4.heap.size]? = some (.cells #[.slice sha' s.length shc',.int .i64 m'.bound,.slice sa' m'.splits.length sc',.slice ma' m'.marks.length mc',.bool m'.sealed,.slice ba' m'.late.length bc'] 45 (0,0))∧(fill45 w6 (w.heap.size+1+1) (.slice sha' s.length shc') (.int .i64 m'.bound) (.slice sa' m'.splits.length sc') (.slice ma' m'.marks.length mc') (.bool m'.sealed) (.slice ba' m'.late.length bc')).heap[w.heap.size+1]? = some (.cells #[.int .u8 xk,.int .i64 xr,.string xn,.slice ea xe.length ec] 50 (0,0)) :=
  ⟨(fill_ne (w:=w6) (g:=w.heap.size+1+1) (by omega) _ _ _ _ _ _).trans hC.1,(fill_ne (w:=w6) (g:=w.heap.size+1+1) (by omega) _ _ _ _ _ _).trans hC.2⟩
 refine hK _ _ rfl hC ?_
 clear hK K r0 r1 r2 r3 r4 r5 rf
 refine ord_rd hg hC (fun K hK=>?_)
 apply Exists.intro
 refine ⟨fun W hW=>?_,?_⟩
 · go_simp
   rfl
 go_simp
 refine hK _ ?_
 clear hK K
 refine ord_end (by kernel_rfl) ?_
 go_wp2_with fail
 have hF:(fill45 w6 (w.heap.size+1+1) (.slice sha' s.length shc') (.int .i64 m'.bound) (.slice sa' m'.splits.length sc') (.slice ma' m'.marks.length mc') (.bool m'.sealed) (.slice ba' m'.late.length bc')).heap[w.heap.size+1+1]? = some (.cells #[.slice sha' s.length shc',.int .i64 m'.bound,.slice sa' m'.splits.length sc',.slice ma' m'.marks.length mc',.bool m'.sealed,.slice ba' m'.late.length bc'] 45 (0,0)):=box45_fill (w:=w6) (g:=w.heap.size+1+1) Y6.out _ _ _ _ _ _
 unfold fill45 at hF
 refine bodyPost_ret (ret45_2 rfl _ _ (w.heap.size+1+1) hF rfl) rfl ?_
 clear hF
 rw [HM.out]
 refine ⟨⟨.slice sha' s.length shc',(sa',sc'),(ma',mc'),.slice ba' m'.late.length bc'⟩,rfl,?_⟩
 have oF:Only (fun b=>b=w.heap.size+1+1) w6 (fill45 w6 (w.heap.size+1+1) (.slice sha' s.length shc') (.int .i64 m'.bound) (.slice sa' m'.splits.length sc') (.slice ma' m'.marks.length mc') (.bool m'.sealed) (.slice ba' m'.late.length bc')):=(Only.refl (fun b=>b=w.heap.size+1+1) w6).fill (g:=w.heap.size+1+1) (fun _=>rfl) _ _ _ _ _ _
 have hcol6:∀ b,b<w5.heap.size→w.heap.size≤b→col6 b=0:=fun b h1 h2=>(WE.out.colE b h1).trans (HC0.out b h2)
 rw [← hws]
 refine did_end (D:=D) (w7:=w6) (col7:=col6) (D7:=Plus D w3 w4) (b6:=w.heap.size+1+1) WW.out ?_ ?_ Y6.out (hcol6 _ (by have:=heap_lt X6.out;omega) (by omega)) ((Went.below BW.out).trans WE.out) (by omega) oF
 · refine R5.out.keep fun b hb hl=>WE.out.only.block b hl (fun hn=>hn ?_)
   rcases hb with hb | hb
   · exact (HD.out b hb).2
   · exact HC0.out b (by omega)
 · intro b hb
   rcases hb with hb | hb
   · have h1:=(HD.out b hb).1
     exact ⟨by omega,(WE.out.colE b (by omega)).trans (HD.out b hb).2,by omega,.inl hb⟩
   · exact ⟨by omega,hcol6 b (by omega) (by omega),by omega,.inr (by omega)⟩
theorem f19_k3 (hm:Tryz.prog.follows .mixedOrders=true) (w:World) (col:Nat→Nat) (s:List Col) (ws:WS) (m:WlM) (p:RS) (x:ActM) (ev:Value) (D:Nat→Prop) (hD:∀ b,D b→Calm w col b) (h:WAt w col s ws m) (hr:RefAt w D s m p) (hg:Good m) (he:EvtsAt w D ev x.evs) (hn:x.name.size≤9223372036854775807) (hk:x.kind.tmod 10=3) :
 Calls Tryz.prog 19 #[ptr ws.W,refV m p,.agg #[.int .u8 x.kind,.int .i64 x.reader,.string x.name,ev]] w fun e w'=>∃ p',e=.returned (.tuple #[refV (sealAllR m).1 p',.bool true])∧DidTo w col D s ws.W (sealAllR m).1 p' w':=by
 have mixed:=hm
 obtain ⟨xk,xr,xn,xe⟩:=x
 dsimp only at hk he hn ⊢
 obtain ⟨ea,ec,rfl⟩:∃ a c,ev=.slice a xe.length c:=by obtain ⟨a,c,e,_⟩:=he;exact ⟨a,c,e⟩
 obtain ⟨sch,⟨sa,sc⟩,⟨ma,mc⟩,back⟩:=p
 obtain ⟨sha,shc,rfl⟩:∃ a c,sch=.slice a s.length c:=by obtain ⟨a,c,e,_⟩:=hr.sch;exact ⟨a,c,e⟩
 obtain ⟨ba,bc,rfl⟩:∃ a c,back=.slice a m.late.length c:=by obtain ⟨a,c,e,_⟩:=hr.back;exact ⟨a,c,e⟩
 have HBX:=Lib.hid (bxs_new w (.slice sha s.length shc) (.int .i64 m.bound) (.slice sa m.splits.length sc) (.slice ma m.marks.length mc) (.bool m.sealed) (.slice ba m.late.length bc) (.int .u8 xk) (.int .i64 xr) (.string xn) (.slice ea xe.length ec))
 have H:=Lib.hid h
 have HR:=Lib.hid hr
 have HE:=Lib.hid he
 have HG:=Lib.hid hg
 have HD:=Lib.hid hD
 have hc0:=h.c0
 have HC0:Hid (∀ b,w.heap.size≤b→col b=0):=fun b hb=>by
  by_cases e:col b=0
  · exact e
  · have:=hc0 b e;omega
 clear h hr hg he hc0 hD
 unfold ptr
 go_enter Tryz.func19,Tryz.ntmps19
 go_wp2_with fail
 generalize hw3:(((w.alloc (.cells #[.slice sha s.length shc,.int .i64 m.bound,.slice sa m.splits.length sc,.slice ma m.marks.length mc,.bool m.sealed,.slice ba m.late.length bc] 45)).alloc (.cells #[.int .u8 xk,.int .i64 xr,.string xn,.slice ea xe.length ec] 50)).alloc (.cells #[.slice none 0 0,.int .i64 0,.slice none 0 0,.slice none 0 0,.bool false,.slice none 0 0] 45))=w3 at HBX ⊢
 clear hw3
 go_at_call 56
 refine (f56_any w3 D s m ⟨.slice sha s.length shc,(sa,sc),(ma,mc),.slice ba m.late.length bc⟩ (HR.out.below HBX.out.below) HG.out.ok).mono ?_
 rintro e w4 ⟨p',rfl,hr4,hb4⟩
 obtain ⟨m',hm'⟩:∃ v,(sealAllR m).1=v:=⟨_,rfl⟩
 obtain ⟨er,her⟩:∃ v,(sealAllR m).2=v:=⟨_,rfl⟩
 rw [hm'] at hr4
 simp only [hm',her]
 obtain ⟨sch',⟨sa',sc'⟩,⟨ma',mc'⟩,back'⟩:=p'
 obtain ⟨sha',shc',rfl⟩:∃ a c,sch'=.slice a s.length c:=by obtain ⟨a,c,e,_⟩:=hr4.sch;exact ⟨a,c,e⟩
 obtain ⟨ba',bc',rfl⟩:∃ a c,back'=.slice a m'.late.length c:=by obtain ⟨a,c,e,_⟩:=hr4.back;exact ⟨a,c,e⟩
 have HM:=Lib.hid hm';have HER:=Lib.hid her
 have HR4:=Lib.hid hr4
 have HB4:=Lib.hid hb4
 clear hm' her hr4 hb4
 go_wp2_with fail
 have hz3:=HBX.out.size
 have hz4:=HB4.out.size
 have X14:Hid ((w4.alloc (.cells #[.slice sha' s.length shc',.int .i64 m'.bound,.slice sa' m'.splits.length sc',.slice ma' m'.marks.length mc',.bool m'.sealed,.slice ba' m'.late.length bc'] 45)).heap[w4.heap.size]? = some (.cells #[.slice sha' s.length shc',.int .i64 m'.bound,.slice sa' m'.splits.length sc',.slice ma' m'.marks.length mc',.bool m'.sealed,.slice ba' m'.late.length bc'] 45 (0,0))):=heap_alloc_new w4 _
 have B5:Hid (Below w4.heap.size w4 (w4.alloc (.cells #[.slice sha' s.length shc',.int .i64 m'.bound,.slice sa' m'.splits.length sc',.slice ma' m'.marks.length mc',.bool m'.sealed,.slice ba' m'.late.length bc'] 45))):=(Below.refl _ _).alloc (Nat.le_refl _) _
 have Z5:Hid ((w4.alloc (.cells #[.slice sha' s.length shc',.int .i64 m'.bound,.slice sa' m'.splits.length sc',.slice ma' m'.marks.length mc',.bool m'.sealed,.slice ba' m'.late.length bc'] 45)).heap.size=w4.heap.size+1):=by show _=_;simp
 generalize w4.alloc (.cells #[.slice sha' s.length shc',.int .i64 m'.bound,.slice sa' m'.splits.length sc',.slice ma' m'.marks.length mc',.bool m'.sealed,.slice ba' m'.late.length bc'] 45)=w5 at X14 B5 Z5 ⊢
 have B45:Hid (Below w3.heap.size w3 w5):=HB4.out.trans (B5.out.mono hz4)
 have X5:=Lib.hid ((B45.out.block _ (heap_lt HBX.out.h5)).trans HBX.out.h5)
 have X6:=Lib.hid ((B45.out.block _ (heap_lt HBX.out.h6)).trans HBX.out.h6)
 have BW:Hid (Below w.heap.size w w5):=HBX.out.below.trans (B45.out.mono HBX.out.below.size)
 have R5:=Lib.hid (HR4.out.below B5.out)
 have HPC:=f57_any w5.drew col s ws m (H.out.below (BW.out.trans ((Below.refl w5.heap.size w5).drew.mono BW.out.size))) HG.out.ok
 simp only [HM.out,HER.out] at HPC
 have HP:=Lib.hid HPC
 clear HPC
 unfold ptr at HP
 have hC:w5.drew.heap[w4.heap.size]? = some (.cells #[.slice sha' s.length shc',.int .i64 m'.bound,.slice sa' m'.splits.length sc',.slice ma' m'.marks.length mc',.bool m'.sealed,.slice ba' m'.late.length bc'] 45 (0,0))∧w5.drew.heap[w.heap.size+1]? = some (.cells #[.int .u8 xk,.int .i64 xr,.string xn,.slice ea xe.length ec] 50 (0,0)):=⟨X14.out,X5.out⟩
 refine wp_region_ord [0,1,3,2,4,5,6] (fun W=>W.heap[w4.heap.size]? = some (.cells #[.slice sha' s.length shc',.int .i64 m'.bound,.slice sa' m'.splits.length sc',.slice ma' m'.marks.length mc',.bool m'.sealed,.slice ba' m'.late.length bc'] 45 (0,0))∧W.heap[w.heap.size+1]? = some (.cells #[.int .u8 xk,.int .i64 xr,.string xn,.slice ea xe.length ec] 50 (0,0))) mixed (by kernel_rfl) (fun hg=>?_)
 iterate 3 (
  refine ord_rd hg hC (fun K hK=>?_)
  apply Exists.intro
  refine ⟨fun W hW=>?_,?_⟩
  · obtain ⟨k1,k2⟩:=hW
    obtain ⟨q0,q1,q2,q3,q4,q5,-⟩:=box45_cells k1
    have u0:=cells_at k2 0
    have u1:=cells_at k2 1
    have u2:=cells_at k2 2
    have u3:=cells_at k2 3
    clear k1 k2
    go_simp
    rfl
  go_simp
  refine hK _ ?_
  clear hK K)
 refine ord_on (fun K hK=>?_)
 go_simp
 go_at_call 57
 refine HP.out.mono ?_
 rintro e w6 ⟨rfl,hwa6,hon6⟩
 obtain ⟨col6,hc6⟩:∃ c,c=col:=⟨_,rfl⟩
 obtain ⟨ws6,hws6⟩:∃ c,c=ws:=⟨_,rfl⟩
 have hws:ws6.W=ws.W:=by rw [hws6]
 rw [← hc6,← hws6] at hwa6
 have hwent:Went w5.drew w6 col col6:=⟨hon6,fun _ _=>by rw [hc6]⟩
 clear hon6
 replace hwent:Went w5 w6 col col6:=(Went.below ((Below.refl w5.heap.size w5).drew)).trans hwent
 have hkeep:∀ b o,w.heap.size≤b→w5.heap[b]? = some o→w6.heap[b]? = some o:=fun b o h1 h2=>(hwent.only.block b (heap_lt h2) (fun hn=>hn (HC0.out b h1))).trans h2
 replace hC:=And.intro (hkeep _ _ (by have:=HBX.out.below.size;omega) hC.1) (hkeep _ _ (by omega) hC.2)
 have Y6:=Lib.hid (hkeep _ _ (by omega) X6.out)
 have WW:=Lib.hid hwa6;have WE:=Lib.hid hwent
 clear hwa6 hwent hkeep
 refine hK _ _ rfl hC ?_
 clear hK K
 refine ord_rd hg hC (fun K hK=>?_)
 apply Exists.intro
 refine ⟨fun W hW=>?_,?_⟩
 · go_simp
   rfl
 go_simp
 refine hK _ ?_
 clear hK K
 obtain ⟨r0,r1,r2,r3,r4,r5,rf⟩:=box45_cells Y6.out
 refine ord_on (fun K hK=>?_)
 go_simp
 have hz6:=WE.out.only.size
 have hz5:=Z5.out
 have hzw:=HBX.out.below.size
 replace hC:(fill45 w6 (w.heap.size+1+1) (.slice sha' s.length shc') (.int .i64 m'.bound) (.slice sa' m'.splits.length sc') (.slice ma' m'.marks.length mc') (.bool m'.sealed) (.slice ba' m'.late.length bc')).heap[w4.heap.size]? = some (.cells #[.slice sha' s.length shc',.int .i64 m'.bound,.slice sa' m'.splits.length sc',.slice ma' m'.marks.length mc',.bool m'.sealed,.slice ba' m'.late.length bc'] 45 (0,0))∧(fill45 w6 (w.heap.size+1+1) (.slice sha' s.length shc') (.int .i64 m'.bound) (.slice sa' m'.splits.length sc') (.slice ma' m'.marks.length mc') (.bool m'.sealed) (.slice ba' m'.late.length bc')).heap[w.heap.size+1]? = some (.cells #[.int .u8 xk,.int .i64 xr,.string xn,.slice ea xe.length ec] 50 (0,0)) :=
  ⟨(fill_ne (w:=w6) (g:=w.heap.size+1+1) (by omega) _ _ _ _ _ _).trans hC.1,(fill_ne (w:=w6) (g:=w.heap.size+1+1) (by omega) _ _ _ _ _ _).trans hC.2⟩
 refine hK _ _ rfl hC ?_
 clear hK K r0 r1 r2 r3 r4 r5 rf
 refine ord_rd hg hC (fun K hK=>?_)
 apply Exists.intro
 refine ⟨fun W hW=>?_,?_⟩
 · go_simp
   rfl
 go_simp
 refine hK _ ?_
 clear hK K
 refine ord_end (by kernel_rfl) ?_
 go_wp2_with fail
 have hF:(fill45 w6 (w.heap.size+1+1) (.slice sha' s.length shc') (.int .i64 m'.bound) (.slice sa' m'.splits.length sc') (.slice ma' m'.marks.length mc') (.bool m'.sealed) (.slice ba' m'.late.length bc')).heap[w.heap.size+1+1]? = some (.cells #[.slice sha' s.length shc',.int .i64 m'.bound,.slice sa' m'.splits.length sc',.slice ma' m'.marks.length mc',.bool m'.sealed,.slice ba' m'.late.length bc'] 45 (0,0)):=box45_fill (w:=w6) (g:=w.heap.size+1+1) Y6.out _ _ _ _ _ _
 unfold fill45 at hF
 refine bodyPost_ret (ret45_2 rfl _ _ (w.heap.size+1+1) hF rfl) rfl ?_
 clear hF
 rw [HM.out]
 refine ⟨⟨.slice sha' s.length shc',(sa',sc'),(ma',mc'),.slice ba' m'.late.length bc'⟩,rfl,?_⟩
 have oF:Only (fun b=>b=w.heap.size+1+1) w6 (fill45 w6 (w.heap.size+1+1) (.slice sha' s.length shc') (.int .i64 m'.bound) (.slice sa' m'.splits.length sc') (.slice ma' m'.marks.length mc') (.bool m'.sealed) (.slice ba' m'.late.length bc')):=(Only.refl (fun b=>b=w.heap.size+1+1) w6).fill (g:=w.heap.size+1+1) (fun _=>rfl) _ _ _ _ _ _
 have hcol6:∀ b,b<w5.heap.size→w.heap.size≤b→col6 b=0:=fun b h1 h2=>(WE.out.colE b h1).trans (HC0.out b h2)
 rw [← hws]
 refine did_end (D:=D) (w7:=w6) (col7:=col6) (D7:=Plus D w3 w4) (b6:=w.heap.size+1+1) WW.out ?_ ?_ Y6.out (hcol6 _ (by have:=heap_lt X6.out;omega) (by omega)) ((Went.below BW.out).trans WE.out) (by omega) oF
 · refine R5.out.keep fun b hb hl=>WE.out.only.block b hl (fun hn=>hn ?_)
   rcases hb with hb | hb
   · exact (HD.out b hb).2
   · exact HC0.out b (by omega)
 · intro b hb
   rcases hb with hb | hb
   · have h1:=(HD.out b hb).1
     exact ⟨by omega,(WE.out.colE b (by omega)).trans (HD.out b hb).2,by omega,.inl hb⟩
   · exact ⟨by omega,hcol6 b (by omega) (by omega),by omega,.inr (by omega)⟩
end leaves
end Go.Proofs.YtimahogkcmmcnaaGreatDoor
