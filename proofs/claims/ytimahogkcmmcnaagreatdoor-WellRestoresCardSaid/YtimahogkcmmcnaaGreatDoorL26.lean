/-
 The well, part 58a: events are the same as themselves. No conditions.
-/
import Derived.Test.YtimahogkcmmcnaaGreatDoorL23
import Derived.Test.YtimahogkcmmcnaaGreatDoorL25
set_option linter.unusedSimpArgs false
set_option linter.unusedVariables false
namespace Go.Proofs.YtimahogkcmmcnaaGreatDoor
open Go.RowKit Go.Proofs.YtimahogkcmmcnaaGreatDoor.Cmps
theorem sameEv_refl (x:Evt):sameEv x x=true:=by simp [sameEv,cmpRow_3.refl]
theorem sameE_refl (l:List Evt):sameE l l=true:=by
 induction l with
 | nil=>rfl
 | cons x l ih=>simp [sameE,ih,sameEv_refl]
section leaves
set_option maxHeartbeats 4000000
set_option maxRecDepth 100000
theorem f19_k0 (hm:Tryz.prog.follows .mixedOrders=true) (w:World) (col:Nat→Nat) (s:List Col) (ws:WS) (m:WlM) (p:RS) (x:ActM) (ev:Value) (D:Nat→Prop) (hD:∀ b,D b→Calm w col b) (h:WAt w col s ws m) (hr:RefAt w D s m p) (hg:Good m) (he:EvtsAt w D ev x.evs) (hn:x.name.size≤9223372036854775807) (hk:x.kind.tmod 10=0) :
 Calls Tryz.prog 19 #[ptr ws.W,refV m p,.agg #[.int .u8 x.kind,.int .i64 x.reader,.string x.name,ev]] w fun e w'=>∃ p',e=.returned (.tuple #[refV (findR s m x.name x.evs).1 p',.bool true])∧DidTo w col D s ws.W (findR s m x.name x.evs).1 p' w':=by
 have mixed:=hm
 obtain ⟨xk,xr,xn,xe⟩:=x
 dsimp only at hk he hn ⊢
 obtain ⟨ea,ec,rfl⟩:∃ a c,ev=.slice a xe.length c:=by obtain ⟨a,c,e,_⟩:=he;exact ⟨a,c,e⟩
 obtain ⟨sch,⟨sa,sc⟩,⟨ma,mc⟩,back⟩:=p
 obtain ⟨sha,shc,rfl⟩:∃ a c,sch=.slice a s.length c:=by obtain ⟨a,c,e,_⟩:=hr.sch;exact ⟨a,c,e⟩
 obtain ⟨ba,bc,rfl⟩:∃ a c,back=.slice a m.late.length c:=by obtain ⟨a,c,e,_⟩:=hr.back;exact ⟨a,c,e⟩
 have HBX:=Lib.hid (bxs_new w (.slice sha s.length shc) (.int .i64 m.bound) (.slice sa m.splits.length sc) (.slice ma m.marks.length mc) (.bool m.sealed) (.slice ba m.late.length bc) (.int .u8 xk) (.int .i64 xr) (.string xn) (.slice ea xe.length ec))
 have H:=Lib.hid h
 have HR:=Lib.hid hr
 have HE:=Lib.hid he
 have HG:=Lib.hid hg
 have HD:=Lib.hid hD
 have hc0:=h.c0
 have HC0:Hid (∀ b,w.heap.size≤b→col b=0):=fun b hb=>by
  by_cases e:col b=0
  · exact e
  · have:=hc0 b e;omega
 clear h hr hg he hc0 hD
 unfold ptr
 go_enter Tryz.func19,Tryz.ntmps19
 have hX8:((((w.alloc (.cells #[.slice sha s.length shc,.int .i64 m.bound,.slice sa m.splits.length sc,.slice ma m.marks.length mc,.bool m.sealed,.slice ba m.late.length bc] 45)).alloc (.cells #[.int .u8 xk,.int .i64 xr,.string xn,.slice ea xe.length ec] 50)).alloc (.cells #[.slice none 0 0,.int .i64 0,.slice none 0 0,.slice none 0 0,.bool false,.slice none 0 0] 45)).alloc (.cells #[.string ⟨#[]⟩,.string xn,.slice ea xe.length ec] 88)).heap[w.heap.size+3]? = some (.cells #[.string ⟨#[]⟩,.string xn,.slice ea xe.length ec] 88 (0,0)):=by
  have h1:=heap_alloc_new (((w.alloc (.cells #[.slice sha s.length shc,.int .i64 m.bound,.slice sa m.splits.length sc,.slice ma m.marks.length mc,.bool m.sealed,.slice ba m.late.length bc] 45)).alloc (.cells #[.int .u8 xk,.int .i64 xr,.string xn,.slice ea xe.length ec] 50)).alloc (.cells #[.slice none 0 0,.int .i64 0,.slice none 0 0,.slice none 0 0,.bool false,.slice none 0 0] 45)) (.cells #[.string ⟨#[]⟩,.string xn,.slice ea xe.length ec] 88)
  rwa [HBX.out.size] at h1
 have HX8:=Lib.hid hX8
 have HB3:Hid (Below w.heap.size w ((((w.alloc (.cells #[.slice sha s.length shc,.int .i64 m.bound,.slice sa m.splits.length sc,.slice ma m.marks.length mc,.bool m.sealed,.slice ba m.late.length bc] 45)).alloc (.cells #[.int .u8 xk,.int .i64 xr,.string xn,.slice ea xe.length ec] 50)).alloc (.cells #[.slice none 0 0,.int .i64 0,.slice none 0 0,.slice none 0 0,.bool false,.slice none 0 0] 45)).alloc (.cells #[.string ⟨#[]⟩,.string xn,.slice ea xe.length ec] 88))):=HBX.out.below.alloc HBX.out.below.size _
 have HX4:Hid (((((w.alloc (.cells #[.slice sha s.length shc,.int .i64 m.bound,.slice sa m.splits.length sc,.slice ma m.marks.length mc,.bool m.sealed,.slice ba m.late.length bc] 45)).alloc (.cells #[.int .u8 xk,.int .i64 xr,.string xn,.slice ea xe.length ec] 50)).alloc (.cells #[.slice none 0 0,.int .i64 0,.slice none 0 0,.slice none 0 0,.bool false,.slice none 0 0] 45)).alloc (.cells #[.string ⟨#[]⟩,.string xn,.slice ea xe.length ec] 88)).heap[w.heap.size]? = some (.cells #[.slice sha s.length shc,.int .i64 m.bound,.slice sa m.splits.length sc,.slice ma m.marks.length mc,.bool m.sealed,.slice ba m.late.length bc] 45 (0,0))):=alloc_keep HBX.out.h4
 have HX6:Hid (((((w.alloc (.cells #[.slice sha s.length shc,.int .i64 m.bound,.slice sa m.splits.length sc,.slice ma m.marks.length mc,.bool m.sealed,.slice ba m.late.length bc] 45)).alloc (.cells #[.int .u8 xk,.int .i64 xr,.string xn,.slice ea xe.length ec] 50)).alloc (.cells #[.slice none 0 0,.int .i64 0,.slice none 0 0,.slice none 0 0,.bool false,.slice none 0 0] 45)).alloc (.cells #[.string ⟨#[]⟩,.string xn,.slice ea xe.length ec] 88)).heap[w.heap.size+2]? = some (.cells #[.slice none 0 0,.int .i64 0,.slice none 0 0,.slice none 0 0,.bool false,.slice none 0 0] 45 (0,0))):=alloc_keep HBX.out.h6
 have HZ4:Hid (((((w.alloc (.cells #[.slice sha s.length shc,.int .i64 m.bound,.slice sa m.splits.length sc,.slice ma m.marks.length mc,.bool m.sealed,.slice ba m.late.length bc] 45)).alloc (.cells #[.int .u8 xk,.int .i64 xr,.string xn,.slice ea xe.length ec] 50)).alloc (.cells #[.slice none 0 0,.int .i64 0,.slice none 0 0,.slice none 0 0,.bool false,.slice none 0 0] 45)).alloc (.cells #[.string ⟨#[]⟩,.string xn,.slice ea xe.length ec] 88)).heap.size=w.heap.size+4):=by show _=_;simp
 clear hX8
 go_wp2_with fail
 generalize hw4:(((w.alloc (.cells #[.slice sha s.length shc,.int .i64 m.bound,.slice sa m.splits.length sc,.slice ma m.marks.length mc,.bool m.sealed,.slice ba m.late.length bc] 45)).alloc (.cells #[.int .u8 xk,.int .i64 xr,.string xn,.slice ea xe.length ec] 50)).alloc (.cells #[.slice none 0 0,.int .i64 0,.slice none 0 0,.slice none 0 0,.bool false,.slice none 0 0] 45)).alloc (.cells #[.string ⟨#[]⟩,.string xn,.slice ea xe.length ec] 88)=w4 at HX8 HB3 HX4 HX6 HZ4 ⊢
 clear hw4
 have H42:=Lib.hid (f42_any hm w4 col s ws m ⟨#[]⟩ xn (.slice ea xe.length ec) xe (H.out.below HB3.out) HG.out.ok ((HE.out.below HB3.out).mono fun b hb=>⟨Nat.lt_of_lt_of_le (HD.out b hb).1 HB3.out.size,(HD.out b hb).2⟩) hn)
 unfold ptr at H42
 go_at_call 42
 refine H42.out.mono ?_
 rintro e w5 ⟨rfl,col5,ws5,hws,hwa5,hwent⟩
 have hz4:=HZ4.out
 have hkeep:∀ b o,w.heap.size≤b→w4.heap[b]? = some o→w5.heap[b]? = some o:=fun b o h1 h2=>(hwent.only.block b (heap_lt h2) (fun hn=>hn (HC0.out b h1))).trans h2
 have Y4:=Lib.hid (hkeep _ _ (Nat.le_refl _) HX4.out)
 have Y6:=Lib.hid (hkeep _ _ (by omega) HX6.out)
 have Y8:=Lib.hid (hkeep _ _ (by omega) HX8.out)
 have WW:=Lib.hid hwa5;have WE:=Lib.hid hwent
 have hcalm:∀ b,D b→b<w.heap.size→w5.heap[b]? = w.heap[b]? := fun b hb hl=>(hwent.only.block b (Nat.lt_of_lt_of_le hl HB3.out.size) (fun hn=>hn (HD.out b hb).2)).trans (HB3.out.block b hl)
 have R5:=Lib.hid (HR.out.keep hcalm)
 have E5:=Lib.hid (HE.out.keep hcalm)
 clear hwa5 hwent hkeep hcalm H42 HX4 HX6 HX8
 have hz5:=WE.out.only.size
 obtain ⟨m',hm'⟩:∃ v,(findR s m xn xe).1=v:=⟨_,rfl⟩
 obtain ⟨nr,hnr⟩:∃ v,(findR s m xn xe).2.1=v:=⟨_,rfl⟩
 obtain ⟨er,her⟩:∃ v,(findR s m xn xe).2.2=v:=⟨_,rfl⟩
 rw [hm'] at WW
 rw [hnr,her]
 have h49:=f49_any hm w5 D s m ⟨.slice sha s.length shc,(sa,sc),(ma,mc),.slice ba m.late.length bc⟩ ⟨#[]⟩ xn (.slice ea xe.length ec) xe R5.out HG.out.ok E5.out hn
 unfold Steps3 at h49
 simp only [hm',hnr,her] at h49
 have H49:=Lib.hid h49
 have HM:=Lib.hid hm'
 clear h49 hm' hnr her
 obtain ⟨y0,y1,y2,y3,y4,y5,-⟩:=box45_cells Y4.out
 obtain ⟨v0,v1,v2⟩:=cells3 Y8.out
 go_wp2_with fail
 go_at_call 49
 refine H49.out.mono ?_
 rintro e w6 ⟨p',rfl,hr6,hb6⟩
 obtain ⟨sch',⟨sa',sc'⟩,⟨ma',mc'⟩,back'⟩:=p'
 obtain ⟨sha',shc',rfl⟩:∃ a c,sch'=.slice a s.length c:=by obtain ⟨a,c,e,_⟩:=hr6.sch;exact ⟨a,c,e⟩
 obtain ⟨ba',bc',rfl⟩:∃ a c,back'=.slice a m'.late.length c:=by obtain ⟨a,c,e,_⟩:=hr6.back;exact ⟨a,c,e⟩
 have HR6:=Lib.hid hr6
 have HB6:=Lib.hid hb6
 clear hr6 hb6 y0 y1 y2 y3 y4 y5 v0 v1 v2 H49
 go_wp2_with fail
 have hz6:=HB6.out.size
 have X11:Hid ((w6.alloc (.cells #[.slice sha' s.length shc',.int .i64 m'.bound,.slice sa' m'.splits.length sc',.slice ma' m'.marks.length mc',.bool m'.sealed,.slice ba' m'.late.length bc'] 45)).heap[w6.heap.size]? = some (.cells #[.slice sha' s.length shc',.int .i64 m'.bound,.slice sa' m'.splits.length sc',.slice ma' m'.marks.length mc',.bool m'.sealed,.slice ba' m'.late.length bc'] 45 (0,0))):=heap_alloc_new w6 _
 have B7:Hid (Below w6.heap.size w6 (w6.alloc (.cells #[.slice sha' s.length shc',.int .i64 m'.bound,.slice sa' m'.splits.length sc',.slice ma' m'.marks.length mc',.bool m'.sealed,.slice ba' m'.late.length bc'] 45))):=(Below.refl _ _).alloc (Nat.le_refl _) _
 have Z7:Hid ((w6.alloc (.cells #[.slice sha' s.length shc',.int .i64 m'.bound,.slice sa' m'.splits.length sc',.slice ma' m'.marks.length mc',.bool m'.sealed,.slice ba' m'.late.length bc'] 45)).heap.size=w6.heap.size+1):=by show _=_;simp
 generalize w6.alloc (.cells #[.slice sha' s.length shc',.int .i64 m'.bound,.slice sa' m'.splits.length sc',.slice ma' m'.marks.length mc',.bool m'.sealed,.slice ba' m'.late.length bc'] 45)=w7 at X11 B7 Z7 ⊢
 have B57:Hid (Below w5.heap.size w5 w7):=HB6.out.trans (B7.out.mono hz6)
 have X4:=Lib.hid ((B57.out.block _ (heap_lt Y4.out)).trans Y4.out)
 have X6:=Lib.hid ((B57.out.block _ (heap_lt Y6.out)).trans Y6.out)
 have X8:=Lib.hid ((B57.out.block _ (heap_lt Y8.out)).trans Y8.out)
 have R7:=Lib.hid (HR6.out.below B7.out)
 have H50:Hid (∀ W,Below w7.heap.size w7 W→Calls Tryz.prog 50 #[.slice sha s.length shc,.agg #[.string ⟨#[]⟩,.string xn,.slice ea xe.length ec]] W fun e w'=>e=.returned (.bool (splitB s xn xe))∧Below W.heap.size W w'):=fun W hb =>
  f50_any hm W D D (.slice sha s.length shc) (.slice ea xe.length ec) s ⟨#[]⟩ xn xe (R5.out.below (B57.out.trans (hb.mono B57.out.size))).sch (E5.out.below (B57.out.trans (hb.mono B57.out.size))) hn
 have H51:Hid (∀ W,Below w7.heap.size w7 W→Calls Tryz.prog 51 #[.slice sha s.length shc,.agg #[.string ⟨#[]⟩,.string xn,.slice ea xe.length ec]] W fun e w'=>e=.returned (.bool (splitB s xn xe))∧Below W.heap.size W w'):=fun W hb =>
  f51_any hm W D D (.slice sha s.length shc) (.slice ea xe.length ec) s ⟨#[]⟩ xn xe (R5.out.below (B57.out.trans (hb.mono B57.out.size))).sch (E5.out.below (B57.out.trans (hb.mono B57.out.size))) hn
 generalize splitB s xn xe=sp at H50 H51
 have hC:w7.drew.heap[w6.heap.size]? = some (.cells #[.slice sha' s.length shc',.int .i64 m'.bound,.slice sa' m'.splits.length sc',.slice ma' m'.marks.length mc',.bool m'.sealed,.slice ba' m'.late.length bc'] 45 (0,0))∧w7.drew.heap[w.heap.size]? = some (.cells #[.slice sha s.length shc,.int .i64 m.bound,.slice sa m.splits.length sc,.slice ma m.marks.length mc,.bool m.sealed,.slice ba m.late.length bc] 45 (0,0))∧w7.drew.heap[w.heap.size+3]? = some (.cells #[.string ⟨#[]⟩,.string xn,.slice ea xe.length ec] 88 (0,0)):=⟨X11.out,X4.out,X8.out⟩
 have hB:Below w7.heap.size w7 w7.drew:=(Below.refl _ _).drew
 refine wp_region_ord [0,1,2,3,4,5,6,7,8,9,10,11,12,14,15,16,13,17,18,19,20,21] (fun W=>W.heap[w6.heap.size]? = some (.cells #[.slice sha' s.length shc',.int .i64 m'.bound,.slice sa' m'.splits.length sc',.slice ma' m'.marks.length mc',.bool m'.sealed,.slice ba' m'.late.length bc'] 45 (0,0))∧W.heap[w.heap.size]? = some (.cells #[.slice sha s.length shc,.int .i64 m.bound,.slice sa m.splits.length sc,.slice ma m.marks.length mc,.bool m.sealed,.slice ba m.late.length bc] 45 (0,0))∧W.heap[w.heap.size+3]? = some (.cells #[.string ⟨#[]⟩,.string xn,.slice ea xe.length ec] 88 (0,0))) mixed (by kernel_rfl) (fun hg=>?_)
 refine ord_rd hg hC (fun K hK=>?_)
 apply Exists.intro
 refine ⟨fun W hW=>?_,?_⟩
 · obtain ⟨k1,k2,k3⟩:=hW
   obtain ⟨q0,q1,q2,q3,q4,q5,-⟩:=box45_cells k1
   obtain ⟨y0,y1,y2,y3,y4,y5,-⟩:=box45_cells k2
   obtain ⟨v0,v1,v2⟩:=cells3 k3
   clear k1 k2 k3
   go_simp
   rfl
 go_simp
 iterate 10 (
  refine hK _ ?_
  clear hK K
  refine ord_rd hg hC (fun K hK=>?_)
  apply Exists.intro
  refine ⟨fun W hW=>?_,?_⟩
  · go_simp
    rfl
  go_simp)
 iterate 2 (
  refine hK _ ?_
  clear hK K
  refine ord_rd hg hC (fun K hK=>?_)
  apply Exists.intro
  refine ⟨fun W hW=>?_,?_⟩
  · obtain ⟨k1,k2,k3⟩:=hW
    obtain ⟨q0,q1,q2,q3,q4,q5,-⟩:=box45_cells k1
    obtain ⟨y0,y1,y2,y3,y4,y5,-⟩:=box45_cells k2
    obtain ⟨v0,v1,v2⟩:=cells3 k3
    clear k1 k2 k3
    go_simp
    rfl
  go_simp)
 refine hK _ ?_
 clear hK K
 refine ord_rd hg hC (fun K hK=>?_)
 apply Exists.intro
 refine ⟨fun W hW=>?_,?_⟩
 · go_simp
   rfl
 go_simp
 iterate 2 (
  refine hK _ ?_
  clear hK K
  refine ord_rd hg hC (fun K hK=>?_)
  apply Exists.intro
  refine ⟨fun W hW=>?_,?_⟩
  · obtain ⟨k1,k2,k3⟩:=hW
    obtain ⟨q0,q1,q2,q3,q4,q5,-⟩:=box45_cells k1
    obtain ⟨y0,y1,y2,y3,y4,y5,-⟩:=box45_cells k2
    obtain ⟨v0,v1,v2⟩:=cells3 k3
    clear k1 k2 k3
    go_simp
    rfl
  go_simp)
 refine hK _ ?_
 clear hK K
 refine ord_on (fun K hK=>?_)
 go_simp
 go_at_call 50
 refine (H50.out _ hB).mono ?_
 rintro e w9 ⟨rfl,hb⟩
 replace hC:=And.intro ((hb.block _ (heap_lt hC.1)).trans hC.1) (And.intro ((hb.block _ (heap_lt hC.2.1)).trans hC.2.1) ((hb.block _ (heap_lt hC.2.2)).trans hC.2.2))
 replace hB:=hB.trans (hb.mono hB.size)
 clear hb
 refine hK _ _ rfl hC ?_
 clear hK K
 refine ord_on (fun K hK=>?_)
 go_simp
 go_at_call 51
 refine (H51.out _ hB).mono ?_
 rintro e w9 ⟨rfl,hb⟩
 replace hC:=And.intro ((hb.block _ (heap_lt hC.1)).trans hC.1) (And.intro ((hb.block _ (heap_lt hC.2.1)).trans hC.2.1) ((hb.block _ (heap_lt hC.2.2)).trans hC.2.2))
 replace hB:=hB.trans (hb.mono hB.size)
 clear hb
 refine hK _ _ rfl hC ?_
 clear hK K
 iterate 2 (
  refine ord_rd hg hC (fun K hK=>?_)
  apply Exists.intro
  refine ⟨fun W hW=>?_,?_⟩
  · go_simp
    rfl
  go_simp
  refine hK _ ?_
  clear hK K)
 have Z6:=Lib.hid ((hB.block _ (heap_lt X6.out)).trans X6.out)
 have HB:=Lib.hid hB
 clear hB
 have hz7:=Z7.out
 obtain ⟨r0,r1,r2,r3,r4,r5,rf⟩:=box45_cells Z6.out
 refine ord_on (fun K hK=>?_)
 go_simp
 replace hC:=And.intro ((fill_ne (w:=w9) (g:=w.heap.size+1+1) (by omega) (.slice sha' s.length shc') (.int .i64 m'.bound) (.slice sa' m'.splits.length sc') (.slice ma' m'.marks.length mc') (.bool m'.sealed) (.slice ba' m'.late.length bc')).trans hC.1) (And.intro ((fill_ne (w:=w9) (g:=w.heap.size+1+1) (by omega) (.slice sha' s.length shc') (.int .i64 m'.bound) (.slice sa' m'.splits.length sc') (.slice ma' m'.marks.length mc') (.bool m'.sealed) (.slice ba' m'.late.length bc')).trans hC.2.1) ((fill_ne (w:=w9) (g:=w.heap.size+1+1) (by omega) (.slice sha' s.length shc') (.int .i64 m'.bound) (.slice sa' m'.splits.length sc') (.slice ma' m'.marks.length mc') (.bool m'.sealed) (.slice ba' m'.late.length bc')).trans hC.2.2))
 refine hK _ _ rfl hC ?_
 clear hK K r0 r1 r2 r3 r4 r5 rf
 refine ord_rd hg hC (fun K hK=>?_)
 apply Exists.intro
 refine ⟨fun W hW=>?_,?_⟩
 · go_simp
   rfl
 go_simp
 refine hK _ ?_
 clear hK K
 refine ord_end (by kernel_rfl) ?_
 go_wp2_with fail
 have hF:(fill45 w9 (w.heap.size+1+1) (.slice sha' s.length shc') (.int .i64 m'.bound) (.slice sa' m'.splits.length sc') (.slice ma' m'.marks.length mc') (.bool m'.sealed) (.slice ba' m'.late.length bc')).heap[w.heap.size+1+1]? = some (.cells #[.slice sha' s.length shc',.int .i64 m'.bound,.slice sa' m'.splits.length sc',.slice ma' m'.marks.length mc',.bool m'.sealed,.slice ba' m'.late.length bc'] 45 (0,0)):=box45_fill (w:=w9) (g:=w.heap.size+1+1) Z6.out _ _ _ _ _ _
 unfold fill45 at hF
 refine bodyPost_ret (ret45_2 rfl _ _ (w.heap.size+1+1) hF rfl) rfl ?_
 clear hF
 rw [HM.out]
 refine ⟨⟨.slice sha' s.length shc',(sa',sc'),(ma',mc'),.slice ba' m'.late.length bc'⟩,rfl,?_⟩
 have oF:Only (fun b=>b=w.heap.size+1+1) w9 (fill45 w9 (w.heap.size+1+1) (.slice sha' s.length shc') (.int .i64 m'.bound) (.slice sa' m'.splits.length sc') (.slice ma' m'.marks.length mc') (.bool m'.sealed) (.slice ba' m'.late.length bc')):=(Only.refl (fun b=>b=w.heap.size+1+1) w9).fill (g:=w.heap.size+1+1) (fun _=>rfl) _ _ _ _ _ _
 have B59:Below w5.heap.size w5 w9:=B57.out.trans (HB.out.mono B57.out.size)
 have hz9:=B59.size
 have hcol5:∀ b,w.heap.size≤b→b<w4.heap.size→col5 b=0:=fun b h1 h2=>(WE.out.colE b h2).trans (HC0.out b h1)
 have hcolN:∀ b,w5.heap.size≤b→col5 b=0:=fun b h1=>by
  by_cases e:col5 b=0
  · exact e
  · have:=WW.out.c0 b e;omega
 rw [← hws]
 refine did_end (D:=D) (w7:=w9) (col7:=col5) (D7:=Plus D w5 w6) (b6:=w.heap.size+1+1) (WW.out.below B59) (R7.out.below HB.out) ?_ Z6.out (hcol5 _ (by omega) (by omega)) (((Went.below HB3.out).trans WE.out).trans (Went.below B59)) (by omega) oF
 intro b hb
 rcases hb with hb | hb
 · have h1:=(HD.out b hb).1
   have h2:=HB3.out.size
   exact ⟨by omega,(WE.out.colE b (by omega)).trans (HD.out b hb).2,by omega,.inl hb⟩
 · exact ⟨by have:=HB.out.size;omega,hcolN b hb.1,by omega,.inr (by have:=HB3.out.size;omega)⟩
end leaves
theorem sameRd_refl (a:RdM):sameRd a a=true:=by simp [sameRd,sameE_refl,eqS]
section leaves
set_option maxHeartbeats 4000000
set_option maxRecDepth 100000
theorem f19_k4 (hm:Tryz.prog.follows .mixedOrders=true) (w:World) (col:Nat→Nat) (s:List Col) (ws:WS) (m:WlM) (p:RS) (x:ActM) (ev:Value) (D:Nat→Prop) (hD:∀ b,D b→Calm w col b) (h:WAt w col s ws m) (hr:RefAt w D s m p) (hg:Good m) (he:EvtsAt w D ev x.evs) (hn:x.name.size≤9223372036854775807) (hk:¬ x.kind.tmod 10=0∧¬ x.kind.tmod 10=1∧¬ x.kind.tmod 10=2∧¬ x.kind.tmod 10=3) :
 Calls Tryz.prog 19 #[ptr ws.W,refV m p,.agg #[.int .u8 x.kind,.int .i64 x.reader,.string x.name,ev]] w fun e w'=>∃ p',e=.returned (.tuple #[refV (readR m x.reader).1 p',.bool true])∧DidTo w col D s ws.W (readR m x.reader).1 p' w':=by
 have mixed:=hm
 obtain ⟨xk,xr,xn,xe⟩:=x
 dsimp only at hk he hn ⊢
 obtain ⟨ea,ec,rfl⟩:∃ a c,ev=.slice a xe.length c:=by obtain ⟨a,c,e,_⟩:=he;exact ⟨a,c,e⟩
 obtain ⟨sch,⟨sa,sc⟩,⟨ma,mc⟩,back⟩:=p
 obtain ⟨sha,shc,rfl⟩:∃ a c,sch=.slice a s.length c:=by obtain ⟨a,c,e,_⟩:=hr.sch;exact ⟨a,c,e⟩
 obtain ⟨ba,bc,rfl⟩:∃ a c,back=.slice a m.late.length c:=by obtain ⟨a,c,e,_⟩:=hr.back;exact ⟨a,c,e⟩
 have HBX:=Lib.hid (bxs_new w (.slice sha s.length shc) (.int .i64 m.bound) (.slice sa m.splits.length sc) (.slice ma m.marks.length mc) (.bool m.sealed) (.slice ba m.late.length bc) (.int .u8 xk) (.int .i64 xr) (.string xn) (.slice ea xe.length ec))
 have H:=Lib.hid h
 have HR:=Lib.hid hr
 have HE:=Lib.hid he
 have HG:=Lib.hid hg
 have HD:=Lib.hid hD
 have hc0:=h.c0
 have HC0:Hid (∀ b,w.heap.size≤b→col b=0):=fun b hb=>by
  by_cases e:col b=0
  · exact e
  · have:=hc0 b e;omega
 clear h hr hg he hc0 hD
 obtain ⟨hk0,hk1,hk2,hk3⟩:=hk
 unfold ptr
 go_enter Tryz.func19,Tryz.ntmps19
 go_wp2_with fail
 generalize hw3:(((w.alloc (.cells #[.slice sha s.length shc,.int .i64 m.bound,.slice sa m.splits.length sc,.slice ma m.marks.length mc,.bool m.sealed,.slice ba m.late.length bc] 45)).alloc (.cells #[.int .u8 xk,.int .i64 xr,.string xn,.slice ea xe.length ec] 50)).alloc (.cells #[.slice none 0 0,.int .i64 0,.slice none 0 0,.slice none 0 0,.bool false,.slice none 0 0] 45))=w3 at HBX ⊢
 clear hw3
 have H43:=Lib.hid (f43_any hm w3 col s ws m xr (H.out.below HBX.out.below) HG.out.ok HG.out.row)
 unfold ptr at H43
 go_at_call 43
 refine H43.out.mono ?_
 rintro e w4 ⟨col5,ws5,rv,hws,hwa5,hwent,hrv,rfl⟩
 have hz3:=HBX.out.size
 have hkeep:∀ b o,w.heap.size≤b→w3.heap[b]? = some o→w4.heap[b]? = some o:=fun b o h1 h2=>(hwent.only.block b (heap_lt h2) (fun hn=>hn (HC0.out b h1))).trans h2
 have Y4:=Lib.hid (hkeep _ _ (Nat.le_refl _) HBX.out.h4)
 have Y5:=Lib.hid (hkeep _ _ (by omega) HBX.out.h5)
 have Y6:=Lib.hid (hkeep _ _ (by omega) HBX.out.h6)
 have WW:=Lib.hid hwa5;have WE:=Lib.hid hwent
 have hcalm:∀ b,D b→b<w.heap.size→w4.heap[b]? = w.heap[b]? := fun b hb hl=>(hwent.only.block b (by omega) (fun hn=>hn (HD.out b hb).2)).trans (HBX.out.below.block b hl)
 have R4:=Lib.hid (HR.out.keep hcalm)
 clear hwa5 hwent hkeep hcalm H43
 have hz4:=WE.out.only.size
 obtain ⟨m',hm'⟩:∃ v,(readR m xr).1=v:=⟨_,rfl⟩
 obtain ⟨rd,hrd⟩:∃ v,(readR m xr).2.1=v:=⟨_,rfl⟩
 obtain ⟨er,her⟩:∃ v,(readR m xr).2.2=v:=⟨_,rfl⟩
 rw [hm'] at WW
 rw [hrd] at hrv
 rw [hrd,her]
 obtain ⟨va,vc,rfl⟩:∃ a c,rv=.slice a rd.ev.r.length c:=by obtain ⟨a,c,e,_⟩:=hrv;exact ⟨a,c,e⟩
 have H58:Hid (∀ W,Below w4.heap.size w4 W→Calls Tryz.prog 58 #[.agg #[.slice sha s.length shc,.int .i64 m.bound,.slice sa m.splits.length sc,.slice ma m.marks.length mc,.bool m.sealed,.slice ba m.late.length bc],.int .i64 xr] W (NextTo W D s (readR m xr))):=fun W hb=>f58_any hm W D s m ⟨.slice sha s.length shc,(sa,sc),(ma,mc),.slice ba m.late.length bc⟩ xr (R4.out.below hb) HG.out.ok HG.out.row
 have HM:=Lib.hid hm';have HRD:=Lib.hid hrd;have HER:=Lib.hid her
 have HV:=Lib.hid hrv
 clear hm' hrd her hrv
 have X20:Hid ((w4.alloc (.cells #[.int .i64 rd.reader,.string rd.split,.int .i64 rd.ev.t,.slice va rd.ev.r.length vc,.bool rd.late,.int .i64 rd.mark] 90)).heap[w4.heap.size]? = some (.cells #[.int .i64 rd.reader,.string rd.split,.int .i64 rd.ev.t,.slice va rd.ev.r.length vc,.bool rd.late,.int .i64 rd.mark] 90 (0,0))):=heap_alloc_new w4 _
 have B5:Hid (Below w4.heap.size w4 (w4.alloc (.cells #[.int .i64 rd.reader,.string rd.split,.int .i64 rd.ev.t,.slice va rd.ev.r.length vc,.bool rd.late,.int .i64 rd.mark] 90))):=(Below.refl _ _).alloc (Nat.le_refl _) _
 have Z5:Hid ((w4.alloc (.cells #[.int .i64 rd.reader,.string rd.split,.int .i64 rd.ev.t,.slice va rd.ev.r.length vc,.bool rd.late,.int .i64 rd.mark] 90)).heap.size=w4.heap.size+1):=by show _=_;simp
 have Y4':=Lib.hid ((B5.out.block _ (heap_lt Y4.out)).trans Y4.out)
 have Y5':=Lib.hid ((B5.out.block _ (heap_lt Y5.out)).trans Y5.out)
 obtain ⟨y0,y1,y2,y3,y4,y5,-⟩:=box45_cells Y4'.out
 have v0:=cells_at Y5'.out 0
 have v1:=cells_at Y5'.out 1
 go_wp2_with fail
 generalize w4.alloc (.cells #[.int .i64 rd.reader,.string rd.split,.int .i64 rd.ev.t,.slice va rd.ev.r.length vc,.bool rd.late,.int .i64 rd.mark] 90)=w5 at X20 B5 Z5 Y4' Y5' y0 y1 y2 y3 y4 y5 v0 v1 ⊢
 go_at_call 58
 refine (H58.out _ B5.out).mono ?_
 rintro e w6 ⟨p',rv2,he,hr6,hrow6,hb6⟩
 rw [HM.out,HRD.out,HER.out] at he
 rw [HM.out] at hr6
 rw [HRD.out] at hrow6
 subst he
 obtain ⟨sch',⟨sa',sc'⟩,⟨ma',mc'⟩,back'⟩:=p'
 obtain ⟨sha',shc',rfl⟩:∃ a c,sch'=.slice a s.length c:=by obtain ⟨a,c,e,_⟩:=hr6.sch;exact ⟨a,c,e⟩
 obtain ⟨ba',bc',rfl⟩:∃ a c,back'=.slice a m'.late.length c:=by obtain ⟨a,c,e,_⟩:=hr6.back;exact ⟨a,c,e⟩
 obtain ⟨ua,uc,rfl⟩:∃ a c,rv2=.slice a rd.ev.r.length c:=by obtain ⟨a,c,e,_⟩:=hrow6;exact ⟨a,c,e⟩
 have HR6:=Lib.hid hr6
 have HB6:=Lib.hid hb6
 have HRW6:=Lib.hid hrow6
 clear hr6 hb6 hrow6 y0 y1 y2 y3 y4 y5 v0 v1 H58
 go_wp2_with fail
 have hz5:=Z5.out
 have hz6:=HB6.out.size
 have X22:Hid (((w6.alloc (.cells #[.slice sha' s.length shc',.int .i64 m'.bound,.slice sa' m'.splits.length sc',.slice ma' m'.marks.length mc',.bool m'.sealed,.slice ba' m'.late.length bc'] 45)).alloc (.cells #[.int .i64 rd.reader,.string rd.split,.int .i64 rd.ev.t,.slice ua rd.ev.r.length uc,.bool rd.late,.int .i64 rd.mark] 116)).heap[w6.heap.size]? = some (.cells #[.slice sha' s.length shc',.int .i64 m'.bound,.slice sa' m'.splits.length sc',.slice ma' m'.marks.length mc',.bool m'.sealed,.slice ba' m'.late.length bc'] 45 (0,0))):=alloc_keep (heap_alloc_new w6 _)
 have X23:Hid (((w6.alloc (.cells #[.slice sha' s.length shc',.int .i64 m'.bound,.slice sa' m'.splits.length sc',.slice ma' m'.marks.length mc',.bool m'.sealed,.slice ba' m'.late.length bc'] 45)).alloc (.cells #[.int .i64 rd.reader,.string rd.split,.int .i64 rd.ev.t,.slice ua rd.ev.r.length uc,.bool rd.late,.int .i64 rd.mark] 116)).heap[w6.heap.size+1]? = some (.cells #[.int .i64 rd.reader,.string rd.split,.int .i64 rd.ev.t,.slice ua rd.ev.r.length uc,.bool rd.late,.int .i64 rd.mark] 116 (0,0))):=by
  show _=_
  simpa using heap_alloc_new (w6.alloc (.cells #[.slice sha' s.length shc',.int .i64 m'.bound,.slice sa' m'.splits.length sc',.slice ma' m'.marks.length mc',.bool m'.sealed,.slice ba' m'.late.length bc'] 45)) (.cells #[.int .i64 rd.reader,.string rd.split,.int .i64 rd.ev.t,.slice ua rd.ev.r.length uc,.bool rd.late,.int .i64 rd.mark] 116)
 have B7:Hid (Below w6.heap.size w6 ((w6.alloc (.cells #[.slice sha' s.length shc',.int .i64 m'.bound,.slice sa' m'.splits.length sc',.slice ma' m'.marks.length mc',.bool m'.sealed,.slice ba' m'.late.length bc'] 45)).alloc (.cells #[.int .i64 rd.reader,.string rd.split,.int .i64 rd.ev.t,.slice ua rd.ev.r.length uc,.bool rd.late,.int .i64 rd.mark] 116))):=((Below.refl _ _).alloc (Nat.le_refl _) _).alloc (by simp) _
 have Z7:Hid (((w6.alloc (.cells #[.slice sha' s.length shc',.int .i64 m'.bound,.slice sa' m'.splits.length sc',.slice ma' m'.marks.length mc',.bool m'.sealed,.slice ba' m'.late.length bc'] 45)).alloc (.cells #[.int .i64 rd.reader,.string rd.split,.int .i64 rd.ev.t,.slice ua rd.ev.r.length uc,.bool rd.late,.int .i64 rd.mark] 116)).heap.size=w6.heap.size+2):=by show _=_;simp
 generalize (w6.alloc (.cells #[.slice sha' s.length shc',.int .i64 m'.bound,.slice sa' m'.splits.length sc',.slice ma' m'.marks.length mc',.bool m'.sealed,.slice ba' m'.late.length bc'] 45)).alloc (.cells #[.int .i64 rd.reader,.string rd.split,.int .i64 rd.ev.t,.slice ua rd.ev.r.length uc,.bool rd.late,.int .i64 rd.mark] 116)=w7 at X22 X23 B7 Z7 ⊢
 have B47:Hid (Below w4.heap.size w4 w7):=B5.out.trans ((HB6.out.trans (B7.out.mono hz6)).mono (by omega))
 have B57:Hid (Below w5.heap.size w5 w7):=HB6.out.trans (B7.out.mono hz6)
 have X20':=Lib.hid ((B57.out.block _ (heap_lt X20.out)).trans X20.out)
 have X6:=Lib.hid ((B47.out.block _ (heap_lt Y6.out)).trans Y6.out)
 have R7:=Lib.hid (HR6.out.below B7.out)
 have H59:Hid (∀ W,Below w7.heap.size w7 W→Calls Tryz.prog 59 #[.agg #[.int .i64 rd.reader,.string rd.split,.int .i64 rd.ev.t,.slice va rd.ev.r.length vc,.bool rd.late,.int .i64 rd.mark],.agg #[.int .i64 rd.reader,.string rd.split,.int .i64 rd.ev.t,.slice ua rd.ev.r.length uc,.bool rd.late,.int .i64 rd.mark]] W fun e w'=>e=.returned (.bool true)∧Below W.heap.size W w'):=fun W hb=>by
  have h:=f59_any hm W (fun b=>Calm w4 col5 b) (Plus D w5 w6) rd rd (.slice va rd.ev.r.length vc) (.slice ua rd.ev.r.length uc) (HV.out.below (B47.out.trans (hb.mono B47.out.size))) (HRW6.out.below (B7.out.trans (hb.mono B7.out.size)))
  rwa [sameRd_refl] at h
 have hC:w7.drew.heap[w6.heap.size]? = some (.cells #[.slice sha' s.length shc',.int .i64 m'.bound,.slice sa' m'.splits.length sc',.slice ma' m'.marks.length mc',.bool m'.sealed,.slice ba' m'.late.length bc'] 45 (0,0))∧w7.drew.heap[w4.heap.size]? = some (.cells #[.int .i64 rd.reader,.string rd.split,.int .i64 rd.ev.t,.slice va rd.ev.r.length vc,.bool rd.late,.int .i64 rd.mark] 90 (0,0))∧w7.drew.heap[w6.heap.size+1]? = some (.cells #[.int .i64 rd.reader,.string rd.split,.int .i64 rd.ev.t,.slice ua rd.ev.r.length uc,.bool rd.late,.int .i64 rd.mark] 116 (0,0)):=⟨X22.out,X20'.out,X23.out⟩
 have hB:Below w7.heap.size w7 w7.drew:=(Below.refl _ _).drew
 refine wp_region_ord [0,1,2,3,4,5,6,7,8,9,10] (fun W=>W.heap[w6.heap.size]? = some (.cells #[.slice sha' s.length shc',.int .i64 m'.bound,.slice sa' m'.splits.length sc',.slice ma' m'.marks.length mc',.bool m'.sealed,.slice ba' m'.late.length bc'] 45 (0,0))∧W.heap[w4.heap.size]? = some (.cells #[.int .i64 rd.reader,.string rd.split,.int .i64 rd.ev.t,.slice va rd.ev.r.length vc,.bool rd.late,.int .i64 rd.mark] 90 (0,0))∧W.heap[w6.heap.size+1]? = some (.cells #[.int .i64 rd.reader,.string rd.split,.int .i64 rd.ev.t,.slice ua rd.ev.r.length uc,.bool rd.late,.int .i64 rd.mark] 116 (0,0))) mixed (by kernel_rfl) (fun hg=>?_)
 refine ord_rd hg hC (fun K hK=>?_)
 apply Exists.intro
 refine ⟨fun W hW=>?_,?_⟩
 · obtain ⟨k1,k2,k3⟩:=hW
   obtain ⟨q0,q1,q2,q3,q4,q5,-⟩:=box45_cells k1
   obtain ⟨y0,y1,y2,y3,y4,y5,-⟩:=box6_cells k2
   obtain ⟨v0,v1,v2,v3,v4,v5,-⟩:=box6_cells k3
   clear k1 k2 k3
   go_simp
   rfl
 go_simp
 iterate 4 (
  refine hK _ ?_
  clear hK K
  refine ord_rd hg hC (fun K hK=>?_)
  apply Exists.intro
  refine ⟨fun W hW=>?_,?_⟩
  · go_simp
    rfl
  go_simp)
 iterate 2 (
  refine hK _ ?_
  clear hK K
  refine ord_rd hg hC (fun K hK=>?_)
  apply Exists.intro
  refine ⟨fun W hW=>?_,?_⟩
  · obtain ⟨k1,k2,k3⟩:=hW
    obtain ⟨q0,q1,q2,q3,q4,q5,-⟩:=box45_cells k1
    obtain ⟨y0,y1,y2,y3,y4,y5,-⟩:=box6_cells k2
    obtain ⟨v0,v1,v2,v3,v4,v5,-⟩:=box6_cells k3
    clear k1 k2 k3
    go_simp
    rfl
  go_simp)
 refine hK _ ?_
 clear hK K
 refine ord_on (fun K hK=>?_)
 go_simp
 go_at_call 59
 refine (H59.out _ hB).mono ?_
 rintro e w9 ⟨rfl,hb⟩
 replace hC:=And.intro ((hb.block _ (heap_lt hC.1)).trans hC.1) (And.intro ((hb.block _ (heap_lt hC.2.1)).trans hC.2.1) ((hb.block _ (heap_lt hC.2.2)).trans hC.2.2))
 replace hB:=hB.trans (hb.mono hB.size)
 clear hb
 refine hK _ _ rfl hC ?_
 clear hK K
 refine ord_rd hg hC (fun K hK=>?_)
 apply Exists.intro
 refine ⟨fun W hW=>?_,?_⟩
 · go_simp
   rfl
 go_simp
 refine hK _ ?_
 clear hK K
 have Z6:=Lib.hid ((hB.block _ (heap_lt X6.out)).trans X6.out)
 have HB:=Lib.hid hB
 clear hB
 have hz7:=Z7.out
 obtain ⟨r0,r1,r2,r3,r4,r5,rf⟩:=box45_cells Z6.out
 refine ord_on (fun K hK=>?_)
 go_simp
 replace hC:=And.intro ((fill_ne (w:=w9) (g:=w.heap.size+1+1) (by omega) (.slice sha' s.length shc') (.int .i64 m'.bound) (.slice sa' m'.splits.length sc') (.slice ma' m'.marks.length mc') (.bool m'.sealed) (.slice ba' m'.late.length bc')).trans hC.1) (And.intro ((fill_ne (w:=w9) (g:=w.heap.size+1+1) (by omega) (.slice sha' s.length shc') (.int .i64 m'.bound) (.slice sa' m'.splits.length sc') (.slice ma' m'.marks.length mc') (.bool m'.sealed) (.slice ba' m'.late.length bc')).trans hC.2.1) ((fill_ne (w:=w9) (g:=w.heap.size+1+1) (by omega) (.slice sha' s.length shc') (.int .i64 m'.bound) (.slice sa' m'.splits.length sc') (.slice ma' m'.marks.length mc') (.bool m'.sealed) (.slice ba' m'.late.length bc')).trans hC.2.2))
 refine hK _ _ rfl hC ?_
 clear hK K r0 r1 r2 r3 r4 r5 rf
 refine ord_rd hg hC (fun K hK=>?_)
 apply Exists.intro
 refine ⟨fun W hW=>?_,?_⟩
 · go_simp
   rfl
 go_simp
 refine hK _ ?_
 clear hK K
 refine ord_end (by kernel_rfl) ?_
 go_wp2_with fail
 have hF:(fill45 w9 (w.heap.size+1+1) (.slice sha' s.length shc') (.int .i64 m'.bound) (.slice sa' m'.splits.length sc') (.slice ma' m'.marks.length mc') (.bool m'.sealed) (.slice ba' m'.late.length bc')).heap[w.heap.size+1+1]? = some (.cells #[.slice sha' s.length shc',.int .i64 m'.bound,.slice sa' m'.splits.length sc',.slice ma' m'.marks.length mc',.bool m'.sealed,.slice ba' m'.late.length bc'] 45 (0,0)):=box45_fill (w:=w9) (g:=w.heap.size+1+1) Z6.out _ _ _ _ _ _
 unfold fill45 at hF
 refine bodyPost_ret (ret45_2 rfl _ _ (w.heap.size+1+1) hF rfl) rfl ?_
 clear hF
 rw [HM.out]
 refine ⟨⟨.slice sha' s.length shc',(sa',sc'),(ma',mc'),.slice ba' m'.late.length bc'⟩,rfl,?_⟩
 have oF:Only (fun b=>b=w.heap.size+1+1) w9 (fill45 w9 (w.heap.size+1+1) (.slice sha' s.length shc') (.int .i64 m'.bound) (.slice sa' m'.splits.length sc') (.slice ma' m'.marks.length mc') (.bool m'.sealed) (.slice ba' m'.late.length bc')):=(Only.refl (fun b=>b=w.heap.size+1+1) w9).fill (g:=w.heap.size+1+1) (fun _=>rfl) _ _ _ _ _ _
 have B49:Below w4.heap.size w4 w9:=B47.out.trans (HB.out.mono B47.out.size)
 have hz9:=B49.size
 have hcol5:∀ b,w.heap.size≤b→b<w3.heap.size→col5 b=0:=fun b h1 h2=>(WE.out.colE b h2).trans (HC0.out b h1)
 have hcolN:∀ b,w4.heap.size≤b→col5 b=0:=fun b h1=>by
  by_cases e:col5 b=0
  · exact e
  · have:=WW.out.c0 b e;omega
 rw [← hws]
 refine did_end (D:=D) (w7:=w9) (col7:=col5) (D7:=Plus D w5 w6) (b6:=w.heap.size+1+1) (WW.out.below B49) (R7.out.below HB.out) ?_ Z6.out (hcol5 _ (by omega) (by omega)) (((Went.below HBX.out.below).trans WE.out).trans (Went.below B49)) (by omega) oF
 intro b hb
 rcases hb with hb | hb
 · have h1:=(HD.out b hb).1
   exact ⟨by omega,(WE.out.colE b (by omega)).trans (HD.out b hb).2,by omega,.inl hb⟩
 · exact ⟨by have:=HB.out.size;omega,hcolN b (by omega),by omega,.inr (by omega)⟩
theorem f19_any (hm:Tryz.prog.follows .mixedOrders=true) (w:World) (col:Nat→Nat) (s:List Col) (ws:WS) (m:WlM) (p:RS) (x:ActM) (ev:Value) (D:Nat→Prop) (hD:∀ b,D b→Calm w col b) (h:WAt w col s ws m) (hr:RefAt w D s m p) (hg:Good m) (he:EvtsAt w D ev x.evs) (hn:x.name.size≤9223372036854775807) :
 Calls Tryz.prog 19 #[ptr ws.W,refV m p,.agg #[.int .u8 x.kind,.int .i64 x.reader,.string x.name,ev]] w fun e w'=>∃ p',e=.returned (.tuple #[refV (actR s m x) p',.bool true])∧DidTo w col D s ws.W (actR s m x) p' w':=by
 unfold actR kindI
 by_cases h0:x.kind.tmod 10=0
 · simp only [if_pos h0];exact f19_k0 hm w col s ws m p x ev D hD h hr hg he hn h0
 · simp only [if_neg h0]
   by_cases h1:x.kind.tmod 10=1
   · simp only [if_pos h1];exact f19_k1 hm w col s ws m p x ev D hD h hr hg he hn h1
   · simp only [if_neg h1]
     by_cases h2:x.kind.tmod 10=2
     · simp only [if_pos h2];exact f19_k2 hm w col s ws m p x ev D hD h hr hg he hn h2
     · simp only [if_neg h2]
       by_cases h3:x.kind.tmod 10=3
       · simp only [if_pos h3];exact f19_k3 hm w col s ws m p x ev D hD h hr hg he hn h3
       · simp only [if_neg h3];exact f19_k4 hm w col s ws m p x ev D hD h hr hg he hn ⟨h0,h1,h2,h3⟩
end leaves
def exS:List Col:=[⟨⟨#[118]⟩,1⟩]
def exE:List Evt:=[⟨10,[⟨1,1,⟨#[]⟩⟩]⟩]
def exP:ByteArray:=⟨#[112]⟩
def exQ:ByteArray:=⟨#[113]⟩
def exR:ByteArray:=⟨#[114]⟩
def ex0:WlM:=newM 2 2
def ex1:WlM:=(findR exS ex0 exP exE).1
def ex2:WlM:=(findR exS ex1 exQ []).1
def ex3:WlM:=(findR exS ex2 exR []).1
def exRd:RdM:=⟨0,exP,⟨10,[⟨1,1,⟨#[]⟩⟩]⟩,false,-1000000000000⟩
theorem ex_new:newE exS 2 2=0:=by kernel_rfl
theorem ex_find1:findR exS ex0 exP exE=(ex1,0,0):=by kernel_rfl
theorem ex_find2:findR exS ex1 exQ []=(ex2,1,0):=by kernel_rfl
theorem ex_find3:findR exS ex2 exR []=(ex3,0,0):=by kernel_rfl
theorem ex_read:(readR ex3 0).2=(exRd,0):=by kernel_rfl
theorem ex0_good:Good ex0:=⟨newM_ok (by omega) (by omega) (by omega) (by omega),newM_row _ _⟩
theorem ex1_good:Good ex1:=findR_good ex0_good
theorem ex2_good:Good ex2:=findR_good ex1_good
theorem ex3_good:Good ex3:=findR_good ex2_good
theorem evts_nil (w:World) (D:Nat→Prop):EvtsAt w D (.slice none 0 0) []:=⟨none,0,rfl,by simp,.inl rfl⟩
section leaves
set_option maxHeartbeats 1000000
set_option maxRecDepth 100000
theorem f13_any (hm:Tryz.prog.follows .mixedOrders=true) (w:World):Calls Tryz.prog 13 #[] w fun e w'=>e=.returned (.bool true)∧Below w.heap.size w w':=by
 have hS:SchemaAt (w.alloc (.cells #[.string ⟨#[118]⟩,.int .i64 1] 71)) (fun _=>True) (.slice (some ⟨w.heap.size,0,none⟩) exS.length 1) exS:=by
  have hb:=heap_alloc_new w (.cells #[.string ⟨#[118]⟩,.int .i64 1] 71)
  refine ⟨_,1,rfl,by decide,by decide,fun c hc=>?_,.inr ⟨w.heap.size,0,rfl,trivial,fun i hi=>?_⟩⟩
  · rw [List.mem_singleton.1 hc];decide
  · have h0:i=0:=by simp [exS] at hi;omega
    subst h0
    exact ⟨cells_at hb 0,cells_at hb 1⟩
 have HB1:Hid (Below w.heap.size w (w.alloc (.cells #[.string ⟨#[118]⟩,.int .i64 1] 71))):=(Below.refl _ _).alloc (Nat.le_refl _) _
 have H16:=Lib.hid (f16_any hm _ _ _ exS 2 2 hS)
 have HMX:=Lib.hid hm
 clear hS hm
 go_enter Tryz.func13,Tryz.ntmps13
 go_wp2_with fail
 go_at_call 16
 refine H16.out.mono ?_
 rintro e w2 ⟨hb2,h⟩
 rcases h with ⟨h0,-⟩ | ⟨-,col,ws,rfl,hwa,hcol⟩
 · exact absurd ex_new h0
 have HB2:=Lib.hid (HB1.out.trans (hb2.mono HB1.out.size))
 have HC:Hid (∀ y,y<w.heap.size→col y=0):=fun y hy=>hcol y (by have:=HB1.out.size;omega)
 have HWA:=Lib.hid hwa
 have hc0:∀ y,w2.heap.size≤y→col y=0:=fun y hy=>by
  by_cases e:col y=0
  · exact e
  · have:=hwa.c0 y e;omega
 have hE:EvtsAt ((w2.alloc (.cells #[.int .i64 1,.int .i64 1,.string ⟨#[]⟩] 78)).alloc (.cells #[.int .i64 10,.slice (some ⟨w2.heap.size,0,none⟩) 1 1] 30)) (Calm ((w2.alloc (.cells #[.int .i64 1,.int .i64 1,.string ⟨#[]⟩] 78)).alloc (.cells #[.int .i64 10,.slice (some ⟨w2.heap.size,0,none⟩) 1 1] 30)) col) (.slice (some ⟨w2.heap.size+1,0,none⟩) exE.length 1) exE:=by
  have h1:((w2.alloc (.cells #[.int .i64 1,.int .i64 1,.string ⟨#[]⟩] 78)).alloc (.cells #[.int .i64 10,.slice (some ⟨w2.heap.size,0,none⟩) 1 1] 30)).heap[w2.heap.size+1]? = some (.cells #[.int .i64 10,.slice (some ⟨w2.heap.size,0,none⟩) 1 1] 30 (0,0)):=new_snd w2 _ _
  have h0:((w2.alloc (.cells #[.int .i64 1,.int .i64 1,.string ⟨#[]⟩] 78)).alloc (.cells #[.int .i64 10,.slice (some ⟨w2.heap.size,0,none⟩) 1 1] 30)).heap[w2.heap.size]? = some (.cells #[.int .i64 1,.int .i64 1,.string ⟨#[]⟩] 78 (0,0)):=alloc_keep (heap_alloc_new w2 _)
  refine ⟨_,1,rfl,by decide,.inr ⟨w2.heap.size+1,0,rfl,⟨heap_lt h1,hc0 _ (by omega)⟩,fun i hi=>?_⟩⟩
  have hi0:i=0:=by simp [exE] at hi;omega
  subst hi0
  refine ⟨cells_at h1 0,_,cells_at h1 1,_,1,rfl,by simp [exE],.inr ⟨w2.heap.size,0,rfl,⟨heap_lt h0,hc0 _ (Nat.le_refl _)⟩,fun j hj=>?_⟩⟩
  have hj0:j=0:=by simp [exE] at hj;omega
  subst hj0
  exact ⟨cells_at h0 0,cells_at h0 1,cells_at h0 2⟩
 have hB3:Below w2.heap.size w2 ((w2.alloc (.cells #[.int .i64 1,.int .i64 1,.string ⟨#[]⟩] 78)).alloc (.cells #[.int .i64 10,.slice (some ⟨w2.heap.size,0,none⟩) 1 1] 30)):=((Below.refl _ _).alloc (Nat.le_refl _) _).alloc (by simp) _
 have h42:=f42_any HMX.out _ col exS ws ex0 ⟨#[]⟩ exP _ exE (hwa.below hB3) ex0_good.ok hE (by decide)
 rw [ex_find1] at h42
 unfold ptr at h42
 have H42:=Lib.hid h42
 have HB3:=Lib.hid hB3
 clear hE hB3 h42 hwa hcol hc0 hb2
 unfold ptr
 go_wp2_with fail
 go_at_call 42
 refine H42.out.mono ?_
 rintro e w3 ⟨rfl,col1,ws1,hws1,hwa1,hwent1⟩
 have h42:=f42_any HMX.out w3 col1 exS ws1 ex1 ⟨#[]⟩ exQ _ [] hwa1 ex1_good.ok (evts_nil _ _) (by decide)
 rw [ex_find2,hws1] at h42
 unfold ptr at h42
 have H42b:=Lib.hid h42
 have HE1:=Lib.hid hwent1
 clear h42 hwa1 H42 hwent1
 go_wp2_with fail
 go_at_call 42
 refine H42b.out.mono ?_
 rintro e w4 ⟨rfl,col2,ws2,hws2,hwa2,hwent2⟩
 have h42:=f42_any HMX.out w4 col2 exS ws2 ex2 ⟨#[]⟩ exR _ [] hwa2 ex2_good.ok (evts_nil _ _) (by decide)
 rw [ex_find3,hws2] at h42
 unfold ptr at h42
 have H42c:=Lib.hid h42
 have HE2:=Lib.hid hwent2
 clear h42 hwa2 H42b hwent2
 go_wp2_with fail
 go_at_call 42
 refine H42c.out.mono ?_
 rintro e w5 ⟨rfl,col3,ws3,hws3,hwa3,hwent3⟩
 have h43:=f43_any HMX.out w5 col3 exS ws3 ex3 0 hwa3 ex3_good.ok ex3_good.row
 rw [hws3] at h43
 rw [show (readR ex3 0).2.1=exRd by rw [ex_read],show (readR ex3 0).2.2=0 by rw [ex_read]] at h43
 unfold ptr at h43
 have H43:=Lib.hid h43
 have HE3:=Lib.hid hwent3
 clear h43 hwa3 H42c hwent3
 go_wp2_with fail
 go_at_call 43
 refine H43.out.mono ?_
 rintro e w6 ⟨col4,ws4,rv,hws4,hwa4,hwent4,hrv,rfl⟩
 obtain ⟨ra,rc,rfl⟩:∃ a c,rv=.slice a exRd.ev.r.length c:=by obtain ⟨a,c,e,_⟩:=hrv;exact ⟨a,c,e⟩
 have HB6:Below w.heap.size w w6:=by
  have hall:=((((Went.below (col:=col) (HB2.out.trans (HB3.out.mono HB2.out.size))).trans HE1.out).trans HE2.out).trans HE3.out).trans hwent4
  exact hall.only.below (Nat.le_refl _) (fun y hy=>by
   by_cases hq:w.heap.size≤y
   · exact hq
   · exact absurd (HC.out y (by omega)) hy)
 have HF:=Lib.hid HB6
 clear hrv hwa4 hwent4 H43 HB6
 show _
 have hrd:rdV exRd (.slice ra exRd.ev.r.length rc)=.agg #[.int .i64 0,.string ⟨#[112]⟩,.int .i64 10,.slice ra 1 rc,.bool false,.int .i64 (-1000000000000)]:=rfl
 rw [hrd]
 go_wp2_with fail
 go_ret
 exact ⟨rfl,HF.out.alloc HF.out.size _⟩
end leaves
end Go.Proofs.YtimahogkcmmcnaaGreatDoor
