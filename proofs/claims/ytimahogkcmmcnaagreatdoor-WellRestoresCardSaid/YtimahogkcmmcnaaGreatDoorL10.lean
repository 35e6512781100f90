/-
 The well, part 32: sealing in the program. If the well lies in the world as the words say.
-/
import Derived.Test.YtimahogkcmmcnaaGreatDoorL09
set_option linter.unusedSimpArgs false
set_option linter.unusedVariables false
namespace Go.Proofs.YtimahogkcmmcnaaGreatDoor
open Go.RowKit Go.Proofs.YtimahogkcmmcnaaGreatDoor.Cmps
def sealR (m:WlM) (n:ByteArray):WlM×Int :=
 if findI m.splits n<0 then (m,5) else
 match m.splits[(findI m.splits n).toNat]? with
 | none=>(m,5)
 | some x=>if x.sealed=true then (m,10) else (sealM m (findI m.splits n).toNat x,0)
theorem sealR_none {m:WlM} {n:ByteArray} (h:findI m.splits n<0):sealR m n=(m,5):=by rw [sealR,if_pos h]
theorem sealR_was {m:WlM} {n:ByteArray} {k:Nat} (hk:k<m.splits.length) (h:findI m.splits n=k) (hs:m.splits[k].sealed=true):sealR m n=(m,10):=by
 rw [sealR,h,if_neg (by omega)]
 simp [hk,hs]
theorem sealR_new {m:WlM} {n:ByteArray} {k:Nat} (hk:k<m.splits.length) (h:findI m.splits n=k) (hs:m.splits[k].sealed=false):sealR m n=(sealM m k m.splits[k],0):=by
 rw [sealR,h,if_neg (by omega)]
 simp [hk,hs]
def sealAllR (m:WlM):WlM×Int:=if m.sealed=true then (m,10) else (sealAllM m,0)
section leaves
set_option maxHeartbeats 1000000
set_option maxRecDepth 10000
theorem f55_any (w:World) (col:Nat→Nat) (s:List Col) (ws:WS) (m:WlM) (nm:ByteArray) (h:WAt w col s ws m) (hok:WOk m) :
 Calls Tryz.prog 55 #[ptr ws.W,.string nm] w fun e w'=>e=.returned (.int .i64 (sealR m nm).2)∧WAt w' col s ws (sealR m nm).1∧Only (fun b=>col b≠0) w w':=by
 obtain ⟨a,c,e⟩:=h.splForm
 obtain ⟨_,_,_,c3,_,_,_⟩:=h.cells
 have hlk:=lookup_p w ws.mp ws.clock nm h.ents h.hM
 have H:=Lib.hid h
 rcases idxI_lt (p:=fun x:SpM=>eqS x.name nm) (l:=m.splits) with hi | ⟨k,hlt,hi⟩
 · have hi':findI m.splits nm<0:=hi
   rw [sealR_none hi']
   rw [valS_none hi'] at hlk
   unfold ptr
   clear h hi hi' e hok
   go_enter Tryz.func55,Tryz.ntmps55
   go_wp2_with fail
   go_ret
   exact ⟨rfl,H.out,Only.refl _ _⟩
 · have hi':findI m.splits nm=k:=hi
   rw [valS_some hi'] at hlk
   obtain ⟨g,o,e1,e2,rfl,hg,x0,hev,hxb,x1,y1,y2,y3,y4,y5⟩:=h.split e hlt
   obtain ⟨b,hs⟩:∃ b,m.splits[k].sealed=b:=⟨_,rfl⟩
   rw [hs] at y4
   cases b
   · rw [sealR_new hlt hi' hs]
     have hd:m.splits[k].done=false:=by simp [SpM.done,hs]
     have hX:=h.hX k hlt
     have hG:=h.hG k hlt
     rw [hs,hev] at hX
     rw [hd,show m.splits[k].mark=m.splits[k].gauge by rw [SpM.mark,hd];rfl] at hG
     have hne:ws.gb k≠ws.xb k:=fun e=>by have h1:=h.cX k hlt;have h2:=h.cG k hlt;rw [e] at h2;omega
     have hf:w.frozen? ⟨ws.xb k,4,none⟩=false:=by simp [World.frozen?,hX]
     have X1:=heap_set (j:=4) hX (.bool true)
     have G1:=(heap_set_ne (w:=w) (g:=ws.xb k) (j:=4) (.bool true) hne).trans hG
     have q:=cells_at X1
     have H127:=Lib.hid (f127_any (w.setCell ⟨ws.xb k,4,none⟩ (.bool true)) (ws.xb k) (ws.gb k) true m.splits[k].read m.splits[k].evs.length e1 e2 m.bound m.splits[k].gauge (q 1) (q 2) (q 3) (q 4) G1)
     have HK:Hid (∀ w2,Only (fun k'=>k'=ws.gb k) (w.setCell ⟨ws.xb k,4,none⟩ (.bool true)) w2 →
      w2.heap[ws.gb k]? = some (.cells #[.int .i64 m.bound,.int .i64 (if (true && ((m.splits[k].read:Int) == (m.splits[k].evs.length:Int)))=true then 1000000000001 else m.splits[k].gauge),.bool (true && ((m.splits[k].read:Int) == (m.splits[k].evs.length:Int)))] 215 (0,0)) →
      w2.cell? ⟨ws.xb k,5,none⟩=some (.int .i64 m.splits[k].owner)∧Only (fun b=>col b≠0) w w2 ∧
      Calls Tryz.prog 82 #[.pointer (some ⟨ws.W,0,none⟩),.int .i64 m.splits[k].owner] w2 fun e w'=>e=.returned (.tuple #[])∧WAt w' col s ws (sealM m k m.splits[k])∧Only (fun b=>col b≠0) w2 w'):=by
      intro w2 ho hg2
      have hx2:=(ho.block (ws.xb k) (heap_lt X1) (fun e=>hne e.symm)).trans X1
      have ho2:Only (fun b=>b=ws.xb k∨b=ws.gb k) w w2 :=
       (Only.setCell (S:=fun b=>b=ws.xb k∨b=ws.gb k) (p:=⟨ws.xb k,4,none⟩) (Only.refl _ _) (fun _=>.inl rfl) _).trans ho (fun _ _ e=>.inr e)
      have hw2:=H.out.setSplit hlt { m.splits[k] with sealed:=true } rfl rfl ho2 (by rw [hev];simpa using hx2) (by simpa [SpM.mark,SpM.done] using hg2)
      refine ⟨by rw [cells_at hx2];rfl,ho2.mono (fun b _ e=>by rcases e with rfl | rfl;rw [H.out.cX k hlt];omega;rw [H.out.cG k hlt];omega),?_⟩
      have hx:=List.getElem_mem hlt
      exact f82_any w2 col s ws _ m.splits[k].owner hw2 (hok.setS hlt (x:={ m.splits[k] with sealed:=true }) (by have:=hok.all;show allN m.splits+m.splits[k].evs.length≤_;omega) (hok.read m.splits[k] hx) (hok.owner m.splits[k] hx) (hok.gauge m.splits[k] hx) (hok.name m.splits[k] hx) (fun y hy=>hok.time m.splits[k] hx y hy)) (hok.owner _ hx)
     unfold ptr at hlk H127 ⊢
     clear h hi hi' e hok X1 G1 q hX hG
     go_enter Tryz.func55,Tryz.ntmps55
     go_wp2_with (first
      | (go_at_call 127;(with_reducible refine H127.out.mono ?_);rintro e w2 ⟨rfl,ho,hg2⟩;obtain ⟨k5,k6,k7⟩:=HK.out w2 ho hg2;have K6:=Lib.hid k6;have K7:=Lib.hid k7;clear ho hg2 k6 k7)
      | (go_at_call 82;(with_reducible refine K7.out.mono ?_);rintro e w3 ⟨rfl,hw3,ho3⟩;have HW3:=Lib.hid hw3;have HO3:=Lib.hid ho3;clear hw3 ho3))
     go_ret
     exact ⟨rfl,HW3.out,K6.out.trans HO3.out (fun _ _ h=>h)⟩
   · rw [sealR_was hlt hi' hs]
     unfold ptr at hlk ⊢
     clear h hi hi' e hok
     go_enter Tryz.func55,Tryz.ntmps55
     go_wp2_with fail
     go_ret
     exact ⟨rfl,H.out,Only.refl _ _⟩
theorem f57_any (w:World) (col:Nat→Nat) (s:List Col) (ws:WS) (m:WlM) (h:WAt w col s ws m) (hok:WOk m) :
 Calls Tryz.prog 57 #[ptr ws.W] w fun e w'=>e=.returned (.int .i64 (sealAllR m).2)∧WAt w' col s ws (sealAllR m).1∧Only (fun b=>col b≠0) w w':=by
 obtain ⟨_,_,_,_,_,c5,_⟩:=h.cells
 have H:=Lib.hid h
 obtain ⟨b,hs⟩:∃ b,m.sealed=b:=⟨_,rfl⟩
 rw [hs] at c5
 cases b
 · rw [sealAllR,if_neg (by simp [hs])]
   have hW:=h.hW
   have hf:w.frozen? ⟨ws.W,5,none⟩=false:=by simp [World.frozen?,hW]
   have W1:=heap_set (j:=5) hW (.bool true)
   have ho1:Only (fun b=>b=ws.W) w (w.setCell ⟨ws.W,5,none⟩ (.bool true)):=Only.setCell (S:=fun b=>b=ws.W) (p:=⟨ws.W,5,none⟩) (Only.refl _ _) (fun _=>rfl) _
   have hw1:=h.setSealed ho1 (by simpa using W1)
   have hk1:WOk { m with sealed:=true }:=⟨hok.splits,hok.all,hok.read,hok.owner,hok.lo,hok.hi,hok.bound,hok.gauge,hok.marks,hok.name,hok.time⟩
   have HW1:=Lib.hid hw1
   have HK1:=Lib.hid hk1
   have HO1:Hid (Only (fun b=>col b≠0) w (w.setCell ⟨ws.W,5,none⟩ (.bool true))):=ho1.mono fun b _ e=>by subst e;rw [H.out.cW];omega
   obtain ⟨a',c',e'⟩:=h.rdForm
   have d4:=cells_at W1 4
   rw [e'] at d4
   have h16:=hok.hi
   unfold ptr
   clear h hok hW W1 ho1 hw1 hk1 e'
   go_enter Tryz.func57,Tryz.ntmps57
   go_wp2_with fail
   go_loopw [20] (fun i wr=>∃ k:Nat,k≤m.marks.length∧i=.int .i64 k∧Hid (WAt wr col s ws (markedM { m with sealed:=true } k))∧Hid (Only (fun b=>col b≠0) w wr)) (fun i _=>m.marks.length - (intOf i).toNat)
   case atStart=>exact ⟨0,by omega,rfl,HW1,HO1⟩
   case round =>
    obtain ⟨k,hk,rfl,hw,ho⟩:=hrel
    by_cases hlt:k<m.marks.length
    · have hl:=markedM_len { m with sealed:=true } k
      have H82:=Lib.hid (f82_any wr col s ws _ k hw.out (HK1.out.marked k) (by rw [hl];exact hlt))
      unfold ptr at H82
      clear hl
      go_wp2_with (go_at_call 82;(with_reducible refine H82.out.mono ?_);rintro e w3 ⟨rfl,hw3,ho3⟩;have HW3:=Lib.hid hw3;have HO3:=Lib.hid ho3;clear hw3 ho3)
      go_roundw
      case rel=>exact ⟨k+1,by omega,by go_num,by rw [markedM_succ];exact HW3,Lib.hid (ho.out.trans HO3.out (fun _ _ h=>h))⟩
      case measure=>simp [intOf];omega
    · have hkl:k=m.marks.length:=by omega
      subst hkl
      go_wp2_with fail
      go_ret
      exact ⟨rfl,hw.out,ho.out⟩
 · rw [sealAllR,if_pos hs]
   unfold ptr
   clear h hok
   go_enter Tryz.func57,Tryz.ntmps57
   go_wp2_with fail
   go_ret
   exact ⟨rfl,H.out,Only.refl _ _⟩
end leaves
structure RefO (w:World) (D:Nat→Prop) (s:List Col) (m:WlM) (p:RS) (sb mb:Option Nat):Prop where
 sch:SchemaAt w D p.sch s
 spl:SplsOwn w D (.slice p.spl.1 m.splits.length p.spl.2) m.splits sb
 mks:SlOwn w 3 1 (.slice p.mks.1 m.marks.length p.mks.2) m.marks.length (m.marks.map (Value.int .i64)) mb
 back:EvtsAt w D p.back m.late
 sD:∀ b,sb=some b→¬ D b
 mD:∀ b,mb=some b→¬ D b
 ne:∀ b,sb=some b→mb≠some b
section imp
variable {w : World} {D D' : Nat → Prop}
theorem EvtsAt.imp {v:Value} {l:List Evt} (h:EvtsAt w D v l) (hd:∀ b,b<w.heap.size→D b→D' b):EvtsAt w D' v l:=by
 obtain ⟨a,cap,rfl,hl,hx⟩:=h
 refine ⟨a,cap,rfl,hl,?_⟩
 rcases hx with rfl | ⟨b,off,rfl,hb,hc⟩
 · exact .inl rfl
 · by_cases h0:l=[]
   · exact .inl h0
   · have hpos:0<l.length:=by cases l with | nil=>exact absurd rfl h0 | cons p l=>simp
     exact .inr ⟨b,off,rfl,hd b (cell_lt (hc 0 hpos).1) hb,fun i hi=>⟨(hc i hi).1,(hc i hi).2.imp fun r hr=>⟨hr.1,hr.2.imp hd⟩⟩⟩
theorem SchemaAt.imp {v:Value} {l:List Col} (h:SchemaAt w D v l) (hd:∀ b,b<w.heap.size→D b→D' b):SchemaAt w D' v l:=by
 obtain ⟨a,cap,rfl,hc,hl,hn,hx⟩:=h
 refine ⟨a,cap,rfl,hc,hl,hn,?_⟩
 rcases hx with rfl | ⟨b,off,rfl,hb,hc⟩
 · exact .inl rfl
 · by_cases h0:l=[]
   · exact .inl h0
   · have hpos:0<l.length:=by cases l with | nil=>exact absurd rfl h0 | cons p l=>simp
     exact .inr ⟨b,off,rfl,hd b (cell_lt (hc 0 hpos).1) hb,hc⟩
theorem NumsAt.imp {v:Value} {l:List Int} (h:NumsAt w D v l) (hd:∀ b,b<w.heap.size→D b→D' b):NumsAt w D' v l:=by
 obtain ⟨a,cap,rfl,hx⟩:=h
 refine ⟨a,cap,rfl,?_⟩
 rcases hx with rfl | ⟨b,off,rfl,hb,hc⟩
 · exact .inl rfl
 · by_cases h0:l=[]
   · exact .inl h0
   · have hpos:0<l.length:=by cases l with | nil=>exact absurd rfl h0 | cons p l=>simp
     exact .inr ⟨b,off,rfl,hd b (cell_lt (hc 0 hpos)) hb,hc⟩
theorem SplsAt.imp {v:Value} {l:List SpM} (h:SplsAt w D v l) (hd:∀ b,b<w.heap.size→D b→D' b):SplsAt w D' v l:=by
 obtain ⟨a,cap,rfl,hx⟩:=h
 refine ⟨a,cap,rfl,?_⟩
 rcases hx with rfl | ⟨b,off,rfl,hb,hc⟩
 · exact .inl rfl
 · by_cases h0:l=[]
   · exact .inl h0
   · have hpos:0<l.length:=by cases l with | nil=>exact absurd rfl h0 | cons p l=>simp
     obtain ⟨ev,he,h1,_⟩:=hc 0 hpos
     refine .inr ⟨b,off,rfl,hd b (cell_lt h1) hb,fun i hi=>?_⟩
     obtain ⟨ev,he,hh⟩:=hc i hi
     exact ⟨ev,he.imp hd,hh⟩
theorem RefAt.imp {s:List Col} {m:WlM} {p:RS} (h:RefAt w D s m p) (hd:∀ b,b<w.heap.size→D b→D' b):RefAt w D' s m p :=
 ⟨h.sch.imp hd,h.spl.imp hd,h.mks.imp hd,h.back.imp hd⟩
end imp
theorem RefO.ref {w:World} {D:Nat→Prop} {s:List Col} {m:WlM} {p:RS} {sb mb:Option Nat} (h:RefO w D s m p sb mb):RefAt w (fun b=>D b∨sb=some b∨mb=some b) s m p :=
 ⟨h.sch.mono fun _ h=>.inl h,h.spl.spls.mono fun _ h=>h.imp id .inl,(own_nums h.mks).mono fun _ h=>.inr (.inr h),h.back.mono fun _ h=>.inl h⟩
theorem SplsOwn.keep {w w':World} {D:Nat→Prop} {v:Value} {l:List SpM} {blk:Option Nat} (h:SplsOwn w D v l blk) (hk:∀ b,(D b∨blk=some b)→b<w.heap.size→w'.heap[b]? = w.heap[b]?):SplsOwn w' D v l blk:=by
 obtain ⟨ps,e,ho,hr⟩:=h
 exact ⟨ps,e,ho.keep fun g hg=>hk g (.inr hg) (ho.lt_of hg),fun p hp=>(hr p hp).keep fun b hb hlt=>hk b (.inl hb) hlt⟩
theorem RefO.keep {w w':World} {D:Nat→Prop} {s:List Col} {m:WlM} {p:RS} {sb mb:Option Nat} (h:RefO w D s m p sb mb) (hk:∀ b,(D b∨sb=some b∨mb=some b)→b<w.heap.size→w'.heap[b]? = w.heap[b]?):RefO w' D s m p sb mb :=
 ⟨h.sch.keep fun b hb=>hk b (.inl hb),h.spl.keep fun b hb=>hk b (hb.imp id .inl),h.mks.keep fun g hg=>hk g (.inr (.inr hg)) (h.mks.lt_of hg),h.back.keep fun b hb=>hk b (.inl hb),h.sD,h.mD,h.ne⟩
theorem RefO.below {w w':World} {D:Nat→Prop} {s:List Col} {m:WlM} {p:RS} {sb mb:Option Nat} (h:RefO w D s m p sb mb) (hb:Below w.heap.size w w'):RefO w' D s m p sb mb :=
 h.keep fun b _ hlt=>hb.block b hlt
theorem info124:(Tryz.prog.info? 124).map (fun i=>(i.zero,i.size,i.bytes))=some (some (.agg #[.string ⟨#[]⟩,.int .i64 0,.slice none 0 0,.int .i64 0,.int .i64 0,.bool false]),6,72):=by kernel_rfl
theorem ints_one {l:List Int}:∀ u ∈ l.map (Value.int .i64),u.oneCell'=true:=by
 intro u hu
 obtain ⟨x,_,rfl⟩:=List.mem_map.1 hu
 rfl
theorem alloc_keep {w:World} {b:Nat} {o ob:Obj} (h:w.heap[b]? = some o):(w.alloc ob).heap[b]? = some o:=(Below.heap_alloc _ _ _ (heap_lt h)).trans h
section box
variable {w : World} {g : Nat} {a b c d e f : Value}
theorem box45_cells (h:w.heap[g]? = some (.cells #[a,b,c,d,e,f] 45 (0,0))):w.cell? ⟨g,0,none⟩=some a∧w.cell? ⟨g,1,none⟩=some b∧w.cell? ⟨g,2,none⟩=some c∧w.cell? ⟨g,3,none⟩=some d∧w.cell? ⟨g,4,none⟩=some e∧w.cell? ⟨g,5,none⟩=some f∧∀ o,w.frozen? ⟨g,o,none⟩=false :=
 ⟨cells_at h 0,cells_at h 1,cells_at h 2,cells_at h 3,cells_at h 4,cells_at h 5,fun o=>by simp [World.frozen?,h]⟩
theorem box45_set1 (h:w.heap[g]? = some (.cells #[a,b,c,d,e,f] 45 (0,0))) (v:Value):(w.setCell ⟨g,1,none⟩ v).heap[g]? = some (.cells #[a,v,c,d,e,f] 45 (0,0)):=by simpa using heap_set (j:=1) h v
theorem box45_set2 (h:w.heap[g]? = some (.cells #[a,b,c,d,e,f] 45 (0,0))) (v:Value):(w.setCell ⟨g,2,none⟩ v).heap[g]? = some (.cells #[a,b,v,d,e,f] 45 (0,0)):=by simpa using heap_set (j:=2) h v
theorem box45_set3 (h:w.heap[g]? = some (.cells #[a,b,c,d,e,f] 45 (0,0))) (v:Value):(w.setCell ⟨g,3,none⟩ v).heap[g]? = some (.cells #[a,b,c,v,e,f] 45 (0,0)):=by simpa using heap_set (j:=3) h v
theorem box45_set4 (h:w.heap[g]? = some (.cells #[a,b,c,d,e,f] 45 (0,0))) (v:Value):(w.setCell ⟨g,4,none⟩ v).heap[g]? = some (.cells #[a,b,c,d,v,f] 45 (0,0)):=by simpa using heap_set (j:=4) h v
theorem box45_set5 (h:w.heap[g]? = some (.cells #[a,b,c,d,e,f] 45 (0,0))) (v:Value):(w.setCell ⟨g,5,none⟩ v).heap[g]? = some (.cells #[a,b,c,d,e,v] 45 (0,0)):=by simpa using heap_set (j:=5) h v
theorem box45_fill (h:w.heap[g]? = some (.cells #[a,b,c,d,e,f] 45 (0,0))) (a' b' c' d' e' f':Value) :
 ((((((w.setCell ⟨g,0,none⟩ a').setCell ⟨g,1,none⟩ b').setCell ⟨g,2,none⟩ c').setCell ⟨g,3,none⟩ d').setCell ⟨g,4,none⟩ e').setCell ⟨g,5,none⟩ f').heap[g]? = some (.cells #[a',b',c',d',e',f'] 45 (0,0)):=by
 have h0:(w.setCell ⟨g,0,none⟩ a').heap[g]? = some (.cells #[a',b,c,d,e,f] 45 (0,0)):=by simpa using heap_set (j:=0) h a'
 exact box45_set5 (box45_set4 (box45_set3 (box45_set2 (box45_set1 h0 b') c') d') e') f'
theorem fill_ne {k:Nat} (hk:k≠g) (a' b' c' d' e' f':Value):((((((w.setCell ⟨g,0,none⟩ a').setCell ⟨g,1,none⟩ b').setCell ⟨g,2,none⟩ c').setCell ⟨g,3,none⟩ d').setCell ⟨g,4,none⟩ e').setCell ⟨g,5,none⟩ f').heap[k]? = w.heap[k]? := by
 rw [heap_set_ne _ hk,heap_set_ne _ hk,heap_set_ne _ hk,heap_set_ne _ hk,heap_set_ne _ hk,heap_set_ne _ hk]
theorem fill_below {n:Nat} {w0:World} (h:Below n w0 w) (hg:n≤g) (a' b' c' d' e' f':Value):Below n w0 ((((((w.setCell ⟨g,0,none⟩ a').setCell ⟨g,1,none⟩ b').setCell ⟨g,2,none⟩ c').setCell ⟨g,3,none⟩ d').setCell ⟨g,4,none⟩ e').setCell ⟨g,5,none⟩ f') :=
 (((((h.setCell (p:=⟨g,0,none⟩) hg _).setCell (p:=⟨g,1,none⟩) hg _).setCell (p:=⟨g,2,none⟩) hg _).setCell (p:=⟨g,3,none⟩) hg _).setCell (p:=⟨g,4,none⟩) hg _).setCell (p:=⟨g,5,none⟩) hg _
end box
theorem size45:(Tryz.prog.info? 45).map (·.size)=some 6:=by kernel_rfl
section leaves
set_option maxHeartbeats 1000000
set_option maxRecDepth 10000
def Copied (w:World) (D:Nat→Prop) (s:List Col) (m:WlM) (e:Ending) (w':World):Prop :=
 ∃ p' sb mb,e=.returned (refV m p')∧RefO w' (fun b=>D b∧b<w.heap.size) s m p' sb mb∧(∀ b,sb=some b→w.heap.size≤b)∧(∀ b,mb=some b→w.heap.size≤b)∧Below w.heap.size w w'
theorem f87_any (w:World) (D:Nat→Prop) (s:List Col) (m:WlM) (p:RS) (h:RefAt w D s m p) (hok:WOk m) :
 Calls Tryz.prog 87 #[refV m p] w (Copied w D s m):=by
 obtain ⟨i0,hi0,hz0,hz1,hz2⟩:=info_parts info124
 obtain ⟨k0,hk0,hy0,hy1,hy2⟩:=info_parts info3
 have H:=Lib.hid (h.imp (D':=fun b=>D b∧b<w.heap.size) fun b hl hb=>⟨hb,hl⟩)
 obtain ⟨sch,⟨sa,sc⟩,⟨ma,mc⟩,back⟩:=p
 have h50:=hok.splits
 have h16:=hok.hi
 obtain ⟨bd,spl,mk,sl,lt⟩:=m
 obtain ⟨sha,shc,rfl⟩:∃ a c,sch=.slice a s.length c:=by obtain ⟨a,c,e,_⟩:=H.out.sch;exact ⟨a,c,e⟩
 obtain ⟨ba,bc,rfl⟩:∃ a c,back=.slice a lt.length c:=by obtain ⟨a,c,e,_⟩:=H.out.back;exact ⟨a,c,e⟩
 dsimp only at h50 h16 H ⊢
 clear h hok
 have hb3:Below w.heap.size w (((w.alloc (.cells #[.slice sha s.length shc,.int .i64 bd,.slice sa spl.length sc,.slice ma mk.length mc,.bool sl,.slice ba lt.length bc] 45)).alloc (.cells #[.slice none 0 0,.int .i64 0,.slice none 0 0,.slice none 0 0,.bool false,.slice none 0 0] 45)).alloc (.cells #[] 124)) :=
  ((((Below.refl _ _).alloc (Nat.le_refl _) _).alloc (by simp) _).alloc (by simp;omega) _)
 have hB3:(((w.alloc (.cells #[.slice sha s.length shc,.int .i64 bd,.slice sa spl.length sc,.slice ma mk.length mc,.bool sl,.slice ba lt.length bc] 45)).alloc (.cells #[.slice none 0 0,.int .i64 0,.slice none 0 0,.slice none 0 0,.bool false,.slice none 0 0] 45)).alloc (.cells #[] 124)).heap[w.heap.size]? = some (.cells #[.slice sha s.length shc,.int .i64 bd,.slice sa spl.length sc,.slice ma mk.length mc,.bool sl,.slice ba lt.length bc] 45 (0,0)):=alloc_keep (alloc_keep (heap_alloc_new w _))
 have hR3:(((w.alloc (.cells #[.slice sha s.length shc,.int .i64 bd,.slice sa spl.length sc,.slice ma mk.length mc,.bool sl,.slice ba lt.length bc] 45)).alloc (.cells #[.slice none 0 0,.int .i64 0,.slice none 0 0,.slice none 0 0,.bool false,.slice none 0 0] 45)).alloc (.cells #[] 124)).heap[w.heap.size+1]? = some (.cells #[.slice none 0 0,.int .i64 0,.slice none 0 0,.slice none 0 0,.bool false,.slice none 0 0] 45 (0,0)):=alloc_keep (by simpa using heap_alloc_new (w.alloc (.cells #[.slice sha s.length shc,.int .i64 bd,.slice sa spl.length sc,.slice ma mk.length mc,.bool sl,.slice ba lt.length bc] 45)) (.cells #[.slice none 0 0,.int .i64 0,.slice none 0 0,.slice none 0 0,.bool false,.slice none 0 0] 45))
 have hs3:(((w.alloc (.cells #[.slice sha s.length shc,.int .i64 bd,.slice sa spl.length sc,.slice ma mk.length mc,.bool sl,.slice ba lt.length bc] 45)).alloc (.cells #[.slice none 0 0,.int .i64 0,.slice none 0 0,.slice none 0 0,.bool false,.slice none 0 0] 45)).alloc (.cells #[] 124)).heap.size=w.heap.size+3:=by simp
 have hown0:SlOwn (((w.alloc (.cells #[.slice sha s.length shc,.int .i64 bd,.slice sa spl.length sc,.slice ma mk.length mc,.bool sl,.slice ba lt.length bc] 45)).alloc (.cells #[.slice none 0 0,.int .i64 0,.slice none 0 0,.slice none 0 0,.bool false,.slice none 0 0] 45)).alloc (.cells #[] 124)) 124 6 (.slice (some ⟨w.heap.size+1+1,0,none⟩) 0 0) 0 [] (some (w.heap.size+1+1)) :=
  ⟨by simp,.inr ⟨w.heap.size+1+1,0,0,#[],rfl,rfl,by simpa using heap_alloc_new ((w.alloc (.cells #[.slice sha s.length shc,.int .i64 bd,.slice sa spl.length sc,.slice ma mk.length mc,.bool sl,.slice ba lt.length bc] 45)).alloc (.cells #[.slice none 0 0,.int .i64 0,.slice none 0 0,.slice none 0 0,.bool false,.slice none 0 0] 45)) (.cells #[] 124),by omega,by simp [maxLen],by simp,by simp⟩⟩
 obtain ⟨ps,hps,hsrc,hrow⟩:=(H.out.spl.below hb3).parts
 have hmk:=(H.out.mks.below hb3).src
 dsimp only at hps hsrc hrow hmk
 have HSRC:=Lib.hid hsrc
 have HROW:=Lib.hid hrow
 have HPS:=Lib.hid hps
 have HB3:=Lib.hid hb3
 have HO0:=Lib.hid hown0
 have HMK:=Lib.hid H.out.mks
 have HBB:=Lib.hid hB3
 have HRR:=Lib.hid hR3
 have HZ3:=Lib.hid hs3
 clear hsrc hrow hps hb3 hB3 hR3 hs3 hown0 hmk
 go_enter Tryz.func87,Tryz.ntmps87
 go_wp2_with (first
  | (at_builtin;refine wpList_append_S rfl (.tmp 3) (.tmp 5) 43 rfl 124 i0 _ 6 72 Tryz.underlying43 hi0 hz0 hz1 hz2 rfl (by omega) (.slice (some ⟨w.heap.size+1+1,0,none⟩) 0 0) 0 [] (some (w.heap.size+1+1)) rfl HO0.out (.slice sa spl.length sc) spl.length (spsC ps) rfl HSRC.out (spsC_one HROW.out) (by simp only [maxLen];omega) (by omega) ?_
     intro v1 w4 blk1 hown1 hgrow1 hat1
     obtain ⟨a1,c1,rfl⟩:=hown1.form
     simp only [Nat.zero_add] at hown1
     have hB4:=(hgrow1.block w.heap.size (by have:=HZ3.out;omega) (by simp;omega)).trans HBB.out
     have hR4:=(hgrow1.block (w.heap.size+1) (by have:=HZ3.out;omega) (by simp)).trans HRR.out
     have hz4:=hgrow1.size
     have hb4:Below w.heap.size w w4:=HB3.out.grown hgrow1 (by have:=HZ3.out;omega) (fun k hk=>by injection hk with hk;omega)
     have hB5:=box45_set2 hB4 (.slice a1 spl.length c1)
     have hB6:=alloc_keep (ob:=.cells #[] 3) hB5
     have hR6:=alloc_keep (ob:=.cells #[] 3) ((heap_set_ne (w:=w4) (g:=w.heap.size) (j:=2) (.slice a1 spl.length c1) (by omega:w.heap.size+1≠w.heap.size)).trans hR4)
     have hz6:((w4.setCell ⟨w.heap.size,2,none⟩ (.slice a1 spl.length c1)).alloc (.cells #[] 3)).heap.size=w4.heap.size+1:=by simp
     have hb6:Below w.heap.size w ((w4.setCell ⟨w.heap.size,2,none⟩ (.slice a1 spl.length c1)).alloc (.cells #[] 3)):=(hb4.setCell (p:=⟨w.heap.size,2,none⟩) (Nat.le_refl _) _).alloc (by have:=HZ3.out;simp;omega) _
     have hown6:SlOwn ((w4.setCell ⟨w.heap.size,2,none⟩ (.slice a1 spl.length c1)).alloc (.cells #[] 3)) 3 1 (.slice (some ⟨w4.heap.size,0,none⟩) 0 0) 0 [] (some w4.heap.size) :=
      ⟨by simp,.inr ⟨w4.heap.size,0,0,#[],rfl,rfl,by simpa using heap_alloc_new (w4.setCell ⟨w.heap.size,2,none⟩ (.slice a1 spl.length c1)) (.cells #[] 3),by omega,by simp [maxLen],by simp,by simp⟩⟩
     have hsrc6:=(H.out.mks.below hb6).src
     dsimp only at hsrc6
     have HOWN1:=Lib.hid hown1
     have HGR1:=Lib.hid hgrow1
     have HAT1:=Lib.hid hat1
     have HB4:=Lib.hid hB4
     have HB6:=Lib.hid hB6
     have HR6:=Lib.hid hR6
     have HZ6:=Lib.hid hz6
     have HB6w:=Lib.hid hb6
     have HOWN6:=Lib.hid hown6
     have HSRC6:=Lib.hid hsrc6
     obtain ⟨c40,c41,c42,c43,c44,c45,f4⟩:=box45_cells hB4
     obtain ⟨d60,d61,d62,d63,d64,d65,f6⟩:=box45_cells hB6
     clear hown1 hgrow1 hat1 hB4 hR4 hB5 hB6 hR6 hz6 hb6 hown6 hsrc6 hb4 c40 c41 c43 c44 c45 d60 d61 d62 d64 d65 f6)
  | (at_builtin;refine wpList_append_S rfl (.tmp 8) (.tmp 10) 31 rfl 3 k0 _ 1 8 Tryz.underlying31 hk0 hy0 hy1 hy2 rfl (by omega) (.slice (some ⟨w4.heap.size,0,none⟩) 0 0) 0 [] (some w4.heap.size) rfl HOWN6.out (.slice ma mk.length mc) mk.length (mk.map (Value.int .i64)) rfl HSRC6.out ints_one (by simp only [maxLen];omega) (by omega) ?_
     intro v2 w7 blk2 hown2 hgrow2 hat2
     obtain ⟨a2,c2,rfl⟩:=hown2.form
     simp only [Nat.zero_add] at hown2
     have hz7:=hgrow2.size
     have hlt6:=HZ6.out
     have hlt3:=HZ3.out
     have hB7:=(hgrow2.block w.heap.size (by omega) (by simp;omega)).trans HB6.out
     have hR7:=(hgrow2.block (w.heap.size+1) (by omega) (by simp;omega)).trans HR6.out
     have hB8:=box45_set3 hB7 (.slice a2 mk.length c2)
     have hR8:=(heap_set_ne (w:=w7) (g:=w.heap.size) (j:=3) (.slice a2 mk.length c2) (by omega:w.heap.size+1≠w.heap.size)).trans hR7
     have HOWN2:=Lib.hid hown2
     have HGR2:=Lib.hid hgrow2
     have HAT2:=Lib.hid hat2
     have HR8:=Lib.hid hR8
     have HW7:Hid (Below w.heap.size w w7):=HB6w.out.grown hgrow2 (by omega) (fun k hk=>by injection hk with hk;omega)
     obtain ⟨c70,c71,c72,c73,c74,c75,f7⟩:=box45_cells hB7
     obtain ⟨d80,d81,d82,d83,d84,d85,f8⟩:=box45_cells hB8
     obtain ⟨r80,r81,r82,r83,r84,r85,g8⟩:=box45_cells hR8
     clear hown2 hgrow2 hat2 hB7 hR7 hB8 hR8 c70 c71 c72 c74 c75))
 have h14:=box45_fill HR8.out (.slice sha s.length shc) (.int .i64 bd) (.slice a1 spl.length c1) (.slice a2 mk.length c2) (.bool sl) (.slice ba lt.length bc)
 refine bodyPost_ret (results_cell_row rfl _ _ (w.heap.size+1) 45 _ (0,0) _ rfl h14 Tryz.underlying45 rfl size45) rfl ?_
 have hb14:=fill_below (HW7.out.setCell (p:=⟨w.heap.size,3,none⟩) (Nat.le_refl _) (.slice a2 mk.length c2)) (by omega:w.heap.size≤w.heap.size+1) (.slice sha s.length shc) (.int .i64 bd) (.slice a1 spl.length c1) (.slice a2 mk.length c2) (.bool sl) (.slice ba lt.length bc)
 have hk7:∀ b,b≠w.heap.size→b≠w.heap.size+1→_=w7.heap[b]? := fun b h1 h2=>(fill_ne (w:=w7.setCell ⟨w.heap.size,3,none⟩ (.slice a2 mk.length c2)) h2 (.slice sha s.length shc) (.int .i64 bd) (.slice a1 spl.length c1) (.slice a2 mk.length c2) (.bool sl) (.slice ba lt.length bc)).trans (heap_set_ne _ h1)
 have hz3:=HZ3.out
 have hz6:=HZ6.out
 have hz4:=HGR1.out.size
 have hk4:∀ b,b<w4.heap.size→b≠w.heap.size→b≠w.heap.size+1→_=w4.heap[b]? := fun b h0 h1 h2=>(hk7 b h1 h2).trans ((HGR2.out.block b (by omega) (by simp;omega)).trans ((Below.heap_alloc _ _ _ (by simpa using h0)).trans (heap_set_ne _ h1)))
 have hn1:∀ b,blk1=some b→b=w.heap.size+2∨b=w.heap.size+3:=fun b hb=>by
  rcases HAT1.out with e | e <;> rw [hb] at e <;> injection e with e <;> omega
 have hn2:∀ b,blk2=some b→b=w4.heap.size∨b=w4.heap.size+1:=fun b hb=>by
  rcases HAT2.out with e | e <;> rw [hb] at e <;> injection e with e <;> omega
 refine ⟨⟨.slice sha s.length shc,(a1,c1),(a2,c2),.slice ba lt.length bc⟩,blk1,blk2,rfl,⟨(H.out.sch.keep fun b _ hlt=>hb14.block b hlt),⟨ps,HPS.out,?_,fun p hp=>(HROW.out p hp).keep fun b hb _=>(hb14.block b hb.2).trans (HB3.out.block b hb.2).symm⟩,?_,H.out.back.below hb14,?_,?_,?_⟩,?_,?_,hb14⟩
 · exact HOWN1.out.keep fun g hg=>hk4 g (HOWN1.out.lt_of hg) (by have:=hn1 g hg;omega) (by have:=hn1 g hg;omega)
 · exact HOWN2.out.keep fun g hg=>hk7 g (by have:=hn2 g hg;omega) (by have:=hn2 g hg;omega)
 · intro b hb hD;have:=hn1 b hb;omega
 · intro b hb hD;have:=hn2 b hb;omega
 · intro b hb e;have h1:=hn2 b e;have h2:=HOWN1.out.lt_of hb;omega
 · intro b hb;have:=hn1 b hb;omega
 · intro b hb;have:=hn2 b hb;omega
end leaves
theorem SlOwn.setJ {w:World} {e:TypeId} {size g o n cap:Nat} {xs:List Value} (h:SlOwn w e size (.slice (some ⟨g,o,none⟩) n cap) n xs (some g)) {j:Nat} (hj:j<n * size) (u:Value):SlOwn (w.setCell ⟨g,o+j,none⟩ u) e size (.slice (some ⟨g,o,none⟩) n cap) n (xs.set j u) (some g):=by
 obtain ⟨hl,h⟩:=h
 rcases h with ⟨hv,_⟩ | ⟨g',o',cap',cur,hb,hv,hg,hnc,hcm,hcs,htk⟩
 · cases hv
 · injection hb with hb
   injection hv with ha _ hc
   injection ha with ha
   injection ha with h1 h2
   subst hb h2 hc
   refine ⟨by simpa using hl,.inr ⟨g,o,cap,_,rfl,rfl,heap_set hg u,hnc,hcm,by simpa using hcs,?_⟩⟩
   have hnm:n * size≤cap * size:=Nat.mul_le_mul_right _ hnc
   rw [Array.toList_setIfInBounds]
   rw [← htk]
   generalize n * size=k at hj hnm ⊢
   generalize cap * size=q at hnm hcs
   refine List.ext_getElem? fun i=>?_
   simp only [List.getElem?_take,List.getElem?_drop,List.getElem?_set]
   by_cases e1:o+j=o+i
   · have e2:j=i:=by omega
     subst e2
     simp only [if_true,List.length_take,List.length_drop,hj]
     have:o+j<cur.size:=by omega
     have h2:j<min k (cur.toList.length - o):=by simp;omega
     rw [if_pos (by simpa using this),if_pos h2]
   · have e2:¬ j=i:=fun h=>e1 (by rw [h])
     rw [if_neg e1,if_neg e2]
theorem SlOwn.frozen {w:World} {e:TypeId} {size g o n cap:Nat} {xs:List Value} {blk:Option Nat} (h:SlOwn w e size (.slice (some ⟨g,o,none⟩) n cap) n xs blk) (j:Nat):w.frozen? ⟨g,j,none⟩=false:=by
 rcases h.2 with ⟨hv,_⟩ | ⟨g',o',cap',cur,hb,hv,hg,_⟩
 · cases hv
 · injection hv with ha _ _
   injection ha with ha
   injection ha with h1 h2
   subst h1
   simp [World.frozen?,hg]
theorem RefO.setMark {w w':World} {D:Nat→Prop} {s:List Col} {m:WlM} {p:RS} {sb mb:Option Nat} (h:RefO w D s m p sb mb) {l:List Int} (hl:l.length=m.marks.length) (hk:∀ b,b<w.heap.size→mb≠some b→w'.heap[b]? = w.heap[b]?)
 (ho:SlOwn w' 3 1 (.slice p.mks.1 m.marks.length p.mks.2) m.marks.length (l.map (Value.int .i64)) mb):RefO w' D s { m with marks:=l } p sb mb :=
 ⟨h.sch.keep fun b hb hlt=>hk b hlt (fun e=>h.mD b e hb),h.spl.keep fun b hb hlt=>hk b hlt (fun e=>by rcases hb with hb | hb;exact h.mD b e hb;exact h.ne b hb e),by rw [hl];exact ho,h.back.keep fun b hb hlt=>hk b hlt (fun e=>h.mD b e hb),h.sD,h.mD,h.ne⟩
theorem refV_risen (m:WlM) (p:RS) (r:Nat):refV (risenM m r) p=refV m p:=by
 simp only [refV,risenM_splits,risenM_sealed,risenM_bound,risenM_len]
abbrev fill45 (w:World) (g:Nat) (a b c d e f:Value):World:=(((((w.setCell ⟨g,0,none⟩ a).setCell ⟨g,1,none⟩ b).setCell ⟨g,2,none⟩ c).setCell ⟨g,3,none⟩ d).setCell ⟨g,4,none⟩ e).setCell ⟨g,5,none⟩ f
theorem Only.fill {S:Nat→Prop} {a w:World} (h:Only S a w) {g:Nat} (hg:g<a.heap.size→S g) (x0 x1 x2 x3 x4 x5:Value):Only S a (fill45 w g x0 x1 x2 x3 x4 x5) :=
 (((((h.setCell (p:=⟨g,0,none⟩) hg _).setCell (p:=⟨g,1,none⟩) hg _).setCell (p:=⟨g,2,none⟩) hg _).setCell (p:=⟨g,3,none⟩) hg _).setCell (p:=⟨g,4,none⟩) hg _).setCell (p:=⟨g,5,none⟩) hg _
theorem RefO.finish {w w2:World} {D:Nat→Prop} {s:List Col} {m:WlM} {p:RS} {sb mb:Option Nat} (h:RefO w D s m p sb mb) {l:List Int} (hl:l.length=m.marks.length) (ho:Only (fun b=>mb=some b) w w2)
 (hm:SlOwn w2 3 1 (.slice p.mks.1 m.marks.length p.mks.2) m.marks.length (l.map (Value.int .i64)) mb) {g:Nat} (hg:w.heap.size≤g) (x0 x1 x2 x3 x4 x5:Value) :
 RefO (fill45 w2 g x0 x1 x2 x3 x4 x5) D s { m with marks:=l } p sb mb∧Only (fun b=>mb=some b) w (fill45 w2 g x0 x1 x2 x3 x4 x5):=by
 have hof:=ho.fill (g:=g) (fun h=>by omega) x0 x1 x2 x3 x4 x5
 exact ⟨h.setMark hl (fun b hb hn=>hof.block b hb hn) (hm.keep fun b hb=>fill_ne (by have:=h.mks.lt_of hb;omega) _ _ _ _ _ _),hof⟩
section leaves
set_option maxHeartbeats 1000000
set_option maxRecDepth 10000
theorem f133_any (w:World) (D:Nat→Prop) (s:List Col) (m:WlM) (p:RS) (sb mb:Option Nat) (r:Nat) (h:RefO w D s m p sb mb) (hok:WOk m) (hr:r<m.marks.length) :
 Calls Tryz.prog 133 #[refV m p,.int .i64 r] w fun e w'=>e=.returned (refV (risenM m r) p)∧RefO w' D s (risenM m r) p sb mb∧Only (fun b=>mb=some b) w w':=by
 rw [refV_risen]
 have H:=Lib.hid h
 obtain ⟨sch,⟨sa,sc⟩,⟨ma,mc⟩,back⟩:=p
 have h50:=hok.splits
 have h16:=hok.hi
 have HG:=Lib.hid hok.gauge
 have HMK:=Lib.hid hok.marks
 obtain ⟨sha,shc,rfl⟩:∃ a c,sch=.slice a s.length c:=by obtain ⟨a,c,e,_⟩:=h.sch;exact ⟨a,c,e⟩
 obtain ⟨ba,bc,rfl⟩:∃ a c,back=.slice a m.late.length c:=by obtain ⟨a,c,e,_⟩:=h.back;exact ⟨a,c,e⟩
 clear h hok
 obtain ⟨sl,hsl⟩:∃ b,m.sealed=b:=⟨_,rfl⟩
 have HSL:=Lib.hid hsl
 have hB2:((w.alloc (.cells #[.slice sha s.length shc,.int .i64 m.bound,.slice sa m.splits.length sc,.slice ma m.marks.length mc,.bool sl,.slice ba m.late.length bc] 45)).alloc (.cells #[.slice none 0 0,.int .i64 0,.slice none 0 0,.slice none 0 0,.bool false,.slice none 0 0] 45)).heap[w.heap.size]? = some (.cells #[.slice sha s.length shc,.int .i64 m.bound,.slice sa m.splits.length sc,.slice ma m.marks.length mc,.bool sl,.slice ba m.late.length bc] 45 (0,0)):=alloc_keep (heap_alloc_new w _)
 have hR2:((w.alloc (.cells #[.slice sha s.length shc,.int .i64 m.bound,.slice sa m.splits.length sc,.slice ma m.marks.length mc,.bool sl,.slice ba m.late.length bc] 45)).alloc (.cells #[.slice none 0 0,.int .i64 0,.slice none 0 0,.slice none 0 0,.bool false,.slice none 0 0] 45)).heap[w.heap.size+1]? = some (.cells #[.slice none 0 0,.int .i64 0,.slice none 0 0,.slice none 0 0,.bool false,.slice none 0 0] 45 (0,0)):=by simpa using heap_alloc_new (w.alloc (.cells #[.slice sha s.length shc,.int .i64 m.bound,.slice sa m.splits.length sc,.slice ma m.marks.length mc,.bool sl,.slice ba m.late.length bc] 45)) (.cells #[.slice none 0 0,.int .i64 0,.slice none 0 0,.slice none 0 0,.bool false,.slice none 0 0] 45)
 have hb2:Below w.heap.size w ((w.alloc (.cells #[.slice sha s.length shc,.int .i64 m.bound,.slice sa m.splits.length sc,.slice ma m.marks.length mc,.bool sl,.slice ba m.late.length bc] 45)).alloc (.cells #[.slice none 0 0,.int .i64 0,.slice none 0 0,.slice none 0 0,.bool false,.slice none 0 0] 45)):=((Below.refl _ _).alloc (Nat.le_refl _) _).alloc (by simp) _
 have hz2:((w.alloc (.cells #[.slice sha s.length shc,.int .i64 m.bound,.slice sa m.splits.length sc,.slice ma m.marks.length mc,.bool sl,.slice ba m.late.length bc] 45)).alloc (.cells #[.slice none 0 0,.int .i64 0,.slice none 0 0,.slice none 0 0,.bool false,.slice none 0 0] 45)).heap.size=w.heap.size+2:=by simp
 have HB2:=Lib.hid hB2
 have HR2:=Lib.hid hR2
 have HW2:=Lib.hid hb2
 have HZ2:=Lib.hid hz2
 clear hB2 hR2 hb2 hz2
 show Calls Tryz.prog 133 #[.agg #[.slice sha s.length shc,.int .i64 m.bound,.slice sa m.splits.length sc,.slice ma m.marks.length mc,.bool m.sealed,.slice ba m.late.length bc],.int .i64 r] w _
 rw [hsl]
 clear hsl
 go_enter Tryz.func133,Tryz.ntmps133
 go_wp2_with fail
 go_quiet (fail)
 go_wp2_with fail
 go_loopw [5,6,7] (fun t u i wr=>∃ k:Nat,k≤m.splits.length∧i=.int .i64 k∧t=.int .i64 (riseN (m.splits.take k) sl r).1∧u=.bool (riseN (m.splits.take k) sl r).2∧Hid (Below ((w.alloc (.cells #[.slice sha s.length shc,.int .i64 m.bound,.slice sa m.splits.length sc,.slice ma m.marks.length mc,.bool sl,.slice ba m.late.length bc] 45)).alloc (.cells #[.slice none 0 0,.int .i64 0,.slice none 0 0,.slice none 0 0,.bool false,.slice none 0 0] 45)).heap.size ((w.alloc (.cells #[.slice sha s.length shc,.int .i64 m.bound,.slice sa m.splits.length sc,.slice ma m.marks.length mc,.bool sl,.slice ba m.late.length bc] 45)).alloc (.cells #[.slice none 0 0,.int .i64 0,.slice none 0 0,.slice none 0 0,.bool false,.slice none 0 0] 45)) wr)) (fun _ _ i _=>m.splits.length - (intOf i).toNat)
 case atStart=>exact ⟨0,by omega,rfl,rfl,rfl,Lib.hid (Drew.belowW ⟨_,rfl⟩)⟩
 case round =>
  obtain ⟨k,hk,rfl,rfl,rfl,hbr⟩:=hrel
  have hwr:Hid (Below w.heap.size w wr):=HW2.out.trans (hbr.out.mono HW2.out.size)
  have hBr:=(hbr.out.block _ (heap_lt HB2.out)).trans HB2.out
  have hRr:=(hbr.out.block _ (heap_lt HR2.out)).trans HR2.out
  have HBr:=Lib.hid hBr
  have HRr:=Lib.hid hRr
  obtain ⟨b0,b1,b2,b3,b4,b5,bf⟩:=box45_cells hBr
  clear hBr hRr
  have hR:=H.out.below hwr.out
  by_cases hlt:k<m.splits.length
  · obtain ⟨g,o,e1,e2,rfl,hg,-,x0,x1,x2,x3,x4,x5⟩:=hR.spl.spls.at hlt
    have H89:=Lib.hid (f89_any m.splits[k] e1 e2 wr)
    have hb0:=riseN_bound (l:=m.splits.take k) (sl:=sl) (r:=r) (fun x hx=>HG.out x (List.mem_of_mem_take hx))
    have HS:Hid (riseN (m.splits.take (k+1)) sl r=riseStep r ((riseN (m.splits.take k) sl r).1,(riseN (m.splits.take k) sl r).2) m.splits[k]):=riseN_take hlt
    generalize (riseN (m.splits.take k) sl r).1=T at *
    generalize (riseN (m.splits.take k) sl r).2=U at *
    obtain ⟨dn,hdn⟩:∃ b,m.splits[k].done=b:=⟨_,rfl⟩
    rw [hdn] at H89
    have HDN:=Lib.hid hdn
    have hon:(m.splits[k].owner == r)=((m.splits[k].owner:Int) == (r:Int)):=by rw [Bool.eq_iff_iff];simp only [beq_iff_eq];omega
    clear hdn hR
    cases ho:((m.splits[k].owner:Int) == (r:Int))
    · have HU:Hid (riseN (m.splits.take (k+1)) sl r=(T,U)):=by
       show _=_
       rw [HS.out,riseStep,hon,ho];rfl
      clear hon
      go_wp2_with fail
      go_roundw
      case rel=>exact ⟨k+1,by omega,by go_num,by rw [HU.out],by rw [HU.out],hbr⟩
      case measure=>simp [intOf];omega
    · have HU:Hid (riseN (m.splits.take (k+1)) sl r=if dn=true then (T,U) else (if m.splits[k].gauge<T then m.splits[k].gauge else T,true)):=by
       show _=_
       rw [HS.out,riseStep,hon,ho,HDN.out];cases dn <;> rfl
      clear hon HS
      have HC:Hid (∀ w1,Below wr.heap.size wr w1→w1.cell? ⟨w.heap.size,2,none⟩=some (.slice (some ⟨g,o,none⟩) m.splits.length sc)∧w1.cell? ⟨g,o+k * 6+4,none⟩=some (.int .i64 m.splits[k].gauge)) :=
       fun w1 h=>⟨by rw [h.cell (p:=⟨w.heap.size,2,none⟩) (heap_lt HBr.out)];exact b2,by rw [h.cell (p:=⟨g,o+k * 6+4,none⟩) hg];exact x4⟩
      cases dn
      · by_cases hgt:m.splits[k].gauge<T
        · go_wp2_with (go_at_call 89;(with_reducible refine H89.out.mono ?_);rintro e w1 ⟨rfl,hb1⟩;obtain ⟨z2,z4⟩:=HC.out w1 hb1;have HB1:=Lib.hid hb1;clear hb1)
          go_roundw
          case rel=>exact ⟨k+1,by omega,by go_num,by rw [HU.out];simp [hgt],by rw [HU.out];simp,Lib.hid (below_then hbr.out HB1.out)⟩
          case measure=>simp [intOf];omega
        · go_wp2_with (go_at_call 89;(with_reducible refine H89.out.mono ?_);rintro e w1 ⟨rfl,hb1⟩;obtain ⟨z2,z4⟩:=HC.out w1 hb1;have HB1:=Lib.hid hb1;clear hb1)
          go_roundw
          case rel=>exact ⟨k+1,by omega,by go_num,by rw [HU.out];simp only [Bool.false_eq_true,if_false];rw [if_neg (by omega)],by rw [HU.out];simp,Lib.hid (below_then hbr.out HB1.out)⟩
          case measure=>simp [intOf];omega
      · go_wp2_with (go_at_call 89;(with_reducible refine H89.out.mono ?_);rintro e w1 ⟨rfl,hb1⟩;obtain ⟨z2,z4⟩:=HC.out w1 hb1;have HB1:=Lib.hid hb1;clear hb1)
        go_roundw
        case rel=>exact ⟨k+1,by omega,by go_num,by rw [HU.out];simp,by rw [HU.out];simp,Lib.hid (below_then hbr.out HB1.out)⟩
        case measure=>simp [intOf];omega
  · have hkl:k=m.splits.length:=by omega
    subst hkl
    rw [List.take_length]
    have HR:=Lib.hid hR
    clear hR
    have hb0:=riseN_bound (l:=m.splits) (sl:=sl) (r:=r) HG.out
    have HRM:Hid (risenM m r=if ((riseN m.splits sl r).2 && decide (m.marks[r]<(riseN m.splits sl r).1))=true then { m with marks:=m.marks.set r (riseN m.splits sl r).1 } else m):=by
     show risenM m r=_
     rw [risenM,HSL.out]
     simp [List.getD,hr]
    generalize (riseN m.splits sl r).1=T at *
    generalize (riseN m.splits sl r).2=U at *
    obtain ⟨r0,r1,r2,r3,r4,r5,rf⟩:=box45_cells HRr.out
    obtain ⟨g,o,hma⟩:=HR.out.mks.some_of (by omega)
    dsimp only at hma
    subst hma
    have hmb:=own_blk HR.out.mks
    have hgw:g<w.heap.size:=H.out.mks.lt_of hmb
    have m1:=HR.out.mks.cell r (.int .i64 m.marks[r]) (by simp [hr])
    have mf:=HR.out.mks.frozen (o+r)
    have hne:w.heap.size≠g:=by omega
    have hne1:w.heap.size+1≠g:=by omega
    have HMB:=Lib.hid hmb
    clear hmb
    have HOW:Hid (Only (fun b=>mb=some b) w wr):=Only.of_below hwr.out
    cases U
    · go_wp2_with fail
      refine bodyPost_ret (results_cell_row rfl _ _ (w.heap.size+1) 45 _ (0,0) _ rfl (box45_fill HRr.out _ _ _ _ _ _) Tryz.underlying45 rfl size45) rfl ?_
      obtain ⟨f1,f2⟩:=H.out.finish rfl HOW.out HR.out.mks (Nat.le_succ w.heap.size) (.slice sha s.length shc) (.int .i64 m.bound) (.slice sa m.splits.length sc) (.slice (some ⟨g,o,none⟩) m.marks.length mc) (.bool sl) (.slice ba m.late.length bc)
      exact ⟨by simp only [refV];rw [HSL.out],by rw [HRM.out];exact f1,f2⟩
    · by_cases hgt:m.marks[r]<T
      · have hB2:=(heap_set_ne (w:=wr) (g:=g) (j:=o+r) (.int .i64 T) hne).trans HBr.out
        have hR2:=(heap_set_ne (w:=wr) (g:=g) (j:=o+r) (.int .i64 T) hne1).trans HRr.out
        have HR2':=Lib.hid hR2
        obtain ⟨p0,p1,p2,p3,p4,p5,pf⟩:=box45_cells hB2
        obtain ⟨q0,q1,q2,q3,q4,q5,qf⟩:=box45_cells hR2
        clear hB2 hR2
        go_wp2_with fail
        refine bodyPost_ret (results_cell_row rfl _ _ (w.heap.size+1) 45 _ (0,0) _ rfl (box45_fill HR2'.out _ _ _ _ _ _) Tryz.underlying45 rfl size45) rfl ?_
        have hset:=HR.out.mks
        dsimp only at hset
        rw [HMB.out] at hset
        have hset2:=hset.setJ (j:=r) (by omega) (.int .i64 T)
        rw [← HMB.out] at hset2
        obtain ⟨f1,f2⟩:=H.out.finish (l:=m.marks.set r T) (by simp) (HOW.out.setCell (p:=⟨g,o+r,none⟩) (fun _=>HMB.out) (.int .i64 T)) (by rw [List.map_set];exact hset2) (Nat.le_succ w.heap.size) (.slice sha s.length shc) (.int .i64 m.bound) (.slice sa m.splits.length sc) (.slice (some ⟨g,o,none⟩) m.marks.length mc) (.bool sl) (.slice ba m.late.length bc)
        exact ⟨by simp only [refV];rw [HSL.out],by rw [HRM.out,if_pos (by simpa using hgt)];exact f1,f2⟩
      · go_wp2_with fail
        refine bodyPost_ret (results_cell_row rfl _ _ (w.heap.size+1) 45 _ (0,0) _ rfl (box45_fill HRr.out _ _ _ _ _ _) Tryz.underlying45 rfl size45) rfl ?_
        obtain ⟨f1,f2⟩:=H.out.finish rfl HOW.out HR.out.mks (Nat.le_succ w.heap.size) (.slice sha s.length shc) (.int .i64 m.bound) (.slice sa m.splits.length sc) (.slice (some ⟨g,o,none⟩) m.marks.length mc) (.bool sl) (.slice ba m.late.length bc)
        exact ⟨by simp only [refV];rw [HSL.out],by rw [HRM.out,if_neg (by simpa using hgt)];exact f1,f2⟩
end leaves
end Go.Proofs.YtimahogkcmmcnaaGreatDoor
