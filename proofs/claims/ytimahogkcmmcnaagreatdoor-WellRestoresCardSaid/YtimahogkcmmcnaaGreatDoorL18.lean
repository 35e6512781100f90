/-
 The well, part 57: a meet of one input made. No conditions but those stated.
-/
import Derived.Test.YtimahogkcmmcnaaGreatDoorL17
import Derived.Test.YtimahogkcmmcnaaGreatDoorL16
set_option linter.unusedSimpArgs false
set_option linter.unusedVariables false
namespace Go.Proofs.YtimahogkcmmcnaaGreatDoor
open Go.RowKit Go.Proofs.YtimahogkcmmcnaaGreatDoor.Cmps
section leaves
set_option maxHeartbeats 2000000
set_option maxRecDepth 100000
theorem f245_one (w:World):Calls Tryz.prog 245 #[.int .u64 1,.int .u64 1] w fun e w'=>e=.returned (.tuple #[.int .u64 0,.int .u64 1])∧w=w':=by
 go_enter Tryz.func245,Tryz.ntmps245
 go_wp2_with fail
 go_ret2
 exact ⟨rfl,rfl⟩
theorem f186_one (w:World):Calls Tryz.prog 186 #[.int .u64 1,.int .u64 1] w fun e w'=>e=.returned (.tuple #[.int .u64 0,.int .u64 1])∧w=w':=by
 have H:=Lib.hid (f245_one w)
 go_enter Tryz.func186,Tryz.ntmps186
 go_wp2_with (go_at_call 245;(with_reducible refine H.out.mono ?_);rintro e w1 ⟨rfl,rfl⟩)
 go_ret2
 exact ⟨rfl,rfl⟩
theorem make199 (w:World):(Instr.makeSlice 199 (.int .i64 1) (.int .i64 1)).run Tryz.prog w=.ok (.slice (some ⟨w.heap.size,0,none⟩) 1 1) (w.alloc (.cells #[.int .i64 0,.bool false,.bool false] 202)):=by kernel_rfl
theorem size202:(Tryz.prog.info? 202).map (·.size)=some 3:=by kernel_rfl
theorem copy199 (w:World) (b:Nat) (c:Array Value) (Z:Array Value) (h:w.heap[b]? = some (.cells c 202 (0,0))) (hc:c.size=3) (hZ:Z.size=3) (h1:c.all (·.oneCell')=true) :
 (Builtin.copy_ #[199,199] 3 #[.slice (some ⟨w.heap.size,0,none⟩) 1 1,.slice (some ⟨b,0,none⟩) 1 1]).run Tryz.prog (w.alloc (.cells Z 202))=.ok (.int .i64 1) (w.alloc (.cells c 202)):=by
 have hb:(w.alloc (.cells Z 202)).heap[b]? = some (.cells c 202 (0,0)):=alloc_keep h
 have hl:=run_loadCells_list (P:=Tryz.prog) (w:=w.alloc (.cells Z 202)) ⟨b,0,none⟩ c.toList (fun j v hv=>by
  rw [add_o,cell_of_row _ b _ c 202 (0,0) hb]
  simpa using hv)
 have hst:=run_storeCells_new (P:=Tryz.prog) w 202 Z c (by rw [size202,hc]) (by rw [hZ,hc]) h1
 cases hq:Tryz.prog.info? 202 with
 | none=>have h:=size202;simp [hq] at h
 | some i =>
   have hi:i.size=3:=by simpa [hq] using size202
   have hm:Nat.min 1 1=1:=rfl
   rw [show c.toList.length=3 by simpa using hc] at hl
   simp [Builtin.copy_,run_underlying Tryz.underlying199,Builtin.lenOf,Builtin.firstCells,sizeOf,typeInfo,hq,hi,hm,hl,hst,goInt]
theorem f130_one (w:World) (b:Nat) (h:w.heap[b]? = some (.cells #[.int .i64 (-1000000000000),.bool false,.bool false] 202 (0,0))) :
 Calls Tryz.prog 130 #[.slice (some ⟨b,0,none⟩) 1 1,.int .i64 1] w fun e w'=>e=.returned (.slice (some ⟨w.heap.size,0,none⟩) 1 1)∧w'=w.alloc (.cells #[.int .i64 (-1000000000000),.bool false,.bool false] 202):=by
 have H:=Lib.hid (f186_one w)
 have hcp:=copy199 w b _ #[.int .i64 0,.bool false,.bool false] h rfl rfl (by simp [Value.oneCell'])
 have hmk:=make199 w
 clear h
 go_enter Tryz.func130,Tryz.ntmps130
 go_wp2_with (go_at_call 186;(with_reducible refine H.out.mono ?_);rintro e w1 ⟨rfl,rfl⟩)
 go_loopw [8] (fun i wr=>i=.int .i64 1∧wr=w.alloc (.cells #[.int .i64 (-1000000000000),.bool false,.bool false] 202)) (fun i _=>0)
 case atStart=>exact ⟨rfl,rfl⟩
 case round =>
  obtain ⟨rfl,rfl⟩:=hrel
  go_wp2_with fail
  go_ret
  exact ⟨rfl,rfl⟩
theorem three_more (w:World) (A B C:Obj):(((w.alloc A).alloc B).alloc C).heap[w.heap.size+1]? = some B∧(((w.alloc A).alloc B).alloc C).heap[w.heap.size+2]? = some C∧(((w.alloc A).alloc B).alloc C).heap.size=w.heap.size+3∧Below w.heap.size w (((w.alloc A).alloc B).alloc C):=by
 have h1:((w.alloc A).alloc B).heap[w.heap.size+1]? = some B:=by simpa using heap_alloc_new (w.alloc A) B
 have h2:(((w.alloc A).alloc B).alloc C).heap[w.heap.size+2]? = some C:=by simpa using heap_alloc_new ((w.alloc A).alloc B) C
 exact ⟨alloc_keep h1,h2,by simp,(((Below.refl _ _).alloc (Nat.le_refl _) _).alloc (by simp) _).alloc (by simp;omega) _⟩
theorem f46_one (w:World) :
 Calls Tryz.prog 46 #[.int .i64 1] w fun e w'=>e=.returned (.tuple #[ptr (w.heap.size+2),.int .i64 0])∧w'.heap[w.heap.size+2]? = some (.cells #[.slice (some ⟨w.heap.size+1,0,none⟩) 1 1,.int .i64 (-1000000000000)] 204 (0,0))∧w'.heap[w.heap.size+1]? = some (.cells #[.int .i64 (-1000000000000),.bool false,.bool false] 202 (0,0))∧w'.heap.size=w.heap.size+3∧Below w.heap.size w w':=by
 have H:=Lib.hid (f129_any w 1 1 8)
 rw [show withinB 1 1 8=true by rfl] at H
 have HX:Hid ((w.alloc (.cells #[.int .i64 (-1000000000000),.bool false,.bool false] 202)).heap[w.heap.size]? = some (.cells #[.int .i64 (-1000000000000),.bool false,.bool false] 202 (0,0))):=heap_alloc_new w _
 have H130:=Lib.hid (f130_one (w.alloc (.cells #[.int .i64 (-1000000000000),.bool false,.bool false] 202)) w.heap.size HX.out)
 unfold ptr
 go_enter Tryz.func46,Tryz.ntmps46
 go_wp2_with (first
  | (go_at_call 129;(with_reducible refine H.out.mono ?_);rintro e w1 ⟨rfl,rfl⟩)
  | (go_at_call 130;(with_reducible refine H130.out.mono ?_);rintro e w1 ⟨rfl,rfl⟩))
 go_ret2
 have h3:=three_more w (.cells #[.int .i64 (-1000000000000),.bool false,.bool false] 202) (.cells #[.int .i64 (-1000000000000),.bool false,.bool false] 202) (.cells #[.slice (some ⟨w.heap.size+1,0,none⟩) 1 1,.int .i64 (-1000000000000)] 204)
 exact ⟨rfl,h3.2.1,h3.1,h3.2.2.1,h3.2.2.2⟩
section kept
variable {w w' : World} {col col' : Nat → Nat} {s : List Col} {ws : WS} {m : WlM}
theorem WAt.addReader (h:WAt w col s ws m) {bm bi:Nat} {rd:Value} {rb:Option Nat} {n:Int}
 (k:Kept w w' col col' (fun c=>c=1∨c=4)) (cm:col' bm=8 * m.marks.length+11) (ci:col' bi=8 * m.marks.length+12) (cr:∀ b,rb=some b→col' b=4)
 (hW:w'.heap[ws.W]? = some (.cells #[ws.sch,.int .i64 m.bound,ws.spl,.map (some ws.mp),rd,.bool m.sealed,ws.late] 99 (0,0)))
 (hR:SlOwn w' 104 1 rd (m.marks.length+1) (((List.range m.marks.length).map fun r=>ptr (ws.mb r)) ++ [ptr bm]) rb)
 (hB:w'.heap[bm]? = some (.cells #[.slice (some ⟨bi,0,none⟩) 1 1,.int .i64 n] 204 (0,0)))
 (hI:w'.heap[bi]? = some (.cells #[.int .i64 n,.bool false,.bool false] 202 (0,0))) :
 WAt w' col' s { ws with rd:=rd,rb:=rb,mb:=updF ws.mb m.marks.length bm,ib:=updF ws.ib m.marks.length bi } { m with marks:=m.marks ++ [n] }:=by
 have hlen:(m.marks ++ [n]).length=m.marks.length+1:=by simp
 have hold:∀ q (hq:q<m.marks.length),(m.marks ++ [n])[q]'(by omega)=m.marks[q]:=fun q hq=>List.getElem_append_left hq
 have hnew:(m.marks ++ [n])[m.marks.length]'(by omega)=n:=by simp
 have split:∀ {P:∀ q,q<(m.marks ++ [n]).length→Prop},(∀ q (hq:q<m.marks.length),P q (by omega))→P m.marks.length (by omega)→∀ q hq,P q hq:=by
  intro P h1 h2 q hq
  by_cases e:q=m.marks.length
  · subst e;exact h2
  · exact h1 q (by omega)
 refine ⟨k.new,k.colb h.cW (by omega) h.c0,fun b hb=>k.colb (h.cS b hb) (by omega) h.c0,k.colb h.cM (by omega) h.c0,cr,fun b hb=>k.colb (h.cL b hb) (by omega) h.c0,
  fun q hq=>k.colb (h.cX q hq) (by omega) h.c0,fun q hq=>k.colb (h.cG q hq) (by omega) h.c0,fun q b hq hb=>k.colb (h.cE q b hq hb) (by omega) h.c0,?_,?_,
  hW,k.sch (by omega) h.hC,k.own (by omega) h.cS h.hS,?_,k.evs (by omega) (by omega) h.cL h.hL,
  fun q hq=>k.obj (h.hX q hq) (h.cX q hq) (by omega),fun q hq=>k.obj (h.hG q hq) (h.cG q hq) (by omega),fun q hq=>k.evs (by omega) (by omega) (fun b hb=>h.cE q b hq hb) (h.hE q hq),?_,?_,k.obj h.hM h.cM (by omega),h.hN⟩
 · refine split (fun q hq=>?_) ?_
   · dsimp only;rw [updF_ne _ _ (by omega)];exact k.colb (h.cB q hq) (by omega) h.c0
   · dsimp only;rw [updF_same];exact cm
 · refine split (fun q hq=>?_) ?_
   · dsimp only;rw [updF_ne _ _ (by omega)];exact k.colb (h.cI q hq) (by omega) h.c0
   · dsimp only;rw [updF_same];exact ci
 · have e1:(List.range (m.marks ++ [n]).length).map (fun r=>ptr (updF ws.mb m.marks.length bm r))=((List.range m.marks.length).map fun r=>ptr (ws.mb r)) ++ [ptr bm]:=by
    rw [hlen,List.range_succ,List.map_append]
    congr 1
    · apply List.map_congr_left
      intro q hq
      have:q<m.marks.length:=by simpa using hq
      rw [updF_ne _ _ (by omega)]
    · simp [updF_same]
   rw [e1,hlen];exact hR
 · refine split (fun q hq=>?_) ?_
   · simp only [hold q hq]
     rw [updF_ne _ _ (by omega),updF_ne _ _ (by omega)];exact k.obj (h.hB q hq) (h.cB q hq) (by omega)
   · simp only [hnew,updF_same];exact hB
 · refine split (fun q hq=>?_) ?_
   · simp only [hold q hq]
     rw [updF_ne _ _ (by omega)];exact k.obj (h.hI q hq) (h.cI q hq) (by omega)
   · simp only [hnew,updF_same];exact hI
theorem WAt.first {b:Int} {W mp ck:Nat} {sch:Value} (hW:w.heap[W]? = some (.cells #[sch,.int .i64 b,.slice none 0 0,.map (some mp),.slice none 0 0,.bool false,.slice none 0 0] 99 (0,0))) (hm:w.heap[mp]? = some (.map #[] ck))
 (hne:mp≠W) (hs:SchemaAt w (fun b=>b<w.heap.size∧b≠W∧b≠mp) sch s) :
 WAt w (paint (paint (fun _=>0) (some W) 1) (some mp) 3) s ⟨W,sch,.slice none 0 0,none,mp,.slice none 0 0,none,.slice none 0 0,none,fun _=>0,fun _=>0,fun _=>.slice none 0 0,fun _=>none,fun _=>0,fun _=>0,#[],ck⟩ (newM b 0):=by
 have hWl:=heap_lt hW
 have hml:=heap_lt hm
 refine ⟨?_,?_,(fun b hb=>nomatch hb),?_,(fun b hb=>nomatch hb),(fun b hb=>nomatch hb),(fun k hk=>absurd hk (Nat.not_lt_zero _)),(fun k hk=>absurd hk (Nat.not_lt_zero _)),(fun k b hk=>absurd hk (Nat.not_lt_zero _)),?_,?_,hW,?_,SlOwn.nil _ _ _,SlOwn.nil _ _ _,?_,
  (fun k hk=>absurd hk (Nat.not_lt_zero _)),(fun k hk=>absurd hk (Nat.not_lt_zero _)),(fun k hk=>absurd hk (Nat.not_lt_zero _)),?_,?_,hm,rfl⟩
 · intro x hx
   unfold paint at hx
   by_cases e1:some mp=some x
   · injection e1 with e1;omega
   · rw [if_neg e1] at hx
     by_cases e2:some W=some x
     · injection e2 with e2;omega
     · rw [if_neg e2] at hx;exact absurd rfl hx
 · unfold paint;rw [if_neg (by intro e;injection e with e;exact hne e),if_pos rfl]
 · unfold paint;rw [if_pos rfl]
 · intro r hr;simp [newM] at hr
 · intro r hr;simp [newM] at hr
 · refine hs.mono fun x hx=>⟨hx.1,?_⟩
   unfold paint;rw [if_neg (by intro e;injection e with e;exact hx.2.2 e.symm),if_neg (by intro e;injection e with e;exact hx.2.1 e.symm)]
 · exact ⟨[],rfl,SlOwn.nil _ _ _,fun p hp=>by cases hp⟩
 · intro r hr;simp [newM] at hr
 · intro r hr;simp [newM] at hr
end kept
end leaves
theorem info104:(Tryz.prog.info? 104).map (fun i=>(i.zero,i.size,i.bytes))=some (some (.agg #[.pointer none]),1,8):=by kernel_rfl
section leaves
set_option maxHeartbeats 2000000
set_option maxRecDepth 100000
def NewTo (w:World) (s:List Col) (b r:Int) (e:Ending) (w':World):Prop :=
 Below w.heap.size w w'∧((newE s b r≠0∧e=.returned (.tuple #[.pointer none,.int .i64 (newE s b r)])) ∨
  (newE s b r=0∧∃ col ws,e=.returned (.tuple #[ptr ws.W,.int .i64 0])∧WAt w' col s ws (newM b r.toNat)∧∀ x,x<w.heap.size→col x=0))
theorem f16_any (hm:Tryz.prog.follows .mixedOrders=true) (w:World) (D:Nat→Prop) (v:Value) (s:List Col) (b r:Int) (hs:SchemaAt w D v s) :
 Calls Tryz.prog 16 #[v,.int .i64 b,.int .i64 r] w (NewTo w s b r):=by
 obtain ⟨i0,hi0,hz0,hz1,hz2⟩:=info_parts info104
 obtain ⟨sha,shc,rfl⟩:∃ a c,v=.slice a s.length c:=by obtain ⟨a,c,e,_⟩:=hs;exact ⟨a,c,e⟩
 have H36:=Lib.hid (f36_any w D _ s hs)
 have HS:=Lib.hid hs
 clear hs
 obtain ⟨vs,hvs⟩:∃ b,validSchema s=b:=⟨_,rfl⟩
 rw [hvs] at H36
 cases vs
 · have HE:Hid (newE s b r=1):=by show newE s b r=1;rw [newE,if_pos hvs]
   clear hvs
   go_enter Tryz.func16,Tryz.ntmps16
   go_wp2_with (go_at_call 36;(with_reducible refine H36.out.mono ?_);rintro e w2 ⟨rfl,hb⟩;have HB:=Lib.hid hb;clear hb)
   go_ret2
   exact ⟨HB.out,.inl ⟨by rw [HE.out];omega,by rw [HE.out];rfl⟩⟩
 · have HE:Hid (newE s b r=if b<0∨1000000000<b∨r<1∨16<r then 7 else 0):=by show newE s b r=_;rw [newE,hvs,if_neg (by simp)]
   have H44:Hid (∀ W,Below w.heap.size w W→Calls Tryz.prog 44 #[.slice sha s.length shc,.int .i64 b] W fun e w'=>e=.returned (.bool (decide (0≤b∧b≤1000000000)))∧Below W.heap.size W w'):=fun W hb=>f44_any hm W D sha shc s b (HS.out.below hb) hvs
   have hl8:1≤s.length∧s.length≤8:=by
    simp [validSchema] at hvs;exact hvs.2
   have H45:Hid (∀ W,Below w.heap.size w W→Calls Tryz.prog 45 #[.slice sha s.length shc] W (GivesSchema W s)):=fun W hb=>f45_any W _ s D (HS.out.below hb) (by omega) (by omega)
   clear hvs
   obtain ⟨g1,hg1⟩:∃ q,decide (0≤b∧b≤1000000000)=q:=⟨_,rfl⟩
   rw [hg1] at H44
   by_cases hbad:b<0∨1000000000<b∨r<1∨16<r
   · have HE7:Hid (newE s b r=7):=by show newE s b r=7;rw [HE.out,if_pos hbad]
     have fin:∀ (w':World) (v:Value) (e:Int),Below w.heap.size w w'→v=.pointer none→e=7→NewTo w s b r (.returned (.tuple #[v,.int .i64 e])) w':=by
      rintro w' v e hb rfl rfl
      exact ⟨hb,.inl ⟨by rw [HE7.out];omega,by rw [HE7.out]⟩⟩
     cases g1
     · clear HE hbad hg1
       go_enter Tryz.func16,Tryz.ntmps16
       go_wp2_with (first
        | (go_at_call 36;(with_reducible refine H36.out.mono ?_);rintro e w2 ⟨rfl,hb⟩;have HB2:=Lib.hid hb;clear hb)
        | (go_at_call 44;(with_reducible refine (H44.out _ HB2.out).mono ?_);rintro e w3 ⟨rfl,hb⟩;have HB3:=Lib.hid (HB2.out.trans (hb.mono HB2.out.size));clear hb))
       go_ret2
       exact fin _ _ _ HB3.out rfl rfl
     · have hg:0≤b∧b≤1000000000:=of_decide_eq_true hg1
       by_cases q3:r<1
       · clear HE hbad hg1
         go_enter Tryz.func16,Tryz.ntmps16
         go_wp2_with (first
          | (go_at_call 36;(with_reducible refine H36.out.mono ?_);rintro e w2 ⟨rfl,hb⟩;have HB2:=Lib.hid hb;clear hb)
          | (go_at_call 44;(with_reducible refine (H44.out _ HB2.out).mono ?_);rintro e w3 ⟨rfl,hb⟩;have HB3:=Lib.hid (HB2.out.trans (hb.mono HB2.out.size));clear hb))
         go_ret2
         exact fin _ _ _ HB3.out rfl rfl
       · have q4:16<r:=by omega
         clear HE hbad hg1
         go_enter Tryz.func16,Tryz.ntmps16
         go_wp2_with (first
          | (go_at_call 36;(with_reducible refine H36.out.mono ?_);rintro e w2 ⟨rfl,hb⟩;have HB2:=Lib.hid hb;clear hb)
          | (go_at_call 44;(with_reducible refine (H44.out _ HB2.out).mono ?_);rintro e w3 ⟨rfl,hb⟩;have HB3:=Lib.hid (HB2.out.trans (hb.mono HB2.out.size));clear hb))
         go_ret2
         exact fin _ _ _ HB3.out rfl rfl
   · have HE0:Hid (newE s b r=0):=by show newE s b r=0;rw [HE.out,if_neg hbad]
     obtain ⟨n,rfl⟩:∃ n:Nat,r=n:=⟨r.toNat,by omega⟩
     have q3:¬ (n:Int)<1:=by omega
     have q4:¬ (16:Int)<(n:Int):=by omega
     have hg1':g1=true:=by rw [← hg1];simp;omega
     subst hg1'
     have hmm:=@run_makeMap Tryz.prog
     clear HE hbad hg1
     go_enter Tryz.func16,Tryz.ntmps16
     go_wp2_with (first
      | (go_at_call 36;(with_reducible refine H36.out.mono ?_);rintro e w2 ⟨rfl,hb⟩;have HB2:=Lib.hid hb;clear hb)
      | (go_at_call 44;(with_reducible refine (H44.out _ HB2.out).mono ?_);rintro e w3 ⟨rfl,hb⟩;have HB3:=Lib.hid (HB2.out.trans (hb.mono HB2.out.size));clear hb)
      | (go_at_call 45;(with_reducible refine (H45.out _ HB3.out).mono ?_);rintro e w4 ⟨rv,rfl,hrv,hb⟩;obtain ⟨ra,rc,rfl⟩:∃ a c,rv=.slice a s.length c:=(by obtain ⟨a,c,e,_⟩:=hrv;exact ⟨a,c,e⟩);have HR:=Lib.hid hrv;have HB4:=Lib.hid (HB3.out.trans (hb.mono HB3.out.size));clear hb hrv))
     have hzB:w.heap.size≤w4.heap.size:=HB4.out.size
     have hA:(((w4.alloc (.map #[] 0)).alloc (.cells #[.slice ra s.length rc,.int .i64 b,.slice none 0 0,.map (some w4.heap.size),.slice none 0 0,.bool false,.slice none 0 0] 99)).heap[w4.heap.size+1]? = some (.cells #[.slice ra s.length rc,.int .i64 b,.slice none 0 0,.map (some w4.heap.size),.slice none 0 0,.bool false,.slice none 0 0] 99 (0,0))):=by simpa using heap_alloc_new (w4.alloc (.map #[] 0)) (.cells #[.slice ra s.length rc,.int .i64 b,.slice none 0 0,.map (some w4.heap.size),.slice none 0 0,.bool false,.slice none 0 0] 99)
     have hBB:Below w4.heap.size w4 ((w4.alloc (.map #[] 0)).alloc (.cells #[.slice ra s.length rc,.int .i64 b,.slice none 0 0,.map (some w4.heap.size),.slice none 0 0,.bool false,.slice none 0 0] 99)):=((Below.refl _ _).alloc (Nat.le_refl _) _).alloc (by simp) _
     have hWA:=Lib.hid (WAt.first (b:=b) (s:=s) hA (alloc_keep (heap_alloc_new w4 _)) (by omega) ((HR.out.keepB hBB).mono fun x hx=>⟨Nat.lt_of_lt_of_le hx.2 hBB.size,by omega,by omega⟩))
     have HBB:=Lib.hid (HB4.out.trans (hBB.mono hzB))
     clear hA hBB
     go_loopw [35] (fun i wr=>∃ (k:Nat) (col:Nat→Nat) (ws:WS),k≤n∧i=.int .i64 k∧ws.W=w4.heap.size+1∧Hid (WAt wr col s ws (newM b k))∧Hid (Below w.heap.size w wr)∧Hid (∀ x,x<w.heap.size→col x=0)) (fun i _=>n - (intOf i).toNat)
     case atStart =>
      refine ⟨0,_,_,by omega,rfl,rfl,hWA,HBB,Lib.hid fun x hx=>?_⟩
      unfold paint
      rw [if_neg (by intro e;injection e with e;omega),if_neg (by intro e;injection e with e;omega)]
     case round =>
      obtain ⟨k,col,ws,hk,rfl,hWe,hwa,hbr,hcol⟩:=hrel
      by_cases hlt:k<n
      · have h46:=f46_one wr
        unfold ptr at h46
        have H46:=Lib.hid h46
        clear h46
        obtain ⟨rda,rdc,hrd⟩:=hwa.out.rdForm
        have hlk:(newM b k).marks.length=k:=by simp [newM]
        rw [hlk] at hrd
        have hWc:=hwa.out.hW
        rw [hrd,hWe] at hWc
        have HW:=Lib.hid hWc
        have hO:=hwa.out.hR
        rw [hrd,hlk] at hO
        have HO:=Lib.hid hO
        have hWlt:=heap_lt hWc
        clear hWc hO
        go_wp2_with (first
         | (go_at_call 46;(with_reducible refine H46.out.mono ?_);rintro e w5 ⟨rfl,hm5,hi5,hz5,hb5⟩
            have hw5:=(hb5.block _ hWlt).trans HW.out
            have q4:w5.cell? ⟨w4.heap.size+1,4,none⟩=some (.slice rda k rdc):=cells_at hw5 4
            have HM5:=Lib.hid hm5;have HI5:=Lib.hid hi5;have HZ5:=Lib.hid hz5;have HB5:=Lib.hid hb5;have HW5:=Lib.hid hw5
            have HSRC:Hid (Src (w5.alloc (.cells #[.pointer (some ⟨wr.heap.size+2,0,none⟩)] 104)) 1 (.slice (some ⟨w5.heap.size,0,none⟩) 1 1) 1 [.pointer (some ⟨wr.heap.size+2,0,none⟩)]):=SlOwn.src (e:=104) (blk:=some w5.heap.size) ⟨rfl,.inr ⟨_,0,1,_,rfl,rfl,World.alloc_heap_new w5 _,Nat.le_refl _,by simp [maxLen],by simp,rfl⟩⟩
            have HO5:=Lib.hid (HO.out.keep (w':=w5.alloc (.cells #[.pointer (some ⟨wr.heap.size+2,0,none⟩)] 104)) fun g hg=>((Below.refl _ _).alloc (Nat.le_refl _) _:Below w5.heap.size w5 _).block g (Nat.lt_of_lt_of_le (HO.out.lt_of hg) hb5.size) |>.trans (hb5.block g (HO.out.lt_of hg)))
            clear hm5 hi5 hb5 hw5 hz5)
         | (at_builtin;refine wpList_append_S rfl (.tmp 45) (.tmp 48) 97 rfl 104 i0 _ 1 8 Tryz.underlying97 hi0 hz0 hz1 hz2 rfl (by omega) (.slice rda k rdc) k ((List.range k).map fun r=>ptr (ws.mb r)) ws.rb rfl HO5.out (.slice (some ⟨w5.heap.size,0,none⟩) 1 1) 1 [.pointer (some ⟨wr.heap.size+2,0,none⟩)] rfl HSRC.out (fun u hu=>by rw [List.mem_singleton] at hu;subst hu;rfl) (by simp only [maxLen];omega) (by omega) ?_
            intro v6 w6 rb6 h1 h2 h3
            obtain ⟨a6,c6,rfl⟩:=h1.form
            have H1:=Lib.hid h1;have H2:=Lib.hid h2;have H3:=Lib.hid h3
            have hne:some (w4.heap.size+1)≠ws.rb:=fun e=>by have h4:=hwa.out.cR _ e.symm;have h5:=hwa.out.cW;rw [hWe] at h5;omega
            have hw6:w6.heap[w4.heap.size+1]? = some (.cells #[ws.sch,.int .i64 (newM b k).bound,ws.spl,.map (some ws.mp),.slice rda k rdc,.bool (newM b k).sealed,ws.late] 99 (0,0)):=(h2.block _ (by have:=heap_lt HW5.out;simp;omega) hne).trans (alloc_keep HW5.out)
            have q46:w6.cell? ⟨w4.heap.size+1,4,none⟩=some (.slice rda k rdc):=cells_at hw6 4
            have hf6:w6.frozen? ⟨w4.heap.size+1,4,none⟩=false:=by simp [World.frozen?,hw6]
            have HW6:=Lib.hid hw6
            clear h1 h2 h3 hw6))
        have hkb:Hid (Only (fun x=>x=w4.heap.size+1∨ws.rb=some x) wr (w6.setCell ⟨w4.heap.size+1,4,none⟩ (.slice a6 (k+1) c6))) :=
         ((((Only.of_below HB5.out).alloc _).grown H2.out (fun q hq _=>.inr hq)).setCell (p:=⟨w4.heap.size+1,4,none⟩) (fun _=>.inl rfl) _)
        have hW7:Hid ((w6.setCell ⟨w4.heap.size+1,4,none⟩ (.slice a6 (k+1) c6)).heap[w4.heap.size+1]? = some (.cells #[ws.sch,.int .i64 (newM b k).bound,ws.spl,.map (some ws.mp),.slice a6 (k+1) c6,.bool (newM b k).sealed,ws.late] 99 (0,0))):=heap_set HW6.out _
        have hnew:∀ x,wr.heap.size≤x→col x=0:=fun x hx=>by
         by_cases e:col x=0
         · exact e
         · have:=hwa.out.c0 x e;omega
        have hrb6:∀ x,rb6=some x→(ws.rb=some x∧x<wr.heap.size)∨x=w5.heap.size+1:=fun x hx=>by
         rcases H3.out with e | e
         · rw [e] at hx;exact .inl ⟨hx,HO.out.lt_of hx⟩
         · rw [e] at hx;injection hx with hx;exact .inr (by simpa using hx.symm)
        have hz5:=HZ5.out
        have hsz7:(w6.setCell ⟨w4.heap.size+1,4,none⟩ (.slice a6 (k+1) c6)).heap.size=w6.heap.size:=by simp [World.setCell]
        have hsz6:w5.heap.size+1≤w6.heap.size:=by have:=H2.out.size;simpa using this
        have hrbl:∀ x,rb6=some x→x<w6.heap.size:=fun x hx=>H1.out.lt_of hx
        have hkeep:∀ (x:Nat) (o:Obj),x<wr.heap.size+3→wr.heap.size≤x→w5.heap[x]? = some o→(w6.setCell ⟨w4.heap.size+1,4,none⟩ (.slice a6 (k+1) c6)).heap[x]? = some o:=fun x o h1 h2 h3 =>
         (heap_set_ne _ (by omega)).trans ((H2.out.block x (by simp;omega) (fun e=>by have:=HO.out.lt_of e.symm;omega)).trans (alloc_keep h3))
        have hcolE:∀ x,x<wr.heap.size→paint (paint (paint col rb6 4) (some (wr.heap.size+2)) (8 * k+11)) (some (wr.heap.size+1)) (8 * k+12) x=col x:=fun x hx=>by
         unfold paint
         rw [if_neg (by intro e;injection e with e;omega),if_neg (by intro e;injection e with e;omega)]
         split
         · rename_i e
           rcases hrb6 x e with h | h
           · exact (hwa.out.cR x h.1).symm
           · omega
         · rfl
        have hkept:Kept wr (w6.setCell ⟨w4.heap.size+1,4,none⟩ (.slice a6 (k+1) c6)) col (paint (paint (paint col rb6 4) (some (wr.heap.size+2)) (8 * k+11)) (some (wr.heap.size+1)) (8 * k+12)) (fun c=>c=1∨c=4):=by
         refine ⟨hkb.out.size,hcolE,fun x hx hn=>hkb.out.block x hx (fun e=>hn ?_),fun x hx=>?_⟩
         · rcases e with rfl | e
           · left;have:=hwa.out.cW;rw [hWe] at this;exact this
           · right;exact hwa.out.cR x e
         · rw [hsz7]
           unfold paint at hx
           by_cases e1:some (wr.heap.size+1)=some x
           · injection e1 with e1;omega
           · rw [if_neg e1] at hx
             by_cases e2:some (wr.heap.size+2)=some x
             · injection e2 with e2;omega
             · rw [if_neg e2] at hx
               by_cases e3:rb6=some x
               · exact hrbl x e3
               · rw [if_neg e3] at hx
                 have:=hwa.out.c0 x hx;omega
        have hAR:=hwa.out.addReader (bm:=wr.heap.size+2) (bi:=wr.heap.size+1) (rd:=.slice a6 (k+1) c6) (rb:=rb6) (n := -1000000000000) hkept
         (by rw [hlk];unfold paint;rw [if_neg (by intro e;injection e with e;omega),if_pos rfl])
         (by rw [hlk];unfold paint;rw [if_pos rfl])
         (fun x hx=>by
           unfold paint
           rw [if_neg (by intro e;injection e with e;rcases hrb6 x hx with h | h <;> omega),if_neg (by intro e;injection e with e;rcases hrb6 x hx with h | h <;> omega),if_pos hx])
         (by rw [hWe];exact hW7.out)
         (by rw [hlk];exact H1.out.keep fun g hg=>heap_set_ne _ (by
           intro e
           rcases hrb6 g hg with h | h
           · have h4:=hwa.out.cR _ h.1;have h5:=hwa.out.cW;rw [hWe,← e] at h5;omega
           · have:=heap_lt HW5.out
             rw [← e,h] at this
             omega))
         (hkeep _ _ (by omega) (by omega) HM5.out) (hkeep _ _ (by omega) (by omega) HI5.out)
        have hnM:({ newM b k with marks:=(newM b k).marks ++ [-1000000000000] }:WlM)=newM b (k+1):=by
         simp [newM,List.replicate_succ']
        rw [hnM] at hAR
        go_roundw
        case rel =>
         refine ⟨k+1,_,_,by omega,by go_num,?_,Lib.hid hAR,Lib.hid (hbr.out.trans (hkb.out.below hbr.out.size ?_)),Lib.hid fun x hx=>?_⟩
         · exact hWe
         · rintro x (rfl | hx)
           · omega
           · by_cases h:w.heap.size≤x
             · exact h
             · have h1:=hcol.out x (by omega);have h2:=hwa.out.cR x hx;omega
         · rw [hcolE x (by have:=hbr.out.size;omega)];exact hcol.out x hx
        case measure=>simp [intOf];omega
      · have hkl:k=n:=by omega
        subst hkl
        go_wp2_with fail
        go_ret2
        exact ⟨hbr.out,.inr ⟨HE0.out,col,ws,by rw [hWe];rfl,hwa.out,hcol.out⟩⟩
end leaves
section leaves
set_option maxHeartbeats 1000000
set_option maxRecDepth 10000
theorem f147_any (w:World) (n:Int):Calls Tryz.prog 147 #[.int .i64 n] w fun e w'=>e=.returned (.bool true)∧w=w':=by
 go_enter Tryz.func147,Tryz.ntmps147
 go_wp2_with fail
 go_ret
 exact ⟨rfl,rfl⟩
theorem f148_any (hm:Tryz.prog.follows .mixedOrders=true) (w:World) (col:Nat→Nat) (s:List Col) (ws:WS) (m:WlM) (c:Nat) (a b:Int) (h:WAt w col s ws m) (hok:WOk m) (hc:w.cell? ⟨c,0,none⟩=some (ptr ws.W)) :
 Calls Tryz.prog 148 #[.int .i64 a,.int .i64 b,.pointer (some ⟨c,0,none⟩)] w fun e w'=>e=.returned (.int .i64 (cmpI (countN m.splits a) (countN m.splits b)))∧Below w.heap.size w w':=by
 have mixed:=hm
 have HK:Hid (∀ (r:Int) d os,Calls Tryz.prog 79 #[.pointer (some ⟨ws.W,0,none⟩),.int .i64 r] (Sort.grow (redrawn w d) os) fun e w''=>e=.returned (.int .i64 (countN m.splits r))∧∃ p:Regrown,w''=Sort.grow (redrawn w p.d) p.os) :=
  fun r d os=>Calls.regrown_of ((f79_any _ col s ws m r (h.below (below_regrown w d os)) hok).mono fun e w' ⟨h,hw⟩=>⟨h,hw ▸ Below.refl _ _⟩)
 have HM:Hid (∀ (x y:Int) d os,Calls Tryz.prog 111 #[.int .i64 x,.int .i64 y] (Sort.grow (redrawn w d) os) fun e w''=>e=.returned (.int .i64 (cmpI x y))∧∃ p:Regrown,w''=Sort.grow (redrawn w p.d) p.os) :=
  fun x y d os=>Calls.regrown_of ((f111_any x y _).mono fun e w' ⟨h,hw⟩=>⟨h,hw ▸ Below.refl _ _⟩)
 have hlt:=cell_lt hc
 unfold ptr at hc
 clear h hok
 go_enter Tryz.func148,Tryz.ntmps148
 go_wp2_with fail
 have hcl:=fun d os b' o' h=>(below_regrown w d os).cell (p:=⟨b',o',none⟩) h
 refine wp_region_quiet_below mixed (by kernel_rfl) ?_
 repeat (quiet_step (first | (with_reducible exact HK.out _ _ _) | (with_reducible exact HM.out _ _ _ _)))
 refine wpQuiet_nil ?_
 intro wq hw'
 have HQ:=Lib.hid (below_of_class hw')
 clear hw' hcl
 go_wp2_with fail
 go_ret
 exact ⟨rfl,HQ.out⟩
theorem cmpI_lt (a b:Nat):decide (cmpI (a:Int) (b:Int)<0)=decide (a<b):=by
 unfold cmpI
 by_cases h:a<b
 · have:(a:Int)<(b:Int):=by omega
   simp [this,h]
 · have h1:¬ (a:Int)<(b:Int):=by omega
   simp only [if_neg h1,h,decide_false]
   split <;> simp
theorem f146_any (hm:Tryz.prog.follows .mixedOrders=true) (w:World) (col:Nat→Nat) (s:List Col) (ws:WS) (m:WlM) (c:Nat) (a:Option Addr) (cap n:Nat) (blk:Option Nat) (h:WAt w col s ws m) (hok:WOk m) (hc:w.cell? ⟨c,0,none⟩=some (ptr ws.W))
 (ho:SlOwn w 3 1 (.slice a n cap) n ((List.range n).map fun (i:Nat)=>Value.int .i64 (i:Int)) blk) (h1:1≤n) (h16:n≤16) :
 Calls Tryz.prog 146 #[.slice a n cap,.func (.func 147) #[] #[],.func (.func 148) #[] #[.pointer (some ⟨c,0,none⟩)]] w fun e w'=>e=.returned (.tuple #[.int .i64 (fewN m.splits (n - 1):Nat),.bool true])∧Below w.heap.size w w':=by
 have H:=Lib.hid h
 have HOK:=Lib.hid hok
 have HC:=Lib.hid hc
 obtain ⟨g,o,rfl⟩:=ho.some_of (by omega)
 have HO:=Lib.hid ho
 have hg:=ho.lt_of (own_blk ho)
 clear h hok ho hc
 go_enter Tryz.func146,Tryz.ntmps146
 go_wp2_with fail
 go_loopw [8,9,14] (fun b f i wr=>∃ k:Nat,k≤n∧i=.int .i64 k∧b=.int .i64 (fewN m.splits (k - 1):Nat)∧f=.bool (decide (0<k))∧Hid (Below w.heap.size w wr)) (fun _ _ i _=>n - (intOf i).toNat)
 case atStart=>exact ⟨0,by omega,rfl,rfl,rfl,Lib.hid (Below.refl _ _)⟩
 case round =>
  obtain ⟨k,hk,rfl,rfl,rfl,hbr⟩:=hrel
  by_cases hlt:k<n
  · have x0:wr.cell? ⟨g,o+k,none⟩=some (.int .i64 (k:Int)):=by
     rw [hbr.out.cell (p:=⟨g,o+k,none⟩) hg]
     exact HO.out.cell k _ (by simp [hlt])
    have hglt:g<wr.heap.size:=cell_lt x0
    rcases Nat.eq_zero_or_pos k with rfl | hpos
    · have x00:wr.cell? ⟨g,o,none⟩=some (.int .i64 0):=by simpa using x0
      rw [show decide ((0:Nat)<0)=false from rfl]
      go_wp2_with (first
       | (go_at_call 147;(with_reducible refine (f147_any _ _).mono ?_);rintro e w1 ⟨rfl,rfl⟩))
      go_roundw
      case rel=>exact ⟨1,by omega,by go_num,rfl,rfl,hbr⟩
      case measure=>simp [intOf];omega
    · obtain ⟨j,rfl⟩:∃ j,k=j+1:=⟨k - 1,by omega⟩
      have H148:=Lib.hid (f148_any hm wr col s ws m c ((j+1:Nat):Int) ((fewN m.splits j:Nat):Int) (H.out.below hbr.out) HOK.out (by rw [hbr.out.cell (p:=⟨c,0,none⟩) (cell_lt HC.out)];exact HC.out))
      have hcm:=cmpI_lt (countN m.splits ((j+1:Nat):Int)) (countN m.splits ((fewN m.splits j:Nat):Int))
      have HS:=Lib.hid (fewN_succ m.splits j)
      simp only [Nat.add_sub_cancel]
      generalize cmpI (countN m.splits ((j+1:Nat):Int):Int) (countN m.splits ((fewN m.splits j:Nat):Int):Int)=cm at H148 hcm
      have hj1:((j+1:Nat):Int)=(j:Int)+1:=by omega
      rw [hj1] at H148
      rw [show decide (0<j+1)=true by simp]
      by_cases hcc:countN m.splits ((j+1:Nat):Int)<countN m.splits ((fewN m.splits j:Nat):Int)
      · have q:cm<0:=by rw [decide_eq_true hcc] at hcm;exact of_decide_eq_true hcm
        have HS2:Hid (fewN m.splits (j+1)=j+1):=by show _=_;rw [HS.out,if_pos hcc]
        clear hcm hcc HS
        generalize fewN m.splits j=f at H148
        go_wp2_with (first
         | (go_at_call 147;(with_reducible refine (f147_any _ _).mono ?_);rintro e w1 ⟨rfl,rfl⟩)
         | (go_at_call 148;(with_reducible refine H148.out.mono ?_);rintro e w2 ⟨rfl,hb⟩;have HB2:=Lib.hid hb;clear hb))
        go_roundw
        case rel=>exact ⟨j+1+1,by omega,by go_num,by simp only [Nat.add_sub_cancel];rw [HS2.out];rw [hj1],by simp,Lib.hid (below_then hbr.out HB2.out)⟩
        case measure=>simp [intOf];omega
      · have q:¬ cm<0:=by rw [decide_eq_false hcc] at hcm;exact of_decide_eq_false hcm
        have HS2:Hid (fewN m.splits (j+1)=fewN m.splits j):=by show _=_;rw [HS.out,if_neg hcc]
        clear hcm hcc HS
        generalize fewN m.splits j=f at H148 HS2 ⊢
        go_wp2_with (first
         | (go_at_call 147;(with_reducible refine (f147_any _ _).mono ?_);rintro e w1 ⟨rfl,rfl⟩)
         | (go_at_call 148;(with_reducible refine H148.out.mono ?_);rintro e w2 ⟨rfl,hb⟩;have HB2:=Lib.hid hb;clear hb))
        go_roundw
        case rel=>exact ⟨j+1+1,by omega,by go_num,by simp only [Nat.add_sub_cancel];rw [HS2.out],by simp,Lib.hid (below_then hbr.out HB2.out)⟩
        case measure=>simp [intOf];omega
  · have hkn:k=n:=by omega
    subst hkn
    have hp:decide (0<k)=true:=by simp;omega
    rw [hp]
    go_wp2_with fail
    go_ret2
    exact ⟨rfl,hbr.out⟩
theorem f78_any (hm:Tryz.prog.follows .mixedOrders=true) (w:World) (col:Nat→Nat) (s:List Col) (ws:WS) (m:WlM) (h:WAt w col s ws m) (hok:WOk m) :
 Calls Tryz.prog 78 #[ptr ws.W] w fun e w'=>e=.returned (.int .i64 (fewN m.splits (m.marks.length - 1):Nat))∧Below w.heap.size w w':=by
 obtain ⟨i0,hi0,hz0,hz1,hz2⟩:=info_parts info3
 obtain ⟨ra,rc,erd⟩:=h.rdForm
 obtain ⟨_,_,_,_,c4,_,_⟩:=h.cells
 rw [erd] at c4
 have H:=Lib.hid h
 have HOK:=Lib.hid hok
 have h16:=hok.hi
 have h1:=hok.lo
 have hWlt:=cell_lt c4
 have hw1:Below w.heap.size w (w.alloc (.cells #[.pointer (some ⟨ws.W,0,none⟩)] 40)):=(Below.refl _ _).alloc (Nat.le_refl _) _
 have HW1:=Lib.hid hw1
 have d4:(w.alloc (.cells #[.pointer (some ⟨ws.W,0,none⟩)] 40)).cell? ⟨ws.W,4,none⟩=some (.slice ra m.marks.length rc):=by rw [hw1.cell (p:=⟨ws.W,4,none⟩) hWlt];exact c4
 have hbx:(w.alloc (.cells #[.pointer (some ⟨ws.W,0,none⟩)] 40)).cell? ⟨w.heap.size,0,none⟩=some (.pointer (some ⟨ws.W,0,none⟩)):=by simp
 have HBX:=Lib.hid hbx
 unfold ptr
 clear h hok hw1 hbx erd
 go_enter Tryz.func78,Tryz.ntmps78
 go_wp2_with fail
 go_loopw [3,12] (fun o i wr=>∃ (k:Nat) (blk:Option Nat),k≤m.marks.length∧i=.int .i64 k∧Hid (SlOwn wr 3 1 o k ((List.range k).map fun (i:Nat)=>Value.int .i64 (i:Int)) blk)∧Hid (∀ g,blk=some g→w.heap.size<g)∧Hid (Below (w.alloc (.cells #[.pointer (some ⟨ws.W,0,none⟩)] 40)).heap.size (w.alloc (.cells #[.pointer (some ⟨ws.W,0,none⟩)] 40)) wr)) (fun _ i _=>m.marks.length - (intOf i).toNat)
 case atStart=>exact ⟨0,none,by omega,rfl,Lib.hid (SlOwn.nil _ _ _),Lib.hid (fun g hg=>by cases hg),Lib.hid (Below.refl _ _)⟩
 case round =>
  obtain ⟨k,blk,hk,rfl,ho,hn,hb⟩:=hrel
  obtain ⟨oa,oc,rfl⟩:=ho.out.form
  have hz1':(w.alloc (.cells #[.pointer (some ⟨ws.W,0,none⟩)] 40)).heap.size=w.heap.size+1:=by simp
  by_cases hlt:k<m.marks.length
  · have HO:Hid (SlOwn (wr.alloc (.cells #[.int .i64 (k:Int)] 3)) 3 1 (.slice oa k oc) k ((List.range k).map fun (i:Nat)=>Value.int .i64 (i:Int)) blk):=ho.out.keep fun g hg=>Below.heap_alloc _ _ _ (ho.out.lt_of hg)
    have HNX:Hid (∀ w3 blk3,(wr.alloc (.cells #[.int .i64 (k:Int)] 3)).grownBy w3 blk→(blk3=blk∨blk3=some (wr.alloc (.cells #[.int .i64 (k:Int)] 3)).heap.size) →
     (∀ g,blk3=some g→w.heap.size<g)∧Below (w.alloc (.cells #[.pointer (some ⟨ws.W,0,none⟩)] 40)).heap.size (w.alloc (.cells #[.pointer (some ⟨ws.W,0,none⟩)] 40)) w3):=by
     intro w3 blk3 hg hat
     have hs:=hb.out.size
     refine ⟨fun g hgg=>?_,(hb.out.alloc hs _).grown hg (by simp;omega) (fun q hq=>by have:=hn.out q hq;omega)⟩
     rcases hat with e | e
     · exact hn.out g (e ▸ hgg)
     · rw [hgg] at e;injection e with e;simp at e;omega
    clear hz1'
    go_wp2_with (at_builtin;refine wpList_append_S rfl (.tmp 15) (.tmp 17) 31 rfl 3 i0 _ 1 8 Tryz.underlying31 hi0 hz0 hz1 hz2 rfl (by omega) (.slice oa k oc) k ((List.range k).map fun (i:Nat)=>Value.int .i64 (i:Int)) blk rfl HO.out (.slice (some ⟨wr.heap.size,0,none⟩) 1 1) 1 [.int .i64 (k:Int)] rfl (int_src _ _) (fun u hu=>by rw [List.mem_singleton] at hu;subst hu;rfl) (by simp only [maxLen];omega) (by omega) ?_
                 intro v3 w3 blk3 h1 h2 h3
                 obtain ⟨z1,z2⟩:=HNX.out w3 blk3 h2 h3
                 have H1:=Lib.hid h1;have Z1:=Lib.hid z1;have Z2:=Lib.hid z2;clear h1 h2 h3 z1 z2)
    go_roundw
    case rel=>exact ⟨k+1,blk3,by omega,by go_num,Lib.hid (by have h1:=H1.out;rw [List.range_succ,List.map_append];exact h1),Z1,Z2⟩
    case measure=>simp [intOf];omega
  · have hkl:k=m.marks.length:=by omega
    subst hkl
    have hbw:Below w.heap.size w wr:=HW1.out.trans (hb.out.mono HW1.out.size)
    have H146:=Lib.hid (f146_any hm wr col s ws m w.heap.size oa oc m.marks.length blk (H.out.below hbw) HOK.out (by rw [hb.out.cell (p:=⟨w.heap.size,0,none⟩) (cell_lt HBX.out)];exact HBX.out) ho.out h1 h16)
    have HBW:=Lib.hid hbw
    clear hbw
    go_wp2_with (go_at_call 146;(with_reducible refine H146.out.mono ?_);rintro e w4 ⟨rfl,hb4⟩;have HB4:=Lib.hid hb4;clear hb4)
    go_ret
    exact ⟨rfl,below_then HBW.out HB4.out⟩
end leaves
end Go.Proofs.YtimahogkcmmcnaaGreatDoor
