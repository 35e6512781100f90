/-
 The well, part 48: the program reads. If the well lies in the world as the words say.
-/
import Derived.Test.YtimahogkcmmcnaaGreatDoorL16
import Derived.Test.YtimahogkcmmcnaaGreatDoorL20
import Derived.Test.YtimahogkcmmcnaaGreatDoorL14
import Derived.Deep.RegionHeld3
import Derived.Laws.EntriesVeiled
set_option linter.unusedSimpArgs false
set_option linter.unusedVariables false
namespace Go.Proofs.YtimahogkcmmcnaaGreatDoor
open Go.RowKit Go.Proofs.YtimahogkcmmcnaaGreatDoor.Cmps
def rd0:RdM:=⟨0,ByteArray.empty,⟨0,[]⟩,false,0⟩
def readR (m:WlM) (r:Int):WlM×RdM×Int :=
 if isB m.marks.length r=false then (m,rd0,7) else
 match nextN m.splits r m.splits.length with
 | none=>(m,rd0,8)
 | some p=>match m.splits[p.1]? with
   | none=>(m,rd0,8)
   | some x=>match x.evs[x.read]? with
     | none=>(m,rd0,8)
     | some y=>(readM m p.1 x y r.toNat,⟨r,x.name,y,decide (y.t<m.marks.getD r.toNat 0),(readM m p.1 x y r.toNat).marks.getD r.toNat 0⟩,0)
theorem readR_some {m:WlM} {r k n:Nat} (hr:r<m.marks.length) (hk:k<m.splits.length) (hlt:m.splits[k].read<m.splits[k].evs.length) (h:nextN m.splits r m.splits.length=some (k,n)) :
 readR m r=(readM m k m.splits[k] (m.splits[k].evs[m.splits[k].read]) r,⟨r,m.splits[k].name,m.splits[k].evs[m.splits[k].read],decide ((m.splits[k].evs[m.splits[k].read]).t<m.marks.getD r 0),(readM m k m.splits[k] (m.splits[k].evs[m.splits[k].read]) r).marks.getD r 0⟩,0):=by
 have hb:isB m.marks.length (r:Int)=true:=by simp [isB];omega
 simp [readR,hb,h,hk,hlt]
abbrev rdV (x:RdM) (rv:Value):Value:=.agg #[.int .i64 x.reader,.string x.split,.int .i64 x.ev.t,rv,.bool x.late,.int .i64 x.mark]
theorem size90:(Tryz.prog.info? 90).map (·.size)=some 6:=by kernel_rfl
theorem ret90_2 {fn:Func} {p u:Tmp} (h:fn.results=#[.cell p 90,.tmp u]) (tmps:Array Value) (w:World) (g:Nat) {a b c d e f:Value} (hg:w.heap[g]? = some (.cells #[a,b,c,d,e,f] 90 (0,0))) (hp:tmps.getD p undef=.pointer (some ⟨g,0,none⟩)) :
 (results fn tmps).run Tryz.prog w=.ok (.tuple #[.agg #[a,b,c,d,e,f],tmps.getD u undef]) w:=by
 have hl:=run_loadVar_row (P:=Tryz.prog) w g 90 90 #[a,b,c,d,e,f] (0,0) _ hg Tryz.underlying90 rfl size90
 have hp':tmps[p]?.getD undef=.pointer (some ⟨g,0,none⟩):=by simpa using hp
 simp [results,h,hp',asAddr,hl]
section box
variable {w : World} {g : Nat} {t : TypeId} {a b c d e f : Value}
theorem box6_cells (h:w.heap[g]? = some (.cells #[a,b,c,d,e,f] t (0,0))):w.cell? ⟨g,0,none⟩=some a∧w.cell? ⟨g,1,none⟩=some b∧w.cell? ⟨g,2,none⟩=some c∧w.cell? ⟨g,3,none⟩=some d∧w.cell? ⟨g,4,none⟩=some e∧w.cell? ⟨g,5,none⟩=some f∧∀ o,w.frozen? ⟨g,o,none⟩=false :=
 ⟨cells_at h 0,cells_at h 1,cells_at h 2,cells_at h 3,cells_at h 4,cells_at h 5,fun o=>by simp [World.frozen?,h]⟩
theorem box6_fill (h:w.heap[g]? = some (.cells #[a,b,c,d,e,f] t (0,0))) (a' b' c' d' e' f':Value):(fill45 w g a' b' c' d' e' f').heap[g]? = some (.cells #[a',b',c',d',e',f'] t (0,0)):=by
 have h0:(w.setCell ⟨g,0,none⟩ a').heap[g]? = some (.cells #[a',b,c,d,e,f] t (0,0)):=by simpa using heap_set (j:=0) h a'
 have h1:((w.setCell ⟨g,0,none⟩ a').setCell ⟨g,1,none⟩ b').heap[g]? = some (.cells #[a',b',c,d,e,f] t (0,0)):=by simpa using heap_set (j:=1) h0 b'
 have h2:(((w.setCell ⟨g,0,none⟩ a').setCell ⟨g,1,none⟩ b').setCell ⟨g,2,none⟩ c').heap[g]? = some (.cells #[a',b',c',d,e,f] t (0,0)):=by simpa using heap_set (j:=2) h1 c'
 have h3:((((w.setCell ⟨g,0,none⟩ a').setCell ⟨g,1,none⟩ b').setCell ⟨g,2,none⟩ c').setCell ⟨g,3,none⟩ d').heap[g]? = some (.cells #[a',b',c',d',e,f] t (0,0)):=by simpa using heap_set (j:=3) h2 d'
 have h4:(((((w.setCell ⟨g,0,none⟩ a').setCell ⟨g,1,none⟩ b').setCell ⟨g,2,none⟩ c').setCell ⟨g,3,none⟩ d').setCell ⟨g,4,none⟩ e').heap[g]? = some (.cells #[a',b',c',d',e',f] t (0,0)):=by simpa using heap_set (j:=4) h3 e'
 simpa using heap_set (j:=5) h4 f'
end box
theorem slice_one (W:World) (ge oe n e2 rd:Nat) (h:rd<e2):(Instr.sliceAt 24 (.slice (some ⟨ge,oe,none⟩) n e2) (some (.int .i64 (rd:Int))) (some (.int .i64 ((rd:Int)+1))) none).run Tryz.prog W=.ok (.slice (some ⟨ge,oe+rd * 2,none⟩) 1 (e2 - rd)) W:=by
 have h1:(0:Int)≤(rd:Int):=by omega
 have h3:(rd:Int)+1≤(e2:Int):=by omega
 have h4:¬ e2=rd:=by omega
 have h5:((rd:Int)+1).toNat=rd+1:=by omega
 have h6:¬ (rd:Int)+1<0:=by omega
 go_simp
theorem join_goal {T G:Prop} (hu:T→G) (hp:T):G:=hu hp
theorem EvtsAt.sub {w:World} {D:Nat→Prop} {g o c c':Nat} {l:List Evt} (h:EvtsAt w D (.slice (some ⟨g,o,none⟩) l.length c) l) {k:Nat} (hk:k<l.length):EvtsAt w D (.slice (some ⟨g,o+k * 2,none⟩) 1 c') [l[k]]:=by
 obtain ⟨a',cap',hv,hl,hx⟩:=h
 injection hv with hv _ _
 subst hv
 obtain ⟨b,off,hb,hD,hc⟩:=hx.resolve_left (fun e=>by rw [e] at hk;simp at hk)
 injection hb with hb
 injection hb with h1 h2
 subst h1 h2
 refine ⟨_,c',rfl,by simp,.inr ⟨g,o+k * 2,rfl,hD,fun i hi=>?_⟩⟩
 have:i=0:=by simpa using hi
 subst this
 simpa using hc k hk
theorem owned_one {W w6:World} {r:Value} {y:Evt} {blk:Option Nat} (h:Owned W w6 r [y] blk):∃ gb ob c1 ra rc,r=.slice (some ⟨gb,ob,none⟩) 1 c1∧w6.cell? ⟨gb,ob,none⟩=some (.int .i64 y.t)∧w6.cell? ⟨gb,ob+1,none⟩=some (.slice ra y.r.length rc) ∧
 RowAt w6 (fun b=>W.heap.size≤b∧b<w6.heap.size) (.slice ra y.r.length rc) y.r∧W.heap.size≤gb∧gb<w6.heap.size:=by
 obtain ⟨ps,e,ho,hr⟩:=h.own
 obtain ⟨x,rv⟩:∃ x:Evt×Value,ps=[x]:=by
  cases ps with
  | nil=>cases e
  | cons x l=>cases l with
    | nil=>exact ⟨x,rfl⟩
    | cons _ _=>simp at e
 subst rv
 have hx:x.1=y:=by simpa using e
 subst hx
 obtain ⟨a,c,rfl⟩:=ho.form
 obtain ⟨gb,ob,rfl⟩:=ho.some_of (by simp)
 have hrow:=hr x (List.mem_singleton.2 rfl)
 obtain ⟨ra,rc,hrv,_⟩:=hrow
 refine ⟨gb,ob,c,ra,rc,rfl,by simpa using ho.cell 0 _ rfl,?_,?_,h.new gb (own_blk ho),ho.lt_of (own_blk ho)⟩
 · rw [← hrv];exact ho.cell 1 _ rfl
 · rw [← hrv]
   exact (hr x (List.mem_singleton.2 rfl)).mono fun b hb=>⟨hb.1,hb.2.1⟩
section leaves
set_option maxHeartbeats 4000000
set_option maxRecDepth 10000
theorem f43_any (hm:Tryz.prog.follows .mixedOrders=true) (w:World) (col:Nat→Nat) (s:List Col) (ws:WS) (m:WlM) (r:Int) (h:WAt w col s ws m) (hok:WOk m) (hrow:WRow m) :
 Calls Tryz.prog 43 #[ptr ws.W,.int .i64 r] w fun e w'=>∃ col' ws' rv,ws'.W=ws.W∧WAt w' col' s ws' (readR m r).1∧Went w w' col col'∧RowAt w' (Calm w' col') rv (readR m r).2.1.ev.r∧e=.returned (.tuple #[rdV (readR m r).2.1 rv,.int .i64 (readR m r).2.2]):=by
 have mixed:=hm
 obtain ⟨a',c',e'⟩:=h.rdForm
 obtain ⟨_,_,c2,_,c4,_,_⟩:=h.cells
 obtain ⟨spa,spc,espl⟩:=h.splForm
 rw [e'] at c4
 rw [espl] at c2
 have hWlt:=cell_lt c4
 have H:=Lib.hid h
 have HOK:=Lib.hid hok
 have HROW:=Lib.hid hrow
 have h16:=hok.hi
 have hw1:Below w.heap.size w (w.alloc (.cells #[.int .i64 0,.string ⟨#[]⟩,.int .i64 0,.slice none 0 0,.bool false,.int .i64 0] 90)):=(Below.refl _ _).alloc (Nat.le_refl _) _
 have HW1:=Lib.hid hw1
 have d4:(w.alloc (.cells #[.int .i64 0,.string ⟨#[]⟩,.int .i64 0,.slice none 0 0,.bool false,.int .i64 0] 90)).cell? ⟨ws.W,4,none⟩=some (.slice a' m.marks.length c'):=by rw [hw1.cell (p:=⟨ws.W,4,none⟩) hWlt];exact c4
 have H47:=Lib.hid (f47_any (w.alloc (.cells #[.int .i64 0,.string ⟨#[]⟩,.int .i64 0,.slice none 0 0,.bool false,.int .i64 0] 90)) ws.W r m.marks.length a' c' d4)
 unfold ptr at H47 ⊢
 clear h hok hrow hw1
 obtain ⟨ib,hib⟩:∃ b,isB m.marks.length r=b:=⟨_,rfl⟩
 rw [hib] at H47
 cases ib
 · have HR:Hid (readR m r=(m,rd0,7)):=by show _=_;rw [readR,if_pos hib]
   clear hib
   go_enter Tryz.func43,Tryz.ntmps43
   go_wp2_with (go_at_call 47;(with_reducible refine H47.out.mono ?_);rintro e w1 ⟨rfl,rfl⟩)
   refine bodyPost_ret (ret90_2 rfl _ _ w.heap.size (heap_alloc_new w _) rfl) rfl ?_
   refine ⟨col,ws,.slice none 0 0,rfl,by rw [HR.out];exact H.out.below ((Below.refl _ _).alloc (Nat.le_refl _) _),Went.below ((Below.refl _ _).alloc (Nat.le_refl _) _),by rw [HR.out];exact ⟨none,0,rfl,by simp [rd0],.inl rfl⟩,by rw [HR.out];rfl⟩
 · obtain ⟨q,rfl⟩:∃ q:Nat,r=q:=⟨r.toNat,by simp [isB] at hib;omega⟩
   have hq:q<m.marks.length:=by simp [isB] at hib;omega
   have hw3:Below w.heap.size w (((w.alloc (.cells #[.int .i64 0,.string ⟨#[]⟩,.int .i64 0,.slice none 0 0,.bool false,.int .i64 0] 90)).alloc (.cells #[.int .i64 (q:Int)] 3)).alloc (.cells #[.func (.func 183) #[] #[.pointer (some ⟨w.heap.size+1,0,none⟩)]] 145)):=(((Below.refl w.heap.size w).alloc (Nat.le_refl _) _).alloc (by simp) _).alloc (by simp;omega) _
   have hR3:(((w.alloc (.cells #[.int .i64 0,.string ⟨#[]⟩,.int .i64 0,.slice none 0 0,.bool false,.int .i64 0] 90)).alloc (.cells #[.int .i64 (q:Int)] 3)).alloc (.cells #[.func (.func 183) #[] #[.pointer (some ⟨w.heap.size+1,0,none⟩)]] 145)).heap[w.heap.size]? = some (.cells #[.int .i64 0,.string ⟨#[]⟩,.int .i64 0,.slice none 0 0,.bool false,.int .i64 0] 90 (0,0)):=alloc_keep (alloc_keep (heap_alloc_new w _))
   have hrb0:((w.alloc (.cells #[.int .i64 0,.string ⟨#[]⟩,.int .i64 0,.slice none 0 0,.bool false,.int .i64 0] 90)).alloc (.cells #[.int .i64 (q:Int)] 3)).heap[w.heap.size+1]? = some (.cells #[.int .i64 (q:Int)] 3 (0,0)):=by simpa using heap_alloc_new (w.alloc (.cells #[.int .i64 0,.string ⟨#[]⟩,.int .i64 0,.slice none 0 0,.bool false,.int .i64 0] 90)) (.cells #[.int .i64 (q:Int)] 3)
   have hhb0:(((w.alloc (.cells #[.int .i64 0,.string ⟨#[]⟩,.int .i64 0,.slice none 0 0,.bool false,.int .i64 0] 90)).alloc (.cells #[.int .i64 (q:Int)] 3)).alloc (.cells #[.func (.func 183) #[] #[.pointer (some ⟨w.heap.size+1,0,none⟩)]] 145)).heap[w.heap.size+1+1]? = some (.cells #[.func (.func 183) #[] #[.pointer (some ⟨w.heap.size+1,0,none⟩)]] 145 (0,0)):=by simpa using heap_alloc_new ((w.alloc (.cells #[.int .i64 0,.string ⟨#[]⟩,.int .i64 0,.slice none 0 0,.bool false,.int .i64 0] 90)).alloc (.cells #[.int .i64 (q:Int)] 3)) (.cells #[.func (.func 183) #[] #[.pointer (some ⟨w.heap.size+1,0,none⟩)]] 145)
   have hrb:(((w.alloc (.cells #[.int .i64 0,.string ⟨#[]⟩,.int .i64 0,.slice none 0 0,.bool false,.int .i64 0] 90)).alloc (.cells #[.int .i64 (q:Int)] 3)).alloc (.cells #[.func (.func 183) #[] #[.pointer (some ⟨w.heap.size+1,0,none⟩)]] 145)).cell? ⟨w.heap.size+1,0,none⟩=some (.int .i64 (q:Int)):=cells_at (alloc_keep hrb0) 0
   have hhb:(((w.alloc (.cells #[.int .i64 0,.string ⟨#[]⟩,.int .i64 0,.slice none 0 0,.bool false,.int .i64 0] 90)).alloc (.cells #[.int .i64 (q:Int)] 3)).alloc (.cells #[.func (.func 183) #[] #[.pointer (some ⟨w.heap.size+1,0,none⟩)]] 145)).cell? ⟨w.heap.size+1+1,0,none⟩=some (.func (.func 183) #[] #[.pointer (some ⟨w.heap.size+1,0,none⟩)]):=cells_at hhb0 0
   have H122:=Lib.hid (f122_any hm (((w.alloc (.cells #[.int .i64 0,.string ⟨#[]⟩,.int .i64 0,.slice none 0 0,.bool false,.int .i64 0] 90)).alloc (.cells #[.int .i64 (q:Int)] 3)).alloc (.cells #[.func (.func 183) #[] #[.pointer (some ⟨w.heap.size+1,0,none⟩)]] 145)) col s ws m (w.heap.size+1+1) (w.heap.size+1) (q:Int) (H.out.below hw3) HOK.out hhb hrb)
   rw [espl] at H122
   have HR3:=Lib.hid hR3;have HW3:=Lib.hid hw3
   have hc2:(((w.alloc (.cells #[.int .i64 0,.string ⟨#[]⟩,.int .i64 0,.slice none 0 0,.bool false,.int .i64 0] 90)).alloc (.cells #[.int .i64 (q:Int)] 3)).alloc (.cells #[.func (.func 183) #[] #[.pointer (some ⟨w.heap.size+1,0,none⟩)]] 145)).cell? ⟨ws.W,2,none⟩=some (.slice spa m.splits.length spc):=by rw [hw3.cell (p:=⟨ws.W,2,none⟩) hWlt];exact c2
   have H121:=Lib.hid (f121_any (w.alloc (.cells #[.int .i64 0,.string ⟨#[]⟩,.int .i64 0,.slice none 0 0,.bool false,.int .i64 0] 90)) (q:Int))
   rw [show (w.alloc (.cells #[.int .i64 0,.string ⟨#[]⟩,.int .i64 0,.slice none 0 0,.bool false,.int .i64 0] 90)).heap.size=w.heap.size+1 by simp] at H121
   clear hib hrb hhb hw3 hR3 hrb0 hhb0
   cases hnx:nextN m.splits q m.splits.length with
   | none =>
     have HR:Hid (readR m q=(m,rd0,8)):=by
      show _=_
      have hb:isB m.marks.length (q:Int)=true:=by simp [isB];omega
      simp [readR,hb,hnx]
     rw [hnx] at H122
     simp only [atV,Option.isSome_none] at H122
     clear hnx
     go_enter Tryz.func43,Tryz.ntmps43
     go_wp2_with (first
      | (go_at_call 47;(with_reducible refine H47.out.mono ?_);rintro e w1 ⟨rfl,rfl⟩)
      | (go_at_call 121;(with_reducible refine H121.out.mono ?_);rintro e w2 ⟨rfl,rfl⟩)
      | (go_at_call 122;(with_reducible refine H122.out.mono ?_);rintro e w4 ⟨rfl,hb⟩
         have hR4:=(hb.block _ (heap_lt HR3.out)).trans HR3.out
         obtain ⟨r0,r1,r2,r3,r4,r5,rf⟩:=box6_cells hR4
         have HR4:=Lib.hid hR4;have HB4:=Lib.hid (HW3.out.trans (hb.mono HW3.out.size));clear hb hR4))
     refine bodyPost_ret (ret90_2 rfl _ _ w.heap.size (box6_fill HR4.out _ _ _ _ _ _) rfl) rfl ?_
     have hbF:=fill_below HB4.out (Nat.le_refl w.heap.size) (.int .i64 0) (.string ⟨#[]⟩) (.int .i64 0) (.slice none 0 0) (.bool false) (.int .i64 0)
     exact ⟨col,ws,.slice none 0 0,rfl,by rw [HR.out];exact H.out.below hbF,Went.below hbF,by rw [HR.out];exact ⟨none,0,rfl,by simp [rd0],.inl rfl⟩,by rw [HR.out];rfl⟩
   | some p =>
     obtain ⟨k,n⟩:=p
     obtain ⟨hlt,-,hrn,hne,hown⟩:=nextN_some (Nat.le_refl _) hnx
     have hrd:m.splits[k].read<m.splits[k].evs.length:=by omega
     have HR:Hid (readR m q=_):=readR_some hq hlt hrd hnx
     rw [hnx] at H122
     simp only [atV,Option.isSome_some] at H122
     have hEL:m.splits[k].evs.length≤400:=by
      have h1:=allN_take hlt
      have h2:=allN_le m.splits (k+1)
      have h3:=HOK.out.all
      omega
     clear hnx
     have hwr1:IntKind.i64.wrap ((m.splits[k].read:Int)+1)=(m.splits[k].read:Int)+1:=wrapI (by omega)
     go_enter Tryz.func43,Tryz.ntmps43
     go_wp2_with (first
      | (go_at_call 47;(with_reducible refine H47.out.mono ?_);rintro e w1 ⟨rfl,rfl⟩)
      | (go_at_call 121;(with_reducible refine H121.out.mono ?_);rintro e w2 ⟨rfl,rfl⟩)
      | (go_at_call 122;(with_reducible refine H122.out.mono ?_);rintro e w4 ⟨rfl,hb⟩
         have HB34:=Lib.hid hb;clear hb))
     have hb4:=HW3.out.trans (HB34.out.mono HW3.out.size)
     have h4:=H.out.below hb4
     have hR4:=(HB34.out.block _ (heap_lt HR3.out)).trans HR3.out
     obtain ⟨g,o,e1,e2,rfl,hg,x0,hev,hxb,x1,y1,y2,y3,y4,y5⟩:=h4.split espl hlt
     have hevo:=h4.hE k hlt
     rw [hev] at hevo
     have hevs:=hevo.evts (by omega)
     have HEV:=Lib.hid hev;have H4:=Lib.hid h4;have HB4:=Lib.hid hb4;have HR4:=Lib.hid hR4;have HEVS:=Lib.hid hevs
     clear hev h4 hb4 hR4 hevo hevs
     obtain ⟨ge,oe,rfl⟩:∃ ge oe,e1=some ⟨ge,oe,none⟩:=by
      obtain ⟨a1,c1,hv,_,hx⟩:=HEVS.out
      injection hv with hv _ _
      obtain ⟨b,off,hb,_⟩:=hx.resolve_left (fun e=>by rw [e] at hrd;simp at hrd)
      exact ⟨b,off,by rw [hv,hb]⟩
     have hcap:m.splits[k].evs.length≤e2:=by
      obtain ⟨ps,_,ho,_⟩:=H4.out.hE k hlt
      rw [HEV.out] at ho
      rcases ho.2 with ⟨h,_⟩ | ⟨g',o',cap,cur,_,hv,_,hnc,_⟩
      · cases h
      · injection hv with _ _ h3;omega
     obtain ⟨y,hy⟩:∃ y,m.splits[k].evs[m.splits[k].read]=y:=⟨_,rfl⟩
     have HY:=Lib.hid hy
     have hsub:=HEVS.out.sub (c':=e2 - m.splits[k].read) hrd
     rw [hy] at hsub
     have hyr:y.r.length≤1000000:=by rw [← hy];exact HROW.out.evs _ (List.getElem_mem hlt) _ (List.getElem_mem hrd)
     have HSUB:=Lib.hid hsub
     have H62A:=Lib.hid (fun (W:World) (hb:Below w4.heap.size w4 W)=>f62_any hm W _ _ [y] (HSUB.out.below hb) (fun x hx=>by rw [List.mem_singleton.1 hx];exact hyr) (by simp))
     have HCd:Hid (Below w4.heap.size w4 w4.drew):=(Below.refl w4.heap.size w4).drew
     have HCa:Hid (Below w4.heap.size w4 (w4.drew.alloc (.cells #[.int .i64 0,.slice none 0 0] 30))):=((Below.refl w4.heap.size w4).drew).alloc (Nat.le_refl _) _
     have HZa:Hid ((w4.drew.alloc (.cells #[.int .i64 0,.slice none 0 0] 30)).heap[w4.heap.size]? = some (.cells #[.int .i64 0,.slice none 0 0] 30 (0,0))):=heap_alloc_new w4.drew _
     have hxl:=cell_lt y1
     clear hsub hy
     obtain ⟨rd,hrdv⟩:∃ rd,m.splits[k].read=rd:=⟨_,rfl⟩
     obtain ⟨nn,hnn⟩:∃ nn,m.splits[k].evs.length=nn:=⟨_,rfl⟩
     rw [hrdv] at y2 H62A hwr1 hrd
     rw [hnn] at y1 hcap hrd hEL
     have hde:rd<e2:=by omega
     have hsl:=fun (W:World)=>slice_one W ge oe nn e2 rd hde
     have g1:(0:Int)≤(rd:Int):=by omega
     have g3:(rd:Int)+1≤(e2:Int):=by omega
     have g4:¬ e2=rd:=by omega
     have g5:((rd:Int)+1).toNat=rd+1:=by omega
     have g6:¬ (rd:Int)+1<0:=by omega
     have HCC:Hid (∀ W,Below w4.heap.size w4 W→W.cell? ⟨ws.xb k,1,none⟩=some (.slice (some ⟨ge,oe,none⟩) nn e2)∧W.cell? ⟨ws.xb k,2,none⟩=some (.int .i64 rd)):=fun W hb=>⟨by rw [hb.cell (p:=⟨ws.xb k,1,none⟩) hxl];exact y1,by rw [hb.cell (p:=⟨ws.xb k,2,none⟩) hxl];exact y2⟩
     refine wp_region_game [0,1,2,3,4,5,6,7,8,9,10,11,12,13] 5 (fun W=>W.cell? ⟨ws.xb k,1,none⟩=some (.slice (some ⟨ge,oe,none⟩) nn e2)∧W.cell? ⟨ws.xb k,2,none⟩=some (.int .i64 rd)) mixed (by kernel_rfl) (HCC.out _ HCd.out) ?_
     repeat (
      refine wpFloatC_ex (fun K hK=>?_)
      apply Exists.intro
      refine ⟨fun W hW=>?_,?_⟩
      · obtain ⟨q1,q2⟩:=hW
        go_simp
        first | rfl | exact hsl W
      go_simp
      refine hK _ ?_
      clear hK K)
     refine wpFloatC_nil ?_
     apply join_goal
     case hu =>
      intro hT
      refine game_two 14 17 true true (by kernel_rfl) rfl rfl (by kernel_rfl) (by kernel_rfl) (fun K hK=>?_) (fun K hK=>?_)
      · go_simp
        go_at_call 62
        refine (H62A.out _ HCd.out).mono ?_
        rintro e w6 ⟨rr,blk,rfl,ho⟩
        obtain ⟨gb,ob,cc1,ra,rc,rfl,z0,z1,zr,zg1,zg2⟩:=owned_one ho
        have hb6:Below w4.heap.size w4 w6:=HCd.out.trans (ho.below.mono HCd.out.size)
        have hs6:=ho.below.size
        have HB6:=Lib.hid hb6;have ZR:=Lib.hid zr;have ZG:=Lib.hid zg1;have HS6:=Lib.hid hs6
        have HBB:=Lib.hid ho.below
        clear hb6 zr ho zg1 hs6
        refine hK _ _ rfl (fun _=>HCC.out _ HB6.out) ?_
        clear hK K
        refine game_two 15 17 true true (by kernel_rfl) rfl rfl (by kernel_rfl) (by kernel_rfl) (fun K hK=>?_) (fun K hK=>?_)
        · go_simp
          refine hK _ _ rfl (fun _=>HCC.out _ (HB6.out)) ?_
          clear hK K
          refine game_two 16 17 true true (by kernel_rfl) rfl rfl (by kernel_rfl) (by kernel_rfl) (fun K hK=>?_) (fun K hK=>?_)
          · go_simp
            refine hK _ _ rfl (fun _=>HCC.out _ (HB6.out)) ?_
            clear hK K
            refine game_on 17 true (fun K hK=>?_)
            go_simp
            refine hK _ _ rfl (fun _=>HCC.out _ (HB6.out.alloc HB6.out.size _)) ?_
            clear hK K
            refine game_on 18 false (fun K hK=>?_)
            go_simp
            refine hK _ _ rfl (fun h=>by cases h) ?_
            clear hK K
            refine game_end (by kernel_rfl) ?_
            have f1:Below w4.heap.size w4 (w6.alloc (.cells #[.int .i64 y.t,.slice ra y.r.length rc] 30)):=HB6.out.alloc HB6.out.size _
            have f2:(w6.alloc (.cells #[.int .i64 y.t,.slice ra y.r.length rc] 30)).heap[w6.heap.size]? = some (.cells #[.int .i64 y.t,.slice ra y.r.length rc] 30 (0,0)):=heap_alloc_new w6 _
            have f3:RowAt (w6.alloc (.cells #[.int .i64 y.t,.slice ra y.r.length rc] 30)) (fun b=>w4.heap.size≤b∧b≠w6.heap.size) (.slice ra y.r.length rc) y.r:=(ZR.out.mono fun b hb=>⟨hb.1,by have:=hb.2;omega⟩).below ((Below.refl _ _).alloc (Nat.le_refl _) _)
            have f4:w4.heap.size≤w6.heap.size:=HB6.out.size
            clear z0 z1 zg2 HB6 ZR ZG HS6 HBB
            first | clear z0a z1a | skip
            generalize w6.alloc (.cells #[.int .i64 y.t,.slice ra y.r.length rc] 30)=w5 at f1 f2 f3 ⊢
            generalize w6.heap.size=b9 at f2 f3 f4 ⊢
            have F1:=Lib.hid f1;have F2:=Lib.hid f2;have F3:=Lib.hid f3;have F4:=Lib.hid f4
            clear f1 f2 f3 f4
            clear w6
            revert gb ob cc1 ra rc w5 b9
            exact hT
          · go_simp
            refine hK _ _ rfl (fun _=>HCC.out _ (HB6.out.alloc HB6.out.size _)) ?_
            clear hK K
            have z0a:(w6.alloc (.cells #[.int .i64 0,.slice none 0 0] 30)).cell? ⟨gb,ob,none⟩=_:=(((Below.refl w6.heap.size w6).alloc (Nat.le_refl _) _).cell (p:=⟨gb,ob,none⟩) (cell_lt z0)).trans z0
            have z1a:(w6.alloc (.cells #[.int .i64 0,.slice none 0 0] 30)).cell? ⟨gb,ob+1,none⟩=_:=(((Below.refl w6.heap.size w6).alloc (Nat.le_refl _) _).cell (p:=⟨gb,ob+1,none⟩) (cell_lt z1)).trans z1
            refine game_on 16 true (fun K hK=>?_)
            go_simp
            refine hK _ _ rfl (fun _=>HCC.out _ (HB6.out.alloc HB6.out.size _)) ?_
            clear hK K
            refine game_on 18 false (fun K hK=>?_)
            go_simp
            refine hK _ _ rfl (fun h=>by cases h) ?_
            clear hK K
            refine game_end (by kernel_rfl) ?_
            have f1:Below w4.heap.size w4 (w6.alloc (.cells #[.int .i64 y.t,.slice ra y.r.length rc] 30)):=HB6.out.alloc HB6.out.size _
            have f2:(w6.alloc (.cells #[.int .i64 y.t,.slice ra y.r.length rc] 30)).heap[w6.heap.size]? = some (.cells #[.int .i64 y.t,.slice ra y.r.length rc] 30 (0,0)):=heap_alloc_new w6 _
            have f3:RowAt (w6.alloc (.cells #[.int .i64 y.t,.slice ra y.r.length rc] 30)) (fun b=>w4.heap.size≤b∧b≠w6.heap.size) (.slice ra y.r.length rc) y.r:=(ZR.out.mono fun b hb=>⟨hb.1,by have:=hb.2;omega⟩).below ((Below.refl _ _).alloc (Nat.le_refl _) _)
            have f4:w4.heap.size≤w6.heap.size:=HB6.out.size
            clear z0 z1 zg2 HB6 ZR ZG HS6 HBB
            first | clear z0a z1a | skip
            generalize w6.alloc (.cells #[.int .i64 y.t,.slice ra y.r.length rc] 30)=w5 at f1 f2 f3 ⊢
            generalize w6.heap.size=b9 at f2 f3 f4 ⊢
            have F1:=Lib.hid f1;have F2:=Lib.hid f2;have F3:=Lib.hid f3;have F4:=Lib.hid f4
            clear f1 f2 f3 f4
            clear w6
            revert gb ob cc1 ra rc w5 b9
            exact hT
        · go_simp
          refine hK _ _ rfl (fun _=>HCC.out _ (HB6.out.alloc HB6.out.size _)) ?_
          clear hK K
          have z0a:(w6.alloc (.cells #[.int .i64 0,.slice none 0 0] 30)).cell? ⟨gb,ob,none⟩=_:=(((Below.refl w6.heap.size w6).alloc (Nat.le_refl _) _).cell (p:=⟨gb,ob,none⟩) (cell_lt z0)).trans z0
          have z1a:(w6.alloc (.cells #[.int .i64 0,.slice none 0 0] 30)).cell? ⟨gb,ob+1,none⟩=_:=(((Below.refl w6.heap.size w6).alloc (Nat.le_refl _) _).cell (p:=⟨gb,ob+1,none⟩) (cell_lt z1)).trans z1
          refine game_on 15 true (fun K hK=>?_)
          go_simp
          refine hK _ _ rfl (fun _=>HCC.out _ (HB6.out.alloc HB6.out.size _)) ?_
          clear hK K
          refine game_on 16 true (fun K hK=>?_)
          go_simp
          refine hK _ _ rfl (fun _=>HCC.out _ (HB6.out.alloc HB6.out.size _)) ?_
          clear hK K
          refine game_on 18 false (fun K hK=>?_)
          go_simp
          refine hK _ _ rfl (fun h=>by cases h) ?_
          clear hK K
          refine game_end (by kernel_rfl) ?_
          have f1:Below w4.heap.size w4 (w6.alloc (.cells #[.int .i64 y.t,.slice ra y.r.length rc] 30)):=HB6.out.alloc HB6.out.size _
          have f2:(w6.alloc (.cells #[.int .i64 y.t,.slice ra y.r.length rc] 30)).heap[w6.heap.size]? = some (.cells #[.int .i64 y.t,.slice ra y.r.length rc] 30 (0,0)):=heap_alloc_new w6 _
          have f3:RowAt (w6.alloc (.cells #[.int .i64 y.t,.slice ra y.r.length rc] 30)) (fun b=>w4.heap.size≤b∧b≠w6.heap.size) (.slice ra y.r.length rc) y.r:=(ZR.out.mono fun b hb=>⟨hb.1,by have:=hb.2;omega⟩).below ((Below.refl _ _).alloc (Nat.le_refl _) _)
          have f4:w4.heap.size≤w6.heap.size:=HB6.out.size
          clear z0 z1 zg2 HB6 ZR ZG HS6 HBB
          first | clear z0a z1a | skip
          generalize w6.alloc (.cells #[.int .i64 y.t,.slice ra y.r.length rc] 30)=w5 at f1 f2 f3 ⊢
          generalize w6.heap.size=b9 at f2 f3 f4 ⊢
          have F1:=Lib.hid f1;have F2:=Lib.hid f2;have F3:=Lib.hid f3;have F4:=Lib.hid f4
          clear f1 f2 f3 f4
          clear w6
          revert gb ob cc1 ra rc w5 b9
          exact hT
      · go_simp
        refine hK _ _ rfl (fun _=>HCC.out _ HCa.out) ?_
        clear hK K
        refine game_on 14 true (fun K hK=>?_)
        go_simp
        go_at_call 62
        refine (H62A.out _ HCa.out).mono ?_
        rintro e w6 ⟨rr,blk,rfl,ho⟩
        obtain ⟨gb,ob,cc1,ra,rc,rfl,z0,z1,zr,zg1,zg2⟩:=owned_one ho
        have hb6:Below w4.heap.size w4 w6:=HCa.out.trans (ho.below.mono HCa.out.size)
        have hs6:=ho.below.size
        have HB6:=Lib.hid hb6;have ZR:=Lib.hid zr;have ZG:=Lib.hid zg1;have HS6:=Lib.hid hs6
        have HBB:=Lib.hid ho.below
        clear hb6 zr ho zg1 hs6
        refine hK _ _ rfl (fun _=>HCC.out _ HB6.out) ?_
        clear hK K
        have hz6:=(HBB.out.block _ (heap_lt HZa.out)).trans HZa.out
        have v0:=cells_at hz6 0
        have v1:=cells_at hz6 1
        have vf:∀ o,w6.frozen? ⟨w4.heap.size,o,none⟩=false:=fun o=>by simp [World.frozen?,hz6]
        have HZ6:=Lib.hid hz6
        clear hz6
        refine game_on 15 true (fun K hK=>?_)
        go_simp
        refine hK _ _ rfl (fun _=>HCC.out _ (HB6.out)) ?_
        clear hK K
        refine game_on 16 true (fun K hK=>?_)
        go_simp
        refine hK _ _ rfl (fun _=>HCC.out _ (HB6.out)) ?_
        clear hK K
        refine game_on 18 false (fun K hK=>?_)
        go_simp
        refine hK _ _ rfl (fun h=>by cases h) ?_
        clear hK K
        refine game_end (by kernel_rfl) ?_
        have f1:Below w4.heap.size w4 ((w6.setCell ⟨w4.heap.size,0,none⟩ (.int .i64 y.t)).setCell ⟨w4.heap.size,1,none⟩ (.slice ra y.r.length rc)):=(HB6.out.setCell (p:=⟨w4.heap.size,0,none⟩) (Nat.le_refl _) _).setCell (p:=⟨w4.heap.size,1,none⟩) (Nat.le_refl _) _
        have f2:((w6.setCell ⟨w4.heap.size,0,none⟩ (.int .i64 y.t)).setCell ⟨w4.heap.size,1,none⟩ (.slice ra y.r.length rc)).heap[w4.heap.size]? = some (.cells #[.int .i64 y.t,.slice ra y.r.length rc] 30 (0,0)):=by
         have h0:(w6.setCell ⟨w4.heap.size,0,none⟩ (.int .i64 y.t)).heap[w4.heap.size]? = some (.cells #[.int .i64 y.t,.slice none 0 0] 30 (0,0)):=by simpa using heap_set (j:=0) HZ6.out (.int .i64 y.t)
         simpa using heap_set (j:=1) h0 (.slice ra y.r.length rc)
        have f3:RowAt ((w6.setCell ⟨w4.heap.size,0,none⟩ (.int .i64 y.t)).setCell ⟨w4.heap.size,1,none⟩ (.slice ra y.r.length rc)) (fun b=>(w4.drew.alloc (.cells #[.int .i64 0,.slice none 0 0] 30)).heap.size≤b∧b<w6.heap.size) (.slice ra y.r.length rc) y.r:=ZR.out.keep fun b hb _=>by
         have hne:b≠w4.heap.size:=fun e=>by have h1:=hb.1;simp at h1;omega
         exact (heap_set_ne _ hne).trans (heap_set_ne _ hne)
        clear z0 z1 zg2 HB6 ZR ZG HS6 HBB v0 v1 vf HZ6
        generalize (w6.setCell ⟨w4.heap.size,0,none⟩ (.int .i64 y.t)).setCell ⟨w4.heap.size,1,none⟩ (.slice ra y.r.length rc)=w5 at f1 f2 f3 ⊢
        obtain ⟨b9,hb9⟩:∃ b9,b9=w4.heap.size:=⟨_,rfl⟩
        rw [← hb9] at f2 ⊢
        have f3':RowAt w5 (fun b=>w4.heap.size≤b∧b≠b9) (.slice ra y.r.length rc) y.r:=f3.mono fun b hb=>by have h1:=hb.1;simp at h1;exact ⟨by omega,by omega⟩
        have f4:w4.heap.size≤b9:=by omega
        have F1:=Lib.hid f1;have F2:=Lib.hid f2;have F3:=Lib.hid f3';have F4:=Lib.hid f4
        clear f1 f2 f3 f3' f4 hb9
        clear w6
        revert gb ob cc1 ra rc w5 b9
        exact hT
     case hp =>
      intro gb ob cc1 ra rc w5 b9 F1 F2 F3 F4
      have HB:=Lib.hid (HROW.out.bound HOK.out)
      have HB5:=Lib.hid (HB4.out.trans (F1.out.mono HB4.out.size))
      have HR5:=Lib.hid ((F1.out.block _ (heap_lt HR4.out)).trans HR4.out)
      have hs0:=heap_lt HR5.out
      have hs4:=heap_lt HR4.out
      have hs9:=heap_lt F2.out
      have h4l:=F1.out.size
      have hF4:=F4.out
      have HKA:=Lib.hid (kept_paint H.out.c0 HB5.out (g:=w.heap.size) (Nat.le_refl _) hs0)
      have H5:=Lib.hid (H.out.kept HKA.out)
      obtain ⟨nm,hnm⟩:∃ b,m.splits[k].name=b:=⟨_,rfl⟩
      obtain ⟨mk,hmk⟩:∃ b,m.marks[q]=b:=⟨_,rfl⟩
      obtain ⟨lt,hlt1⟩:∃ b,decide (y.t<mk)=b:=⟨_,rfl⟩
      obtain ⟨gr,og,rfl,hgr,u0,u1⟩:=H5.out.reader e' hq
      have hX5:=H5.out.hX k hlt
      obtain ⟨_,_,_,_,u4,_,u6⟩:=H5.out.cells
      rw [e'] at u4
      rw [hmk] at u1
      rw [hnm] at hX5
      have HNM:=Lib.hid hnm;have HMK:=Lib.hid hmk;have HLT:=Lib.hid hlt1
      have hXl:=heap_lt hX5
      have hMl:=cell_lt u1
      have hWl:=cell_lt u4
      have HC10:Hid (∀ W:World,Below w5.heap.size w5 W→W.cell? ⟨ws.xb k,0,none⟩=some (.string nm)∧W.cell? ⟨b9,0,none⟩=some (.int .i64 y.t)∧W.cell? ⟨b9,1,none⟩=some (.slice ra y.r.length rc)∧W.cell? ⟨ws.W,4,none⟩=some (.slice (some ⟨gr,og,none⟩) m.marks.length c')∧W.cell? ⟨gr,og+q,none⟩=some (.pointer (some ⟨ws.mb q,0,none⟩))∧W.cell? ⟨ws.mb q,1,none⟩=some (.int .i64 mk)) :=
       fun W hb=>⟨by rw [hb.cell (p:=⟨ws.xb k,0,none⟩) hXl];exact cells_at hX5 0,by rw [hb.cell (p:=⟨b9,0,none⟩) hs9];exact cells_at F2.out 0,by rw [hb.cell (p:=⟨b9,1,none⟩) hs9];exact cells_at F2.out 1,by rw [hb.cell (p:=⟨ws.W,4,none⟩) hWl];exact u4,by rw [hb.cell (p:=⟨gr,og+q,none⟩) hgr];exact u0,by rw [hb.cell (p:=⟨ws.mb q,1,none⟩) hMl];exact u1⟩
      have HCd5:Hid (Below w5.heap.size w5 w5.drew):=(Below.refl w5.heap.size w5).drew
      have HCa5:Hid (Below w5.heap.size w5 (w5.drew.alloc (.cells #[.int .i64 0,.string ⟨#[]⟩,.int .i64 0,.slice none 0 0,.bool false,.int .i64 0] 90))):=((Below.refl w5.heap.size w5).drew).alloc (Nat.le_refl _) _
      have HCb5:Hid (Below w5.heap.size w5 ((w5.alloc (.cells #[.int .i64 (q:Int),.string nm,.int .i64 y.t,.slice ra y.r.length rc,.bool lt,.int .i64 0] 90)).drew)):=((Below.refl w5.heap.size w5).alloc (Nat.le_refl _) _).drew
      have HZ10:Hid (((w5.alloc (.cells #[.int .i64 (q:Int),.string nm,.int .i64 y.t,.slice ra y.r.length rc,.bool lt,.int .i64 0] 90)).drew).heap[w5.heap.size]? = some (.cells #[.int .i64 (q:Int),.string nm,.int .i64 y.t,.slice ra y.r.length rc,.bool lt,.int .i64 0] 90 (0,0))):=heap_alloc_new w5 _
      have HSZ:Hid (((w5.alloc (.cells #[.int .i64 (q:Int),.string nm,.int .i64 y.t,.slice ra y.r.length rc,.bool lt,.int .i64 0] 90)).drew).heap.size=w5.heap.size+1):=by show (w5.alloc _).heap.size=_;simp
      have hqi:(q:Int)<(m.marks.length:Int):=by omega
      have hqi0:(0:Int)≤(q:Int):=by omega
      clear u0 u1 u4 u6 hX5 hnm hmk hlt1
      go_wp2_with fail
      refine wp_region_game [0,1,2,3,4,5,6,7,8,9,10,11,12,13,14,15,16,17,18] 2 (fun W=>Below w5.heap.size w5 W) mixed (by kernel_rfl) HCd5.out ?_
      iterate 16 (
       refine wpFloatC_ex (fun K hK=>?_)
       apply Exists.intro
       refine ⟨fun W hW=>?_,?_⟩
       · obtain ⟨q1,q2,q3,q4,q5,q6⟩:=HC10.out W hW
         clear hW
         go_simp
         rfl
       go_simp
       refine hK _ ?_
       clear hK K)
      refine wpFloatC_call (.int .i64 mk) (fun W hW K hK=>by
       obtain ⟨q1,q2,q3,q4,q5,q6⟩:=HC10.out W hW
       have H48:=Lib.hid (f48_any W (ws.mb q) mk q6)
       unfold ptr at H48
       clear hW q1 q2 q3 q4 q5 q6
       go_simp
       go_at_call 48
       refine H48.out.mono ?_
       rintro e w' ⟨rfl,rfl⟩
       exact hK) (fun K hK=>?_)
      go_simp
      refine hK _ ?_
      clear hK K
      refine wpFloatC_call (.bool lt) (fun W hW K hK=>by
       have h125:=f125_any W y.t mk
       rw [HLT.out] at h125
       have H125:=Lib.hid h125
       clear hW h125
       go_simp
       go_at_call 125
       refine H125.out.mono ?_
       rintro e w' ⟨rfl,rfl⟩
       exact hK) (fun K hK=>?_)
      go_simp
      refine hK _ ?_
      clear hK K
      refine wpFloatC_ex (fun K hK=>?_)
      apply Exists.intro
      refine ⟨fun W hW=>?_,?_⟩
      · clear hW
        go_simp
        rfl
      go_simp
      refine hK _ ?_
      clear hK K
      refine wpFloatC_nil ?_
      refine game_on 19 true (fun K hK=>?_)
      go_simp
      refine hK _ _ rfl (fun _=>HCa5.out) ?_
      clear hK K
      refine game_on 20 false (fun K hK=>?_)
      go_simp
      refine hK _ _ rfl (fun h=>by cases h) ?_
      clear hK K
      refine game_end (by kernel_rfl) ?_
      clear HCa5 HC10
      generalize (w5.alloc (.cells #[.int .i64 (q:Int),.string nm,.int .i64 y.t,.slice ra y.r.length rc,.bool lt,.int .i64 0] 90)).drew=w6 at HCb5 HZ10 HSZ ⊢
      have HKB:=Lib.hid (kept_paint H5.out.c0 HCb5.out (g:=w5.heap.size) (Nat.le_refl _) (by rw [HSZ.out];omega))
      have H6:=Lib.hid (H5.out.kept HKB.out)
      have HZ0:=Lib.hid ((HCb5.out.block _ hs0).trans HR5.out)
      have HZ9:=Lib.hid ((HCb5.out.block _ hs9).trans F2.out)
      obtain ⟨b10,hb10⟩:∃ b,w5.heap.size=b:=⟨_,rfl⟩
      obtain ⟨colB,hcB⟩:∃ f,paint (paint col (some w.heap.size) 6) (some w5.heap.size) 6=f:=⟨_,rfl⟩
      rw [hcB] at H6
      have hcA:∀ b,b<w.heap.size→colB b=col b:=fun b hb=>by
       rw [← hcB];unfold paint
       rw [if_neg (by intro e;injection e;omega),if_neg (by intro e;injection e;omega)]
      have hc0:colB w.heap.size=6:=by rw [← hcB];simp [paint]
      have hc10:colB b10=6:=by rw [← hcB,← hb10];simp [paint]
      have hz:∀ b,w.heap.size<b→b<w5.heap.size→colB b=0:=fun b h1 h2=>by
       rw [← hcB];unfold paint
       rw [if_neg (by intro e;injection e;omega),if_neg (by intro e;injection e;omega)]
       rcases Nat.eq_zero_or_pos (col b) with e | e
       · exact e
       · have:=H.out.c0 b (by omega);omega
      have hc9:colB b9=0:=hz b9 (by omega) hs9
      have hW6:Went w w6 col colB:=⟨Only.of_below (HB5.out.trans (HCb5.out.mono HB5.out.size)),hcA⟩
      have hr6:RowAt w6 (Calm w6 colB) (.slice ra y.r.length rc) y.r:=by
       have h1:=F3.out.imp (D':=fun b=>w4.heap.size≤b∧b<w5.heap.size) (fun b hb hd=>⟨hd.1,hb⟩)
       refine (h1.below HCb5.out).imp (fun b hb hd=>⟨hb,hz b (by omega) hd.2⟩)
      rw [hb10] at HZ10 HSZ ⊢
      have HCOL:=Lib.hid (⟨hcA,hc0,hc9,hc10⟩:(∀ b,b<w.heap.size→colB b=col b)∧colB w.heap.size=6∧colB b9=0∧colB b10=6)
      have HWENT:=Lib.hid hW6
      have HROW6:=Lib.hid hr6
      have HLB:Hid (w.heap.size<b10):=by show _<_;omega
      have HLB9:Hid (b9<b10):=by show _<_;omega
      clear hcA hc0 hc9 hc10 hz hcB hb10 hW6 hr6 HKA HKB H5 HR5 HCb5 hgr hs4 h4l hF4 hXl hMl hWl hs9 hs0 HB5 F1 F2 F3 F4 HCd5 HROW HSUB H62A HCC HCa HCd HZa
      cases lt
      case' false =>
       obtain ⟨ws7,hws7⟩:∃ x:WS,ws=x:=⟨_,rfl⟩
       have E1:Hid (ws7.W=ws.W∧ws7.xb=ws.xb∧ws7.gb=ws.gb∧ws7.mb=ws.mb∧ws7.rd=ws.rd∧ws7.ev=ws.ev):=by subst hws7;exact ⟨rfl,rfl,rfl,rfl,rfl,rfl⟩
       have h7:WAt w6 colB s ws { m with late:=m.late }:=H6.out
       rw [hws7] at h7
       have HL:Hid ((if y.t<m.marks.getD q 0 then m.late ++ [y] else m.late)=m.late):=by
        have h1:¬ y.t<m.marks.getD q 0:=by rw [show m.marks.getD q 0=mk by rw [← HMK.out];simp [List.getD,hq]];simpa using HLT.out
        exact if_neg h1
       obtain ⟨L,hL⟩:∃ l,m.late=l:=⟨_,rfl⟩
       have h7':WAt w6 colB s ws7 { m with late:=L }:=by rw [← hL];exact h7
       have HL':Hid ((if y.t<m.marks.getD q 0 then m.late ++ [y] else m.late)=L):=HL.out.trans hL
       have K1:=Lib.hid h7'
       have K2:=HZ0
       have K3:=HZ9
       have K4:=HZ10
       have K5:=HCOL
       have K6:=HWENT
       have K7:=HROW6
       clear HL
       have HL:=HL'
       clear h7 h7' hws7 hL HL' HZ0 HZ9 HZ10 H6 HCOL HWENT HROW6
       generalize w6=w7 at K1 K2 K3 K4 K6 K7 ⊢
       generalize colB=col7 at K1 K5 K6 K7
       have p3:w7.cell? ⟨b10,4,none⟩=some (.bool false):=cells_at K4.out 4
      case' true =>
       obtain ⟨la,lc,hlf⟩:=H6.out.hL.form
       obtain ⟨_,_,_,_,_,_,u6⟩:=H6.out.cells
       rw [hlf] at u6
       have hWl:=cell_lt u6
       have p3:w6.cell? ⟨b10,4,none⟩=some (.bool true):=cells_at HZ10.out 4
       have hy0:=cells_at HZ9.out 0
       have hy1:=cells_at HZ9.out 1
       have hl9:=heap_lt HZ9.out
       have hl10:=heap_lt HZ10.out
       obtain ⟨i0,hi0,hz0,hz1,hz2⟩:=info_parts info30
       obtain ⟨ps,hps,hown,hrows⟩:=H6.out.hL
       rw [hlf] at hown
       have HPS:=Lib.hid hps;have HOWN:=Lib.hid hown;have HROWS:=Lib.hid hrows
       have HC12:Hid (∀ W:World,Below w6.heap.size w6 W→W.cell? ⟨ws.W,6,none⟩=some (.slice la m.late.length lc)∧W.cell? ⟨b9,0,none⟩=some (.int .i64 y.t)∧W.cell? ⟨b9,1,none⟩=some (.slice ra y.r.length rc)) :=
        fun W hb=>⟨by rw [hb.cell (p:=⟨ws.W,6,none⟩) hWl];exact u6,by rw [hb.cell (p:=⟨b9,0,none⟩) hl9];exact hy0,by rw [hb.cell (p:=⟨b9,1,none⟩) hl9];exact hy1⟩
       have HD6:Hid (Below w6.heap.size w6 w6.drew):=(Below.refl w6.heap.size w6).drew
       have HD7:Hid (Below w6.heap.size w6 (w6.drew.alloc (.cells #[.int .i64 y.t,.slice ra y.r.length rc] 30))):=((Below.refl w6.heap.size w6).drew).alloc (Nat.le_refl _) _
       have HEV1:=Lib.hid (evts_box (w:=w6.drew.alloc (.cells #[.int .i64 y.t,.slice ra y.r.length rc] 30)) (b:=w6.heap.size) (y:=y) (D:=fun _=>True) (heap_alloc_new w6.drew _) trivial ((HROW6.out.below HD7.out).mono fun _ _=>trivial))
       have H62:=Lib.hid (f62_any hm (w6.drew.alloc (.cells #[.int .i64 y.t,.slice ra y.r.length rc] 30)) _ _ [y] HEV1.out (fun x hx=>by rw [List.mem_singleton.1 hx];exact hyr) (by simp))
       clear hps hown hrows hlf u6 hy0 hy1 HEV1
       go_wp2_with fail
       refine wp_region_game [0,1,2,3,4,5] 6 (fun W=>W.cell? ⟨ws.W,6,none⟩=some (.slice la m.late.length lc)∧W.cell? ⟨b9,0,none⟩=some (.int .i64 y.t)∧W.cell? ⟨b9,1,none⟩=some (.slice ra y.r.length rc)) mixed (by kernel_rfl) (HC12.out _ HD6.out) ?_
       iterate 6 (
        refine wpFloatC_ex (fun K hK=>?_)
        apply Exists.intro
        refine ⟨fun W hW=>?_,?_⟩
        · obtain ⟨q1,q2,q3⟩:=hW
          go_simp
          rfl
        go_simp
        refine hK _ ?_
        clear hK K)
       refine wpFloatC_nil ?_
       refine game_on 6 true (fun K hK=>?_)
       go_simp
       refine hK _ _ rfl (fun _=>HC12.out _ HD7.out) ?_
       clear hK K
       refine game_on 7 true (fun K hK=>?_)
       go_simp
       go_at_call 62
       refine H62.out.mono ?_
       rintro e w9 ⟨rr,blk,rfl,ho⟩
       obtain ⟨sa1,sn1,sc1,rfl⟩:∃ a n c,rr=.slice a n c:=by obtain ⟨a,c,h⟩:=ho.own.form;exact ⟨a,_,c,h⟩
       have hb9:Below w6.heap.size w6 w9:=HD7.out.trans (ho.below.mono HD7.out.size)
       have HB9:=Lib.hid hb9
       refine hK _ _ rfl (fun _=>HC12.out _ hb9) ?_
       clear hK K hb9
       obtain ⟨qs,hqs,hqo,hqr⟩:=ho.own
       have hrn:sn1=1:=by obtain ⟨a',c',e⟩:=hqo.form;injection e
       subst hrn
       have hown3:=HOWN.out.keep (w':=w9) fun g hg=>HB9.out.block g (HOWN.out.lt_of hg)
       have hqsrc:=hqo.src
       have hqr2:∀ p ∈ qs,RowAt w9 (fun b=>w6.heap.size≤b∧b<w9.heap.size) p.2 p.1.r:=fun p hp=>(hqr p hp).mono fun b hb=>⟨by have h1:=hb.1;have h2:=HD7.out.size;omega,hb.2.1⟩
       have HQR:=Lib.hid hqr2
       refine game_on 8 true (fun K hK=>?_)
       refine wp_append_S (.tmp 77) (.tmp 80) 24 rfl 30 i0 _ 2 32 Tryz.underlying24 hi0 hz0 hz1 hz2 rfl (by omega) (.slice la m.late.length lc) m.late.length (evC ps) ws.lb rfl hown3 (.slice sa1 1 sc1) 1 (evC qs) rfl hqsrc (evC_one hqr) (by simp only [maxLen];have:=HB.out;omega) (by have:=HB.out;omega) ?_
       intro v4 w10 blk4 hown4 hgrow hat
       obtain ⟨a4,c4,rfl⟩:=hown4.form
       have hlb:∀ b,ws.lb=some b→b<w6.heap.size∧colB b=5:=fun b hb=>⟨H6.out.c0 b (by rw [H6.out.cL b hb];omega),H6.out.cL b hb⟩
       obtain ⟨n1,n2,n3⟩:=HC12.out _ HB9.out
       have hWc:=H6.out.cW
       have hc9:=HCOL.out.2.2.1
       have hkW:w10.heap[ws.W]? = w9.heap[ws.W]? := hgrow.block ws.W (Nat.lt_of_lt_of_le hWl HB9.out.size) (fun e=>by have:=(hlb _ e.symm).2;omega)
       have hk9:w10.heap[b9]? = w9.heap[b9]? := hgrow.block b9 (Nat.lt_of_lt_of_le hl9 HB9.out.size) (fun e=>by have:=(hlb _ e.symm).2;omega)
       have n1':w10.cell? ⟨ws.W,6,none⟩=some (.slice la m.late.length lc):=(World.cell?_of_block (a:=⟨ws.W,6,none⟩) hkW).trans n1
       have n2':w10.cell? ⟨b9,0,none⟩=some (.int .i64 y.t):=(World.cell?_of_block (a:=⟨b9,0,none⟩) hk9).trans n2
       have n3':w10.cell? ⟨b9,1,none⟩=some (.slice ra y.r.length rc):=(World.cell?_of_block (a:=⟨b9,1,none⟩) hk9).trans n3
       refine hK _ _ rfl (fun _=>⟨n1',n2',n3'⟩) ?_
       clear hK K
       have hWW:=hkW.trans ((HB9.out.block ws.W hWl).trans H6.out.hW)
       have hf:w10.frozen? ⟨ws.W,6,none⟩=false:=by simp [World.frozen?,hWW]
       have hlm:=H6.out.lateMore (l:=[y]) HPS.out HROWS.out hqs HQR.out HB9.out hgrow hat (by simpa using hown4)
       have HLM:=Lib.hid hlm
       clear hlm hgrow hat hown4 hown3 hqs hqr hqsrc hqo ho hlb hkW hk9 n2' n3' n1 n2 n3 HC12 hWW hqr2
       refine game_on 9 false (fun K hK=>?_)
       go_simp
       refine hK _ _ rfl (fun h=>by cases h) ?_
       clear hK K
       refine game_on 10 false (fun K hK=>?_)
       go_simp
       refine hK _ _ rfl (fun h=>by cases h) ?_
       clear hK K
       refine game_on 11 false (fun K hK=>?_)
       go_simp
       refine hK _ _ rfl (fun h=>by cases h) ?_
       clear hK K
       refine game_end (by kernel_rfl) ?_
       generalize w10.setCell ⟨ws.W,6,none⟩ (.slice a4 (m.late.length+1) c4)=w7 at HLM ⊢
       obtain ⟨h7,ho7,hc7⟩:=HLM.out
       obtain ⟨col7,hcol7⟩:∃ f,paint colB blk4 5=f:=⟨_,rfl⟩
       rw [hcol7] at h7 hc7
       obtain ⟨ws7,hws7⟩:∃ x:WS,{ ws with late:=.slice a4 (m.late.length+1) c4,lb:=blk4 }=x:=⟨_,rfl⟩
       rw [hws7] at h7
       have E1:Hid (ws7.W=ws.W∧ws7.xb=ws.xb∧ws7.gb=ws.gb∧ws7.mb=ws.mb∧ws7.rd=ws.rd∧ws7.ev=ws.ev):=by subst hws7;exact ⟨rfl,rfl,rfl,rfl,rfl,rfl⟩
       have K1:=Lib.hid h7
       have kp:∀ b,b<w6.heap.size→colB b≠1→colB b≠5→w7.heap[b]? = w6.heap[b]? := fun b hb h1 h5=>ho7.block b hb (fun e=>by
        rcases e with e | e
        · exact h1 (e ▸ H6.out.cW)
        · exact h5 (H6.out.cL b e))
       obtain ⟨_,d0,d9,d10⟩:=HCOL.out
       have K2:=Lib.hid ((kp w.heap.size (heap_lt HZ0.out) (by omega) (by omega)).trans HZ0.out)
       have K3:=Lib.hid ((kp b9 hl9 (by omega) (by omega)).trans HZ9.out)
       have K4:=Lib.hid ((kp b10 hl10 (by omega) (by omega)).trans HZ10.out)
       have K5:Hid ((∀ b,b<w.heap.size→col7 b=col b)∧col7 w.heap.size=6∧col7 b9=0∧col7 b10=6) :=
        ⟨fun b hb=>(hc7 b (Nat.lt_trans hb (heap_lt HZ0.out))).trans (HCOL.out.1 b hb),(hc7 _ (heap_lt HZ0.out)).trans d0,(hc7 _ hl9).trans d9,(hc7 _ hl10).trans d10⟩
       have K6:Hid (Went w w7 col col7):=HWENT.out.trans ⟨ho7.mono fun b _ e=>by
        rcases e with e | e
        · rw [e,H6.out.cW];omega
        · rw [H6.out.cL b e];omega,hc7⟩
       have K7:Hid (RowAt w7 (Calm w7 col7) (.slice ra y.r.length rc) y.r) :=
        (HROW6.out.keep fun b hb hl=>kp b hl (by rw [hb.2];omega) (by rw [hb.2];omega)).imp fun b hl hb=>⟨hl,(hc7 b hb.1).trans hb.2⟩
       have HL:Hid ((if y.t<m.marks.getD q 0 then m.late ++ [y] else m.late)=m.late ++ [y]):=by
        have h1:y.t<m.marks.getD q 0:=by rw [show m.marks.getD q 0=mk by rw [← HMK.out];simp [List.getD,hq]];simpa using HLT.out
        exact if_pos h1
       obtain ⟨L,hL⟩:∃ l,m.late ++ [y]=l:=⟨_,rfl⟩
       rw [hL] at K1
       have HL':Hid ((if y.t<m.marks.getD q 0 then m.late ++ [y] else m.late)=L):=HL.out.trans hL
       clear HL
       have HL:=HL'
       clear HL'
       clear h7 ho7 hc7 hcol7 hws7 kp d0 d9 d10 hL HLM HB9 HQR HPS HOWN HROWS HD6 HD7 H62 hl9 hl10 hWl p3 hf n1' HB hWc hc9 HZ0 HZ9 HZ10 H6 HCOL HWENT HROW6
      all_goals
       obtain ⟨E1a,E1b,E1c,E1d,E1e,E1f⟩:=E1.out
       obtain ⟨sl,hsl⟩:∃ b,m.splits[k].sealed=b:=⟨_,rfl⟩
       obtain ⟨ow,how⟩:∃ b,m.splits[k].owner=b:=⟨_,rfl⟩
       obtain ⟨ga,hga⟩:∃ b,m.splits[k].gauge=b:=⟨_,rfl⟩
       have hX7:w7.heap[ws.xb k]? = some (.cells #[.string nm,.slice (some ⟨ge,oe,none⟩) nn e2,.int .i64 (rd:Int),.pointer (some ⟨ws.gb k,0,none⟩),.bool sl,.int .i64 (ow:Int)] 129 (0,0)):=by
        have h1:=K1.out.hX k hlt
        rw [E1b,E1c,E1f,HEV.out] at h1
        dsimp only at h1
        rw [hnn,hrdv,hsl,how,HNM.out] at h1
        exact h1
       have hdn:m.splits[k].done=false:=by
        unfold SpM.done
        rw [hrdv,hnn]
        have:((rd:Int) == (nn:Int))=false:=by simp;omega
        rw [this,Bool.and_false]
       have hG7:w7.heap[ws.gb k]? = some (.cells #[.int .i64 m.bound,.int .i64 ga,.bool false] 215 (0,0)):=by
        have h1:=K1.out.hG k hlt
        rw [E1c] at h1
        dsimp only at h1
        rw [SpM.mark,hdn,hga] at h1
        exact h1
       have cX:=K1.out.cX k hlt
       have cG:=K1.out.cG k hlt
       rw [E1b] at cX
       rw [E1c] at cG
       obtain ⟨_,d0,d9,d10⟩:=K5.out
       have hX8:(w7.setCell ⟨ws.xb k,2,none⟩ (.int .i64 ((rd:Int)+1))).heap[ws.xb k]? = some (.cells #[.string nm,.slice (some ⟨ge,oe,none⟩) nn e2,.int .i64 ((rd:Int)+1),.pointer (some ⟨ws.gb k,0,none⟩),.bool sl,.int .i64 (ow:Int)] 129 (0,0)):=by simpa using heap_set (j:=2) hX7 (.int .i64 ((rd:Int)+1))
       have hG8:(w7.setCell ⟨ws.xb k,2,none⟩ (.int .i64 ((rd:Int)+1))).heap[ws.gb k]? = some (.cells #[.int .i64 m.bound,.int .i64 ga,.bool false] 215 (0,0)):=(heap_set_ne _ (fun e=>by rw [e] at cG;omega)).trans hG7
       have hY8:(w7.setCell ⟨ws.xb k,2,none⟩ (.int .i64 ((rd:Int)+1))).heap[b9]? = _:=(heap_set_ne _ (fun e=>by rw [e] at d9;omega)).trans K3.out
       have HO8:Hid (Only (fun b=>b=ws.xb k∨b=ws.gb k) w7 (w7.setCell ⟨ws.xb k,2,none⟩ (.int .i64 ((rd:Int)+1)))):=(Only.refl _ w7).setCell (p:=⟨ws.xb k,2,none⟩) (fun _=>.inl rfl) _
       have u2:w7.cell? ⟨ws.xb k,2,none⟩=some (.int .i64 (rd:Int)):=cells_at hX7 2
       have uf:w7.frozen? ⟨ws.xb k,2,none⟩=false:=by simp [World.frozen?,hX7]
       have HX8:=Lib.hid hX8;have HG8:=Lib.hid hG8;have HY8:=Lib.hid hY8
       have HSL:=Lib.hid hsl;have HOW:=Lib.hid how;have HGA:=Lib.hid hga;have HDN:=Lib.hid hdn;have CX:=Lib.hid cX;have CG:=Lib.hid cG
       have hRD:=Lib.hid hrdv;have hNN:=Lib.hid hnn
       clear hX7 hG7 hX8 hG8 hY8 hsl how hga hdn cX cG d0 d9 d10
       go_wp2_with fail
       generalize w7.setCell ⟨ws.xb k,2,none⟩ (.int .i64 ((rd:Int)+1))=w8 at HX8 HG8 HY8 HO8 ⊢
       clear u2 uf
       have HYT:Hid (-1000000000000≤y.t∧y.t≤1000000000000):=by
        rw [← HY.out];exact HOK.out.time _ (List.getElem_mem hlt) _ (List.getElem_mem _)
       have H126:=Lib.hid (f126_any hm w8.drew (ws.gb k) m.bound ga y.t HG8.out HYT.out.1 HYT.out.2 HOK.out.bound.1 HOK.out.bound.2)
       unfold ptr at H126
       have hq3:=cells_at HX8.out 3
       have hq0:=cells_at HY8.out 0
       refine wp_region_game [0,1,2,3,4,5] 1 (fun W=>W.cell? ⟨ws.xb k,3,none⟩=some (.pointer (some ⟨ws.gb k,0,none⟩))∧W.cell? ⟨b9,0,none⟩=some (.int .i64 y.t)) mixed (by kernel_rfl) ⟨hq3,hq0⟩ ?_
       clear hq3 hq0
       iterate 6 (
        refine wpFloatC_ex (fun K hK=>?_)
        apply Exists.intro
        refine ⟨fun W hW=>?_,?_⟩
        · obtain ⟨q1,q2⟩:=hW
          go_simp
          rfl
        go_simp
        refine hK _ ?_
        clear hK K)
       refine wpFloatC_nil ?_
       refine game_on 6 true (fun K hK=>?_)
       go_simp
       go_at_call 126
       refine H126.out.mono ?_
       rintro e w9 ⟨rfl,hT⟩
       have hX9:w9.heap[ws.xb k]? = _:=(hT.only.block (ws.xb k) (heap_lt HX8.out) (fun e=>by have h1:=CX.out;have h2:=CG.out;have e':ws.xb k=ws.gb k:=e;rw [e'] at h1;omega)).trans HX8.out
       have hY9:w9.heap[b9]? = _:=(hT.only.block b9 (heap_lt HY8.out) (fun e=>by have h1:=K5.out.2.2.1;have h2:=CG.out;have e':b9=ws.gb k:=e;rw [e'] at h1;omega)).trans HY8.out
       refine hK _ _ rfl (fun _=>⟨cells_at hX9 3,cells_at hY9 0⟩) ?_
       clear hK K
       refine game_end (by kernel_rfl) ?_
       have HO9:Hid (Only (fun b=>b=ws.xb k∨b=ws.gb k) w7 w9):=HO8.out.drew.trans hT.only (fun x _ e=>.inr e)
       have HG9:=Lib.hid hT.blk
       have HX9:=Lib.hid hX9
       clear hX9 hY9 hT HY8 HX8 HG8 HO8 H126
       have t1:=cells_at HX9.out 1
       have t2:=cells_at HX9.out 2
       have t3:=cells_at HX9.out 3
       have t4:=cells_at HX9.out 4
       have H127:=Lib.hid (f127_any w9 (ws.xb k) (ws.gb k) sl (rd+1) nn (some ⟨ge,oe,none⟩) e2 m.bound _ t1 (by simpa using t2) t3 t4 HG9.out)
       unfold ptr at H127
       clear t1 t2 t3 t4
       have H82A:Hid (∀ w10,Only (fun b=>b=ws.gb k) w9 w10→w10.heap[ws.gb k]? = some (.cells #[.int .i64 m.bound,.int .i64 (if (sl && (((rd+1:Nat):Int) == (nn:Int)))=true then 1000000000001 else max ga (y.t - m.bound+1)),.bool (sl && (((rd+1:Nat):Int) == (nn:Int)))] 215 (0,0)) →
        WAt w10 col7 s ws7 ({ m.setS k (seenS m.bound m.splits[k] y.t) with late:=L })∧w10.heap[b10]? = w7.heap[b10]?∧w10.heap[w.heap.size]? = w7.heap[w.heap.size]?∧Only (fun b=>b=ws.xb k∨b=ws.gb k) w7 w10):=by
        intro w10 ho hg
        have hot:=HO9.out.trans ho (fun x _ e=>.inr e)
        have nX:∀ b,col7 b≤7→¬ (b=ws.xb k∨b=ws.gb k):=fun b hb e=>by
         rcases e with e | e
         · rw [e,CX.out] at hb;omega
         · rw [e,CG.out] at hb;omega
        refine ⟨?_,hot.block b10 (heap_lt K4.out) (nX _ (by rw [K5.out.2.2.2];omega)),hot.block _ (heap_lt K2.out) (nX _ (by rw [K5.out.2.1];omega)),hot⟩
        refine K1.out.setSplit hlt (seenS m.bound m.splits[k] y.t) rfl rfl (by rw [E1b,E1c];exact hot) ?_ ?_
        · have h1:=(ho.block (ws.xb k) (heap_lt HX9.out) (fun e=>by have h1:=CX.out;have h2:=CG.out;have e':ws.xb k=ws.gb k:=e;rw [e'] at h1;omega)).trans HX9.out
          rw [E1b,E1c,E1f,HEV.out]
          show _=some (Obj.cells #[.string m.splits[k].name,.slice (some ⟨ge,oe,none⟩) m.splits[k].evs.length e2,.int .i64 ((m.splits[k].read+1:Nat):Int),.pointer (some ⟨ws.gb k,0,none⟩),.bool m.splits[k].sealed,.int .i64 (m.splits[k].owner:Int)] 129 (0,0))
          rw [hRD.out,hNN.out,HSL.out,HOW.out,HNM.out]
          simpa using h1
        · rw [E1c]
          show _=some (Obj.cells #[.int .i64 m.bound,.int .i64 (SpM.mark (seenS m.bound m.splits[k] y.t)),.bool (SpM.done (seenS m.bound m.splits[k] y.t))] 215 (0,0))
          have hd:SpM.done (seenS m.bound m.splits[k] y.t)=(sl && (((rd+1:Nat):Int) == (nn:Int))):=by
           show (m.splits[k].sealed && (((m.splits[k].read+1:Nat):Int) == (m.splits[k].evs.length:Int)))=_
           rw [HSL.out,hRD.out,hNN.out]
          have hmk:SpM.mark (seenS m.bound m.splits[k] y.t)=if (sl && (((rd+1:Nat):Int) == (nn:Int)))=true then 1000000000001 else max ga (y.t - m.bound+1):=by
           rw [SpM.mark,hd]
           show (if _ then _ else max m.splits[k].gauge (y.t - m.bound+1))=_
           rw [HGA.out]
          rw [hmk,hd]
          exact hg
       have HOK8:Hid (WOk ({ m.setS k (seenS m.bound m.splits[k] y.t) with late:=L })):=by
        have h0:=HOK.out.seen hlt (by rw [hRD.out,hNN.out];exact hrd)
        rw [HY.out] at h0
        exact ⟨h0.splits,h0.all,h0.read,h0.owner,h0.lo,h0.hi,h0.bound,h0.gauge,h0.marks,h0.name,h0.time⟩
       obtain ⟨m8,hm8⟩:∃ x:WlM,{ m.setS k (seenS m.bound m.splits[k] y.t) with late:=L }=x:=⟨_,rfl⟩
       rw [hm8] at H82A HOK8
       have HML:Hid (m8.marks.length=m.marks.length):=by show _=_;rw [← hm8];rfl
       have hq8:q<m8.marks.length:=by rw [HML.out];exact hq
       have HM8:Hid (readM m k m.splits[k] y q=risenM m8 q):=by
        show _=_
        rw [← hm8,← HL.out];rfl
       clear hm8
       have hrl:(risenM m8 q).marks.length=m.marks.length:=(risenM_len m8 q).trans HML.out
       have hq9:q<(risenM m8 q).marks.length:=by rw [hrl];exact hq
       obtain ⟨mk2,hmk2⟩:∃ b,(risenM m8 q).marks[q]=b:=⟨_,rfl⟩
       have HMK2:=Lib.hid hmk2
       have H17:Hid (∀ w11,WAt w11 col7 s ws7 (risenM m8 q)→w11.cell? ⟨ws.W,4,none⟩=some (.slice (some ⟨gr,og,none⟩) m.marks.length c')∧w11.cell? ⟨gr,og+q,none⟩=some (.pointer (some ⟨ws.mb q,0,none⟩))∧w11.cell? ⟨ws.mb q,1,none⟩=some (.int .i64 mk2)):=by
        intro w11 h
        obtain ⟨_,_,_,_,v4,_,_⟩:=h.cells
        obtain ⟨g2,o2,he2,hg2,v0,v1⟩:=h.reader (a:=some ⟨gr,og,none⟩) (c:=c') (by rw [hrl,E1e];exact e') hq9
        injection he2 with he2
        injection he2 with h1 h2
        subst h1 h2
        rw [E1a,E1e,e'] at v4
        rw [E1d] at v0 v1
        rw [HMK2.out] at v1
        exact ⟨v4,v0,v1⟩
       clear hmk2
       have E1A:=Lib.hid E1a
       clear E1a E1b E1c E1d E1e E1f
       go_wp2_with (first
        | (go_at_call 127;(with_reducible refine H127.out.mono ?_);rintro e w10 ⟨rfl,ho10,hg10⟩
           obtain ⟨h10,k10,k0,o10⟩:=H82A.out w10 ho10 hg10
           have H82:=Lib.hid (f82_hi w10 col7 s ws7 m8 q h10 HOK8.out hq8)
           rw [E1A.out] at H82
           unfold ptr at H82
           have HKT:=Lib.hid (k10.trans K4.out);have HK0:=Lib.hid (k0.trans K2.out);have HO10:=Lib.hid o10
           have HC0:=Lib.hid h10.c0
           clear ho10 hg10 h10 k10 k0 o10)
        | (go_at_call 82;(with_reducible refine H82.out.mono ?_);rintro e w11 ⟨rfl,h11,o11⟩
           obtain ⟨v4,v0,v1⟩:=H17.out w11 h11
           have H48:=Lib.hid (f48_any w11 (ws.mb q) mk2 v1)
           unfold ptr at H48
           have z10:=(o11.block b10 (heap_lt HKT.out) (by rw [K5.out.2.2.2];omega)).trans HKT.out
           have z0:=(o11.block w.heap.size (heap_lt HK0.out) (by rw [K5.out.2.1];omega)).trans HK0.out
           obtain ⟨r0,r1,r2,r3,r4,r5,rf⟩:=box6_cells z10
           have z02:(w11.setCell ⟨b10,5,none⟩ (.int .i64 mk2)).heap[w.heap.size]? = some (.cells #[.int .i64 0,.string ⟨#[]⟩,.int .i64 0,.slice none 0 0,.bool false,.int .i64 0] 90 (0,0)):=(heap_set_ne _ (fun e=>by have h1:=HLB.out;omega)).trans z0
           obtain ⟨s0,s1,s2,s3,s4,s5,sf⟩:=box6_cells z0
           have hn1:¬ b10=w.heap.size:=fun e=>by have h1:=HLB.out;omega
           have hn2:¬ w.heap.size=b10:=fun e=>by have h1:=HLB.out;omega
           have Z10:=Lib.hid z10;have Z0:=Lib.hid z0;have H11:=Lib.hid h11;have O11:=Lib.hid o11
           have Z02:=Lib.hid z02
           clear z10 z0 z02 h11 o11 v1)
        | (go_at_call 48;(with_reducible refine H48.out.mono ?_);rintro e w48 ⟨rfl,rfl⟩))
       refine bodyPost_ret (ret90_2 rfl _ _ w.heap.size (box6_fill Z02.out _ _ _ _ _ _) rfl) rfl ?_
       clear r0 r1 r2 r3 r4 r5 rf s0 s1 s2 s3 s4 s5 sf
       have oF:=fun bv=>((Only.refl (fun b=>b=b10∨b=w.heap.size) w11).setCell (p:=⟨b10,5,none⟩) (fun _=>.inl rfl) (.int .i64 mk2)).fill (g:=w.heap.size) (fun _=>.inr rfl) (.int .i64 (q:Int)) (.string nm) (.int .i64 y.t) (.slice ra y.r.length rc) (.bool bv) (.int .i64 mk2)
       have hE:=fun bv=>H11.out.kept (Kept.of_only (S:=fun c=>c=6∨c=7) ((oF bv).mono fun b _ e=>by
        rcases e with rfl | rfl
        · exact .inl K5.out.2.2.2
        · exact .inl K5.out.2.1) H11.out.c0)
       have o1:Only (fun b=>col7 b≠0) w7 w10:=HO10.out.mono fun b _ e=>by
        rcases e with rfl | rfl
        · rw [CX.out];omega
        · rw [CG.out];omega
       have o2:=fun bv=>(o1.trans O11.out (fun x _ h=>by have h':8≤col7 x:=h;omega)).trans (oF bv) (fun x _ e=>by
        rcases e with rfl | rfl
        · show col7 _≠0;rw [K5.out.2.2.2];omega
        · show col7 _≠0;rw [K5.out.2.1];omega)
       have hRow:=fun bv=>(K7.out.keep fun b hb hl=>(o2 bv).block b hl (fun hn=>hn hb.2)).mono fun b hb=>(⟨Nat.lt_of_lt_of_le hb.1 (o2 bv).size,hb.2⟩:Calm _ col7 b)
       have hmk:m.marks.getD q 0=mk:=by rw [← HMK.out];simp [List.getD,hq]
       have hm2:(risenM m8 q).marks.getD q 0=mk2:=by rw [← HMK2.out];simp [List.getD,hq9]
       refine ⟨col7,ws7,.slice ra y.r.length rc,E1A.out,?_,K6.out.trans ⟨o2 _,fun _ _=>rfl⟩,?_,?_⟩
       · rw [HR.out,HY.out,HM8.out];exact hE _
       · rw [HR.out,HY.out];exact hRow _
       · rw [HR.out,HY.out,HM8.out]
         show _=Ending.returned (Value.tuple #[rdV ⟨(q:Int),m.splits[k].name,y,decide (y.t<m.marks.getD q 0),(risenM m8 q).marks.getD q 0⟩ _,.int .i64 0])
         rw [hmk,HLT.out,hm2,HNM.out]
         rfl
end leaves
end Go.Proofs.YtimahogkcmmcnaaGreatDoor
