/-
 The well's state, part 6: a state's text is read. If the text is a well's.
-/
import Derived.Test.YtimahogkcmmcnaaGreatDoorL29
import Derived.Test.YtimahogkcmmcnaaGreatDoorL19
import Derived.Test.YtimahogkcmmcnaaGreatDoorL18
set_option linter.unusedSimpArgs false
set_option linter.unusedVariables false
namespace Go.Proofs.YtimahogkcmmcnaaGreatDoor
open Go.RowKit Go.Proofs.YtimahogkcmmcnaaGreatDoor.Cmps
theorem state_le {m:WlM} (hok:WOk m):(stateT m).length≤10000000:=by
 have h50:=hok.splits
 have h16:=hok.hi
 have h1:∀ y ∈ (Lib.join (headW m) [32] :: m.splits.map fun x=>Lib.join (lineW m.bound x) [32]),y.length≤100000:=by
  intro y hy
  rcases List.mem_cons.1 hy with rfl | hy
  · have h1:=join_le (headW_len hok)
    have h2:(headW m).length=m.marks.length+1:=by simp [headW]
    omega
  · obtain ⟨x,hx,rfl⟩:=List.mem_map.1 hy
    have:=join_le (lineW_len hok hx)
    have h2:(lineW m.bound x).length=5:=rfl
    omega
 have h2:=linesT_le h1
 have h3:(Lib.join (headW m) [32] :: m.splits.map fun x=>Lib.join (lineW m.bound x) [32]).length=m.splits.length+1:=by simp
 rw [h3] at h2
 show (linesT _).length≤_
 omega
def lenOf:Option Value→Nat
 | some (.slice _ n _)=>n
 | _=>0
structure Heads (w5 wr:World) (ob hb g:Nat) (sl:Bool) (mv:Value) (ms:List Int) (rest:List (List UInt8)) (blk:Option Nat):Prop where
 out:wr.heap[ob]? = some (.cells #[.bool sl,mv,.slice none 0 0] 140 (0,0))
 own:SlOwn wr 3 1 mv ms.length (ms.map (Value.int .i64)) blk
 scan:ScanAt wr hb g rest false
 new:∀ b,blk=some b→w5.heap.size≤b
 only:Only (fun y=>y=hb∨y=ob) w5 wr
 tab:Tabs wr
 lt:hb<w5.heap.size∧ob<w5.heap.size∧g<w5.heap.size∧hb≠ob∧g≠ob∧2≤hb∧2≤ob
theorem Heads.drew {w5 wr:World} {ob hb g:Nat} {sl:Bool} {mv:Value} {ms:List Int} {rest:List (List UInt8)} {blk:Option Nat} (h:Heads w5 wr ob hb g sl mv ms rest blk):Heads w5 wr.drew ob hb g sl mv ms rest blk :=
 ⟨h.out,h.own.keep fun _ _=>rfl,h.scan.keep rfl rfl (Nat.le_refl _),h.new,h.only.drew,h.tab.keep rfl rfl,h.lt⟩
theorem Heads.call {w5 wr w1:World} {ob hb g:Nat} {sl:Bool} {mv:Value} {ms:List Int} {r0 rest:List (List UInt8)} {blk:Option Nat} (h:Heads w5 wr ob hb g sl mv ms r0 blk)
 (hs:ScanAt w1 hb g rest false) (ho:Only (fun y=>y=hb) wr w1):Heads w5 w1 ob hb g sl mv ms rest blk:=by
 obtain ⟨l1,l2,l3,l4,l5,l6,l7⟩:=h.lt
 refine ⟨(ho.block ob (heap_lt h.out) (fun e=>l4 e.symm)).trans h.out,h.own.keep fun b hb2=>ho.block b (h.own.lt_of hb2) (fun e=>by have:=h.new b hb2;omega),hs,h.new,h.only.trans ho (fun x _ hx=>.inl hx),h.tab.only l6 ho,h.lt⟩
theorem Heads.put {w5 w1 w2:World} {ob hb g:Nat} {sl:Bool} {mv v':Value} {ms:List Int} {k:Int} {rest:List (List UInt8)} {blk blk':Option Nat} {o:Obj} (h:Heads w5 w1 ob hb g sl mv ms rest blk)
 (hs:SlOwn w2 3 1 v' (ms.length+1) (ms.map (Value.int .i64) ++ [.int .i64 k]) blk') (hg:(w1.alloc o).grownBy w2 blk) (hat:blk'=blk∨blk'=some (w1.alloc o).heap.size) :
 Heads w5 (w2.setCell ⟨ob,1,none⟩ v') ob hb g sl v' (ms ++ [k]) rest blk':=by
 obtain ⟨l1,l2,l3,l4,l5,l6,l7⟩:=h.lt
 have hsz:=h.only.size
 have hz:=hg.size
 have hza:(w1.alloc o).heap.size=w1.heap.size+1:=by simp
 have hk:∀ b,b<w5.heap.size→w2.heap[b]? = w1.heap[b]? := fun b hb2=>(hg.block b (by omega) (fun e=>by have:=h.new b e.symm;omega)).trans (Below.heap_alloc w1 _ _ (by omega))
 have hk2:∀ b,b<w5.heap.size→b≠ob→(w2.setCell ⟨ob,1,none⟩ v').heap[b]? = w1.heap[b]? := fun b hb2 hne=>(heap_set_ne _ hne).trans (hk b hb2)
 have hout:=(hk ob l2).trans h.out
 have hnew:∀ b,blk'=some b→w5.heap.size≤b:=fun b hb2=>by
  rcases hat with e | e
  · exact h.new b (e ▸ hb2)
  · rw [hb2] at e;injection e with e;omega
 have htwo:=h.tab.two
 refine ⟨?_,?_,h.scan.keep (hk2 hb l1 l4) (hk2 g l3 l5) (by simp;omega),hnew,?_,h.tab.keep (hk2 0 (by omega) (by omega)) (hk2 1 (by omega) (by omega)),h.lt⟩
 · rw [heap_set hout];rfl
 · have:=hs.keep (w':=w2.setCell ⟨ob,1,none⟩ v') fun b hb2=>heap_set_ne _ (fun e=>by have:=hnew b hb2;omega)
   simpa using this
 · refine (((h.only.alloc o).grown hg (fun b hb2 hlt=>by have:=h.new b hb2;omega)).setCell (p:=⟨ob,1,none⟩) (fun _=>.inr rfl) _)
def spR (x:SpM) (g:Nat):Array Value:=#[.string x.name,.slice none 0 0,.int .i64 x.read,ptr g,.bool x.sealed,.int .i64 x.owner]
structure Lines (w6 W:World) (ob:Nat) (sl:Bool) (mv spv:Value) (bd:Int) (l:List SpM) (xb gb:Nat→Nat) (sblk:Option Nat):Prop where
 out:W.heap[ob]? = some (.cells #[.bool sl,mv,spv] 140 (0,0))
 own:SlOwn W 126 1 spv l.length ((List.range l.length).map fun i=>ptr (xb i)) sblk
 sp:∀ k (h:k<l.length),W.heap[xb k]? = some (.cells (spR l[k] (gb k)) 129 (0,0))∧W.heap[gb k]? = some (.cells #[.int .i64 bd,.int .i64 l[k].mark,.bool l[k].done] 215 (0,0))∧w6.heap.size≤xb k∧xb k<gb k
 sep:∀ j k,j<k→k<l.length→gb j<xb k
 sb:∀ b,sblk=some b→w6.heap.size≤b∧∀ k,k<l.length→xb k≠b∧gb k≠b
 only:Only (fun y=>y=ob) w6 W
 lt:ob<w6.heap.size
theorem Lines.put {w6 Wr W1 W2:World} {ob xn gn:Nat} {sl:Bool} {mv spv v':Value} {bd:Int} {l:List SpM} {x:SpM} {xb gb:Nat→Nat} {sblk blk':Option Nat} {o:Obj} (h:Lines w6 Wr ob sl mv spv bd l xb gb sblk)
 (hb:Below Wr.heap.size Wr W1) (hx:W1.heap[xn]? = some (.cells (spR x gn) 129 (0,0))) (hg:W1.heap[gn]? = some (.cells #[.int .i64 bd,.int .i64 x.mark,.bool x.done] 215 (0,0))) (h1:Wr.heap.size≤xn) (h2:xn<gn)
 (hs:SlOwn W2 126 1 v' (l.length+1) (((List.range l.length).map fun i=>ptr (xb i)) ++ [ptr xn]) blk') (hgr:(W1.alloc o).grownBy W2 sblk) (hat:blk'=sblk∨blk'=some (W1.alloc o).heap.size) :
 Lines w6 (W2.setCell ⟨ob,2,none⟩ v') ob sl mv v' bd (l ++ [x]) (fun i=>if i=l.length then xn else xb i) (fun i=>if i=l.length then gn else gb i) blk':=by
 have hso:=h.only.size
 have hsb:=hb.size
 have hza:(W1.alloc o).heap.size=W1.heap.size+1:=by simp
 have hz2:=hgr.size
 have hgl:=heap_lt hg
 have hsl:∀ b,sblk=some b→b<Wr.heap.size:=fun b e=>h.own.lt_of e
 have hk:∀ b,b<W1.heap.size→sblk≠some b→W2.heap[b]? = W1.heap[b]? := fun b hb2 hne=>(hgr.block b (by omega) (fun e=>hne e.symm)).trans (Below.heap_alloc W1 _ _ hb2)
 have hk2:∀ b,b<W1.heap.size→sblk≠some b→b≠ob→(W2.setCell ⟨ob,2,none⟩ v').heap[b]? = W1.heap[b]? := fun b hb2 hne hno=>(heap_set_ne _ hno).trans (hk b hb2 hne)
 have hol:=heap_lt h.out
 have hsbo:sblk≠some ob:=fun e=>by have:=(h.sb _ e).1;have:=h.lt;omega
 have hout:=(hk ob (by omega) hsbo).trans ((hb.block ob hol).trans h.out)
 have hxo:sblk≠some xn∧xn≠ob:=⟨fun e=>by have:=hsl _ e;omega,by omega⟩
 have hgo:sblk≠some gn∧gn≠ob:=⟨fun e=>by have:=hsl _ e;omega,by omega⟩
 have hold:∀ k (hk3:k<l.length),gb k<Wr.heap.size:=fun k hk3=>heap_lt (h.sp k hk3).2.1
 refine ⟨?_,?_,?_,?_,?_,?_,h.lt⟩
 · rw [heap_set hout];rfl
 · have hn:=hs.keep (w':=W2.setCell ⟨ob,2,none⟩ v') fun b hb2=>heap_set_ne _ (fun e=>by
    have:=h.lt
    rcases hat with e2 | e2
    · have:=(h.sb b (e2 ▸ hb2)).1;omega
    · rw [hb2] at e2;injection e2 with e2;omega)
   have e1:(List.range (l ++ [x]).length).map (fun i=>ptr (if i=l.length then xn else xb i))=((List.range l.length).map fun i=>ptr (xb i)) ++ [ptr xn]:=by
    rw [List.length_append,List.length_singleton,List.range_succ,List.map_append]
    congr 1
    · apply List.map_congr_left
      intro i hi
      rw [if_neg (by have:=List.mem_range.1 hi;omega)]
    · simp
   rw [e1]
   simpa using hn
 · intro k hk3
   by_cases e:k=l.length
   · subst e
     simp only [if_true,List.getElem_concat_length]
     exact ⟨(hk2 xn (by omega) hxo.1 hxo.2).trans hx,(hk2 gn hgl hgo.1 hgo.2).trans hg,by omega,h2⟩
   · have hk4:k<l.length:=by simp at hk3;omega
     rw [if_neg e,if_neg e,List.getElem_append_left hk4]
     obtain ⟨a1,a2,a3,a4⟩:=h.sp k hk4
     have b1:=heap_lt a1
     have b2:=heap_lt a2
     have hl:=h.lt
     exact ⟨(hk2 _ (by omega) (fun e=>((h.sb _ e).2 k hk4).1 rfl) (by omega)).trans ((hb.block _ b1).trans a1),(hk2 _ (by omega) (fun e=>((h.sb _ e).2 k hk4).2 rfl) (by omega)).trans ((hb.block _ b2).trans a2),a3,a4⟩
 · intro j k hjk hk3
   have hk4:k≤l.length:=by simp at hk3;omega
   rw [if_neg (by omega)]
   by_cases e:k=l.length
   · rw [if_pos e]
     have:=hold j (by omega)
     omega
   · rw [if_neg e]
     exact h.sep j k hjk (by omega)
 · intro b hb2
   rcases hat with e2 | e2
   · obtain ⟨c1,c2⟩:=h.sb b (e2 ▸ hb2)
     have c3:=hsl b (e2 ▸ hb2)
     refine ⟨c1,fun k hk3=>?_⟩
     by_cases e:k=l.length
     · rw [if_pos e,if_pos e];omega
     · rw [if_neg e,if_neg e];exact c2 k (by simp at hk3;omega)
   · rw [hb2] at e2;injection e2 with e2
     refine ⟨by omega,fun k hk3=>?_⟩
     by_cases e:k=l.length
     · rw [if_pos e,if_pos e];omega
     · have:=hold k (by simp at hk3;omega)
       have:=(h.sp k (by simp at hk3;omega)).2.2.2
       rw [if_neg e,if_neg e];omega
 · exact (((h.only.trans (Only.of_below (S:=fun _=>False) hb) (fun _ _ hf=>hf.elim)).alloc o).grown hgr (fun b e hlt=>by have:=(h.sb b e).1;omega)).setCell (p:=⟨ob,2,none⟩) (fun _=>rfl) _
theorem Lines.same {w6 W W':World} {ob:Nat} {sl:Bool} {mv spv:Value} {bd:Int} {l:List SpM} {xb gb:Nat→Nat} {sblk:Option Nat} (h:Lines w6 W ob sl mv spv bd l xb gb sblk) (hb:Below W.heap.size W W'):Lines w6 W' ob sl mv spv bd l xb gb sblk :=
 ⟨(hb.block _ (heap_lt h.out)).trans h.out,h.own.keep fun b e=>hb.block b (h.own.lt_of e),fun k hk=>by
  obtain ⟨a1,a2,a3,a4⟩:=h.sp k hk
  exact ⟨(hb.block _ (heap_lt a1)).trans a1,(hb.block _ (heap_lt a2)).trans a2,a3,a4⟩,h.sep,h.sb,h.only.trans (Only.of_below (S:=fun _=>False) hb) (fun _ _ hf=>hf.elim),h.lt⟩
theorem results_cell_row_tmp {P:Program} {fn:Func} {p u:Tmp} {ty:TypeId} (h:fn.results=#[.cell p ty,.tmp u]) (tmps:Array Value) (w:World) (g:Nat) (t:TypeId) (cs:Array Value) (fr:Nat×Nat) (d:TypeDesc)
 (hp:tmps.getD p undef=.pointer (some ⟨g,0,none⟩)) (hg:w.heap[g]? = some (.cells cs t fr))
 (hu:P.underlying ty=some d) (hd:(match d with | .struct _ | .array _ _=>true | _=>false)=true) (hi:(P.info? ty).map (·.size)=some cs.size) :
 (results fn tmps).run P w=.ok (.tuple #[.agg cs,tmps.getD u undef]) w:=by
 have hp':tmps[p]?.getD undef=.pointer (some ⟨g,0,none⟩):=by simpa using hp
 simp [results,h,hp',asAddr,run_loadVar_row w g t ty cs fr d hg hu hd hi]
theorem size140:(Tryz.prog.info? 140).map (·.size)=some 3:=by kernel_rfl
structure ScanRes (w w':World) (m:WlM) (mv spv:Value) (xb gb:Nat→Nat) (mblk sblk:Option Nat):Prop where
 marks:SlOwn w' 3 1 mv m.marks.length (m.marks.map (Value.int .i64)) mblk
 spl:SlOwn w' 126 1 spv m.splits.length ((List.range m.splits.length).map fun i=>ptr (xb i)) sblk
 sp:∀ k (h:k<m.splits.length),w'.heap[xb k]? = some (.cells (spR m.splits[k] (gb k)) 129 (0,0))∧w'.heap[gb k]? = some (.cells #[.int .i64 m.bound,.int .i64 m.splits[k].mark,.bool m.splits[k].done] 215 (0,0))∧w.heap.size≤xb k∧xb k<gb k
 sep:∀ j k,j<k→k<m.splits.length→gb j<xb k
 mb:∀ b,mblk=some b→w.heap.size≤b∧∀ k,k<m.splits.length→xb k≠b∧gb k≠b
 sb:∀ b,sblk=some b→w.heap.size≤b∧∀ k,k<m.splits.length→xb k≠b∧gb k≠b
 below:Below w.heap.size w w'
def minK (l:List Int):Nat→Int
 | 0=>l.getD 0 0
 | k+1=>min (minK l k) (l.getD k 0)
section leaves
set_option maxHeartbeats 1000000
set_option maxRecDepth 100000
theorem f80_any (w:World) (g o c n:Nat) (l:List Int) (hn:l.length=n) (h0:1≤n) (h1:n≤1000) (hc:∀ i,(h:i<l.length)→w.cell? ⟨g,o+i,none⟩=some (.int .i64 l[i])) :
 Calls Tryz.prog 80 #[.slice (some ⟨g,o,none⟩) n c] w fun e w'=>e=.returned (.int .i64 (minK l n))∧w=w':=by
 have hx0:=hc 0 (by omega)
 have HC:=Lib.hid hc
 obtain ⟨y0,hy0⟩:∃ y,l[0]=y:=⟨_,rfl⟩
 rw [hy0] at hx0
 have hm1:minK l 1=y0:=by
  have e:l.getD 0 0=y0:=by rw [← hy0];simp [List.getD,List.getElem?_eq_getElem (show 0<l.length by omega)]
  show min (l.getD 0 0) (l.getD 0 0)=y0
  rw [e]
  omega
 rw [Nat.add_zero] at hx0
 have hn1:¬ (n:Int)<1:=by omega
 have hp0:(0:Int)<(n:Int):=by omega
 clear hc
 go_enter Tryz.func80,Tryz.ntmps80
 go_wp2_with fail
 go_loopw [3,4] (fun v i wr=>∃ k:Nat,1≤k∧k≤n∧v=.int .i64 (minK l k)∧i=.int .i64 k∧w=wr) (fun _ i _=>n - (intOf i).toNat)
 case atStart=>exact ⟨1,by omega,by omega,by rw [hm1],rfl,rfl⟩
 obtain ⟨k,hk1,hk,rfl,rfl,rfl⟩:=hrel
 by_cases hlt:k<n
 · have hx:=HC.out k (by omega)
   have hkn:(k:Int)<(n:Int):=by omega
   have hk0:(0:Int)≤(k:Int):=by omega
   have hmk:minK l (k+1)=min (minK l k) (l[k]'(by omega)):=by
    have e:l.getD k 0=l[k]'(by omega):=by simp [List.getD,List.getElem?_eq_getElem (show k<l.length by omega)]
    show min _ (l.getD k 0)=_
    rw [e]
   generalize l[k]'(by omega)=y at hx hmk
   go_wp2_with fail
   go_roundw
   case rel=>exact ⟨k+1,by omega,by omega,by rw [hmk],by go_num,trivial⟩
   case measure=>simp [intOf];omega
 · have hkn:k=n:=by omega
   subst hkn
   go_wp2_with fail
   go_ret
   exact ⟨rfl,rfl⟩
end leaves
def zero88:Value:=.agg #[.string ⟨#[]⟩,.string ⟨#[]⟩,.slice none 0 0]
theorem lookup_g (W:World) (r clock:Nat) (n:ByteArray) {es:Array MapEntry} {l:List (ByteArray×Value)} (he:PEnts es.toList l) (h:W.heap[r]? = some (.map es clock)) :
 (Instr.lookup 138 (.map (some r)) (.string n) false).run Tryz.prog W=.ok ((valS l n).getD zero88) W:=by
 have hz:∀ w,(zeroValue 88).run Tryz.prog w=.ok zero88 w:=fun w=>by kernel_rfl
 have u:=Tryz.underlying138
 have u9:=Tryz.underlying9
 have ho:(getObj r).run Tryz.prog W=.ok (.map es clock) W:=by simp [getObj,Sem.run,h]
 have hck:∀ e m,(Instr.checkKey e (m+1) 9 (.string n)).run Tryz.prog W=.ok () W:=fun e m=>MapKept.run_checkKey u9 (by simp [MapKept.IsKey]) e m
 obtain ⟨q,hq,hs⟩:=findNow_p he n 0
 have hf:(Instr.findKey 9 (.string n) es.toList).run Tryz.prog W=.ok q W:=by simp [Instr.findKey,run_underlying u9,hq]
 cases q with
 | none=>simp only [Option.map_none] at hs;simp [Instr.lookup,run_underlying u,ho,hck,hf,hz,← hs]
 | some x=>simp only [Option.map_some] at hs;simp [Instr.lookup,run_underlying u,ho,hck,hf,← hs]
theorem lookup_gok (W:World) (r clock:Nat) (n:ByteArray) {es:Array MapEntry} {l:List (ByteArray×Value)} (he:PEnts es.toList l) (h:W.heap[r]? = some (.map es clock)) {v:Value} (hv:valS l n=some v) :
 (Instr.lookup 138 (.map (some r)) (.string n) true).run Tryz.prog W=.ok (.tuple #[v,.bool true]) W:=by
 have u:=Tryz.underlying138
 have u9:=Tryz.underlying9
 have ho:(getObj r).run Tryz.prog W=.ok (.map es clock) W:=by simp [getObj,Sem.run,h]
 have hck:∀ e m,(Instr.checkKey e (m+1) 9 (.string n)).run Tryz.prog W=.ok () W:=fun e m=>MapKept.run_checkKey u9 (by simp [MapKept.IsKey]) e m
 obtain ⟨q,hq,hs⟩:=findNow_p he n 0
 rw [hv] at hs
 have hf:(Instr.findKey 9 (.string n) es.toList).run Tryz.prog W=.ok q W:=by simp [Instr.findKey,run_underlying u9,hq]
 cases q with
 | none=>cases hs
 | some x =>
   simp only [Option.map_some,Option.some.injEq] at hs
   simp [Instr.lookup,run_underlying u,ho,hck,hf,← hs]
theorem store_g (W:World) (r clock:Nat) (n:ByteArray) (v:Value) {es:Array MapEntry} {l:List (ByteArray×Value)} (he:PEnts es.toList l) (h:W.heap[r]? = some (.map es clock)) (hk:valS l n=none) :
 (Instr.mapUpdate 138 (.map (some r)) (.string n) v).run Tryz.prog W=.ok () (W.putObj r (.map (es.push { key:=.string n,val:=v,born:=clock }) (clock+1))):=by
 have u:=Tryz.underlying138
 have u9:=Tryz.underlying9
 have ho:(getObj r).run Tryz.prog W=.ok (.map es clock) W:=by simp [getObj,Sem.run,h]
 have hs:∀ o,(setObj r o).run Tryz.prog W=.ok () (W.putObj r o):=fun o=>by simp [setObj,Sem.run,World.putObj,h]
 have hck:∀ e m,(Instr.checkKey e (m+1) 9 (.string n)).run Tryz.prog W=.ok () W:=fun e m=>MapKept.run_checkKey u9 (by simp [MapKept.IsKey]) e m
 obtain ⟨q,hq,hs'⟩:=findNow_p he n 0
 rw [hk] at hs'
 have hqn:q=none:=by cases q <;> simp_all
 subst hqn
 have hf:(Instr.findKey 9 (.string n) es.toList).run Tryz.prog W=.ok none W:=by simp [Instr.findKey,run_underlying u9,hq]
 simp [Instr.mapUpdate,run_underlying u,ho,hck,hf,hs]
section leaves
set_option maxHeartbeats 1000000
set_option maxRecDepth 100000
theorem f76_any (hm:Tryz.prog.follows .mixedOrders=true) (w:World) (x g vb mp clock n c rd:Nat) (nm src nm2:ByteArray) (ea:Option Addr) (bd mk:Int) (cl:Bool) {es:Array MapEntry} {l:List (ByteArray×Value)}
 (h0:w.cell? ⟨x,0,none⟩=some (.string nm)) (h2:w.cell? ⟨x,2,none⟩=some (.int .i64 rd)) (h3:w.cell? ⟨x,3,none⟩=some (ptr g)) (hg:w.heap[g]? = some (.cells #[.int .i64 bd,.int .i64 mk,.bool cl] 215 (0,0)))
 (hv:w.cell? ⟨vb,0,none⟩=some (.map (some mp))) (hmp:w.heap[mp]? = some (.map es clock)) (he:PEnts es.toList l) (hl:valS l nm=some (.agg #[.string src,.string nm2,.slice ea n c])) (hrn:rd≤n) (hn:n≤1000) :
 Calls Tryz.prog 76 #[ptr x,ptr vb] w fun e w'=>e=.returned (.bool (cl && !(n == rd)))∧Below w.heap.size w w':=by
 have mixed:=hm
 have HCL:Hid (∀ W,Below w.heap.size w W→W.cell? ⟨x,0,none⟩=some (.string nm)∧W.cell? ⟨x,2,none⟩=some (.int .i64 rd)∧W.cell? ⟨x,3,none⟩=some (.pointer (some ⟨g,0,none⟩))∧W.cell? ⟨vb,0,none⟩=some (.map (some mp))∧(Instr.lookup 138 (.map (some mp)) (.string nm) true).run Tryz.prog W=.ok (.tuple #[.agg #[.string src,.string nm2,.slice ea n c],.bool true]) W):=fun W hb =>
  ⟨by rw [hb.cell (p:=⟨x,0,none⟩) (cell_lt h0)];exact h0,by rw [hb.cell (p:=⟨x,2,none⟩) (cell_lt h2)];exact h2,by rw [hb.cell (p:=⟨x,3,none⟩) (cell_lt h3)];exact h3,by rw [hb.cell (p:=⟨vb,0,none⟩) (cell_lt hv)];exact hv,lookup_gok W mp clock nm he ((hb.block _ (heap_lt hmp)).trans hmp) hl⟩
 have H77:Hid (∀ W,Below w.heap.size w W→Calls Tryz.prog 77 #[.pointer (some ⟨g,0,none⟩)] W fun e w'=>e=.returned (.bool cl)∧W=w'):=fun W hb=>f77_any W g bd mk cl ((hb.block _ (heap_lt hg)).trans hg)
 have hr1:¬ (n:Int)<(rd:Int):=by omega
 obtain ⟨q,hq⟩:∃ q,(n == rd)=q:=⟨_,rfl⟩
 have hqi:((n:Int) == (rd:Int))=q:=by rw [← hq,Bool.eq_iff_iff];simp;omega
 rw [hq]
 unfold ptr
 clear h0 h2 h3 hg hv hmp he hl hq
 go_enter Tryz.func76,Tryz.ntmps76
 go_wp2_with fail
 have hC:Below w.heap.size w w.drew:=(Below.refl _ _).drew
 refine wp_region_ord [0,1,2,3,4,5,6,7,8,9,10,11] (fun W=>Below w.heap.size w W) mixed (by kernel_rfl) (fun hg=>?_)
 generalize w.drew=wd at hC ⊢
 iterate 9 (refine ord_rd hg hC (fun K hK=>?_);apply Exists.intro;refine ⟨fun W hW=>?_,?_⟩;(· obtain ⟨u0,u2,u3,u4,u5⟩:=HCL.out W hW;go_simp;first | rfl | (rw [if_neg (by omega)];done));go_simp;refine hK _ ?_;clear hK K)
 refine ord_on (fun K hK=>?_)
 go_simp
 refine hK _ _ rfl (hC.alloc hC.size _) ?_
 clear hK K
 have hA:=World.alloc_heap_new wd (.cells #[.string ⟨#[]⟩,.string ⟨#[]⟩,.slice none 0 0] 88)
 iterate 2 (
  refine ord_on (fun K hK=>?_)
  go_simp
  refine hK _ _ rfl (hC.alloc hC.size _) ?_
  clear hK K)
 refine ord_end (by kernel_rfl) ?_
 have hA2:=World.alloc_heap_new wd (.cells #[.string src,.string nm2,.slice ea n c] 88)
 have hB2:Below w.heap.size w (wd.alloc (.cells #[.string src,.string nm2,.slice ea n c] 88)):=hC.alloc hC.size _
 clear hA hC
 generalize wd.alloc (.cells #[.string src,.string nm2,.slice ea n c] 88)=w2 at hA2 hB2 ⊢
 generalize wd.heap.size=bb at hA2 ⊢
 have HB2:=Lib.hid hB2
 have HC2:Hid (∀ W,Below w2.heap.size w2 W→W.cell? ⟨x,2,none⟩=some (.int .i64 rd)∧W.cell? ⟨x,3,none⟩=some (.pointer (some ⟨g,0,none⟩))∧W.cell? ⟨bb,2,none⟩=some (.slice ea n c)∧Below w.heap.size w W):=fun W hb=>by
  have hb2:=HB2.out.trans (hb.mono HB2.out.size)
  obtain ⟨_,u2,u3,_,_⟩:=HCL.out W hb2
  exact ⟨u2,u3,cells_at ((hb.block _ (heap_lt hA2)).trans hA2) 2,hb2⟩
 clear hA2 hB2
 go_wp2_with fail
 have hC:Below w2.heap.size w2 w2.drew:=(Below.refl _ _).drew
 cases cl
 · refine wp_region_ord [0,1,2,3,4,5,6,7,8,9,10,11,12,13,14,15,16,17,18,19,20,21,22,23,24,25,26,27,28,29] (fun W=>Below w2.heap.size w2 W) mixed (by kernel_rfl) (fun hg=>?_)
   generalize w2.drew=wd2 at hC ⊢
   iterate 17 (refine ord_read hg rfl (by kernel_rfl) (by first | rfl | (simp [Region.wanted,yielded,hrn];done)) hC (fun K hK=>?_);apply Exists.intro;refine ⟨fun W hW=>?_,?_⟩;(· obtain ⟨u2,u3,u4,u5⟩:=HC2.out W hW;go_simp;first | rfl | (rw [if_neg (by omega)];done));go_simp;refine hK _ ?_;clear hK K)
   refine ord_one (by kernel_rfl) rfl (by first | rfl | (simp [Region.wanted,yielded,hrn];done)) (fun K hK=>?_)
   go_simp
   go_at_call 77
   refine (H77.out _ (HC2.out _ hC).2.2.2).mono ?_
   rintro e w5 ⟨rfl,rfl⟩
   refine hK _ _ rfl hC ?_
   clear hK K
   (refine ord_read hg rfl (by kernel_rfl) (by first | rfl | (simp [Region.wanted,yielded,hrn];done)) hC (fun K hK=>?_);apply Exists.intro;refine ⟨fun W hW=>?_,?_⟩;(· obtain ⟨u2,u3,u4,u5⟩:=HC2.out W hW;go_simp;first | rfl | (rw [if_neg (by omega)];done));go_simp;refine hK _ ?_;clear hK K)
   iterate 8 (refine ord_pass hg rfl (by kernel_rfl) (by simp [Region.wanted,yielded,hrn]) hC (fun K hK=>?_);go_simp;refine hK _ ?_;clear hK K)
   iterate 3 (refine ord_read hg rfl (by kernel_rfl) (by first | rfl | (simp [Region.wanted,yielded,hrn];done)) hC (fun K hK=>?_);apply Exists.intro;refine ⟨fun W hW=>?_,?_⟩;(· obtain ⟨u2,u3,u4,u5⟩:=HC2.out W hW;go_simp;first | rfl | (rw [if_neg (by omega)];done));go_simp;refine hK _ ?_;clear hK K)
   refine ord_end (by kernel_rfl) ?_
   have hbf:=(HC2.out _ hC).2.2.2
   go_wp2_with fail
   go_ret
   exact ⟨by first | (simp [hrn];done) | (have e1:decide (n<rd)=false:=by simp [hrn]
                                          simp [e1,bne,hqi]),hbf⟩
 · refine wp_region_ord [0,1,2,3,4,5,6,7,8,9,10,11,12,13,14,15,16,17,18,19,20,21,22,23,24,25,26,27,28,29] (fun W=>Below w2.heap.size w2 W) mixed (by kernel_rfl) (fun hg=>?_)
   generalize w2.drew=wd2 at hC ⊢
   iterate 17 (refine ord_read hg rfl (by kernel_rfl) (by first | rfl | (simp [Region.wanted,yielded,hrn];done)) hC (fun K hK=>?_);apply Exists.intro;refine ⟨fun W hW=>?_,?_⟩;(· obtain ⟨u2,u3,u4,u5⟩:=HC2.out W hW;go_simp;first | rfl | (rw [if_neg (by omega)];done));go_simp;refine hK _ ?_;clear hK K)
   refine ord_one (by kernel_rfl) rfl (by first | rfl | (simp [Region.wanted,yielded,hrn];done)) (fun K hK=>?_)
   go_simp
   go_at_call 77
   refine (H77.out _ (HC2.out _ hC).2.2.2).mono ?_
   rintro e w5 ⟨rfl,rfl⟩
   refine hK _ _ rfl hC ?_
   clear hK K
   iterate 12 (refine ord_read hg rfl (by kernel_rfl) (by first | rfl | (simp [Region.wanted,yielded,hrn];done)) hC (fun K hK=>?_);apply Exists.intro;refine ⟨fun W hW=>?_,?_⟩;(· obtain ⟨u2,u3,u4,u5⟩:=HC2.out W hW;go_simp;first | rfl | (rw [if_neg (by omega)];done));go_simp;refine hK _ ?_;clear hK K)
   refine ord_end (by kernel_rfl) ?_
   have hbf:=(HC2.out _ hC).2.2.2
   go_wp2_with fail
   go_ret
   exact ⟨by first | (simp [hrn];done) | (have e1:decide (n<rd)=false:=by simp [hrn]
                                          simp [e1,bne,hqi]),hbf⟩
end leaves
section kept2
variable {w w' : World} {col col' : Nat → Nat} {s : List Col} {ws : WS} {m : WlM}
theorem WAt.addSplit2 (h:WAt w col s ws m) {x:SpM} {bx bg:Nat} {ev:Value} {be:Option Nat} {spl:Value} {sb:Option Nat} {en:Array MapEntry} {ck:Nat}
 (k:Kept w w' col col' (fun c=>c=1∨c=2∨c=3∨c=6∨c=8 * m.splits.length+8))
 (cx:col' bx=8 * m.splits.length+8) (cg:col' bg=8 * m.splits.length+9) (ce:∀ b,be=some b→col' b=8 * m.splits.length+10) (cs:∀ b,sb=some b→col' b=2)
 (hW:w'.heap[ws.W]? = some (.cells #[ws.sch,.int .i64 m.bound,spl,.map (some ws.mp),ws.rd,.bool m.sealed,ws.late] 99 (0,0)))
 (hS:SlOwn w' 126 1 spl (m.splits.length+1) (((List.range m.splits.length).map fun k=>ptr (ws.xb k)) ++ [ptr bx]) sb)
 (hX:w'.heap[bx]? = some (.cells #[.string x.name,ev,.int .i64 x.read,ptr bg,.bool x.sealed,.int .i64 x.owner] 129 (0,0)))
 (hG:w'.heap[bg]? = some (.cells #[.int .i64 m.bound,.int .i64 x.mark,.bool x.done] 215 (0,0)))
 (hE:EvsOwn w' (Calm w' col') ev x.evs be)
 (hM:w'.heap[ws.mp]? = some (.map en ck)) (hN:PEnts en.toList (namesW m.splits ws.xb ++ [(x.name,ptr bx)])) :
 WAt w' col' s { ws with spl:=spl,sb:=sb,xb:=updF ws.xb m.splits.length bx,gb:=updF ws.gb m.splits.length bg,ev:=updF ws.ev m.splits.length ev,eb:=updF ws.eb m.splits.length be,ents:=en,clock:=ck } { m with splits:=m.splits ++ [x] }:=by
 have hlen:(m.splits ++ [x]).length=m.splits.length+1:=by simp
 have hold:∀ q (hq:q<m.splits.length),(m.splits ++ [x])[q]'(by omega)=m.splits[q]:=fun q hq=>List.getElem_append_left hq
 have hnew:(m.splits ++ [x])[m.splits.length]'(by omega)=x:=by simp
 have split:∀ {P:∀ q,q<(m.splits ++ [x]).length→Prop},(∀ q (hq:q<m.splits.length),P q (by omega))→P m.splits.length (by omega)→∀ q hq,P q hq:=by
  intro P h1 h2 q hq
  by_cases e:q=m.splits.length
  · subst e;exact h2
  · exact h1 q (by omega)
 refine ⟨k.new,k.colb h.cW (by omega) h.c0,cs,k.colb h.cM (by omega) h.c0,fun b hb=>k.colb (h.cR b hb) (by omega) h.c0,fun b hb=>k.colb (h.cL b hb) (by omega) h.c0,?_,?_,?_,
  fun q hq=>k.colb (h.cB q hq) (by omega) h.c0,fun q hq=>k.colb (h.cI q hq) (by omega) h.c0,hW,k.sch (by omega) h.hC,?_,k.own (by omega) h.cR h.hR,k.evs (by omega) (by omega) h.cL h.hL,?_,?_,?_,
  fun q hq=>k.obj (h.hB q hq) (h.cB q hq) (by omega),fun q hq=>k.obj (h.hI q hq) (h.cI q hq) (by omega),hM,?_⟩
 · refine split (fun q hq=>?_) ?_
   · dsimp only;rw [updF_ne _ _ (by omega)];exact k.colb (h.cX q hq) (by omega) h.c0
   · dsimp only;rw [updF_same];exact cx
 · refine split (fun q hq=>?_) ?_
   · dsimp only;rw [updF_ne _ _ (by omega)];exact k.colb (h.cG q hq) (by omega) h.c0
   · dsimp only;rw [updF_same];exact cg
 · intro q b hq
   refine split (P:=fun q _=>updF ws.eb m.splits.length be q=some b→col' b=8 * q+10) (fun q hq=>?_) ?_ q hq
   · rw [updF_ne _ _ (by omega)];exact fun hb=>k.colb (h.cE q b hq hb) (by omega) h.c0
   · rw [updF_same];exact ce b
 · have e1:(List.range (m.splits ++ [x]).length).map (fun k=>ptr (updF ws.xb m.splits.length bx k))=((List.range m.splits.length).map fun k=>ptr (ws.xb k)) ++ [ptr bx]:=by
    rw [hlen,List.range_succ,List.map_append]
    congr 1
    · apply List.map_congr_left
      intro q hq
      have:q<m.splits.length:=by simpa using hq
      rw [updF_ne _ _ (by omega)]
    · simp [updF_same]
   rw [e1,hlen];exact hS
 · refine split (fun q hq=>?_) ?_
   · simp only [hold q hq]
     rw [updF_ne _ _ (by omega),updF_ne _ _ (by omega),updF_ne _ _ (by omega)];exact k.obj (h.hX q hq) (h.cX q hq) (by omega)
   · simp only [hnew,updF_same];exact hX
 · refine split (fun q hq=>?_) ?_
   · simp only [hold q hq]
     rw [updF_ne _ _ (by omega)];exact k.obj (h.hG q hq) (h.cG q hq) (by omega)
   · simp only [hnew,updF_same];exact hG
 · refine split (fun q hq=>?_) ?_
   · simp only [hold q hq]
     rw [updF_ne _ _ (by omega),updF_ne _ _ (by omega)];exact k.evs (by omega) (c:=8 * q+10) (by omega) (fun b hb=>h.cE q b hq hb) (h.hE q hq)
   · simp only [hnew,updF_same];exact hE
 · have e2:namesW m.splits ws.xb ++ [(x.name,ptr bx)]=namesW (m.splits ++ [x]) (updF ws.xb m.splits.length bx):=by
    unfold namesW
    rw [hlen,List.range_succ,List.map_append]
    congr 1
    · apply List.map_congr_left
      intro q hq
      have hq':q<m.splits.length:=by simpa using hq
      have hq2:q<(m.splits ++ [x]).length:=by omega
      rw [updF_ne _ _ (by omega)]
      simp only [List.getD_eq_getElem?_getD,List.getElem?_eq_getElem hq',List.getElem?_eq_getElem hq2,Option.getD_some,hold q hq']
    · simp [updF_same]
   rw [e2] at hN
   unfold PEnts namesW at hN
   rw [hN,List.map_map]
   rfl
theorem WAt.setSealedG (h:WAt w col s ws m) {v:Bool} (k:Kept w w' col col' (fun c=>c=1))
 (hx:w'.heap[ws.W]? = some (.cells #[ws.sch,.int .i64 m.bound,ws.spl,.map (some ws.mp),ws.rd,.bool v,ws.late] 99 (0,0))):WAt w' col' s ws { m with sealed:=v }:=by
 have kc:∀ {b c:Nat},col b=c→c≠0→col' b=c:=fun hb hc=>k.colb hb hc h.c0
 exact ⟨k.new,kc h.cW (by omega),fun b hb=>kc (h.cS b hb) (by omega),kc h.cM (by omega),fun b hb=>kc (h.cR b hb) (by omega),fun b hb=>kc (h.cL b hb) (by omega),fun q hq=>kc (h.cX q hq) (by omega),fun q hq=>kc (h.cG q hq) (by omega),fun q b hq hb=>kc (h.cE q b hq hb) (by omega),fun q hq=>kc (h.cB q hq) (by omega),fun q hq=>kc (h.cI q hq) (by omega),hx,k.sch (by omega) h.hC,k.own (by omega) h.cS h.hS,k.own (by omega) h.cR h.hR,
  k.evs (by omega) (by omega) h.cL h.hL,fun q hq=>k.obj (h.hX q hq) (h.cX q hq) (by omega),fun q hq=>k.obj (h.hG q hq) (h.cG q hq) (by omega),fun q hq=>k.evs (by omega) (by omega) (fun b hb=>h.cE q b hq hb) (h.hE q hq),
  fun q hq=>k.obj (h.hB q hq) (h.cB q hq) (by omega),fun q hq=>k.obj (h.hI q hq) (h.cI q hq) (by omega),k.obj h.hM h.cM (by omega),h.hN⟩
end kept2
structure GivM where
 src:ByteArray
 name:ByteArray
 evs:List Evt
def GivsAt (w:World) (D:Nat→Prop) (v:Value) (l:List GivM) (ev:Nat→Value):Prop :=
 ∃ a cap,v=.slice a l.length cap∧(l=[]∨∃ b off,a=some ⟨b,off,none⟩∧D b∧∀ i,(h:i<l.length)→EvtsAt w D (ev i) l[i].evs ∧
  w.cell? ⟨b,off+i * 3,none⟩=some (.string l[i].src)∧w.cell? ⟨b,off+i * 3+1,none⟩=some (.string l[i].name)∧w.cell? ⟨b,off+i * 3+2,none⟩=some (ev i))
def entG (l:List GivM) (ev:Nat→Value) (k:Nat):List (ByteArray×Value) :=
 (List.range k).map fun i=>((l.getD i ⟨⟨#[]⟩,⟨#[]⟩,[]⟩).name,.agg #[.string (l.getD i ⟨⟨#[]⟩,⟨#[]⟩,[]⟩).src,.string (l.getD i ⟨⟨#[]⟩,⟨#[]⟩,[]⟩).name,ev i])
def GUniq (l:List GivM):Prop:=∀ i j (hi:i<l.length) (hj:j<l.length),l[i].name=l[j].name→i=j
theorem entG_snoc {l:List GivM} {ev:Nat→Value} {k:Nat} (h:k<l.length):entG l ev (k+1)=entG l ev k ++ [(l[k].name,.agg #[.string l[k].src,.string l[k].name,ev k])]:=by
 unfold entG
 rw [List.range_succ,List.map_append]
 simp [List.getD,List.getElem?_eq_getElem h]
theorem getD_giv {l:List GivM} {i:Nat} (h:i<l.length):l.getD i ⟨⟨#[]⟩,⟨#[]⟩,[]⟩=l[i]:=by simp [List.getD,List.getElem?_eq_getElem h]
theorem valS_absent {l:List (ByteArray×Value)} {n:ByteArray} (h:∀ p ∈ l,p.1≠n):valS l n=none:=by
 unfold valS
 rw [Option.map_eq_none_iff,List.find?_eq_none]
 intro p hp hq
 exact h p hp (eqS_true.mp (by simpa using hq))
theorem entG_new {l:List GivM} {ev:Nat→Value} {k:Nat} (hu:GUniq l) (h:k<l.length):valS (entG l ev k) l[k].name=none:=by
 apply valS_absent
 intro p hp he
 unfold entG at hp
 obtain ⟨i,hi,rfl⟩:=List.mem_map.1 hp
 have hik:=List.mem_range.1 hi
 simp only [getD_giv (show i<l.length by omega)] at he
 have:=hu i k (by omega) h he
 omega
theorem entG_at {l:List GivM} {ev:Nat→Value} (hu:GUniq l) {n i:Nat} (hn:n≤l.length) (hi:i<n):valS (entG l ev n) (l[i]'(by omega)).name=some (.agg #[.string (l[i]'(by omega)).src,.string (l[i]'(by omega)).name,ev i]):=by
 induction n with
 | zero=>omega
 | succ n ih =>
   rw [entG_snoc (by omega)]
   unfold valS
   rw [List.find?_append,Option.map_or]
   by_cases e:i=n
   · subst e
     have h0:=entG_new (ev:=ev) hu (show i<l.length by omega)
     unfold valS at h0
     rw [h0]
     simp [eqS_true.mpr rfl]
   · have h1:=ih (by omega) (by omega)
     unfold valS at h1
     rw [h1]
     rfl
def gOf (l:List GivM) (nm:ByteArray):GivM:=(l.find? fun g=>eqS g.name nm).getD ⟨⟨#[]⟩,⟨#[]⟩,[]⟩
theorem gOf_at {l:List GivM} (hu:GUniq l) {j:Nat} (h:j<l.length):gOf l l[j].name=l[j]:=by
 unfold gOf
 have h1:l.find? (fun g=>eqS g.name l[j].name)=some l[j]:=by
  rw [List.find?_eq_some_iff_getElem]
  refine ⟨eqS_true.mpr rfl,j,h,rfl,fun i hi=>?_⟩
  cases hq:eqS l[i].name l[j].name with
  | false=>rfl
  | true=>have:=hu i j (by omega) h (eqS_true.mp hq);omega
 rw [h1]
 rfl
def bigX (l:List GivM) (x:SpM):Bool:=x.done && !((gOf l x.name).evs.length == x.read)
def bigB (m:WlM) (l:List GivM):Bool:=m.splits.any (bigX l)
def bigI (m:WlM) (l:List GivM) (i:Nat):Bool:=(m.splits[i]?.map (bigX l)).getD false
theorem big_range (m:WlM) (l:List GivM):(List.range m.splits.length).any (bigI m l)=bigB m l:=by
 unfold bigB
 rw [Bool.eq_iff_iff,List.any_eq_true,List.any_eq_true]
 constructor
 · rintro ⟨i,hi,h⟩
   have hi':=List.mem_range.1 hi
   refine ⟨m.splits[i],List.getElem_mem hi',?_⟩
   unfold bigI at h
   rw [List.getElem?_eq_getElem hi'] at h
   exact h
 · rintro ⟨x,hx,h⟩
   obtain ⟨i,hi,rfl⟩:=List.mem_iff_getElem.1 hx
   refine ⟨i,List.mem_range.2 hi,?_⟩
   unfold bigI
   rw [List.getElem?_eq_getElem hi]
   exact h
def sumG (l:List GivM) (k:Nat):Nat:=((l.take k).map fun x=>x.evs.length).sum
theorem sumG_succ {l:List GivM} {k:Nat} (h:k<l.length):sumG l (k+1)=sumG l k+l[k].evs.length:=by
 unfold sumG
 rw [← List.take_append_getElem h,List.map_append,List.sum_append]
 rfl
def restE (s:List Col) (m:WlM) (o:Int) (l:List GivM):Int :=
 if l.all (fun g=>splitB s g.name g.evs)=false then 1 else if newE s m.bound o≠0 then newE s m.bound o else if bigB m l=true then 9 else if 400<sumG l l.length then 4 else 0
theorem GivsAt.below {w w':World} {D:Nat→Prop} {v:Value} {l:List GivM} {ev:Nat→Value} (h:GivsAt w D v l ev) (hb:Below w.heap.size w w'):GivsAt w' D v l ev:=by
 obtain ⟨a,cap,rfl,h⟩:=h
 refine ⟨a,cap,rfl,?_⟩
 rcases h with h | ⟨b,off,rfl,hD,h⟩
 · exact .inl h
 · refine .inr ⟨b,off,rfl,hD,fun i hi=>?_⟩
   obtain ⟨h0,h1,h2,h3⟩:=h i hi
   exact ⟨h0.below hb,by rw [hb.cell (p:=⟨b,off+i * 3,none⟩) (cell_lt h1)];exact h1,by rw [hb.cell (p:=⟨b,off+i * 3+1,none⟩) (cell_lt h2)];exact h2,by rw [hb.cell (p:=⟨b,off+i * 3+2,none⟩) (cell_lt h3)];exact h3⟩
def resX (l:List GivM) (ow:Nat) (x:SpM):SpM:={ x with owner:=ow,evs:=(gOf l x.name).evs }
def ownX (same:Bool) (no:Nat) (acc:List SpM) (x:SpM):Nat:=if same then x.owner else fewN acc (no - 1)
def resK (same:Bool) (no:Nat) (l:List GivM) (xs:List SpM):Nat→List SpM
 | 0=>[]
 | k+1=>match xs[k]? with
   | some x=>resK same no l xs k ++ [resX l (ownX same no (resK same no l xs k) x) x]
   | none=>resK same no l xs k
def mkK (same:Bool) (no:Nat) (l:List GivM) (xs:List SpM) (ms:List Int):Nat→List Int
 | 0=>List.replicate no 1000000000001
 | k+1=>match xs[k]? with
   | some x=>(mkK same no l xs ms k).set (ownX same no (resK same no l xs k) x) (min ((mkK same no l xs ms k).getD (ownX same no (resK same no l xs k) x) 0) (ms.getD x.owner 0))
   | none=>mkK same no l xs ms k
def finK (same:Bool) (no:Nat) (l:List GivM) (m:WlM) (i:Nat):Int :=
 if same then m.marks.getD i 0 else if countN (resK same no l m.splits m.splits.length) i=0∧m.sealed=false then minK m.marks m.marks.length else (mkK same no l m.splits m.marks m.splits.length).getD i 0
def restM (m:WlM) (no:Nat) (l:List GivM):WlM :=
 ⟨m.bound,resK (no == m.marks.length) no l m.splits m.splits.length,(List.range no).map (finK (no == m.marks.length) no l m),m.sealed,[]⟩
section
variable {same : Bool} {no : Nat} {l : List GivM} {xs : List SpM} {ms : List Int}
theorem resK_succ {k:Nat} (h:k<xs.length):resK same no l xs (k+1)=resK same no l xs k ++ [resX l (ownX same no (resK same no l xs k) xs[k]) xs[k]]:=by
 rw [resK,List.getElem?_eq_getElem h]
theorem mkK_succ {k:Nat} (h:k<xs.length):mkK same no l xs ms (k+1)=(mkK same no l xs ms k).set (ownX same no (resK same no l xs k) xs[k]) (min ((mkK same no l xs ms k).getD (ownX same no (resK same no l xs k) xs[k]) 0) (ms.getD xs[k].owner 0)):=by
 rw [mkK,List.getElem?_eq_getElem h]
theorem resK_len:∀ {k:Nat},k≤xs.length→(resK same no l xs k).length=k
 | 0,_=>rfl
 | k+1,h=>by rw [resK_succ (by omega),List.length_append,resK_len (by omega)];rfl
theorem mkK_len:∀ {k:Nat},k≤xs.length→(mkK same no l xs ms k).length=no
 | 0,_=>by simp [mkK]
 | k+1,h=>by rw [mkK_succ (by omega),List.length_set,mkK_len (by omega)]
theorem resK_at:∀ {k i:Nat} (hk:k≤xs.length) (hi:i<k),∃ ow,(resK same no l xs k)[i]? = some (resX l ow (xs[i]'(by omega)))
 | 0,i,_,hi=>absurd hi (by omega)
 | k+1,i,hk,hi=>by
   rw [resK_succ (by omega)]
   by_cases e:i=k
   · subst e
     have hl:(resK same no l xs i).length=i:=resK_len (by omega)
     exact ⟨ownX same no (resK same no l xs i) xs[i],by rw [List.getElem?_append_right (by omega),hl];simp⟩
   · have hl:(resK same no l xs k).length=k:=resK_len (by omega)
     obtain ⟨ow,h⟩:=resK_at (k:=k) (i:=i) (by omega) (by omega)
     exact ⟨ow,by rw [List.getElem?_append_left (by omega)];exact h⟩
theorem resK_mem {k:Nat} (hk:k≤xs.length) {y:SpM} (hy:y ∈ resK same no l xs k):∃ ow x,x ∈ xs∧y=resX l ow x:=by
 obtain ⟨i,hi,rfl⟩:=List.mem_iff_getElem.1 hy
 have hl:(resK same no l xs k).length=k:=resK_len hk
 obtain ⟨ow,h⟩:=resK_at (same:=same) (no:=no) (l:=l) hk (show i<k by omega)
 rw [List.getElem?_eq_getElem hi] at h
 injection h with h
 exact ⟨ow,_,List.getElem_mem _,h⟩
theorem resK_all:∀ {k:Nat},k≤xs.length→allN (resK same no l xs k)=((xs.take k).map fun x=>(gOf l x.name).evs.length).sum
 | 0,_=>rfl
 | k+1,h=>by
   have ih:=resK_all (k:=k) (by omega)
   rw [resK_succ (by omega),← List.take_append_getElem (show k<xs.length by omega),List.map_append,List.sum_append,← ih]
   simp [allN,resX]
end
structure Gives (m:WlM) (l:List GivM) (f:SpM→GivM):Prop where
 perm:l.Perm (m.splits.map f)
 name:∀ x,(f x).name=x.name
theorem Gives.len {m:WlM} {l:List GivM} {f:SpM→GivM} (h:Gives m l f):l.length=m.splits.length:=by simpa using h.perm.length_eq
theorem Gives.mem {m:WlM} {l:List GivM} {f:SpM→GivM} (h:Gives m l f) {x:SpM} (hx:x ∈ m.splits):f x ∈ l:=h.perm.mem_iff.2 (List.mem_map.2 ⟨x,hx,rfl⟩)
theorem Gives.uniq {m:WlM} {l:List GivM} {f:SpM→GivM} (h:Gives m l f) (hu:Uniq m):GUniq l:=by
 have h1:m.splits.Pairwise fun a b=>a.name≠b.name:=by
  rw [List.pairwise_iff_getElem]
  intro i j hi hj hij e
  have:=hu i j hi hj e
  omega
 have h2:(m.splits.map f).Pairwise fun a b=>a.name≠b.name:=by
  rw [List.pairwise_map]
  exact h1.imp fun {a b} hab=>by rw [h.name,h.name];exact hab
 have h3:l.Pairwise fun a b=>a.name≠b.name:=(h.perm.pairwise_iff fun {a b} hab=>Ne.symm hab).2 h2
 rw [List.pairwise_iff_getElem] at h3
 intro i j hi hj e
 rcases Nat.lt_trichotomy i j with hlt | heq | hgt
 · exact absurd e (h3 i j hi hj hlt)
 · exact heq
 · exact absurd e.symm (h3 j i hj hi hgt)
theorem Gives.gOf {m:WlM} {l:List GivM} {f:SpM→GivM} (h:Gives m l f) (hu:Uniq m) {x:SpM} (hx:x ∈ m.splits):gOf l x.name=f x:=by
 obtain ⟨j,hj,e⟩:=List.mem_iff_getElem.1 (h.mem hx)
 have:=gOf_at (h.uniq hu) hj
 rw [e,h.name] at this
 exact this
theorem Gives.at {m:WlM} {l:List GivM} {f:SpM→GivM} (h:Gives m l f) {x:SpM} (hx:x ∈ m.splits):∃ j,∃ hj:j<l.length,l[j].name=x.name:=by
 obtain ⟨j,hj,e⟩:=List.mem_iff_getElem.1 (h.mem hx)
 exact ⟨j,hj,by rw [e,h.name]⟩
theorem Gives.sum {m:WlM} {l:List GivM} {f:SpM→GivM} (h:Gives m l f) (hu:Uniq m):(m.splits.map fun x=>(Go.Proofs.YtimahogkcmmcnaaGreatDoor.gOf l x.name).evs.length).sum=sumG l l.length:=by
 have e1:(m.splits.map fun x=>(Go.Proofs.YtimahogkcmmcnaaGreatDoor.gOf l x.name).evs.length)=(m.splits.map f).map fun g=>g.evs.length:=by
  rw [List.map_map]
  apply List.map_congr_left
  intro x hx
  simp [h.gOf hu hx]
 have e2:(l.map fun g=>g.evs.length).Perm ((m.splits.map f).map fun g=>g.evs.length):=h.perm.map _
 rw [e1]
 unfold sumG
 rw [List.take_length]
 exact e2.symm.sum_nat
end Go.Proofs.YtimahogkcmmcnaaGreatDoor
