/-
 Slices of one's own and what append does to them; lists of numbers. No conditions.
-/
import Derived.Test.YtimahogkcmmcnaaGreatDoorL04
import Derived.Maps.AppendAt
import Derived.OwnWalk
import Derived.Deep.AppendLies
import Derived.Test.YtimahogkcmmcnaaGreatDoorL05
set_option linter.unusedSimpArgs false
set_option linter.unusedVariables false
namespace Go.Proofs.YtimahogkcmmcnaaGreatDoor
open Go.RowKit
def SlOwn (w:World) (e:TypeId) (size:Nat) (v:Value) (n:Nat) (xs:List Value) (blk:Option Nat):Prop :=
 xs.length=n * size∧((v=.slice none 0 0∧n=0∧blk=none) ∨
  ∃ g o cap cur,blk=some g∧v=.slice (some ⟨g,o,none⟩) n cap∧w.heap[g]? = some (.cells cur e (0,0))∧n≤cap∧cap≤maxLen∧o+cap * size≤cur.size∧(cur.toList.drop o).take (n * size)=xs)
def Src (w:World) (size:Nat) (x:Value) (m:Nat) (news:List Value):Prop :=
 news.length=m * size∧∃ a c,x=.slice a m c∧(news=[]∨∃ ad,a=some ad∧∀ j u,news[j]? = some u→w.cell? (ad.add j)=some u)
theorem SlOwn.nil (w:World) (e:TypeId) (size:Nat):SlOwn w e size (.slice none 0 0) 0 [] none:=⟨by simp,.inl ⟨rfl,rfl,rfl⟩⟩
theorem add_at (g o j:Nat):(⟨g,o,none⟩:Addr).add j=⟨g,o+j,none⟩:=by unfold Addr.add;split <;> simp_all
theorem heap_lt {w:World} {g:Nat} {o:Obj} (h:w.heap[g]? = some o):g<w.heap.size:=by
 rcases Nat.lt_or_ge g w.heap.size with hlt | hge
 · exact hlt
 · rw [Array.getElem?_eq_none hge] at h;cases h
theorem SlOwn.blk_lt {w:World} {e:TypeId} {size:Nat} {v:Value} {n:Nat} {xs:List Value} {g:Nat} (h:SlOwn w e size v n xs (some g)):g<w.heap.size:=by
 rcases h.2 with ⟨_,_,h⟩ | ⟨g',o,cap,cur,hb,_,hg,_⟩
 · cases h
 · injection hb with hb
   subst hb
   exact heap_lt hg
theorem SlOwn.cell {w:World} {e:TypeId} {size:Nat} {g o n cap:Nat} {xs:List Value} {blk:Option Nat} (h:SlOwn w e size (.slice (some ⟨g,o,none⟩) n cap) n xs blk):∀ j u,xs[j]? = some u→w.cell? ⟨g,o+j,none⟩=some u:=by
 intro j u hu
 rcases h.2 with ⟨h,_⟩ | ⟨g',o',cap',cur,hb,hv,hg,_,_,_,ht⟩
 · cases h
 · injection hv with ha _ _
   injection ha with ha
   injection ha with ha ho _
   subst ha ho
   rw [cell_of_row w g (o+j) cur e (0,0) hg]
   rw [← ht,List.getElem?_take] at hu
   split at hu
   · rw [List.getElem?_drop] at hu;simpa using hu
   · cases hu
theorem SlOwn.keep {w w':World} {e:TypeId} {size:Nat} {v:Value} {n:Nat} {xs:List Value} {blk:Option Nat} (h:SlOwn w e size v n xs blk) (hk:∀ g,blk=some g→w'.heap[g]? = w.heap[g]?):SlOwn w' e size v n xs blk:=by
 refine ⟨h.1,?_⟩
 rcases h.2 with h | ⟨g',o,cap,cur,hb,hv,hg,rest⟩
 · exact .inl h
 · exact .inr ⟨g',o,cap,cur,hb,hv,(hk g' hb).trans hg,rest⟩
theorem run_append_S {P:Program} (w:World) (t ty e:TypeId) (i:TypeInfo) (z:Value) (size bytes:Nat) (ht:P.underlying t=some (.slice e)) (hi:P.info? e=some i) (hz:i.zero=some z)
 (hsize:i.size=size) (hby:i.bytes=bytes) (hzs:z.cells.size=size) (hsz:0<size)
 (v:Value) (n:Nat) (xs:List Value) (blk:Option Nat) (hown:SlOwn w e size v n xs blk)
 (x:Value) (m:Nat) (news:List Value) (hsrc:Src w size x m news) (h1:∀ u ∈ news,u.oneCell'=true)
 (h63:n+m≤maxLen) (hbytes:(n+m) * bytes≤140737488355328) :
 ∃ v' w' blk',(Builtin.append_ #[t,t] ty #[v,x]).run P w=.ok v' w'∧SlOwn w' e size v' (n+m) (xs ++ news) blk'∧w.grownBy w' blk∧(blk'=blk∨blk'=some w.heap.size):=by
 subst hsize
 subst hby
 obtain ⟨hl,a,c,rfl,hnew⟩:=hsrc
 have hsmall:n+m≤9223372036854775807:=by simp only [maxLen] at h63;omega
 have hlen:(xs ++ news).length=(n+m) * i.size:=by rw [List.length_append,hown.1,hl,Nat.add_mul]
 rcases a with _ | ad
 · -- nothing is appended
   have hn:news=[]:=by
    rcases hnew with h | ⟨ad,h,_⟩
    · exact h
    · cases h
   subst hn
   have hm:m=0:=by
    rcases Nat.eq_zero_or_pos m with h | h
    · exact h
    · have:0<m * i.size:=Nat.mul_pos h hsz
      simp at hl
      omega
   subst hm
   refine ⟨v,w,blk,?_,by simpa using hown,⟨rfl,rfl,rfl,Nat.le_refl _,fun _ _ _=>rfl⟩,.inl rfl⟩
   rcases hown.2 with ⟨rfl,rfl,_⟩ | ⟨g,o,cap,cur,_,rfl,_,hnc,_⟩
   · simp [Builtin.append_,run_underlying ht,sizeOf,typeInfo,hi,Builtin.lenOf,Builtin.firstCells]
   · simp [Builtin.append_,run_underlying ht,sizeOf,typeInfo,hi,Builtin.lenOf,Builtin.firstCells,hnc,storeCells]
 have hnews:∀ j u,news[j]? = some u→w.cell? (ad.add j)=some u:=by
  rcases hnew with h | ⟨ad',h,hc⟩
  · subst h;intro j u hu;simp at hu
  · injection h with h;subst h;exact hc
 have grown:∀ (old:Nat),old<n+m→∀ (row:Option Nat),
  SlOwn (w.drew.alloc (.cells (xs.toArray ++ news.toArray ++ Builtin.zeroCells z.cells (grownCap w (n+m) old e - (n+m))) e)) e i.size
   (.slice (some ⟨w.heap.size,0,none⟩) (n+m) (grownCap w (n+m) old e)) (n+m) (xs ++ news) (some w.heap.size) ∧
  w.grownBy (w.drew.alloc (.cells (xs.toArray ++ news.toArray ++ Builtin.zeroCells z.cells (grownCap w (n+m) old e - (n+m))) e)) row:=by
  intro old ho row
  have hge:=grownCap_ge w (n+m) old e
  have hcm:grownCap w (n+m) old e≤maxLen:=grownCap_le_maxLen w (n+m) old e h63
  refine ⟨⟨hlen,.inr ⟨w.heap.size,0,_,_,rfl,rfl,heap_alloc_new w.drew _,hge,hcm,?_,?_⟩⟩,⟨rfl,rfl,rfl,by simp,fun k hk _=>Below.heap_alloc w.drew _ k hk⟩⟩
  · simp only [Array.size_append,List.size_toArray,size_zeroCells,hzs,hown.1,hl,← Nat.add_mul,Nat.zero_add]
    rw [Nat.le_iff_lt_or_eq]
    right
    congr 1
    omega
  · simp only [Array.toList_append,List.append_assoc,List.drop_zero]
    rw [← List.append_assoc,← hlen]
    exact List.take_left
 rcases hown.2 with ⟨rfl,rfl,rfl⟩ | ⟨g,o,cap,cur,rfl,rfl,hg,hnc,hcm,hcs,htake⟩
 · have hx:xs=[]:=List.eq_nil_of_length_eq_zero (by simpa using hown.1)
   subst hx
   by_cases hm:m=0
   · subst hm
     have hn:news=[]:=List.eq_nil_of_length_eq_zero (by simpa using hl)
     subst hn
     refine ⟨.slice none 0 0,w,none,?_,SlOwn.nil w e i.size,⟨rfl,rfl,rfl,Nat.le_refl _,fun _ _ _=>rfl⟩,Or.inl rfl⟩
     simp [Builtin.append_,run_underlying ht,sizeOf,typeInfo,hi,Builtin.lenOf,Builtin.firstCells,loadCells,loadCellsFrom]
   · have hr:=run_append_nil (P:=P) w t ty e i z ht hi hz ad m c news hl hnews (by omega) (by omega) (by have hb:=hbytes;simp only [Nat.zero_add] at hb;omega)
     have hgr:=grown 0 (by omega) none
     simp only [Nat.zero_add,List.nil_append,Array.empty_append] at hgr ⊢
     exact ⟨_,_,_,hr,hgr.1,hgr.2,Or.inr rfl⟩
 · by_cases hroom:n+m≤cap
   · have hfit:o+n * i.size+0+news.length≤cur.size:=by
      rw [hl]
      have h2:(n+m) * i.size≤cap * i.size:=Nat.mul_le_mul_right _ hroom
      rw [Nat.add_mul] at h2
      omega
     have hf:=run_firstCells_some (P:=P) w i.size m ad m c news hl hnews
     have hst:=run_storeCells_at P g (o+n * i.size) e news 0 cur w hg hfit h1
     have hr:(Builtin.append_ #[t,t] ty #[.slice (some ⟨g,o,none⟩) n cap,.slice (some ad) m c]).run P w =
      .ok (.slice (some ⟨g,o,none⟩) (n+m) cap) (w.setRow g (cur.toList.take (o+n * i.size+0) ++ news ++ cur.toList.drop (o+n * i.size+0+news.length)).toArray):=by
      simp only [Nat.add_zero] at hst ⊢
      simp [Builtin.append_,run_underlying ht,sizeOf,typeInfo,hi,Builtin.lenOf,hroom,hf,add_at,hst]
     refine ⟨_,_,some g,hr,⟨hlen,.inr ⟨g,o,cap,_,rfl,rfl,setRow_heap w g cur _ e _ hg,hroom,hcm,?_,?_⟩⟩,⟨rfl,rfl,rfl,by simp,fun k _ hk=>setRow_other w g k _ (fun e=>hk (by simp [e]))⟩,Or.inl rfl⟩
     · simp only [List.size_toArray,List.length_append,List.length_take,List.length_drop,Array.length_toList]
       omega
     · have hlx:xs.length=n * i.size:=hown.1
       have e1:cur.toList.take (o+n * i.size+0)=cur.toList.take o ++ xs:=by
        rw [Nat.add_zero,← htake,List.take_add]
       have hol:(cur.toList.take o).length=o:=by rw [List.length_take,Array.length_toList];omega
       simp only [e1]
       rw [List.append_assoc,List.append_assoc,List.drop_append_of_le_length (by rw [hol];omega),List.drop_of_length_le (by rw [hol];omega),List.nil_append,← List.append_assoc,← hlen]
       exact List.take_left
   · have holds:∀ j u,xs[j]? = some u→w.cell? ((⟨g,o,none⟩:Addr).add j)=some u:=by
      intro j u hu
      rw [add_at]
      exact hown.cell j u hu
     have hr:=run_append_grow (P:=P) w t ty e i z ht hi hz ⟨g,o,none⟩ n cap xs hown.1 holds ad m c news hl hnews (by omega) (by omega) (growslice_fits (by omega) hbytes)
     have hgr:=grown cap (by omega) (some g)
     exact ⟨_,_,_,hr,hgr.1,hgr.2,Or.inr rfl⟩
theorem wp_append_S {P:Program} {w:World} {o:Oper} {a:Act} {K:Act→World→Prop} {Q:Exit→Act→World→Prop} (s x:Operand) (t:TypeId)
 (ho:o.op=.call { callee:=.builtin .append,args:=#[s,x],argTypes:=#[t,t] })
 (e:TypeId) (i:TypeInfo) (z:Value) (size bytes:Nat) (ht:P.underlying t=some (.slice e)) (hi:P.info? e=some i) (hz:i.zero=some z)
 (hsize:i.size=size) (hby:i.bytes=bytes) (hzs:z.cells.size=size) (hsz:0<size)
 (v:Value) (n:Nat) (xs:List Value) (blk:Option Nat) (hs:a.eval s=v) (hown:SlOwn w e size v n xs blk)
 (xv:Value) (m:Nat) (news:List Value) (hx:a.eval x=xv) (hsrc:Src w size xv m news) (h1:∀ u ∈ news,u.oneCell'=true)
 (h63:n+m≤maxLen) (hbytes:(n+m) * bytes≤140737488355328)
 (h:∀ v' w' blk',SlOwn w' e size v' (n+m) (xs ++ news) blk'→w.grownBy w' blk→(blk'=blk∨blk'=some w.heap.size)→K (a.put o.dst v') w'):o.wp P a w K Q:=by
 obtain ⟨v',w',blk',hr,h2,h3,h4⟩:=run_append_S (P:=P) w t o.type e i z size bytes ht hi hz hsize hby hzs hsz v n xs blk hown xv m news hsrc h1 h63 hbytes
 unfold Oper.wp execOp
 simp only [ho,resolve,invoke,builtin,Sem.run_bind,Sem.run_pure,Result.andThen_ok,List.map_toArray,List.map_cons,List.map_nil,hs,hx,hr]
 exact h v' w' blk' h2 h3 h4
theorem wpList_append_S {P:Program} {w:World} {ops:Array Oper} {rest:List Oper} {o:Oper} {a:Act} {Q:Exit→Act→World→Prop} (hgd:o.guard=none) (s x:Operand) (t:TypeId)
 (ho:o.op=.call { callee:=.builtin .append,args:=#[s,x],argTypes:=#[t,t] })
 (e:TypeId) (i:TypeInfo) (z:Value) (size bytes:Nat) (ht:P.underlying t=some (.slice e)) (hi:P.info? e=some i) (hz:i.zero=some z)
 (hsize:i.size=size) (hby:i.bytes=bytes) (hzs:z.cells.size=size) (hsz:0<size)
 (v:Value) (n:Nat) (xs:List Value) (blk:Option Nat) (hs:a.eval s=v) (hown:SlOwn w e size v n xs blk)
 (xv:Value) (m:Nat) (news:List Value) (hx:a.eval x=xv) (hsrc:Src w size xv m news) (h1:∀ u ∈ news,u.oneCell'=true)
 (h63:n+m≤maxLen) (hbytes:(n+m) * bytes≤140737488355328)
 (h:∀ v' w' blk',SlOwn w' e size v' (n+m) (xs ++ news) blk'→w.grownBy w' blk→(blk'=blk∨blk'=some w.heap.size)→wpList P ops Q rest (a.put o.dst v') w'):wpList P ops Q (o :: rest) a w :=
 wpList_plain hgd fun _ hK=>wp_append_S s x t ho e i z size bytes ht hi hz hsize hby hzs hsz v n xs blk hs hown xv m news hx hsrc h1 h63 hbytes fun v' w' blk' h2 h3 h4=>hK _ _ (h v' w' blk' h2 h3 h4)
theorem SlOwn.form {w:World} {e:TypeId} {size:Nat} {v:Value} {n:Nat} {xs:List Value} {blk:Option Nat} (h:SlOwn w e size v n xs blk):∃ a c,v=.slice a n c:=by
 rcases h.2 with ⟨rfl,rfl,_⟩ | ⟨g,o,cap,cur,_,rfl,_⟩
 · exact ⟨_,_,rfl⟩
 · exact ⟨_,_,rfl⟩
theorem SlOwn.lt_of {w:World} {e:TypeId} {size:Nat} {v:Value} {n:Nat} {xs:List Value} {blk:Option Nat} (h:SlOwn w e size v n xs blk) {g:Nat} (hg:blk=some g):g<w.heap.size:=by
 subst hg
 exact h.blk_lt
theorem SlOwn.src {w:World} {e:TypeId} {size:Nat} {v:Value} {n:Nat} {xs:List Value} {blk:Option Nat} (h:SlOwn w e size v n xs blk):Src w size v n xs:=by
 refine ⟨h.1,?_⟩
 rcases h.2 with ⟨rfl,rfl,_⟩ | ⟨g,o,cap,cur,_,rfl,_⟩
 · exact ⟨_,_,rfl,.inl (List.eq_nil_of_length_eq_zero (by simpa using h.1))⟩
 · exact ⟨_,_,rfl,.inr ⟨_,rfl,fun j u hu=>by rw [add_at];exact h.cell j u hu⟩⟩
theorem int_src (w:World) (k:Int):Src (w.alloc (.cells #[.int .i64 k] 3)) 1 (.slice (some ⟨w.heap.size,0,none⟩) 1 1) 1 [.int .i64 k] :=
 SlOwn.src (e:=3) (blk:=some w.heap.size) ⟨rfl,.inr ⟨_,0,1,_,rfl,rfl,World.alloc_heap_new w _,Nat.le_refl _,by simp [maxLen],by simp,rfl⟩⟩
structure Ints (w w':World) (v:Value) (l:List Int) (blk:Option Nat):Prop where
 own:SlOwn w' 3 1 v l.length (l.map (Value.int .i64)) blk
 new:∀ g,blk=some g→w.heap.size≤g
 below:Below w.heap.size w w'
theorem Ints.next {w w' w2:World} {v:Value} {l:List Int} {blk:Option Nat} (h:Ints w w' v l blk) (hb:Below w'.heap.size w' w2):Ints w w2 v l blk :=
 ⟨h.own.keep fun g hg=>hb.block g (h.own.lt_of hg),h.new,h.below.trans (hb.mono h.below.size)⟩
theorem Ints.start (w:World):Ints w w (.slice none 0 0) [] none:=⟨SlOwn.nil _ _ _,(fun g hg=>by cases hg),Below.refl _ _⟩
theorem Ints.add {w wr w':World} {v v':Value} {l:List Int} {k:Int} {blk blk':Option Nat} {o:Obj} (h:Ints w wr v l blk) (hs:SlOwn w' 3 1 v' (l.length+1) (l.map (Value.int .i64) ++ [.int .i64 k]) blk') (hg:(wr.alloc o).grownBy w' blk) (hat:blk'=blk∨blk'=some (wr.alloc o).heap.size):Ints w w' v' (l ++ [k]) blk':=by
 have hsz:=h.below.size
 refine ⟨by simpa using hs,fun g hgg=>?_,(h.below.alloc hsz o).grown hg (by simp;omega) (fun q hq=>h.new q hq)⟩
 rcases hat with e | e
 · exact h.new g (e ▸ hgg)
 · rw [hgg] at e;injection e with e;rw [e];simp;omega
theorem info3:(Tryz.prog.info? 3).map (fun i=>(i.zero,i.size,i.bytes))=some (some (.int .i64 0),1,8):=by kernel_rfl
end Go.Proofs.YtimahogkcmmcnaaGreatDoor
namespace Go.Proofs.YtimahogkcmmcnaaGreatDoor
open Go.RowKit Go.Proofs.YtimahogkcmmcnaaGreatDoor.Cmps
structure WS where
 W:Nat
 sch:Value
 spl:Value
 sb:Option Nat
 mp:Nat
 rd:Value
 rb:Option Nat
 late:Value
 lb:Option Nat
 xb:Nat→Nat
 gb:Nat→Nat
 ev:Nat→Value
 eb:Nat→Option Nat
 mb:Nat→Nat
 ib:Nat→Nat
 ents:Array MapEntry
 clock:Nat
def Calm (w:World) (col:Nat→Nat) (b:Nat):Prop:=b<w.heap.size∧col b=0
def SpM.mark (x:SpM):Int:=if x.done then 1000000000001 else x.gauge
def ptr (b:Nat):Value:=.pointer (some ⟨b,0,none⟩)
def evC:List (Evt×Value)→List Value
 | []=>[]
 | p :: l=>.int .i64 p.1.t :: p.2 :: evC l
def EvsOwn (w:World) (D:Nat→Prop) (v:Value) (l:List Evt) (blk:Option Nat):Prop :=
 ∃ ps:List (Evt×Value),ps.map Prod.fst=l∧SlOwn w 30 2 v l.length (evC ps) blk∧∀ p ∈ ps,RowAt w D p.2 p.1.r
structure WAt (w:World) (col:Nat→Nat) (s:List Col) (ws:WS) (m:WlM):Prop where
 c0:∀ b,col b≠0→b<w.heap.size
 cW:col ws.W=1
 cS:∀ b,ws.sb=some b→col b=2
 cM:col ws.mp=3
 cR:∀ b,ws.rb=some b→col b=4
 cL:∀ b,ws.lb=some b→col b=5
 cX:∀ k,k<m.splits.length→col (ws.xb k)=8 * k+8
 cG:∀ k,k<m.splits.length→col (ws.gb k)=8 * k+9
 cE:∀ k b,k<m.splits.length→ws.eb k=some b→col b=8 * k+10
 cB:∀ r,r<m.marks.length→col (ws.mb r)=8 * r+11
 cI:∀ r,r<m.marks.length→col (ws.ib r)=8 * r+12
 hW:w.heap[ws.W]? = some (.cells #[ws.sch,.int .i64 m.bound,ws.spl,.map (some ws.mp),ws.rd,.bool m.sealed,ws.late] 99 (0,0))
 hC:SchemaAt w (Calm w col) ws.sch s
 hS:SlOwn w 126 1 ws.spl m.splits.length ((List.range m.splits.length).map fun k=>ptr (ws.xb k)) ws.sb
 hR:SlOwn w 104 1 ws.rd m.marks.length ((List.range m.marks.length).map fun r=>ptr (ws.mb r)) ws.rb
 hL:EvsOwn w (Calm w col) ws.late m.late ws.lb
 hX:∀ k (h:k<m.splits.length),w.heap[ws.xb k]? = some (.cells #[.string m.splits[k].name,ws.ev k,.int .i64 m.splits[k].read,ptr (ws.gb k),.bool m.splits[k].sealed,.int .i64 m.splits[k].owner] 129 (0,0))
 hG:∀ k (h:k<m.splits.length),w.heap[ws.gb k]? = some (.cells #[.int .i64 m.bound,.int .i64 m.splits[k].mark,.bool m.splits[k].done] 215 (0,0))
 hE:∀ k (h:k<m.splits.length),EvsOwn w (Calm w col) (ws.ev k) m.splits[k].evs (ws.eb k)
 hB:∀ r (h:r<m.marks.length),w.heap[ws.mb r]? = some (.cells #[.slice (some ⟨ws.ib r,0,none⟩) 1 1,.int .i64 m.marks[r]] 204 (0,0))
 hI:∀ r (h:r<m.marks.length),w.heap[ws.ib r]? = some (.cells #[.int .i64 m.marks[r],.bool false,.bool false] 202 (0,0))
 hM:w.heap[ws.mp]? = some (.map ws.ents ws.clock)
 hN:ws.ents.toList.map (fun e=>(e.key,e.val))=(List.range m.splits.length).map fun k=>(Value.string (m.splits.getD k ⟨ByteArray.empty,0,[],0,0,false⟩).name,ptr (ws.xb k))
section keeping
variable {w w' : World} {col : Nat → Nat} {s : List Col} {ws : WS} {m : WlM}
theorem EvsOwn.keep {D:Nat→Prop} {v:Value} {l:List Evt} {blk:Option Nat} (h:EvsOwn w D v l blk) (hk:∀ b,(D b∨blk=some b)→b<w.heap.size→w'.heap[b]? = w.heap[b]?):EvsOwn w' D v l blk:=by
 obtain ⟨ps,e,ho,hr⟩:=h
 exact ⟨ps,e,ho.keep fun g hg=>hk g (.inr hg) (ho.lt_of hg),fun p hp=>(hr p hp).keep fun b hb hlt=>hk b (.inl hb) hlt⟩
theorem EvsOwn.mono {D D':Nat→Prop} {v:Value} {l:List Evt} {blk:Option Nat} (h:EvsOwn w D v l blk) (hd:∀ b,D b→D' b):EvsOwn w D' v l blk:=by
 obtain ⟨ps,e,ho,hr⟩:=h
 exact ⟨ps,e,ho,fun p hp=>(hr p hp).mono hd⟩
theorem SchemaAt.mono {D D':Nat→Prop} {v:Value} {l:List Col} (h:SchemaAt w D v l) (hd:∀ b,D b→D' b):SchemaAt w D' v l:=by
 obtain ⟨a,cap,rfl,hc,hl,hn,hx⟩:=h
 refine ⟨a,cap,rfl,hc,hl,hn,hx.imp id ?_⟩
 rintro ⟨b,off,rfl,hb,hc⟩
 exact ⟨b,off,rfl,hd b hb,hc⟩
theorem WAt.below (h:WAt w col s ws m) (hb:Below w.heap.size w w'):WAt w' col s ws m:=by
 have hk:∀ b,b<w.heap.size→w'.heap[b]? = w.heap[b]? := fun b hlt=>hb.block b hlt
 have hm:∀ b,Calm w col b→Calm w' col b:=fun b h=>⟨Nat.lt_of_lt_of_le h.1 hb.size,h.2⟩
 have hh:∀ {b:Nat} {o:Obj},w.heap[b]? = some o→w'.heap[b]? = some o:=fun h=>(hk _ (heap_lt h)).trans h
 exact ⟨fun b hb'=>Nat.lt_of_lt_of_le (h.c0 b hb') hb.size,h.cW,h.cS,h.cM,h.cR,h.cL,h.cX,h.cG,h.cE,h.cB,h.cI,hh h.hW,
  (h.hC.keep fun b hD hlt=>hk b hlt).mono hm,h.hS.keep fun g hg=>hk g (h.hS.lt_of hg),h.hR.keep fun g hg=>hk g (h.hR.lt_of hg),
  (h.hL.keep fun b _ hlt=>hk b hlt).mono hm,fun k hk'=>hh (h.hX k hk'),fun k hk'=>hh (h.hG k hk'),fun k hk'=>((h.hE k hk').keep fun b _ hlt=>hk b hlt).mono hm,
  fun r hr=>hh (h.hB r hr),fun r hr=>hh (h.hI r hr),hh h.hM,h.hN⟩
theorem EvsOwn.form {D:Nat→Prop} {v:Value} {l:List Evt} {blk:Option Nat} (h:EvsOwn w D v l blk):∃ a c,v=.slice a l.length c:=by
 obtain ⟨ps,e,ho,hr⟩:=h
 exact ho.form
end keeping
theorem cells_at {w:World} {b:Nat} {cs:Array Value} {t:TypeId} (h:w.heap[b]? = some (.cells cs t (0,0))) (o:Nat):w.cell? ⟨b,o,none⟩=cs[o]? := by
 rw [cell_of_row w b o cs t (0,0) h]
def isB (n:Nat) (r:Int):Bool:=decide (0≤r∧r<(n:Int))
section leaves
set_option maxHeartbeats 400000
set_option maxRecDepth 10000
theorem f48_any (w:World) (b:Nat) (n:Int) (h:w.cell? ⟨b,1,none⟩=some (.int .i64 n)) :
 Calls Tryz.prog 48 #[ptr b] w fun e w'=>e=.returned (.int .i64 n)∧w=w':=by
 unfold ptr
 go_enter Tryz.func48,Tryz.ntmps48
 go_wp2_with fail
 go_ret
 exact ⟨rfl,rfl⟩
theorem f150_any (w:World) (b:Nat) (n:Int) (h:w.cell? ⟨b,1,none⟩=some (.int .i64 n)) :
 Calls Tryz.prog 150 #[ptr b] w fun e w'=>e=.returned (.int .i64 n)∧w=w':=by
 unfold ptr
 go_enter Tryz.func150,Tryz.ntmps150
 go_wp2_with fail
 go_ret
 exact ⟨rfl,rfl⟩
theorem f125_any (w:World) (t k:Int) :
 Calls Tryz.prog 125 #[.int .i64 t,.int .i64 k] w fun e w'=>e=.returned (.bool (decide (t<k)))∧w=w':=by
 go_enter Tryz.func125,Tryz.ntmps125
 go_wp2_with fail
 go_ret
 exact ⟨rfl,rfl⟩
theorem f129_any (w:World) (n lo hi:Int) :
 Calls Tryz.prog 129 #[.int .i64 n,.int .i64 lo,.int .i64 hi] w fun e w'=>e=.returned (.bool (withinB n lo hi))∧w=w':=by
 by_cases h1:lo≤n <;> by_cases h2:n≤hi
 all_goals
  have HE:Hid (withinB n lo hi=decide (lo≤n∧n≤hi)):=rfl
  go_enter Tryz.func129,Tryz.ntmps129
  go_wp2_with fail
  go_ret
  exact ⟨ret_bool (by rw [HE.out];simp [h1,h2]),rfl⟩
theorem f138_any (w:World) (b:Nat) (sl:Bool) (r n:Nat) (a:Option Addr) (c:Nat) (h1:w.cell? ⟨b,1,none⟩=some (.slice a n c)) (h2:w.cell? ⟨b,2,none⟩=some (.int .i64 r)) (h4:w.cell? ⟨b,4,none⟩=some (.bool sl)) :
 Calls Tryz.prog 138 #[ptr b] w fun e w'=>e=.returned (.bool (sl && ((r:Int) == (n:Int))))∧Below w.heap.size w w':=by
 unfold ptr
 have hlt:=cell_lt h1
 cases sl
 · go_enter Tryz.func138,Tryz.ntmps138
   go_wp2_with fail
   go_quiet (fail)
   go_wp2_with fail
   go_ret
   exact ⟨rfl,Drew.belowW ⟨_,rfl⟩⟩
 · go_enter Tryz.func138,Tryz.ntmps138
   go_wp2_with fail
   go_quiet (fail)
   go_wp2_with fail
   go_ret
   exact ⟨ret_bool (by simp),Drew.belowW ⟨_,rfl⟩⟩
theorem f47_any (w:World) (b:Nat) (r:Int) (n:Nat) (a:Option Addr) (c:Nat) (h:w.cell? ⟨b,4,none⟩=some (.slice a n c)) :
 Calls Tryz.prog 47 #[ptr b,.int .i64 r] w fun e w'=>e=.returned (.bool (isB n r))∧w=w':=by
 unfold ptr
 by_cases h1:0≤r
 · have HE:Hid (isB n r=decide (r<(n:Int))):=by show isB n r=_;simp [isB,h1]
   go_enter Tryz.func47,Tryz.ntmps47
   go_wp2_with fail
   go_ret
   exact ⟨ret_bool HE.out.symm,rfl⟩
 · have HE:Hid (isB n r=false):=by show isB n r=_;simp [isB,h1]
   go_enter Tryz.func47,Tryz.ntmps47
   go_wp2_with fail
   go_ret
   exact ⟨ret_bool HE.out.symm,rfl⟩
end leaves
section access
variable {w : World} {col : Nat → Nat} {s : List Col} {ws : WS} {m : WlM}
theorem WAt.cells (h:WAt w col s ws m):w.cell? ⟨ws.W,0,none⟩=some ws.sch∧w.cell? ⟨ws.W,1,none⟩=some (.int .i64 m.bound)∧w.cell? ⟨ws.W,2,none⟩=some ws.spl∧w.cell? ⟨ws.W,3,none⟩=some (.map (some ws.mp)) ∧
 w.cell? ⟨ws.W,4,none⟩=some ws.rd∧w.cell? ⟨ws.W,5,none⟩=some (.bool m.sealed)∧w.cell? ⟨ws.W,6,none⟩=some ws.late:=by
 have:=cells_at h.hW
 exact ⟨this 0,this 1,this 2,this 3,this 4,this 5,this 6⟩
theorem WAt.rdForm (h:WAt w col s ws m):∃ a c,ws.rd=.slice a m.marks.length c:=h.hR.form
theorem WAt.splForm (h:WAt w col s ws m):∃ a c,ws.spl=.slice a m.splits.length c:=h.hS.form
theorem SlOwn.some_of {e:TypeId} {size:Nat} {a:Option Addr} {n c:Nat} {xs:List Value} {blk:Option Nat} (h:SlOwn w e size (.slice a n c) n xs blk) (hn:0<n):∃ g o,a=some ⟨g,o,none⟩:=by
 rcases h.2 with ⟨_,h0,_⟩ | ⟨g,o,cap,cur,_,hv,_⟩
 · omega
 · injection hv with hv _ _
   exact ⟨g,o,hv⟩
theorem range_ptr {n k:Nat} (f:Nat→Nat) (h:k<n):((List.range n).map fun k=>ptr (f k))[k]? = some (ptr (f k)):=by
 simp [h]
theorem WAt.reader (h:WAt w col s ws m) {a:Option Addr} {c:Nat} (e:ws.rd=.slice a m.marks.length c) {r:Nat} (hr:r<m.marks.length) :
 ∃ g o,a=some ⟨g,o,none⟩∧g<w.heap.size∧w.cell? ⟨g,o+r,none⟩=some (ptr (ws.mb r))∧w.cell? ⟨ws.mb r,1,none⟩=some (.int .i64 m.marks[r]):=by
 have hR:=h.hR
 rw [e] at hR
 obtain ⟨g,o,rfl⟩:=hR.some_of (by omega)
 have c1:=hR.cell r _ (range_ptr ws.mb hr)
 exact ⟨g,o,rfl,cell_lt c1,c1,by rw [cells_at (h.hB r hr)];rfl⟩
theorem WAt.split (h:WAt w col s ws m) {a:Option Addr} {c:Nat} (e:ws.spl=.slice a m.splits.length c) {k:Nat} (hk:k<m.splits.length) :
 ∃ g o e1 e2,a=some ⟨g,o,none⟩∧g<w.heap.size∧w.cell? ⟨g,o+k,none⟩=some (.pointer (some ⟨ws.xb k,0,none⟩))∧ws.ev k=.slice e1 m.splits[k].evs.length e2∧ws.xb k<w.heap.size ∧
 w.cell? ⟨ws.xb k,0,none⟩=some (.string m.splits[k].name)∧w.cell? ⟨ws.xb k,1,none⟩=some (.slice e1 m.splits[k].evs.length e2)∧w.cell? ⟨ws.xb k,2,none⟩=some (.int .i64 m.splits[k].read) ∧
 w.cell? ⟨ws.xb k,3,none⟩=some (.pointer (some ⟨ws.gb k,0,none⟩))∧w.cell? ⟨ws.xb k,4,none⟩=some (.bool m.splits[k].sealed)∧w.cell? ⟨ws.xb k,5,none⟩=some (.int .i64 m.splits[k].owner):=by
 have hS:=h.hS
 rw [e] at hS
 obtain ⟨g,o,rfl⟩:=hS.some_of (by omega)
 have c1:=hS.cell k _ (range_ptr ws.xb hk)
 obtain ⟨e1,e2,e3⟩:=(h.hE k hk).form
 have hc:=cells_at (h.hX k hk)
 exact ⟨g,o,e1,e2,rfl,cell_lt c1,c1,e3,heap_lt (h.hX k hk),hc 0,by rw [hc 1,← e3];rfl,hc 2,hc 3,hc 4,hc 5⟩
end access
def countN (l:List SpM) (r:Int):Nat:=l.countP fun x=>(x.owner:Int) == r
theorem countN_take {l:List SpM} {r:Int} {k:Nat} (h:k<l.length):countN (l.take (k+1)) r=countN (l.take k) r+(if ((l[k].owner:Int) == r)=true then 1 else 0):=by
 unfold countN
 rw [← List.take_append_getElem h,List.countP_append]
 simp only [List.countP_cons,List.countP_nil,Nat.zero_add]
theorem countN_le (l:List SpM) (r:Int):countN l r≤l.length:=List.countP_le_length
section leaves
set_option maxHeartbeats 400000
set_option maxRecDepth 10000
theorem f18_any (w:World) (col:Nat→Nat) (s:List Col) (ws:WS) (m:WlM) (r:Int) (h:WAt w col s ws m) (hok:WOk m) :
 Calls Tryz.prog 18 #[ptr ws.W,.int .i64 r] w fun e w'=>e=.returned (.int .i64 (markI m r))∧w=w':=by
 obtain ⟨a,c,e⟩:=h.rdForm
 obtain ⟨_,_,_,_,c4,_,_⟩:=h.cells
 rw [e] at c4
 have h16:=hok.hi
 have H47:=Lib.hid (f47_any w ws.W r m.marks.length a c c4)
 by_cases h1:0≤r∧r<(m.marks.length:Int)
 · obtain ⟨k,rfl⟩:∃ k:Nat,r=k:=⟨r.toNat,by omega⟩
   have hlt:k<m.marks.length:=by omega
   have HE:=Lib.hid (markI_in hlt)
   obtain ⟨g,o,rfl,hg,x0,x1⟩:=h.reader e hlt
   have H48:=Lib.hid (f48_any w (ws.mb k) m.marks[k] x1)
   rw [show isB m.marks.length (k:Int)=true by rw [isB,decide_eq_true h1]] at H47
   unfold ptr at x0 H47 H48 ⊢
   clear h hok x1
   go_enter Tryz.func18,Tryz.ntmps18
   go_wp2_with (first
    | (go_at_call 47;with_reducible refine H47.out.mono ?_;rintro e w1 ⟨rfl,rfl⟩)
    | (go_at_call 48;with_reducible refine H48.out.mono ?_;rintro e w1 ⟨rfl,rfl⟩))
   go_ret
   exact ⟨ret_int HE.out.symm,rfl⟩
 · have HE:Hid (markI m r = -1000000000000):=by show markI m r=_;rw [markI,if_neg h1]
   rw [show isB m.marks.length r=false by rw [isB,decide_eq_false h1]] at H47
   unfold ptr at H47 ⊢
   clear h hok
   go_enter Tryz.func18,Tryz.ntmps18
   go_wp2_with (go_at_call 47;with_reducible refine H47.out.mono ?_;rintro e w1 ⟨rfl,rfl⟩)
   go_ret
   exact ⟨ret_int HE.out.symm,rfl⟩
theorem f119_any (w:World) (col:Nat→Nat) (s:List Col) (ws:WS) (m:WlM) (h:WAt w col s ws m) (hok:WOk m) :
 Calls Tryz.prog 119 #[ptr ws.W] w fun e w'=>e=.returned (.int .i64 (allN m.splits))∧w=w':=by
 obtain ⟨a,c,e⟩:=h.splForm
 obtain ⟨_,_,c2,_,_,_,_⟩:=h.cells
 rw [e] at c2
 have H:=Lib.hid h
 have h50:=hok.splits
 have HA:=Lib.hid hok.all
 unfold ptr
 clear h hok
 go_enter Tryz.func119,Tryz.ntmps119
 go_wp2_with fail
 go_loopw [3,5,11] (fun z _ i wr=>∃ (k:Nat),k≤m.splits.length∧z=.int .i64 (allN (m.splits.take k))∧i=.int .i64 k∧w=wr) (fun _ _ i _=>m.splits.length - (intOf i).toNat)
 case atStart=>exact ⟨0,by omega,by rfl,rfl,rfl⟩
 case round =>
  obtain ⟨k,hk,rfl,rfl,rfl⟩:=hrel
  by_cases hlt:k<m.splits.length
  · obtain ⟨g,o,e1,e2,rfl,hg,x0,-,-,-,y1,-⟩:=H.out.split e hlt
    have hb1:allN (m.splits.take k)+m.splits[k].evs.length≤400:=by
     rw [← allN_take hlt]
     exact Nat.le_trans (allN_le _ _) HA.out
    have HT:=Lib.hid (allN_take hlt)
    obtain ⟨n1,e1'⟩:∃ n,allN (m.splits.take k)=n:=⟨_,rfl⟩
    obtain ⟨n2,e2'⟩:∃ n,m.splits[k].evs.length=n:=⟨_,rfl⟩
    rw [e1',e2'] at HT hb1
    rw [e2'] at y1
    rw [e1']
    clear e
    go_wp2_with fail
    go_roundw
    case rel=>exact ⟨k+1,by omega,by rw [HT.out];go_num,by go_num,trivial⟩
    case measure=>simp [intOf];omega
  · have hk':k=m.splits.length:=by omega
    subst hk'
    clear e
    go_wp2_with fail
    go_ret
    exact ⟨ret_int (by rw [List.take_length]),rfl⟩
theorem f79_any (w:World) (col:Nat→Nat) (s:List Col) (ws:WS) (m:WlM) (r:Int) (h:WAt w col s ws m) (hok:WOk m) :
 Calls Tryz.prog 79 #[ptr ws.W,.int .i64 r] w fun e w'=>e=.returned (.int .i64 (countN m.splits r))∧w=w':=by
 obtain ⟨a,c,e⟩:=h.splForm
 obtain ⟨_,_,c2,_,_,_,_⟩:=h.cells
 rw [e] at c2
 have H:=Lib.hid h
 have h50:=hok.splits
 unfold ptr
 clear h hok
 go_enter Tryz.func79,Tryz.ntmps79
 go_wp2_with fail
 go_loopw [5,7,13] (fun z _ i wr=>∃ (k:Nat),k≤m.splits.length∧z=.int .i64 (countN (m.splits.take k) r)∧i=.int .i64 k∧w=wr) (fun _ _ i _=>m.splits.length - (intOf i).toNat)
 case atStart=>exact ⟨0,by omega,by rfl,rfl,rfl⟩
 case round =>
  obtain ⟨k,hk,rfl,rfl,rfl⟩:=hrel
  by_cases hlt:k<m.splits.length
  · obtain ⟨g,o,e1,e2,rfl,hg,x0,-,-,-,-,-,-,-,y5⟩:=H.out.split e hlt
    have hb1:countN (m.splits.take k) r≤50:=by
     have:=countN_le (m.splits.take k) r
     simp at this
     omega
    have HT:=Lib.hid (countN_take (r:=r) hlt)
    obtain ⟨n1,e1'⟩:∃ n,countN (m.splits.take k) r=n:=⟨_,rfl⟩
    rw [e1'] at HT hb1
    rw [e1']
    clear e
    cases ho:((m.splits[k].owner:Int) == r)
    · have HU:Hid (countN (m.splits.take (k+1)) r=n1):=by
       have:=HT.out
       rw [ho] at this
       exact this
      go_wp2_with fail
      go_roundw
      case rel=>exact ⟨k+1,by omega,by rw [HU.out],by go_num,trivial⟩
      case measure=>simp [intOf];omega
    · have HU:Hid (countN (m.splits.take (k+1)) r=n1+1):=by
       have:=HT.out
       rw [ho] at this
       exact this
      go_wp2_with fail
      go_roundw
      case rel=>exact ⟨k+1,by omega,by rw [HU.out];go_num,by go_num,trivial⟩
      case measure=>simp [intOf];omega
  · have hk':k=m.splits.length:=by omega
    subst hk'
    clear e
    go_wp2_with fail
    go_ret
    exact ⟨ret_int (by rw [List.take_length]),rfl⟩
end leaves
theorem countN_any (l:List SpM) (r:Int):(((countN l r:Nat):Int) == 0) = !(l.any fun x=>(x.owner:Int) == r):=by
 unfold countN
 cases h:l.any fun x=>(x.owner:Int) == r
 · have:l.countP (fun x=>(x.owner:Int) == r)=0:=by
    rw [List.countP_eq_zero]
    intro x hx
    have:=(List.any_eq_false.1 h) x hx
    simpa using this
   rw [this];rfl
 · have:0<l.countP (fun x=>(x.owner:Int) == r):=by
    rw [List.countP_pos_iff]
    obtain ⟨x,hx,hp⟩:=List.any_eq_true.1 h
    exact ⟨x,hx,hp⟩
   simp
   simpa using this
section leaves
set_option maxHeartbeats 400000
set_option maxRecDepth 10000
theorem f22_any (w:World) (col:Nat→Nat) (s:List Col) (ws:WS) (m:WlM) (r:Int) (h:WAt w col s ws m) (hok:WOk m) :
 Calls Tryz.prog 22 #[ptr ws.W,.int .i64 r] w fun e w'=>e=.returned (.int .i64 (leftI m.splits r))∧Below w.heap.size w w':=by
 obtain ⟨a,c,e⟩:=h.splForm
 obtain ⟨a',c',e'⟩:=h.rdForm
 obtain ⟨_,_,c2,_,c4,_,_⟩:=h.cells
 rw [e] at c2
 rw [e'] at c4
 have hWs:=cell_lt c2
 have H47:=Lib.hid (f47_any w ws.W r m.marks.length a' c' c4)
 have H:=Lib.hid h
 have h50:=hok.splits
 have HA:=Lib.hid hok.all
 have HR:=Lib.hid hok.read
 have HO:=Lib.hid hok.owner
 unfold ptr at H47 ⊢
 clear h hok c4 e'
 cases hi:isB m.marks.length r
 · rw [hi] at H47
   have HE:Hid (leftI m.splits r=0):=by
    have hn:¬ (0≤r∧r<(m.marks.length:Int)):=by simpa [isB] using hi
    have hz:∀ l:List SpM,(∀ x ∈ l,x.owner<m.marks.length)→leftI l r=0:=by
     intro l
     induction l with
     | nil=>intro _;rfl
     | cons x l ih =>
       intro hl
       have h1:=hl x (List.mem_cons_self ..)
       have hne:((x.owner:Int) == r)=false:=by simp;omega
       have e1:leftI (x :: l) r=(if ((x.owner:Int) == r)=true then (x.evs.length:Int) - x.read else 0)+leftI l r:=by simp only [leftI,List.map_cons,List.sum_cons]
       rw [e1,hne,ih fun y hy=>hl y (List.mem_cons_of_mem _ hy)]
       rfl
    exact hz _ HO.out
   clear hi
   go_enter Tryz.func22,Tryz.ntmps22
   go_wp2_with (go_at_call 47;with_reducible refine H47.out.mono ?_;rintro e w1 ⟨rfl,rfl⟩)
   go_ret
   exact ⟨ret_int HE.out.symm,Below.refl _ _⟩
 rw [hi] at H47
 clear hi
 go_enter Tryz.func22,Tryz.ntmps22
 go_wp2_with (go_at_call 47;with_reducible refine H47.out.mono ?_;rintro e w1 ⟨rfl,rfl⟩)
 go_loopw [5,7,17] (fun z _ i wr=>∃ (k:Nat),k≤m.splits.length∧z=.int .i64 (leftI (m.splits.take k) r)∧i=.int .i64 k∧Hid (Below w.heap.size w wr)) (fun _ _ i _=>m.splits.length - (intOf i).toNat)
 case atStart=>exact ⟨0,by omega,by rfl,rfl,Lib.hid (Below.refl _ _)⟩
 case round =>
  obtain ⟨k,hk,rfl,rfl,hbr⟩:=hrel
  by_cases hlt:k<m.splits.length
  · obtain ⟨g,o,e1,e2,rfl,hg,x0,-,hxb,-,y1,y2,-,-,y5⟩:=(H.out.below hbr.out).split e hlt
    have hb0:=leftI_bound (l:=m.splits.take k) r (fun x hx=>HR.out x (List.mem_of_mem_take hx))
    have ha0:=allN_take hlt
    have ha1:=allN_le m.splits (k+1)
    have ha2:=HA.out
    have hr0:=HR.out _ (List.getElem_mem hlt)
    have HT:=Lib.hid (leftI_take (r:=r) hlt)
    obtain ⟨n1,q1⟩:∃ n,leftI (m.splits.take k) r=n:=⟨_,rfl⟩
    obtain ⟨n2,q2⟩:∃ n,m.splits[k].evs.length=n:=⟨_,rfl⟩
    obtain ⟨n3,q3⟩:∃ n,m.splits[k].read=n:=⟨_,rfl⟩
    rw [q1] at hb0
    rw [q2] at ha0 hr0 y1
    rw [q3] at hr0 y2
    rw [q1,q2,q3] at HT
    rw [q1]
    have hbb:0≤n1∧n1+n2≤400∧n3≤n2:=by omega
    clear ha0 ha1 ha2 hr0 hb0 q1 q2 q3 e
    obtain ⟨t1,t2,t3⟩:=hbb
    cases ho:((m.splits[k].owner:Int) == r)
    · have HU:Hid (leftI (m.splits.take (k+1)) r=n1):=by
       have:=HT.out
       rw [ho] at this
       show leftI (m.splits.take (k+1)) r=_
       rw [this]
       simp
      clear HT
      go_wp2_with fail
      go_roundw
      case rel=>exact ⟨k+1,by omega,by rw [HU.out],by go_num,hbr⟩
      case measure=>simp [intOf];omega
    · have HU:Hid (leftI (m.splits.take (k+1)) r=n1+((n2:Int) - n3)):=by
       have:=HT.out
       rw [ho] at this
       show leftI (m.splits.take (k+1)) r=_
       rw [this]
       rfl
      clear HT
      go_wp2_with fail
      have hcl:=fun d os b' o' h=>(below_regrown wr d os).cell (p:=⟨b',o',none⟩) h
      refine wp_region_quiet_below (by kernel_rfl) (by kernel_rfl) ?_
      repeat (quiet_step (fail))
      refine wpQuiet_nil ?_
      intro wq hw'
      have HQ:=Lib.hid (below_of_class hw')
      clear hw' hcl
      go_wp2_with fail
      go_roundw
      case rel=>exact ⟨k+1,by omega,by rw [HU.out,wrapI (n:=(n2:Int) - n3) (by omega),wrapI (by omega)],by go_num,Lib.hid (hbr.out.trans (HQ.out.mono hbr.out.size))⟩
      case measure=>simp [intOf];omega
  · have hk':k=m.splits.length:=by omega
    subst hk'
    clear e
    go_wp2_with fail
    go_ret
    exact ⟨ret_int (by rw [List.take_length]),hbr.out⟩
theorem f64_any (w:World) (col:Nat→Nat) (s:List Col) (ws:WS) (m:WlM) (r:Int) (h:WAt w col s ws m) (hok:WOk m) :
 Calls Tryz.prog 64 #[ptr ws.W,.int .i64 r] w fun e w'=>e=.returned (.bool (idleB m r))∧w=w':=by
 obtain ⟨a',c',e'⟩:=h.rdForm
 obtain ⟨_,_,_,_,c4,c5,_⟩:=h.cells
 rw [e'] at c4
 have H47:=Lib.hid (f47_any w ws.W r m.marks.length a' c' c4)
 have H79:=Lib.hid (f79_any w col s ws m r h hok)
 have HE:Hid (idleB m r=(isB m.marks.length r && !m.sealed && ((countN m.splits r:Int) == 0))):=by show idleB m r=_;rw [countN_any];rfl
 have hcn:=Nat.le_trans (countN_le m.splits r) hok.splits
 unfold ptr at H47 H79 ⊢
 clear h hok c4 e'
 generalize isB m.marks.length r=b1 at H47 HE
 generalize m.sealed=b2 at c5 HE
 generalize countN m.splits r=n at H79 HE hcn
 cases b1
 · go_enter Tryz.func64,Tryz.ntmps64
   go_wp2_with (go_at_call 47;with_reducible refine H47.out.mono ?_;rintro e w1 ⟨rfl,rfl⟩)
   go_ret
   exact ⟨ret_bool (by rw [HE.out];rfl),rfl⟩
 · cases b2
   · go_enter Tryz.func64,Tryz.ntmps64
     go_wp2_with (first
      | (go_at_call 47;with_reducible refine H47.out.mono ?_;rintro e w1 ⟨rfl,rfl⟩)
      | (go_at_call 79;with_reducible refine H79.out.mono ?_;rintro e w1 ⟨rfl,rfl⟩))
     go_ret
     exact ⟨ret_bool (by rw [HE.out];simp),rfl⟩
   · go_enter Tryz.func64,Tryz.ntmps64
     go_wp2_with (go_at_call 47;with_reducible refine H47.out.mono ?_;rintro e w1 ⟨rfl,rfl⟩)
     go_ret
     exact ⟨ret_bool (by rw [HE.out];rfl),rfl⟩
end leaves
def PEnts (es:List MapEntry) (l:List (ByteArray×Value)):Prop:=es.map (fun e=>(e.key,e.val))=l.map fun p=>(Value.string p.1,p.2)
def valS (l:List (ByteArray×Value)) (n:ByteArray):Option Value:=(l.find? fun p=>eqS p.1 n).map Prod.snd
theorem findNow_p:∀ {es:List MapEntry} {l:List (ByteArray×Value)},PEnts es l→∀ (n:ByteArray) (i:Nat),∃ r,Instr.findNow .string (.string n) es i=some r∧r.map Prod.snd=valS l n
 | [],[],_,n,i=>⟨none,rfl,rfl⟩
 | [],_ :: _,h,_,_=>by cases h
 | _ :: _,[],h,_,_=>by cases h
 | e :: es,p :: l,h,n,i=>by
   simp only [PEnts,List.map_cons,List.cons.injEq,Prod.mk.injEq] at h
   obtain ⟨⟨h1,h2⟩,h3⟩:=h
   obtain ⟨r,hr,hs⟩:=findNow_p (es:=es) (l:=l) h3 n (i+1)
   have e1:Instr.sameNow .string (.string n) e.key=some (eqS p.1 n):=by rw [h1,eqS_comm,← eqS_beq];rfl
   cases hq:eqS p.1 n
   · refine ⟨r,?_,?_⟩
     · rw [Instr.findNow,e1,hq];exact hr
     · rw [hs];simp [valS,hq]
   · refine ⟨some (i,e.val),?_,?_⟩
     · rw [Instr.findNow,e1,hq]
     · simp [valS,hq,h2]
theorem lookup_p (W:World) (r clock:Nat) (n:ByteArray) {es:Array MapEntry} {l:List (ByteArray×Value)} (he:PEnts es.toList l) (h:W.heap[r]? = some (.map es clock)) :
 (Instr.lookup 95 (.map (some r)) (.string n) false).run Tryz.prog W=.ok ((valS l n).getD (.pointer none)) W:=by
 have hz:∀ w,(zeroValue 126).run Tryz.prog w=.ok (.pointer none) w:=fun w=>by kernel_rfl
 have u:=Tryz.underlying95
 have u9:=Tryz.underlying9
 have ho:(getObj r).run Tryz.prog W=.ok (.map es clock) W:=by simp [getObj,Sem.run,h]
 have hck:∀ e m,(Instr.checkKey e (m+1) 9 (.string n)).run Tryz.prog W=.ok () W:=fun e m=>MapKept.run_checkKey u9 (by simp [MapKept.IsKey]) e m
 obtain ⟨q,hq,hs⟩:=findNow_p he n 0
 have hf:(Instr.findKey 9 (.string n) es.toList).run Tryz.prog W=.ok q W:=by simp [Instr.findKey,run_underlying u9,hq]
 cases q with
 | none=>simp only [Option.map_none] at hs;simp [Instr.lookup,run_underlying u,ho,hck,hf,hz,← hs]
 | some x=>simp only [Option.map_some] at hs;simp [Instr.lookup,run_underlying u,ho,hck,hf,← hs]
theorem store_p (W:World) (r clock:Nat) (n:ByteArray) (v:Value) {es:Array MapEntry} {l:List (ByteArray×Value)} (he:PEnts es.toList l) (h:W.heap[r]? = some (.map es clock)) (hk:valS l n=none) :
 (Instr.mapUpdate 95 (.map (some r)) (.string n) v).run Tryz.prog W=.ok () (W.putObj r (.map (es.push { key:=.string n,val:=v,born:=clock }) (clock+1))):=by
 have u:=Tryz.underlying95
 have u9:=Tryz.underlying9
 have ho:(getObj r).run Tryz.prog W=.ok (.map es clock) W:=by simp [getObj,Sem.run,h]
 have hs:∀ o,(setObj r o).run Tryz.prog W=.ok () (W.putObj r o):=fun o=>by simp [setObj,Sem.run,World.putObj,h]
 have hck:∀ e m,(Instr.checkKey e (m+1) 9 (.string n)).run Tryz.prog W=.ok () W:=fun e m=>MapKept.run_checkKey u9 (by simp [MapKept.IsKey]) e m
 obtain ⟨q,hq,hs'⟩:=findNow_p he n 0
 rw [hk] at hs'
 have hqn:q=none:=by cases q <;> simp_all
 subst hqn
 have hf:(Instr.findKey 9 (.string n) es.toList).run Tryz.prog W=.ok none W:=by simp [Instr.findKey,run_underlying u9,hq]
 simp [Instr.mapUpdate,run_underlying u,ho,hck,hf,hs]
theorem PEnts.push {es:Array MapEntry} {l:List (ByteArray×Value)} (h:PEnts es.toList l) (n:ByteArray) (v:Value) (b:Nat):PEnts (es.push { key:=.string n,val:=v,born:=b }).toList (l ++ [(n,v)]):=by
 unfold PEnts at *
 rw [Array.toList_push,List.map_append,List.map_append,h]
 rfl
def namesW (l:List SpM) (xb:Nat→Nat):List (ByteArray×Value):=(List.range l.length).map fun k=>((l.getD k ⟨ByteArray.empty,0,[],0,0,false⟩).name,ptr (xb k))
theorem WAt.ents {w:World} {col:Nat→Nat} {s:List Col} {ws:WS} {m:WlM} (h:WAt w col s ws m):PEnts ws.ents.toList (namesW m.splits ws.xb):=by
 unfold PEnts namesW
 rw [h.hN,List.map_map]
 rfl
theorem namesW_len (l:List SpM) (xb:Nat→Nat):(namesW l xb).length=l.length:=by simp [namesW]
theorem namesW_at {l:List SpM} {xb:Nat→Nat} {k:Nat} (h:k<(namesW l xb).length) (h':k<l.length):(namesW l xb)[k]=(l[k].name,ptr (xb k)):=by
 simp [namesW,List.getD,h']
theorem valS_none {l:List SpM} {xb:Nat→Nat} {n:ByteArray} (h:findI l n<0):valS (namesW l xb) n=none:=by
 unfold findI idxI at h
 cases hf:l.findIdx? (fun x=>eqS x.name n) with
 | some i=>rw [hf] at h;simp at h;omega
 | none =>
   rw [List.findIdx?_eq_none_iff] at hf
   unfold valS
   rw [List.find?_eq_none.2]
   · rfl
   · intro p hp
     obtain ⟨k,hk,rfl⟩:=List.mem_iff_getElem.1 hp
     have hk':k<l.length:=by rw [← namesW_len l xb];exact hk
     rw [namesW_at hk hk']
     have:=hf l[k] (List.getElem_mem hk')
     simpa using this
theorem valS_some {l:List SpM} {xb:Nat→Nat} {n:ByteArray} {k:Nat} (h:findI l n=(k:Int)):valS (namesW l xb) n=some (ptr (xb k)):=by
 unfold findI idxI at h
 cases hf:l.findIdx? (fun x=>eqS x.name n) with
 | none=>rw [hf] at h;simp only [] at h;omega
 | some i =>
   rw [hf] at h
   have hik:i=k:=by have h2:(i:Int)=(k:Int):=h;omega
   subst hik
   rw [List.findIdx?_eq_some_iff_getElem] at hf
   obtain ⟨hi,hb,hlt⟩:=hf
   have hi':i<(namesW l xb).length:=by rw [namesW_len];exact hi
   unfold valS
   rw [List.find?_eq_some_iff_getElem.2 ⟨by rw [namesW_at hi' hi];exact hb,i,hi',rfl,fun j hj=>by
    have:=hlt j hj
    rw [namesW_at (by omega) (by omega)]
    simpa using this⟩,namesW_at hi' hi]
   rfl
section leaves
set_option maxHeartbeats 400000
set_option maxRecDepth 10000
theorem f72_any (w:World) (col:Nat→Nat) (s:List Col) (ws:WS) (m:WlM) (nm:ByteArray) (h:WAt w col s ws m) :
 Calls Tryz.prog 72 #[ptr ws.W,.string nm] w fun e w'=>e=.returned (.tuple #[.int .i64 (ownerI m nm).1,.int .i64 (ownerI m nm).2])∧w=w':=by
 obtain ⟨a,c,e⟩:=h.splForm
 obtain ⟨_,_,_,c3,_,_,_⟩:=h.cells
 have hlk:=lookup_p w ws.mp ws.clock nm h.ents h.hM
 rcases idxI_lt (p:=fun x:SpM=>eqS x.name nm) (l:=m.splits) with hi | ⟨k,hlt,hi⟩
 · have hi':findI m.splits nm<0:=hi
   have HE:Hid (ownerI m nm=(0,5)):=by show ownerI m nm=_;rw [ownerI,if_pos hi']
   rw [HE.out]
   rw [valS_none hi'] at hlk
   unfold ptr
   clear h hi hi' e
   go_enter Tryz.func72,Tryz.ntmps72
   go_wp2_with fail
   go_ret2
   exact ⟨rfl,rfl⟩
 · have hi':findI m.splits nm=k:=hi
   have HE:Hid (ownerI m nm=((m.splits[k].owner:Int),0)):=by
    show ownerI m nm=_
    rw [ownerI,hi',if_neg (by omega)]
    simp [List.getD,hlt]
   rw [HE.out]
   rw [valS_some hi'] at hlk
   obtain ⟨g,o,e1,e2,rfl,hg,x0,-,hxb,-,y1,y2,-,-,y5⟩:=h.split e hlt
   unfold ptr at hlk ⊢
   clear h hi hi' e
   go_enter Tryz.func72,Tryz.ntmps72
   go_wp2_with fail
   go_ret2
   exact ⟨rfl,rfl⟩
end leaves
end Go.Proofs.YtimahogkcmmcnaaGreatDoor
