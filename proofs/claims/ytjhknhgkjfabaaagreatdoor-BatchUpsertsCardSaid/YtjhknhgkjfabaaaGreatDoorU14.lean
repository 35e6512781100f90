/-
 Changes that are there 0 times are left out: slices.DeleteFunc. If the changes lie in a list of one's own.
-/
import Derived.Test.YtjhknhgkjfabaaaGreatDoorU13
import Derived.Sort.Lot0
import Derived.Sort.LotA
import Derived.Test.YtjhknhgkjfabaaaGreatDoorProg
import Derived.WalkKit
import Derived.WalkSpells
import Derived.WalkLawsBesides
import Derived.Shelf.SlSortCmp.KitK
import Derived.Lib.Hide
set_option linter.unusedSimpArgs false
set_option linter.unusedVariables false
namespace Go.Proofs.YtjhknhgkjfabaaaGreatDoor
open Go.RowKit Go.Proofs.YtjhknhgkjfabaaaGreatDoor.Cmps
theorem heap_set {w:World} {g j:Nat} {cs:Array Value} {t:TypeId} {fr:Nat×Nat} (h:w.heap[g]? = some (.cells cs t fr)) (v:Value):(w.setCell ⟨g,j,none⟩ v).heap[g]? = some (.cells (cs.setIfInBounds j v) t fr):=by
 simp [World.setCell,Array.getElem?_modify,h]
theorem SlOwn.setJ {w:World} {e:TypeId} {size g o n cap:Nat} {xs:List Value} (h:SlOwn w e size (.slice (some ⟨g,o,none⟩) n cap) n xs (some g)) {j:Nat} (hj:j<n * size) (u:Value):SlOwn (w.setCell ⟨g,o+j,none⟩ u) e size (.slice (some ⟨g,o,none⟩) n cap) n (xs.set j u) (some g):=by
 obtain ⟨hl,h⟩:=h
 rcases h with ⟨hv,_⟩ | ⟨g',o',cap',cur,hb,hv,hg,hnc,hcm,hcs,htk⟩
 · cases hv
 · injection hb with hb
   injection hv with ha _ hc
   injection ha with ha
   injection ha with h1 h2
   subst hb h2 hc
   refine ⟨by simpa using hl,.inr ⟨g,o,cap,_,rfl,rfl,heap_set hg u,hnc,hcm,by simpa using hcs,?_⟩⟩
   have hnm:n * size≤cap * size:=Nat.mul_le_mul_right _ hnc
   rw [Array.toList_setIfInBounds]
   rw [← htk]
   generalize n * size=k at hj hnm ⊢
   generalize cap * size=q at hnm hcs
   refine List.ext_getElem? fun i=>?_
   simp only [List.getElem?_take,List.getElem?_drop,List.getElem?_set]
   by_cases e1:o+j=o+i
   · have e2:j=i:=by omega
     subst e2
     simp only [if_true,List.length_take,List.length_drop,hj]
     have:o+j<cur.size:=by omega
     have h2:j<min k (cur.toList.length - o):=by simp;omega
     rw [if_pos (by simpa using this),if_pos h2]
   · have e2:¬ j=i:=fun h=>e1 (by rw [h])
     rw [if_neg e1,if_neg e2]
theorem SlOwn.frozen {w:World} {e:TypeId} {size g o n cap:Nat} {xs:List Value} {blk:Option Nat} (h:SlOwn w e size (.slice (some ⟨g,o,none⟩) n cap) n xs blk) (j:Nat):w.frozen? ⟨g,j,none⟩=false:=by
 rcases h.2 with ⟨hv,_⟩ | ⟨g',o',cap',cur,hb,hv,hg,_⟩
 · cases hv
 · injection hv with ha _ _
   injection ha with ha
   injection ha with h1 h2
   subst h1
   simp [World.frozen?,hg]
theorem SlOwn.some_of {w:World} {e:TypeId} {size:Nat} {a:Option Addr} {n c:Nat} {xs:List Value} {blk:Option Nat} (h:SlOwn w e size (.slice a n c) n xs blk) (hn:0<n):∃ g o,a=some ⟨g,o,none⟩∧blk=some g:=by
 rcases h.2 with ⟨_,h0,_⟩ | ⟨g,o,cap,cur,hb,hv,_⟩
 · omega
 · injection hv with hv _ _
   exact ⟨g,o,hv,hb⟩
theorem cels_get (ys:List (Chg×Value)) (i j:Nat) (hi:i<ys.length) (hj:j<3):(cels ys)[i * 3+j]? = (cel ys[i])[j]? := flat_get cel 3 cel_len ys i j hi hj
theorem cels_set (ys:List (Chg×Value)) (i:Nat) (hi:i<ys.length) (p:Chg×Value):(((cels ys).set (i * 3+0) (.int .i64 p.1.t)).set (i * 3+1) p.2).set (i * 3+2) (.int .i64 p.1.n)=cels (ys.set i p):=by
 refine List.ext_getElem? fun t=>?_
 by_cases ht:t<ys.length * 3
 · have hq:t / 3<ys.length:=Nat.div_lt_of_lt_mul (by omega)
   have he:t=t / 3 * 3+t % 3:=by omega
   have hm:t % 3<3:=Nat.mod_lt _ (by omega)
   generalize t / 3=q at hq he
   generalize t % 3=m at he hm
   subst he
   rw [cels_get (ys.set i p) q m (by simpa using hq) hm,List.getElem?_set,List.getElem?_set,List.getElem?_set,cels_get ys q m hq hm]
   simp only [List.length_set,cels_len]
   by_cases e:i=q
   · subst e
     rw [List.getElem_set_self]
     rcases m with _ | _ | _ | m
     · rw [if_neg (by omega),if_neg (by omega),if_pos rfl,if_pos (by omega)];rfl
     · rw [if_neg (by omega),if_pos rfl,if_pos (by omega)];rfl
     · rw [if_pos rfl,if_pos (by omega)];rfl
     · omega
   · rw [List.getElem_set_ne e,if_neg (by omega),if_neg (by omega),if_neg (by omega)]
 · rw [List.getElem?_eq_none (by simp [cels_len];omega),List.getElem?_eq_none (by rw [cels_len,List.length_set];omega)]
abbrev put3 (w:World) (g o:Nat) (a b c:Value):World:=((w.setCell ⟨g,o,none⟩ a).setCell ⟨g,o+1,none⟩ b).setCell ⟨g,o+2,none⟩ c
theorem SlOwn.put3 {w:World} {g o n cap:Nat} {ys:List (Chg×Value)} (hn:ys.length=n) (h:SlOwn w 42 3 (.slice (some ⟨g,o,none⟩) n cap) n (cels ys) (some g)) {i:Nat} (hi:i<n) (p:Chg×Value) :
 ∃ x0 x1 x2,(w.cell? ⟨g,o+i * 3,none⟩=some x0∧w.frozen? ⟨g,o+i * 3,none⟩=false) ∧
  ((w.setCell ⟨g,o+i * 3,none⟩ (.int .i64 p.1.t)).cell? ⟨g,o+i * 3+1,none⟩=some x1∧(w.setCell ⟨g,o+i * 3,none⟩ (.int .i64 p.1.t)).frozen? ⟨g,o+i * 3+1,none⟩=false) ∧
  (((w.setCell ⟨g,o+i * 3,none⟩ (.int .i64 p.1.t)).setCell ⟨g,o+i * 3+1,none⟩ p.2).cell? ⟨g,o+i * 3+2,none⟩=some x2∧((w.setCell ⟨g,o+i * 3,none⟩ (.int .i64 p.1.t)).setCell ⟨g,o+i * 3+1,none⟩ p.2).frozen? ⟨g,o+i * 3+2,none⟩=false) ∧
  SlOwn (Go.Proofs.YtjhknhgkjfabaaaGreatDoor.put3 w g (o+i * 3) (.int .i64 p.1.t) p.2 (.int .i64 p.1.n)) 42 3 (.slice (some ⟨g,o,none⟩) n cap) n (cels (ys.set i p)) (some g):=by
 have h1:=h.setJ (j:=i * 3+0) (by omega) (.int .i64 p.1.t)
 have h2:=h1.setJ (j:=i * 3+1) (by omega) p.2
 have h3:=h2.setJ (j:=i * 3+2) (by omega) (.int .i64 p.1.n)
 have l0:i * 3+0<(cels ys).length:=by rw [cels_len,hn];omega
 have l1:i * 3+1<((cels ys).set (i * 3+0) (.int .i64 p.1.t)).length:=by rw [List.length_set,cels_len,hn];omega
 have l2:i * 3+2<(((cels ys).set (i * 3+0) (.int .i64 p.1.t)).set (i * 3+1) p.2).length:=by rw [List.length_set,List.length_set,cels_len,hn];omega
 have c0:=h.cell (i * 3+0) _ (List.getElem?_eq_getElem l0)
 have c1:=h1.cell (i * 3+1) _ (List.getElem?_eq_getElem l1)
 have c2:=h2.cell (i * 3+2) _ (List.getElem?_eq_getElem l2)
 rw [cels_set ys i (by omega) p] at h3
 simp only [Nat.add_zero,← Nat.add_assoc] at h1 h2 h3 c0 c1 c2
 exact ⟨_,_,_,⟨c0,h.frozen _⟩,⟨c1,h1.frozen _⟩,⟨c2,h2.frozen _⟩,h3⟩
theorem SlOwn.cut {w:World} {e:TypeId} {size g o n cap:Nat} {xs:List Value} {blk:Option Nat} (h:SlOwn w e size (.slice (some ⟨g,o,none⟩) n cap) n xs blk) {i:Nat} (hi:i≤n):SlOwn w e size (.slice (some ⟨g,o,none⟩) i cap) i (xs.take (i * size)) blk:=by
 have him:i * size≤n * size:=Nat.mul_le_mul_right _ hi
 refine ⟨by rw [List.length_take,h.1];omega,?_⟩
 rcases h.2 with ⟨hv,_⟩ | ⟨g',o',cap',cur,hb,hv,hg,hnc,hcm,hcs,htk⟩
 · cases hv
 · injection hv with ha _ hc
   injection ha with ha
   injection ha with h1 h2
   subst h1 h2 hc
   exact .inr ⟨g,o,cap,cur,hb,rfl,hg,by omega,hcm,hcs,by rw [← htk,List.take_take,Nat.min_eq_left him]⟩
theorem SlOwn.clear {P:Program} {w:World} {e t:TypeId} {size g o n cap:Nat} {xs:List Value} (h:SlOwn w e size (.slice (some ⟨g,o,none⟩) n cap) n xs (some g)) {i:Nat} (hi:i<n) {z:Value}
 (ht:P.underlying t=some (.slice e)) (hz:∀ W,(zeroValue e).run P W=.ok z W) (hzs:z.cells.size=size) (hone:∀ u ∈ (Builtin.zeroCells z.cells (n - i)).toList,u.oneCell'=true) :
 ∃ w',(∀ ty c,(Builtin.clear_ #[t] ty #[.slice (some ⟨g,o+i * size,none⟩) (n - i) c]).run P w=.ok (.tuple #[]) w')∧SlOwn w' e size (.slice (some ⟨g,o,none⟩) i cap) i (xs.take (i * size)) (some g)∧w.grownBy w' (some g):=by
 have hxl:=h.1
 rcases h.2 with ⟨hv,_⟩ | ⟨g',o',cap',cur,hb,hv,hg,hnc,hcm,hcs,htk⟩
 · cases hv
 injection hv with ha _ hc
 injection ha with ha
 injection ha with h1 h2
 subst h1 h2 hc
 have hnm:n * size≤cap * size:=Nat.mul_le_mul_right _ hnc
 have him:i * size≤n * size:=Nat.mul_le_mul_right _ (by omega)
 have hlen:(Builtin.zeroCells z.cells (n - i)).toList.length=(n - i) * size:=by rw [Array.length_toList,size_zeroCells,hzs]
 have hsub:(n - i) * size=n * size - i * size:=Nat.sub_mul _ _ _
 have hst:=run_storeCells_at P g (o+i * size) e (Builtin.zeroCells z.cells (n - i)).toList 0 cur w hg (by rw [hlen,hsub];omega) hone
 have hne:∃ q,n - i=q+1:=⟨n - i - 1,by omega⟩
 obtain ⟨q,hq⟩:=hne
 refine ⟨w.setRow g (cur.toList.take (o+i * size+0) ++ (Builtin.zeroCells z.cells (n - i)).toList ++ cur.toList.drop (o+i * size+0+(Builtin.zeroCells z.cells (n - i)).toList.length)).toArray,fun ty c=>?_,⟨by rw [List.length_take,h.1];omega,.inr ⟨g,o,cap,_,rfl,rfl,setRow_heap w g cur _ e _ hg,by omega,hcm,?_,?_⟩⟩,⟨rfl,rfl,rfl,by simp,fun k _ hk=>setRow_other w g k _ (fun e=>hk (by simp [e]))⟩⟩
 · rw [hq] at hst ⊢
   simp only [Nat.add_zero] at hst
   simp [Builtin.clear_,run_underlying ht,hz,hst]
 · simp only [List.size_toArray,List.length_append,List.length_take,List.length_drop,Array.length_toList,hlen,hsub]
   omega
 · have e0:(cur.toList.take (o+i * size+0)).length=o+i * size:=by
    rw [List.length_take,Array.length_toList];omega
   generalize (Builtin.zeroCells z.cells (n - i)).toList=Z at hlen ⊢
   generalize cur.toList.drop (o+i * size+0+Z.length)=T
   show List.take (i * size) (List.drop o (List.take (o+i * size+0) cur.toList ++ Z ++ T))=_
   rw [List.append_assoc,List.drop_append_of_le_length (by omega),List.take_append_of_le_length (by rw [List.length_drop,e0];omega),← htk,List.take_take,Nat.min_eq_left him]
   simp only [Nat.add_zero]
   rw [List.drop_take,List.take_take]
   congr 1
   omega
def keepB (c:Chg):Bool := !(c.n == 0)
theorem filter_none {l:List Chg} (h:firstAt (fun c=>c.n == 0) l = -1):l.filter keepB=l:=by
 rw [List.filter_eq_self]
 intro x hx
 have:=firstAt_any (fun c:Chg=>c.n == 0) l
 rw [h] at this
 have h2:l.any (fun c=>c.n == 0)=false:=by rw [← this];rfl
 rw [List.any_eq_false] at h2
 have:=h2 x hx
 simpa [keepB] using this
theorem SlOwn.room {w:World} {e:TypeId} {size:Nat} {a:Option Addr} {n c:Nat} {xs:List Value} {blk:Option Nat} (h:SlOwn w e size (.slice a n c) n xs blk):n≤c:=by
 rcases h.2 with ⟨hv,h0,_⟩ | ⟨g,o,cap,cur,_,hv,_,hc,_⟩
 · omega
 · injection hv with _ _ hv;omega
theorem firstAt_is {α:Type} (p:α→Bool) (l:List α):firstAt p l = -1∨∃ i,∃ (h:i<l.length),firstAt p l=i∧p l[i]=true∧∀ j (hj:j<l.length),j<i→p l[j]=false:=by
 unfold firstAt
 cases h:l.findIdx? p with
 | none=>exact .inl rfl
 | some i =>
   rw [List.findIdx?_eq_some_iff_getElem] at h
   obtain ⟨hi,hb,hn⟩:=h
   exact .inr ⟨i,hi,rfl,hb,fun j hj hji=>by simpa using hn j hji⟩
theorem filter_start {l:List Chg} {i:Nat} (hi:i<l.length) (hz:(l[i].n == 0)=true) (hn:∀ j (h:j<l.length),j<i→(l[j].n == 0)=false):(l.take (i+1)).filter keepB=l.take i:=by
 rw [List.take_succ_eq_append_getElem hi,List.filter_append]
 have h1:(l.take i).filter keepB=l.take i:=by
  rw [List.filter_eq_self]
  intro x hx
  obtain ⟨j,hj,rfl⟩:=List.mem_iff_getElem.1 hx
  rw [List.length_take] at hj
  have:=hn j (by omega) (by omega)
  simpa [keepB] using this
 have h2:[l[i]].filter keepB=[]:=by simp [keepB,hz]
 rw [h1,h2,List.append_nil]
structure Kept (xs ys:List (Chg×Value)) (i j:Nat):Prop where
 len:ys.length=xs.length
 lt:i<j
 le:j≤xs.length
 kept:(ys.take i).map (·.1)=((xs.map (·.1)).take j).filter keepB
 rest:ys.drop j=xs.drop j
 mem:∀ p ∈ ys,p ∈ xs
theorem Kept.at {xs ys:List (Chg×Value)} {i j:Nat} (h:Kept xs ys i j) (hj:j<xs.length):∃ (hy:j<ys.length),ys[j]=xs[j]:=by
 have hy:j<ys.length:=by rw [h.len];exact hj
 refine ⟨hy,?_⟩
 have h1:(ys.drop j)[0]? = some ys[j]:=by rw [List.getElem?_drop];simp [hy]
 have h2:(xs.drop j)[0]? = some xs[j]:=by rw [List.getElem?_drop];simp [hj]
 rw [h.rest,h2] at h1
 injection h1 with h1;exact h1.symm
theorem Kept.skip {xs ys:List (Chg×Value)} {i j:Nat} (h:Kept xs ys i j) (hj:j<xs.length) (hz:keepB xs[j].1=false):Kept xs ys i (j+1):=by
 refine ⟨h.len,by have:=h.lt;omega,hj,?_,?_,h.mem⟩
 · rw [h.kept,List.take_succ_eq_append_getElem (by simpa using hj),List.filter_append]
   simp [hz]
 · rw [← List.drop_drop,← List.drop_drop,h.rest]
theorem Kept.put {xs ys:List (Chg×Value)} {i j:Nat} (h:Kept xs ys i j) (hj:j<xs.length) (hz:keepB xs[j].1=true):Kept xs (ys.set i xs[j]) (i+1) (j+1):=by
 have hi:i<ys.length:=by rw [h.len];have:=h.lt;omega
 refine ⟨by simpa using h.len,by have:=h.lt;omega,hj,?_,?_,?_⟩
 · rw [List.take_succ_eq_append_getElem (by simpa using hi),List.map_append,List.take_set_of_le (Nat.le_refl _),h.kept,List.take_succ_eq_append_getElem (by simpa using hj),List.filter_append]
   simp [hz]
 · rw [List.drop_set_of_lt (by have:=h.lt;omega),← List.drop_drop,h.rest,List.drop_drop]
 · intro p hp
   rcases List.mem_or_eq_of_mem_set hp with hp | rfl
   · exact h.mem p hp
   · exact List.getElem_mem hj
theorem grownBy_set {w w1:World} {g:Nat} (h:w.grownBy w1 (some g)) (o:Nat) (u:Value):w.grownBy (w1.setCell ⟨g,o,none⟩ u) (some g) :=
 ⟨h.os,h.tape,h.output,by simpa using h.size,fun b hb hne=>by rw [Below.heap_setCell w1 ⟨g,o,none⟩ u b (fun e=>hne (by rw [e]))];exact h.block b hb hne⟩
theorem cels_take (ys:List (Chg×Value)) (k:Nat):(cels ys).take (k * 3)=cels (ys.take k):=by
 induction ys generalizing k with
 | nil=>simp [cels]
 | cons p t ih =>
   rcases k with _ | k
   · simp [cels]
   · show List.take ((k+1) * 3) (cel p ++ cels t)=cel p ++ cels (t.take k)
     rw [← ih k,show (k+1) * 3=(cel p).length+k * 3 by rw [cel_len];omega,List.take_append]
     simp [List.take_of_length_le]
theorem zero_one (n:Nat):∀ u ∈ (Builtin.zeroCells (Value.agg #[.int .i64 0,.slice none 0 0,.int .i64 0]).cells n).toList,u.oneCell'=true:=by
 intro u hu
 simp only [Builtin.zeroCells,Array.toList_map,List.mem_map] at hu
 obtain ⟨i,-,rfl⟩:=hu
 have hs:(Value.agg #[.int .i64 0,.slice none 0 0,.int .i64 0]).cells=#[.int .i64 0,.slice none 0 0,.int .i64 0]:=by kernel_rfl
 rw [hs]
 have hm:i % (#[Value.int .i64 0,.slice none 0 0,.int .i64 0]).size<3:=Nat.mod_lt _ (by decide)
 generalize i % (#[Value.int .i64 0,.slice none 0 0,.int .i64 0]).size=q at hm
 rcases q with _ | _ | _ | q
 · rfl
 · rfl
 · rfl
 · omega
section leaves
set_option maxHeartbeats 1000000
set_option maxRecDepth 10000
theorem f57_any (w:World) (v:Value) (xs:List (Chg×Value)) (blk:Option Nat) (D:Nat→Prop) (ho:SlOwn w 42 3 v xs.length (cels xs) blk) (hl:xs.length≤1000) (hr:∀ p ∈ xs,RowAt w D p.2 p.1.r) (hd:∀ g,blk=some g→¬ D g) :
 Calls Tryz.prog 57 #[v,.func (.func 58) #[] #[]] w fun e w'=>(∃ v',e=.returned v'∧ChgsAt w' (fun b=>D b∨blk=some b) v' ((xs.map (·.1)).filter keepB))∧w.grownBy w' blk:=by
 have hch:ChgsAt w (fun b=>D b∨blk=some b) v (xs.map (·.1)):=ho.chgs (by omega) (fun b e=>.inr e) fun p hp=>(hr p hp).mono fun b h=>.inl h
 have H41:=Lib.hid (f41_of 58 (.inr (.inr (.inr rfl))) (fun c=>c.n == 0) f58_any w v _ _ hch)
 obtain ⟨a,cap,rfl⟩:=ho.form
 have hrow:∀ (W:World),w.grownBy W blk→∀ p ∈ xs,RowAt W D p.2 p.1.r:=fun W hg p hp=>(hr p hp).keep fun b hb hlt=>hg.block b hlt (fun e=>hd b e.symm hb)
 have HROW:=Lib.hid hrow
 rcases firstAt_is (fun c:Chg=>c.n == 0) (xs.map (·.1)) with hf | ⟨i,hi,hf,hz,hn⟩
 · have HF:=Lib.hid (filter_none hf)
   have HCH:=Lib.hid hch
   rw [hf] at H41
   clear hch hf ho hr hd hrow
   go_enter Tryz.func57,Tryz.ntmps57
   go_wp2_with (go_at_call 41;refine H41.out.mono ?_;rintro e w1 ⟨rfl,hb1⟩)
   go_ret
   refine ⟨⟨_,rfl,?_⟩,(World.grownBy.but ?_ blk)⟩
   · rw [HF.out];exact HCH.out.below hb1
   · exact ⟨hb1.os,hb1.tape,hb1.output,hb1.size,fun b hb _=>hb1.block b hb⟩
 · rw [hf] at H41
   have hi':i<xs.length:=by simpa using hi
   obtain ⟨g,o,rfl,rfl⟩:=ho.some_of (by omega)
   have HK0:Hid (Kept xs xs i (i+1)):=⟨rfl,by omega,hi',by rw [filter_start hi hz hn,List.map_take],rfl,fun p hp=>hp⟩
   have HO0:=Lib.hid ho
   have hgl:=ho.blk_lt
   have hwi:IntKind.i64.wrap ((i:Int)+1)=(i:Int)+1:=by rw [IntKind.wrap_i64];omega
   have hne:((i:Int) == -1)=false:=by simp
   have hroom:=ho.room
   clear hch hf ho hr hd hrow hz hn hi
   go_enter Tryz.func57,Tryz.ntmps57
   go_wp2_with (go_at_call 41;refine H41.out.mono ?_;rintro e w1 ⟨rfl,hb1⟩;have HB1:=Lib.hid hb1;have HO1:=Lib.hid (HO0.out.keep fun q hq=>by injection hq with hq;exact HB1.out.block q (by omega));clear hb1)
   have HG1:Hid (w.grownBy w1 (some g)):=World.grownBy.but ⟨HB1.out.os,HB1.out.tape,HB1.out.output,HB1.out.size,fun b hb _=>HB1.out.block b hb⟩ _
   clear HB1
   go_loopw [5,6] (fun si sj wr=>∃ (ys:List (Chg×Value)) (k j:Nat),si=.int .i64 k∧sj=.int .i64 j∧Hid (Kept xs ys k j)∧Hid (SlOwn wr 42 3 (.slice (some ⟨g,o,none⟩) xs.length cap) xs.length (cels ys) (some g))∧Hid (w.grownBy wr (some g))) (fun _ j _=>xs.length - (intOf j).toNat)
   case atStart=>exact ⟨xs,i,i+1,rfl,by go_num,HK0,HO1,HG1⟩
   case round =>
    clear HK0 HO1 HG1
    obtain ⟨ys,k,j,rfl,rfl,HK,HO,HG⟩:=hrel
    by_cases hlt:j<xs.length
    · obtain ⟨hy,hye⟩:=HK.out.at hlt
      have hkj:=HK.out.lt
      have hc0:=HO.out.cell (j * 3+0) (.int .i64 xs[j].1.t) (by rw [cels_get ys j 0 hy (by omega),hye];rfl)
      have hc1:=HO.out.cell (j * 3+1) xs[j].2 (by rw [cels_get ys j 1 hy (by omega),hye];rfl)
      have hc2:=HO.out.cell (j * 3+2) (.int .i64 xs[j].1.n) (by rw [cels_get ys j 2 hy (by omega),hye];rfl)
      simp only [Nat.add_zero,← Nat.add_assoc] at hc0 hc1 hc2
      obtain ⟨ra,rc,hre,-,-⟩:=id (HROW.out wr HG.out xs[j] (List.getElem_mem hlt))
      have HRJ:=Lib.hid (HROW.out wr HG.out xs[j] (List.getElem_mem hlt))
      have hgr:=HO.out.blk_lt
      have HL:Hid (ys.length=xs.length):=HK.out.len
      have HJ:Hid (∃ p:Chg×Value,p=xs[j]∧p.2=.slice ra p.1.r.length rc):=⟨_,rfl,hre⟩
      obtain ⟨p,hp⟩:∃ p,p=xs[j]:=⟨_,rfl⟩
      rw [← hp] at hc0 hc1 hc2 HRJ hre
      have HP:=Lib.hid hp
      clear hye hp HJ
      obtain ⟨⟨pt,pr,pn⟩,pv⟩:=p
      simp only at hc0 hc1 hc2 HRJ hre
      subst hre
      have HS:=Lib.hid (fun W hb=>f58_any W (.slice ra pr.length rc) ⟨pt,pr,pn⟩ D (HRJ.out.keep fun b _ hl=>(show Below wr.heap.size wr W from hb).block b hl))
      have HBX:=Lib.hid ((Below.refl wr.heap.size wr).alloc (Nat.le_refl _) (.cells #[.int .i64 pt,.slice ra pr.length rc,.int .i64 pn] 42))
      go_wp2_with (go_at_call 58;refine (HS.out _ HBX.out).mono ?_;rintro e w2 ⟨rfl,hb2⟩;have A1:=box_in hb2 (by simp);have v0:=cells_at A1 0;have v1:=cells_at A1 1;have v2:=cells_at A1 2;have HB2:=Lib.hid (HBX.out.trans (hb2.mono (by simp)));have HO2:=Lib.hid (HO.out.keep fun q hq=>by injection hq with hq;exact HB2.out.block q (by omega));obtain ⟨x0,x1,x2,⟨s0,z0⟩,⟨s1,z1⟩,⟨s2,z2⟩,hs3⟩:=SlOwn.put3 HL.out HO2.out (i:=k) (by omega) (⟨pt,pr,pn⟩,.slice ra pr.length rc);simp only at s0 z0 s1 z1 s2 z2 hs3;have HS3:=Lib.hid hs3;clear hb2 A1 hs3)
      · have hk:keepB ⟨pt,pr,pn⟩=true:=by assumption
        have hkx:keepB xs[j].1=true:=by rw [← HP.out];exact hk
        have hput:=HK.out.put hlt hkx
        rw [← HP.out] at hput
        have hgw:w.grownBy w2 (some g):=HG.out.trans (World.grownBy.but ⟨HB2.out.os,HB2.out.tape,HB2.out.output,HB2.out.size,fun b hb _=>HB2.out.block b hb⟩ _)
        refine ⟨⟨_,k+1,j+1,by go_num,by go_num,hput,HS3,?_⟩,by simp [intOf];omega⟩
        exact grownBy_set (grownBy_set (grownBy_set hgw _ _) _ _) _ _
      · have hk:keepB ⟨pt,pr,pn⟩=false:=by assumption
        have hkx:keepB xs[j].1=false:=by rw [← HP.out];exact hk
        refine ⟨⟨ys,k,j+1,rfl,by go_num,HK.out.skip hlt hkx,HO2,?_⟩,by simp [intOf];omega⟩
        exact HG.out.trans (World.grownBy.but ⟨HB2.out.os,HB2.out.tape,HB2.out.output,HB2.out.size,fun b hb _=>HB2.out.block b hb⟩ _)
    · have hje:j=xs.length:=by have:=HK.out.le;omega
      have hkn:k<xs.length:=by have:=HK.out.lt;omega
      have hz42:∀ W,(zeroValue 42).run Tryz.prog W=.ok (.agg #[.int .i64 0,.slice none 0 0,.int .i64 0]) W:=Tryz.zeroValue42
      obtain ⟨w3,hrun,hO3,hG3⟩:=HO.out.clear (t:=22) hkn Tryz.underlying22 hz42 (by kernel_rfl) (zero_one _)
      have HR3:=Lib.hid (fun ty=>hrun ty (cap - k))
      have HO3:=Lib.hid hO3
      have HG3:=Lib.hid hG3
      have hkz:¬ xs.length<k:=by omega
      have hkc:k<cap:=by omega
      have hkc2:¬ cap=k:=by omega
      have hkc3:k≤cap:=by omega
      have hkc4:(k:Int)≤(cap:Int):=by omega
      have hcl:=fun ty=>hrun ty (cap - k)
      clear hrun hO3 hG3
      go_wp2
      go_ret
      have hG:=HG.out.trans HG3.out
      refine ⟨⟨_,rfl,?_⟩,hG⟩
      have hkl:(ys.take k).length=k:=by rw [List.length_take,HK.out.len];omega
      have hO:=HO3.out
      rw [cels_take] at hO
      have hO':SlOwn w3 42 3 (.slice (some ⟨g,o,none⟩) (ys.take k).length cap) (ys.take k).length (cels (ys.take k)) (some g):=by rw [hkl];exact hO
      have hc:=hO'.chgs (D:=fun b=>D b∨some g=some b) (by omega) (fun b e=>.inr e) fun p hp=>(HROW.out _ hG p (HK.out.mem p (List.mem_of_mem_take hp))).mono fun b h=>.inl h
      have hkept:=HK.out.kept
      have htl:(xs.map (·.1)).take xs.length=xs.map (·.1):=List.take_of_length_le (by simp)
      rw [hje,htl] at hkept
      rw [hkept,hkl] at hc
      exact hc
end leaves
end Go.Proofs.YtjhknhgkjfabaaaGreatDoor
namespace Go.Stab
open Go.Sort
variable {α : Type} [Inhabited α]
def IsSwp (d d':Array α) (a b n:Nat):Prop:=d'.size=d.size∧∀ i,d'[i]! = if a≤i∧i<a+n then d[b+(i - a)]! else if b≤i∧i<b+n then d[a+(i - b)]! else d[i]!
def IsRot (d d':Array α) (a m b:Nat):Prop:=d'.size=d.size∧∀ i,d'[i]! = if a≤i∧i<a+(b - m) then d[m+(i - a)]! else if a+(b - m)≤i∧i<b then d[i - (b - m)]! else d[i]!
theorem IsSwp.zero (d:Array α) (a b:Nat):IsSwp d d a b 0:=⟨rfl,fun i=>by rw [if_neg (by omega),if_neg (by omega)]⟩
theorem swp_get (d:Array α) (i j k:Nat) (hi:i<d.size) (hj:j<d.size):(swp d i j)[k]! = if k=j then d[i]! else if k=i then d[j]! else d[k]! := by
 unfold swp
 by_cases h1:k=j
 · subst h1
   rw [if_pos rfl]
   simp [getElem!_def,hj]
 · rw [if_neg h1]
   by_cases h2:k=i
   · subst h2
     rw [if_pos rfl]
     simp [getElem!_def,Array.getElem?_setIfInBounds,hi,Ne.symm h1]
   · rw [if_neg h2]
     simp [getElem!_def,Array.getElem?_setIfInBounds,Ne.symm h1,Ne.symm h2]
theorem swp_size (d:Array α) (i j:Nat):(swp d i j).size=d.size:=by simp [swp]
theorem IsSwp.step {d d':Array α} {a b n:Nat} (h:IsSwp d d' a b n) (hab:a+n<b) (hb:b+n<d.size):IsSwp d (swp d' (a+n) (b+n)) a b (n+1):=by
 obtain ⟨hs,hg⟩:=h
 refine ⟨by rw [swp_size,hs],fun i=>?_⟩
 rw [swp_get _ _ _ _ (by omega) (by omega)]
 by_cases h1:i=b+n
 · subst h1
   rw [if_pos rfl,hg,if_neg (by omega),if_neg (by omega),if_neg (by omega),if_pos (by omega)]
   congr 1
   omega
 · rw [if_neg h1]
   by_cases h2:i=a+n
   · subst h2
     rw [if_pos rfl,hg,if_neg (by omega),if_neg (by omega),if_pos (by omega)]
     congr 1
     omega
   · rw [if_neg h2,hg]
     by_cases h3:a≤i∧i<a+n
     · rw [if_pos h3,if_pos (by omega)]
     · by_cases h4:b≤i∧i<b+n
       · rw [if_neg h3,if_pos h4,if_neg (by omega),if_pos (by omega)]
       · rw [if_neg h3,if_neg h4,if_neg (by omega),if_neg (by omega)]
theorem IsRot.left {d d1 d':Array α} {m i j:Nat} (hi:i≤m) (hj:j<i) (h1:IsSwp d d1 (m - i) m j) (h2:IsRot d1 d' (m - (i - j)) m (m+j)):IsRot d d' (m - i) m (m+j):=by
 obtain ⟨s1,g1⟩:=h1
 obtain ⟨s2,g2⟩:=h2
 refine ⟨s2.trans s1,fun k=>?_⟩
 rw [g2]
 by_cases c1:m - i≤k∧k<m - i+j
 · rw [if_neg (by omega),if_neg (by omega),g1,if_pos (by omega),if_pos (by omega)]
 · by_cases c2:m - i+j≤k∧k<m - i+j+j
   · rw [if_pos (by omega),g1,if_neg (by omega),if_pos (by omega),if_neg (by omega),if_pos (by omega)]
     congr 1
     omega
   · by_cases c3:m - i+j+j≤k∧k<m+j
     · rw [if_neg (by omega),if_pos (by omega),g1,if_neg (by omega),if_neg (by omega),if_neg (by omega),if_pos (by omega)]
     · rw [if_neg (by omega),if_neg (by omega),g1,if_neg (by omega),if_neg (by omega),if_neg (by omega),if_neg (by omega)]
theorem IsRot.right {d d1 d':Array α} {m i j:Nat} (hi:i≤m) (hj:i<j) (h1:IsSwp d d1 (m - i) (m+j - i) i) (h2:IsRot d1 d' (m - i) m (m+(j - i))):IsRot d d' (m - i) m (m+j):=by
 obtain ⟨s1,g1⟩:=h1
 obtain ⟨s2,g2⟩:=h2
 refine ⟨s2.trans s1,fun k=>?_⟩
 rw [g2]
 by_cases c1:m - i≤k∧k<m - i+(j - i)
 · rw [if_pos (by omega),g1,if_neg (by omega),if_neg (by omega),if_pos (by omega)]
 · by_cases c2:m - i+(j - i)≤k∧k<m+(j - i)
   · rw [if_neg (by omega),if_pos (by omega),g1,if_pos (by omega),if_pos (by omega)]
     congr 1
     omega
   · by_cases c3:m+(j - i)≤k∧k<m+j
     · rw [if_neg (by omega),if_neg (by omega),g1,if_neg (by omega),if_pos (by omega),if_neg (by omega),if_pos (by omega)]
       congr 1
       omega
     · rw [if_neg (by omega),if_neg (by omega),g1,if_neg (by omega),if_neg (by omega),if_neg (by omega),if_neg (by omega)]
theorem IsRot.even {d d':Array α} {m i:Nat} (hi:i≤m) (h1:IsSwp d d' (m - i) m i):IsRot d d' (m - i) m (m+i):=by
 obtain ⟨s1,g1⟩:=h1
 refine ⟨s1,fun k=>?_⟩
 rw [g1]
 by_cases c1:m - i≤k∧k<m - i+i
 · rw [if_pos c1,if_pos (by omega)]
 · by_cases c2:m≤k∧k<m+i
   · rw [if_neg c1,if_pos c2,if_neg (by omega),if_pos (by omega)]
     congr 1
     omega
   · rw [if_neg c1,if_neg c2,if_neg (by omega),if_neg (by omega)]
theorem IsRot.none_left (d:Array α) (m b:Nat) (h:m≤b):IsRot d d m m b:=⟨rfl,fun i=>by
 by_cases c:m≤i∧i<m+(b - m)
 · rw [if_pos c];congr 1;omega
 · rw [if_neg c,if_neg (by omega)]⟩
theorem IsRot.none_right (d:Array α) (a m:Nat):IsRot d d a m m:=⟨rfl,fun i=>by
 rw [if_neg (by omega)]
 by_cases c:a+(m - m)≤i∧i<m
 · rw [if_pos c];congr 1;omega
 · rw [if_neg c]⟩
theorem IsRot.up {d d':Array α} {a i:Nat} (h:IsRot d d' a (a+1) i) (ha:a<i) (hi:i<d.size):IsRot d (swp d' (i - 1) i) a (a+1) (i+1):=by
 obtain ⟨s,g⟩:=h
 refine ⟨by rw [swp_size,s],fun k=>?_⟩
 rw [swp_get _ _ _ _ (by omega) (by omega)]
 by_cases c1:k=i
 · subst c1
   rw [if_pos rfl,g,if_neg (by omega),if_pos (by omega),if_neg (by omega),if_pos (by omega)]
   congr 1
   omega
 · rw [if_neg c1]
   by_cases c2:k=i - 1
   · subst c2
     rw [if_pos rfl,g,if_neg (by omega),if_neg (by omega),if_pos (by omega)]
     congr 1
     omega
   · rw [if_neg c2,g]
     by_cases c3:a≤k∧k<a+(i - (a+1))
     · rw [if_pos c3,if_pos (by omega)]
     · rw [if_neg c3,if_neg (by omega),if_neg (by omega),if_neg (by omega)]
theorem IsRot.down {d d':Array α} {i m:Nat} (h:IsRot d d' i m (m+1)) (hi:0<i) (him:i≤m) (hm:m<d.size):IsRot d (swp d' i (i - 1)) (i - 1) m (m+1):=by
 obtain ⟨s,g⟩:=h
 refine ⟨by rw [swp_size,s],fun k=>?_⟩
 rw [swp_get _ _ _ _ (by omega) (by omega)]
 by_cases c1:k=i - 1
 · subst c1
   rw [if_pos rfl,g,if_pos (by omega),if_pos (by omega)]
   congr 1
   omega
 · rw [if_neg c1]
   by_cases c2:k=i
   · subst c2
     rw [if_pos rfl,g,if_neg (by omega),if_neg (by omega),if_neg (by omega),if_pos (by omega)]
     congr 1
     omega
   · rw [if_neg c2,g]
     by_cases c3:i+(m+1 - m)≤k∧k<m+1
     · rw [if_neg (by omega),if_pos c3,if_neg (by omega),if_pos (by omega)]
     · rw [if_neg (by omega),if_neg c3,if_neg (by omega),if_neg (by omega)]
theorem get_pos {d:Array α} {i:Nat} (h:i<d.size):d[i]! = d[i]:=getElem!_pos d i h
theorem IsRot.in1 {d d':Array α} {a m b:Nat} (h:IsRot d d' a m b) {i:Nat} (h1:a≤i) (h2:i<a+(b - m)):d'[i]! = d[m+(i - a)]! := by rw [h.2,if_pos ⟨h1,h2⟩]
theorem IsRot.in2 {d d':Array α} {a m b:Nat} (h:IsRot d d' a m b) {i:Nat} (h1:a+(b - m)≤i) (h2:i<b):d'[i]! = d[i - (b - m)]! := by rw [h.2,if_neg (by omega),if_pos ⟨h1,h2⟩]
theorem IsRot.out {d d':Array α} {a m b:Nat} (h:IsRot d d' a m b) {i:Nat} (h1:i<a∨(b≤i∧a+(b - m)≤i)):d'[i]! = d[i]! := by rw [h.2,if_neg (by omega),if_neg (by omega)]
theorem extract_toList {β:Type} (d:Array β) (a b:Nat):(d.extract a b).toList=(d.toList.drop a).take (b - a):=by simp [Array.toList_extract,List.extract_eq_take_drop]
theorem IsRot.perm {d d':Array α} {a m b:Nat} (h:IsRot d d' a m b) (ham:a≤m) (hmb:m≤b) (hb:b≤d.size):PermIn a b d d':=by
 obtain ⟨s,g⟩:=h
 refine ⟨s,fun i hi=>by rw [g,if_neg (by omega),if_neg (by omega)],?_⟩
 have e:(d'.extract a b).toList=(d.extract m b).toList ++ (d.extract a m).toList:=by
  apply List.ext_getElem
  · simp;omega
  · intro i h1 h2
    have h1':i<b - a:=by simp at h1;omega
    have e1:(d'.extract a b).toList[i]=d'[a+i]! := by
     rw [get_pos (by omega)];simp
    rw [e1,g]
    by_cases c:i<b - m
    · rw [if_pos (by omega),List.getElem_append_left (by simp;omega)]
      have:m+(a+i - a)=m+i:=by omega
      rw [this]
      rw [get_pos (by omega)];simp
    · rw [if_neg (by omega),if_pos (by omega),List.getElem_append_right (by simp;omega)]
      have:a+i - (b - m)<d.size:=by omega
      rw [get_pos this]
      simp only [Array.getElem_toList,Array.getElem_extract,Array.length_toList,Array.size_extract]
      congr 1
      omega
 have e2:(d.extract a b).toList=(d.extract a m).toList ++ (d.extract m b).toList:=by
  rw [extract_toList,extract_toList,extract_toList]
  have:b - a=(m - a)+(b - m):=by omega
  rw [this,List.take_add,List.drop_drop]
  congr 3
  omega
 rw [e,e2]
 exact List.perm_append_comm
structure MPre (lt slt:α→α→Bool) (a m b:Nat) (d:Array α):Prop where
 left:SortedIn slt a m d
 right:SortedIn slt m b d
 agree:∀ i j,a≤i→i<m→m≤j→j<b→lt d[j]! d[i]! = slt d[j]! d[i]!
theorem swo_asymm {β:Type} {slt:β→β→Bool} (h:SWO slt) {x y:β} (k:slt x y=true):slt y x=false:=by
 cases e:slt y x with
 | false=>rfl
 | true=>have:=h.trans _ _ _ k e;rw [h.irrefl] at this;cases this
theorem SortedIn.le {slt:α→α→Bool} (hs:SWO slt) {a b:Nat} {d:Array α} (h:SortedIn slt a b d) {i j:Nat} (hi:a≤i) (hij:i≤j) (hj:j<b):slt d[j]! d[i]! = false:=by
 rcases Nat.lt_or_eq_of_le hij with h1 | rfl
 · exact h i j hi h1 hj
 · exact hs.irrefl _
theorem merge_one_left {lt slt:α→α→Bool} (hs:SWO slt) {a b i:Nat} {d d':Array α} (h:MPre lt slt a (a+1) b d) (hi:a+1≤i) (hib:i≤b) (hb:b≤d.size)
 (h1:i=a+1∨lt d[i - 1]! d[a]! = true) (h2:i=b∨lt d[i]! d[a]! = false) (hr:IsRot d d' a (a+1) i):SortedIn slt a b d':=by
 obtain ⟨s,g⟩:=hr
 have k1:∀ q,a+1≤q→q<i→slt d[a]! d[q]! = false:=by
  intro q hq hq2
  rcases h1 with h1 | h1
  · omega
  · rw [h.agree a (i - 1) (Nat.le_refl _) (by omega) (by omega) (by omega)] at h1
    exact hs.ntrans _ _ _ (swo_asymm hs h1) (SortedIn.le hs h.right hq (by omega) (by omega))
 have k2:∀ q,i≤q→q<b→slt d[q]! d[a]! = false:=by
  intro q hq hq2
  rcases h2 with h2 | h2
  · omega
  · rw [h.agree a i (Nat.le_refl _) (by omega) (by omega) (by omega)] at h2
    exact hs.ntrans _ _ _ (SortedIn.le hs h.right (by omega) hq hq2) h2
 have hr:IsRot d d' a (a+1) i:=⟨s,g⟩
 have ga:d'[i - 1]! = d[a]! := by rw [hr.in2 (by omega) (by omega)];congr 1;omega
 intro p q hp hpq hq
 by_cases c1:p<i - 1
 · rw [hr.in1 hp (by omega)]
   by_cases c2:q<i - 1
   · rw [hr.in1 (by omega) (by omega)]
     exact h.right _ _ (by omega) (by omega) (by omega)
   · by_cases c3:q=i - 1
     · subst c3
       rw [ga]
       exact k1 _ (by omega) (by omega)
     · rw [hr.out (.inr ⟨by omega,by omega⟩)]
       exact h.right _ _ (by omega) (by omega) (by omega)
 · by_cases c3:p=i - 1
   · subst c3
     rw [ga,hr.out (.inr ⟨by omega,by omega⟩)]
     exact k2 _ (by omega) hq
   · rw [hr.out (.inr ⟨by omega,by omega⟩),hr.out (i:=p) (.inr ⟨by omega,by omega⟩)]
     exact h.right _ _ (by omega) (by omega) (by omega)
theorem merge_one_right {lt slt:α→α→Bool} (hs:SWO slt) {a m i:Nat} {d d':Array α} (h:MPre lt slt a m (m+1) d) (hi:a≤i) (him:i≤m) (hb:m+1≤d.size)
 (h1:i=a∨lt d[m]! d[i - 1]! = false) (h2:i=m∨lt d[m]! d[i]! = true) (hr:IsRot d d' i m (m+1)):SortedIn slt a (m+1) d':=by
 obtain ⟨s,g⟩:=hr
 have k1:∀ q,a≤q→q<i→slt d[m]! d[q]! = false:=by
  intro q hq hq2
  rcases h1 with h1 | h1
  · omega
  · rw [h.agree (i - 1) m (by omega) (by omega) (by omega) (by omega)] at h1
    exact hs.ntrans _ _ _ h1 (SortedIn.le hs h.left hq (by omega) (by omega))
 have k2:∀ q,i≤q→q<m→slt d[q]! d[m]! = false:=by
  intro q hq hq2
  rcases h2 with h2 | h2
  · omega
  · rw [h.agree i m (by omega) (by omega) (by omega) (by omega)] at h2
    exact hs.ntrans _ _ _ (SortedIn.le hs h.left (by omega) hq hq2) (swo_asymm hs h2)
 have hr:IsRot d d' i m (m+1):=⟨s,g⟩
 have gm:d'[i]! = d[m]! := by rw [hr.in1 (Nat.le_refl _) (by omega)];congr 1;omega
 intro p q hp hpq hq
 by_cases c1:p<i
 · rw [hr.out (i:=p) (.inl c1)]
   by_cases c2:q<i
   · rw [hr.out (.inl c2)]
     exact h.left _ _ (by omega) (by omega) (by omega)
   · by_cases c3:q=i
     · subst c3
       rw [gm]
       exact k1 _ (by omega) (by omega)
     · rw [hr.in2 (by omega) (by omega)]
       exact h.left _ _ (by omega) (by omega) (by omega)
 · by_cases c3:p=i
   · subst c3
     rw [gm,hr.in2 (by omega) (by omega)]
     exact k2 _ (by omega) (by omega)
   · rw [hr.in2 (i:=q) (by omega) (by omega),hr.in2 (i:=p) (by omega) (by omega)]
     exact h.left _ _ (by omega) (by omega) (by omega)
structure Halves (lt slt:α→α→Bool) (a s mid e b:Nat) (d:Array α):Prop where
 one:MPre lt slt a s mid d
 two:MPre lt slt mid e b d
 cross:∀ p q,a≤p→p<mid→mid≤q→q<b→slt d[q]! d[p]! = false
theorem halves {lt slt:α→α→Bool} (hs:SWO slt) {a m b s e mid:Nat} {d d':Array α} (h:MPre lt slt a m b d) (has:a≤s) (hsm:s≤m) (hme:m≤e) (heb:e≤b) (hb:b≤d.size) (hmid:mid=s+(e - m))
 (h1:s=a∨e=b∨lt d[e]! d[s - 1]! = false) (h2:s=m∨e=m∨lt d[e - 1]! d[s]! = true) (hr:IsRot d d' s m e):Halves lt slt a s mid e b d':=by
 obtain ⟨sz,g⟩:=hr
 -- L1: [a,s) stays;R1: [m,e) at [s,mid);L2: [s,m) at [mid,e);R2: [e,b) stays
 have gl1:∀ i,a≤i→i<s→d'[i]! = d[i]! := fun i _ _=>by rw [g,if_neg (by omega),if_neg (by omega)]
 have gr1:∀ i,s≤i→i<mid→d'[i]! = d[m+(i - s)]! := fun i _ _=>by rw [g,if_pos (by omega)]
 have gl2:∀ i,mid≤i→i<e→d'[i]! = d[i - (e - m)]! := fun i _ _=>by rw [g,if_neg (by omega),if_pos (by omega)]
 have gr2:∀ i,e≤i→i<b→d'[i]! = d[i]! := fun i _ _=>by rw [g,if_neg (by omega),if_neg (by omega)]
 have x1:∀ p q,a≤p→p<s→e≤q→q<b→slt d[q]! d[p]! = false:=by
  intro p q hp hp2 hq hq2
  rcases h1 with h1 | h1 | h1
  · omega
  · omega
  · rw [h.agree (s - 1) e (by omega) (by omega) hme (by omega)] at h1
    exact hs.ntrans _ _ _ (hs.ntrans _ _ _ (SortedIn.le hs h.right hme hq hq2) h1) (SortedIn.le hs h.left hp (by omega) (by omega))
 have x2:∀ p q,s≤p→p<m→m≤q→q<e→slt d[p]! d[q]! = false:=by
  intro p q hp hp2 hq hq2
  rcases h2 with h2 | h2 | h2
  · omega
  · omega
  · rw [h.agree s (e - 1) (by omega) (by omega) (by omega) (by omega)] at h2
    exact hs.ntrans _ _ _ (hs.ntrans _ _ _ (SortedIn.le hs h.left has hp hp2) (swo_asymm hs h2)) (SortedIn.le hs h.right hq (by omega) (by omega))
 refine ⟨⟨?_,?_,?_⟩,⟨?_,?_,?_⟩,?_⟩
 · intro p q hp hpq hq
   rw [gl1 p hp (by omega),gl1 q (by omega) hq]
   exact h.left _ _ hp hpq (by omega)
 · intro p q hp hpq hq
   rw [gr1 p hp (by omega),gr1 q (by omega) hq]
   exact h.right _ _ (by omega) (by omega) (by omega)
 · intro i j hi hi2 hj hj2
   rw [gl1 i hi hi2,gr1 j hj hj2]
   exact h.agree _ _ hi (by omega) (by omega) (by omega)
 · intro p q hp hpq hq
   rw [gl2 p hp (by omega),gl2 q (by omega) hq]
   exact h.left _ _ (by omega) (by omega) (by omega)
 · intro p q hp hpq hq
   rw [gr2 p hp (by omega),gr2 q (by omega) hq]
   exact h.right _ _ (by omega) (by omega) (by omega)
 · intro i j hi hi2 hj hj2
   rw [gl2 i hi hi2,gr2 j hj hj2]
   exact h.agree _ _ (by omega) (by omega) (by omega) (by omega)
 · intro p q hp hp2 hq hq2
   by_cases c1:p<s
   · rw [gl1 p hp c1]
     by_cases c2:q<e
     · rw [gl2 q hq c2]
       exact h.left _ _ hp (by omega) (by omega)
     · rw [gr2 q (by omega) hq2]
       exact x1 _ _ hp c1 (by omega) hq2
   · rw [gr1 p (by omega) hp2]
     by_cases c2:q<e
     · rw [gl2 q hq c2]
       exact x2 _ _ (by omega) (by omega) (by omega) (by omega)
     · rw [gr2 q (by omega) hq2]
       exact h.right _ _ (by omega) (by omega) (by omega)
theorem Halves.first {lt slt:α→α→Bool} {a s mid e b:Nat} {d d':Array α} (h:Halves lt slt a s mid e b d) (ham:a≤mid) (hme:mid≤e) (hmb:mid≤b) (hb:b≤d.size) (hp:PermIn a mid d d'):MPre lt slt mid e b d'∧∀ p q,a≤p→p<mid→mid≤q→q<b→slt d'[q]! d'[p]! = false:=by
 obtain ⟨sz,out,pm⟩:=hp
 have o:∀ i,mid≤i→d'[i]! = d[i]! := fun i hi=>out i (.inr hi)
 refine ⟨⟨fun p q h1 h2 h3=>?_,fun p q h1 h2 h3=>?_,fun i j h1 h2 h3 h4=>?_⟩,fun p q h1 h2 h3 h4=>?_⟩
 · rw [o p h1,o q (by omega)];exact h.two.left p q h1 h2 h3
 · rw [o p (by omega),o q (by omega)];exact h.two.right p q h1 h2 h3
 · rw [o i h1,o j (by omega)];exact h.two.agree i j h1 h2 h3 h4
 · rw [o q h3]
   have:=permIn_all d d' a mid (fun x=>slt d[q]! x=false) (by omega) ⟨sz,out,pm⟩ (fun i hi hi2=>h.cross i q hi hi2 h3 h4)
   exact this p h1 h2
theorem join_halves {slt:α→α→Bool} {a mid b:Nat} {d d':Array α} (ham:a≤mid) (hmb:mid≤b) (hb:b≤d.size) (h1:SortedIn slt a mid d) (hx:∀ p q,a≤p→p<mid→mid≤q→q<b→slt d[q]! d[p]! = false)
 (hp:PermIn mid b d d') (h2:SortedIn slt mid b d'):SortedIn slt a b d':=by
 obtain ⟨sz,out,pm⟩:=hp
 have o:∀ i,i<mid→d'[i]! = d[i]! := fun i hi=>out i (.inl hi)
 intro p q hp' hpq hq
 by_cases c1:q<mid
 · rw [o p (by omega),o q c1]
   exact h1 p q hp' hpq c1
 · by_cases c2:p<mid
   · rw [o p c2]
     have:=permIn_all d d' mid b (fun x=>slt x d[p]! = false) hb ⟨sz,out,pm⟩ (fun i hi hi2=>hx p i hp' c2 hi hi2)
     exact this q (by omega) hq
   · exact h2 p q (by omega) hpq hq
end Go.Stab
namespace Go.Proofs.YtjhknhgkjfabaaaGreatDoor
open Go.Shelf Go.RowKit Go.Lib Go.Sort Go.Stab
variable {α : Type} [Inhabited α]
theorem swp_facts {n:Nat} {z:Int} {k:Nat} (h:z=(k:Int)) (hk:k<n) (hn:n<4611686018427387904) :
 z.toNat=k∧0≤z∧z<(n:Int)∧IntKind.i64.wrap z=z:=by
 refine ⟨by omega,by omega,by omega,?_⟩
 rw [IntKind.wrap_i64];omega
structure StL (P:Program) (kc:Nat):Prop where
 mixed:P.follows .mixedOrders=true
 f257:P.funcs[257]? = some Tryz.f257
 f190:P.funcs[190]? = some Tryz.f190
 f142:P.funcs[142]? = some Tryz.f142
 f102:P.funcs[102]? = some Tryz.f102
 f56:P.funcs[56]? = some Tryz.f56
 e257:∀ (args:Array Value) (w:World),(callFunc 257 args).run P w=.ok (.enter 257 args) w
 e190:∀ (args:Array Value) (w:World),(callFunc 190 args).run P w=.ok (.enter 190 args) w
 e142:∀ (args:Array Value) (w:World),(callFunc 142 args).run P w=.ok (.enter 142 args) w
 e102:∀ (args:Array Value) (w:World),(callFunc 102 args).run P w=.ok (.enter 102 args) w
 t0:P.underlying 0=some (TypeDesc.tuple #[])
 a0:∀ w,(isAgg 0).run P w=.ok false w
 z0:∀ w,(Go.sizeOf 0).run P w=.ok 1 w
 v0:∀ w,(zeroValue 0).run P w=.ok (Value.tuple #[]) w
 t3:P.underlying 3=some (TypeDesc.int IntKind.i64)
 a3:∀ w,(isAgg 3).run P w=.ok false w
 z3:∀ w,(Go.sizeOf 3).run P w=.ok 1 w
 v3:∀ w,(zeroValue 3).run P w=.ok (Value.int IntKind.i64 0) w
 t4:P.underlying 4=some TypeDesc.bool
 a4:∀ w,(isAgg 4).run P w=.ok false w
 z4:∀ w,(Go.sizeOf 4).run P w=.ok 1 w
 v4:∀ w,(zeroValue 4).run P w=.ok (Value.bool false) w
 t22:P.underlying 22=some (TypeDesc.slice 42)
 a22:∀ w,(isAgg 22).run P w=.ok false w
 z22:∀ w,(Go.sizeOf 22).run P w=.ok 1 w
 v22:∀ w,(zeroValue 22).run P w=.ok (Value.slice none 0 0) w
 t59:P.underlying 59=some (TypeDesc.func #[42,42] #[3] false)
 a59:∀ w,(isAgg 59).run P w=.ok false w
 z59:∀ w,(Go.sizeOf 59).run P w=.ok 1 w
 v59:∀ w,(zeroValue 59).run P w=.ok Value.nilFunc w
 t100:P.underlying 100=some (TypeDesc.int IntKind.u64)
 a100:∀ w,(isAgg 100).run P w=.ok false w
 z100:∀ w,(Go.sizeOf 100).run P w=.ok 1 w
 v100:∀ w,(zeroValue 100).run P w=.ok (Value.int IntKind.u64 0) w
 aE:∀ w,(isAgg 42).run P w=.ok true w
 zE:∀ w,(Go.sizeOf 42).run P w=.ok kc w
section walks
set_option maxHeartbeats 4000000
set_option maxRecDepth 1000000
theorem swapRange_s {P:Program} {kc:Nat} (L:StL P kc) (enc:α→List Value) (g:Nat) (cb:Array Value) (blk off cap a b n:Nat) (d0 d:Array α) (w0 w:World)
 (R:RowK enc kc w0 blk off d0) (hs:d0.size=d.size) (S:SWK enc kc w0 blk off d w) (hab:a+n≤b) (hb:b+n≤d.size) (hsz:d.size<4611686018427387904) :
 Calls P 257 #[.slice (some ⟨blk,off,none⟩) d.size cap,.int .i64 a,.int .i64 b,.int .i64 n,.func (.func g) #[] cb] w fun e w'=>e=.returned (.tuple #[])∧∃ d',IsSwp d d' a b n∧SWK enc kc w0 blk off d' w':=by
 have S0:Aside (SWK enc kc w0 blk off d w):=S
 clear S
 obtain ⟨mixed,FG1,FG2,FG3,FG4,FG5,E1,E2,E3,E4,t0,a0,z0,v0,t3,a3,z3,v3,t4,a4,z4,v4,t22,a22,z22,v22,t59,a59,z59,v59,t100,a100,z100,v100,aE,zE⟩:=id L
 go_enter FG1,Tryz.ntmps257
 go_wp2
 go_loopg [10] n (fun kx s10 wr=>∃ (i:Nat) (dk:Array α),s10=.int .i64 i∧i≤n∧n - i≤kx∧dk.size=d.size∧Aside (SWK enc kc w0 blk off dk wr)∧Hid (IsSwp d dk a b i))
 case atStart=>exact ⟨0,d,rfl,by omega,by omega,rfl,S0,IsSwp.zero d a b⟩
 case round =>
  clear S0
  obtain ⟨i,dk,rfl,hin,hkx,hds,S1,HI⟩:=hrel
  by_cases hlt:i<n
  · go_wp2_with fail
    obtain ⟨iN,hiN⟩:∃ q,q=a+i:=⟨_,rfl⟩
    obtain ⟨jN,hjN⟩:∃ q,q=b+i:=⟨_,rfl⟩
    obtain ⟨ea,pa,ba,ra⟩:=swp_facts (n:=d.size) (z:=(a:Int)+(i:Int)) (k:=iN) (by omega) (by omega) hsz
    obtain ⟨ec,pc,bc,rc⟩:=swp_facts (n:=d.size) (z:=(b:Int)+(i:Int)) (k:=jN) (by omega) (by omega) hsz
    have S2:Aside (SWK enc kc w0 blk off (swp dk (a+i) (b+i)) ((wr.drew.setCells blk (off+iN * kc) (enc dk[b+i]!)).setCells blk (off+jN * kc) (enc dk[a+i]!))):=by rw [hiN,hjN];exact S1.out.swapped R (a+i) (b+i) (by omega) (by omega)
    have ca:=S1.out.ld1 R (by omega) P (a+i) (by omega)
    have c2:=S1.out.ld1 R (by omega) P (b+i) (by omega)
    have fa:=S1.out.st1 R (by omega) P (a+i) (by omega) dk[b+i]!
    have f2:=S1.out.st2 R (by omega) P (a+i) (b+i) (by omega) (by omega) dk[b+i]! dk[a+i]!
    have na:(enc dk[a+i]!).length=kc:=R.hk _
    have nb:(enc dk[b+i]!).length=kc:=R.hk _
    generalize enc dk[a+i]! = cI at S2 ca f2 na
    generalize enc dk[b+i]! = cJ at S2 c2 fa f2 nb
    rw [← hjN] at c2 f2
    rw [← hiN] at ca fa f2
    clear S1 hiN hjN
    go_wp2_with fail
    go_big_region_o
    clear ca c2 fa f2
    generalize (wr.drew.setCells blk (off+iN * kc) cJ).setCells blk (off+jN * kc) cI=w2 at S2 ⊢
    clear ea ec
    go_wp2
    go_roundg (n - (i+1))
    case measure=>omega
    case rel=>exact ⟨i+1,swp dk (a+i) (b+i),by go_num,by omega,by omega,by rw [Stab.swp_size];exact hds,S2,HI.out.step (by omega) (by omega)⟩
  · have:i=n:=by omega
    subst this
    go_wp2
    go_end0
    exact ⟨rfl,dk,HI.out,S1.out⟩
theorem swapRange_z {P:Program} {kc:Nat} (L:StL P kc) (enc:α→List Value) (g:Nat) (cb:Array Value) (blk off cap a b n:Nat) (za zb zn:Int) (d0 d:Array α) (w0 w:World)
 (ha:za=(a:Int)) (hb':zb=(b:Int)) (hn:zn=(n:Int))
 (R:RowK enc kc w0 blk off d0) (hs:d0.size=d.size) (S:SWK enc kc w0 blk off d w) (hab:a+n≤b) (hb:b+n≤d.size) (hsz:d.size<4611686018427387904) :
 Calls P 257 #[.slice (some ⟨blk,off,none⟩) d.size cap,.int .i64 za,.int .i64 zb,.int .i64 zn,.func (.func g) #[] cb] w fun e w'=>e=.returned (.tuple #[])∧∃ d',IsSwp d d' a b n∧SWK enc kc w0 blk off d' w':=by
 subst ha hb' hn
 exact swapRange_s L enc g cb blk off cap a b n d0 d w0 w R hs S hab hb hsz
theorem rotate_s {P:Program} {kc:Nat} (L:StL P kc) (enc:α→List Value) (g:Nat) (cb:Array Value) (blk off cap a m b:Nat) (d0 d:Array α) (w0 w:World)
 (R:RowK enc kc w0 blk off d0) (hs:d0.size=d.size) (S:SWK enc kc w0 blk off d w) (ham:a<m) (hmb:m<b) (hb:b≤d.size) (hsz:d.size<4611686018427387904) :
 Calls P 190 #[.slice (some ⟨blk,off,none⟩) d.size cap,.int .i64 a,.int .i64 m,.int .i64 b,.func (.func g) #[] cb] w fun e w'=>e=.returned (.tuple #[])∧∃ d',IsRot d d' a m b∧SWK enc kc w0 blk off d' w':=by
 have S0:Aside (SWK enc kc w0 blk off d w):=S
 clear S
 have R0:Aside (RowK enc kc w0 blk off d0):=R
 clear R
 obtain ⟨mixed,FG1,FG2,FG3,FG4,FG5,E1,E2,E3,E4,t0,a0,z0,v0,t3,a3,z3,v3,t4,a4,z4,v4,t22,a22,z22,v22,t59,a59,z59,v59,t100,a100,z100,v100,aE,zE⟩:=id L
 go_enter FG2,Tryz.ntmps190
 go_wp2
 go_loopg [10,11] (b - a) (fun kx s10 s11 wr=>∃ (i j:Nat) (dk:Array α),s10=.int .i64 i∧s11=.int .i64 j∧0<i∧0<j∧i≤m∧m+j≤b∧i+j≤kx∧dk.size=d.size∧Aside (SWK enc kc w0 blk off dk wr)∧Hid (∀ d',IsRot dk d' (m - i) m (m+j)→IsRot d d' a m b))
 case atStart =>
  refine ⟨m - a,b - m,d,?_,?_,by omega,by omega,by omega,by omega,by omega,rfl,S0,fun d' h=>?_⟩
  · first | rfl | go_num | (congr 1;omega)
  · first | rfl | go_num | (congr 1;omega)
  · rw [show m - (m - a)=a from by omega,show m+(b - m)=b from by omega] at h
    exact h
 case round =>
  clear S0
  obtain ⟨i,j,dk,rfl,rfl,hi0,hj0,him,hjb,hkx,hds,S1,HI⟩:=hrel
  have wmi:IntKind.i64.wrap ((m:Int) - (i:Int))=(m:Int) - (i:Int):=by rw [IntKind.wrap_i64];omega
  by_cases heq:i=j
  · subst heq
    have hc:=swapRange_z L enc g cb blk off cap (m - i) m i ((m:Int) - (i:Int)) (m:Int) (i:Int) d0 dk w0 wr (by omega) rfl rfl R0.out (by omega) S1.out (by omega) (by omega) (by omega)
    rw [hds] at hc
    have HC:=Lib.hid hc
    clear hc S1
    go_wp2_with (go_at_call 257;refine HC.out.mono ?_;rintro e w1 ⟨rfl,d1,h1,S2⟩)
    go_end0
    exact ⟨rfl,d1,HI.out d1 (IsRot.even him h1),S2⟩
  · have hnez:¬ (i:Int)=(j:Int):=by omega
    by_cases hgt:j<i
    · have hgtz:(j:Int)<(i:Int):=by omega
      have hc:=swapRange_z L enc g cb blk off cap (m - i) m j ((m:Int) - (i:Int)) (m:Int) (j:Int) d0 dk w0 wr (by omega) rfl rfl R0.out (by omega) S1.out (by omega) (by omega) (by omega)
      rw [hds] at hc
      have HC:=Lib.hid hc
      clear hc S1
      go_wp2_with (go_at_call 257;refine HC.out.mono ?_;rintro e w1 ⟨rfl,d1,h1,S2⟩;have S3:=Lib.hid S2;have H1:=Lib.hid h1;clear S2 h1)
      go_roundg (i - j+j)
      case measure=>omega
      case rel=>exact ⟨i - j,j,d1,by first | rfl | go_num | (congr 1;omega),rfl,by omega,hj0,by omega,hjb,by omega,by rw [H1.out.1];exact hds,S3.out,fun d' h=>HI.out d' (IsRot.left him hgt H1.out h)⟩
    · have hlt:i<j:=by omega
      have hgtz:¬ (j:Int)<(i:Int):=by omega
      have wmj:IntKind.i64.wrap ((m:Int)+(j:Int))=(m:Int)+(j:Int):=by rw [IntKind.wrap_i64];omega
      have wmj2:IntKind.i64.wrap ((m:Int)+(j:Int) - (i:Int))=(m:Int)+(j:Int) - (i:Int):=by rw [IntKind.wrap_i64];omega
      have hc:=swapRange_z L enc g cb blk off cap (m - i) (m+j - i) i ((m:Int) - (i:Int)) ((m:Int)+(j:Int) - (i:Int)) (i:Int) d0 dk w0 wr (by omega) (by omega) rfl R0.out (by omega) S1.out (by omega) (by omega) (by omega)
      rw [hds] at hc
      have HC:=Lib.hid hc
      clear hc S1
      go_wp2_with (go_at_call 257;refine HC.out.mono ?_;rintro e w1 ⟨rfl,d1,h1,S2⟩;have S3:=Lib.hid S2;have H1:=Lib.hid h1;clear S2 h1)
      go_roundg (i+(j - i))
      case measure=>omega
      case rel=>exact ⟨i,j - i,d1,rfl,by first | rfl | go_num | (congr 1;omega),hi0,by omega,him,by omega,by omega,by rw [H1.out.1];exact hds,S3.out,fun d' h=>HI.out d' (IsRot.right him hlt H1.out h)⟩
end walks
end Go.Proofs.YtjhknhgkjfabaaaGreatDoor
namespace Go.Proofs.YtjhknhgkjfabaaaGreatDoor
open Go.Shelf Go.RowKit Go.Lib Go.Sort Go.Stab
variable {α : Type} [Inhabited α]
section walks
set_option maxHeartbeats 4000000
set_option maxRecDepth 1000000
theorem symMerge_left {P:Program} {kc:Nat} (L:StL P kc) (enc:α→List Value) (cf:α→α→Int) {slt:α→α→Bool} (hS:SWO slt) (g:Nat) (cb:Array Value) (blk off cap a m b:Nat) (d0 d:Array α) (w0 w:World)
 (eg:∀ args w,(callFunc g args).run P w=.ok (.enter g args) w) (hcmp:CmpLays P g cb enc kc cf blk off d0.size w0)
 (R:RowK enc kc w0 blk off d0) (hs:d0.size=d.size) (S:SWK enc kc w0 blk off d w) (hma:m=a+1) (hab:a+1<b) (hb:b≤d.size) (hsz:d.size<4611686018427387904) (hp:MPre (ltOf cf) slt a m b d) :
 Calls P 142 #[.slice (some ⟨blk,off,none⟩) d.size cap,.int .i64 a,.int .i64 m,.int .i64 b,.func (.func g) #[] cb] w fun e w'=>e=.returned (.tuple #[])∧∃ d',PermIn a b d d'∧SortedIn slt a b d'∧SWK enc kc w0 blk off d' w':=by
 have HC:Aside _:=hcmp
 have S0:Aside (SWK enc kc w0 blk off d w):=S
 have HP:Aside (MPre (ltOf cf) slt a (a+1) b d):=by rw [← hma];exact hp
 have HS:Aside (SWO slt):=hS
 have hma1:a<m:=by omega
 have hma2:m<a+2:=by omega
 clear S hcmp hp hS hma
 have one:(m:Int) - (a:Int)=1:=by omega
 obtain ⟨mixed,FG1,FG2,FG3,FG4,FG5,E1,E2,E3,E4,t0,a0,z0,v0,t3,a3,z3,v3,t4,a4,z4,v4,t22,a22,z22,v22,t59,a59,z59,v59,t100,a100,z100,v100,aE,zE⟩:=id L
 go_enter FG3,Tryz.ntmps142
 go_wp2
 go_loopg [10,11] (b - a) (fun kx s10 s11 wr=>∃ (i j:Nat),s10=.int .i64 i∧s11=.int .i64 j∧a+1≤i∧i≤j∧j≤b∧j - i≤kx∧Aside (SWK enc kc w0 blk off d wr)∧Hid ((i=a+1∨ltOf cf d[i - 1]! d[a]! = true)∧(j=b∨ltOf cf d[j]! d[a]! = false)))
 case atStart=>exact ⟨m,b,rfl,rfl,by omega,by omega,by omega,by omega,S0,.inl (by omega),.inl rfl⟩
 case round =>
  clear S0
  obtain ⟨i,j,rfl,rfl,hai,hij,hjb,hkx,S1,HI⟩:=hrel
  by_cases hlt:i<j
  · have hltz:(i:Int)<(j:Int):=by omega
    obtain ⟨h,hh⟩:∃ h,h=(i+j) / 2:=⟨_,rfl⟩
    have hz:((i:Int)+(j:Int)) / 2=(h:Int):=by omega
    have hz2:(i+j) / 2=h:=hh.symm
    have hlo:i≤h:=by omega
    have hhi:h<j:=by omega
    have bh:(h:Int)<(d.size:Int):=by omega
    have bA:(a:Int)<(d.size:Int):=by omega
    have wij:IntKind.i64.wrap ((i:Int)+(j:Int))=(i:Int)+(j:Int):=by rw [IntKind.wrap_i64];omega
    obtain ⟨x,hx⟩:∃ x,x=d[h]! := ⟨_,rfl⟩
    obtain ⟨y,hy⟩:∃ x,x=d[a]! := ⟨_,rfl⟩
    have la:=S1.out.ld R (by omega) P h (by omega)
    have l2:=S1.out.ld R (by omega) P a (by omega)
    rw [← hx] at la
    rw [← hy] at l2
    have hc:=S1.out.cmp HC.out (by omega) x y
    clear hh
    cases hlv:(ltOf cf) d[h]! d[a]! with
    | true =>
      have hv:cf x y<0:=by rw [hx,hy];exact of_decide_eq_true hlv
      have hd:decide (cf x y<0)=true:=decide_eq_true hv
      have HX:Aside (x=d[h]!∧y=d[a]!):=⟨hx,hy⟩
      clear hx hy
      go_wp2_with fail
      go_quiet_grown (first | (go_at_fn g;refine Calls.grown_of (hc _ _)))
      have S2:Aside (SWK enc kc w0 blk off d (grow (wr.drewN nq) osq)):=S1.out.grown nq osq
      clear la l2 hc S1
      generalize grow (wr.drewN nq) osq=w2 at S2 ⊢
      clear nq osq
      go_wp2
      go_roundg (j - (h+1))
      case measure=>omega
      case rel=>exact ⟨h+1,j,by go_num,rfl,by omega,by omega,hjb,by omega,S2,.inr (by rw [show h+1 - 1=h from by omega];exact hlv),HI.out.2⟩
    | false =>
      have hv:¬ cf x y<0:=by rw [hx,hy];exact of_decide_eq_false hlv
      have hd:decide (cf x y<0)=false:=decide_eq_false hv
      have HX:Aside (x=d[h]!∧y=d[a]!):=⟨hx,hy⟩
      clear hx hy
      go_wp2_with fail
      go_quiet_grown (first | (go_at_fn g;refine Calls.grown_of (hc _ _)))
      have S2:Aside (SWK enc kc w0 blk off d (grow (wr.drewN nq) osq)):=S1.out.grown nq osq
      clear la l2 hc S1
      generalize grow (wr.drewN nq) osq=w2 at S2 ⊢
      clear nq osq
      go_wp2
      go_roundg (h - i)
      case measure=>omega
      case rel=>exact ⟨i,h,rfl,by first | rfl | go_num,hai,hlo,by omega,by omega,S2,HI.out.1,.inr hlv⟩
  · have:i=j:=by omega
    subst this
    go_wp2
    go_loopg [13] (i - a) (fun kx s13 wr2=>∃ (k:Nat) (dk:Array α),s13=.int .i64 k∧a≤k∧k+1≤i∧i - k≤kx∧dk.size=d.size∧Aside (SWK enc kc w0 blk off dk wr2)∧Hid (IsRot d dk a (a+1) (k+1)))
    case atStart=>exact ⟨a,d,rfl,Nat.le_refl _,hai,by omega,rfl,S1,IsRot.none_right d a (a+1)⟩
    case round =>
     clear S1
     obtain ⟨k,dk,rfl,hak,hki,hkx2,hds,S1,HR⟩:=hrel
     by_cases hl:k+1<i
     · have hlz:(k:Int)<(i:Int) - 1:=by omega
       have wi:IntKind.i64.wrap ((i:Int) - 1)=(i:Int) - 1:=by rw [IntKind.wrap_i64];omega
       go_wp2_with fail
       obtain ⟨iN,hiN⟩:∃ q,q=k:=⟨_,rfl⟩
       obtain ⟨jN,hjN⟩:∃ q,q=k+1:=⟨_,rfl⟩
       obtain ⟨ea,pa,ba,ra⟩:=swp_facts (n:=d.size) (z:=(k:Int)) (k:=iN) (by omega) (by omega) hsz
       obtain ⟨ec,pc,bc,rc⟩:=swp_facts (n:=d.size) (z:=(k:Int)+1) (k:=jN) (by omega) (by omega) hsz
       have S2:Aside (SWK enc kc w0 blk off (swp dk (k) (k+1)) ((wr.drew.setCells blk (off+iN * kc) (enc dk[k+1]!)).setCells blk (off+jN * kc) (enc dk[k]!))):=by rw [hiN,hjN];exact S1.out.swapped R (k) (k+1) (by omega) (by omega)
       have ca:=S1.out.ld1 R (by omega) P (k) (by omega)
       have c2:=S1.out.ld1 R (by omega) P (k+1) (by omega)
       have fa:=S1.out.st1 R (by omega) P (k) (by omega) dk[k+1]!
       have f2:=S1.out.st2 R (by omega) P (k) (k+1) (by omega) (by omega) dk[k+1]! dk[k]!
       have na:(enc dk[k]!).length=kc:=R.hk _
       have nb:(enc dk[k+1]!).length=kc:=R.hk _
       generalize enc dk[k]! = cI at S2 ca f2 na
       generalize enc dk[k+1]! = cJ at S2 c2 fa f2 nb
       rw [← hjN] at c2 f2
       rw [← hiN] at ca fa f2
       clear S1 hiN hjN
       go_wp2_with fail
       go_big_region_o
       clear ca c2 fa f2
       generalize (wr.drew.setCells blk (off+iN * kc) cJ).setCells blk (off+jN * kc) cI=w2 at S2 ⊢
       clear ea ec
       go_wp2
       go_roundg (i - (k+1))
       case measure=>omega
       case rel=>exact ⟨k+1,swp dk k (k+1),by go_num,by omega,by omega,by omega,by rw [Stab.swp_size];exact hds,S2,HR.out.up (by omega) (by omega)⟩
     · have hlz:¬ (k:Int)<(i:Int) - 1:=by omega
       have wi:IntKind.i64.wrap ((i:Int) - 1)=(i:Int) - 1:=by rw [IntKind.wrap_i64];omega
       have HRI:Hid (IsRot d dk a (a+1) i):=by have hk:k+1=i:=by omega
                                               rw [← hk];exact HR.out
       go_wp2
       refine bodyPost_ret (results_none rfl _ _ _) rfl ?_
       refine ⟨rfl,dk,?_,merge_one_left HS.out HP.out hai hjb hb HI.out.1 HI.out.2 HRI.out,S1.out⟩
       exact permIn_mono d dk a i a b (Nat.le_refl _) hjb hb (HRI.out.perm (by omega) hai (by omega))
end walks
end Go.Proofs.YtjhknhgkjfabaaaGreatDoor
