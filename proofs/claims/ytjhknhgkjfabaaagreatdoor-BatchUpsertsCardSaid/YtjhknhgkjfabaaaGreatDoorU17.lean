/-
 Changes gathered: what batch's gathered leaves. If the changes lie in the world as the words say, and are valid.
-/
import Derived.Test.YtjhknhgkjfabaaaGreatDoorU16
import Derived.Test.YtjhknhgkjfabaaaGreatDoorU13
set_option linter.unusedSimpArgs false
set_option linter.unusedVariables false
namespace Go.Proofs.YtjhknhgkjfabaaaGreatDoor
open Go.RowKit Go.Proofs.YtjhknhgkjfabaaaGreatDoor.Cmps
theorem RowAt.lt {w:World} {D:Nat→Prop} {r:Value} {row:List Val} (h:RowAt w D r row):RowAt w (fun b=>D b∧b<w.heap.size) r row:=by
 obtain ⟨a,cap,rfl,hl,hx⟩:=h
 refine ⟨a,cap,rfl,hl,?_⟩
 rcases hx with rfl | ⟨b,off,rfl,hb,hc⟩
 · exact .inl rfl
 · by_cases h0:row=[]
   · exact .inl h0
   · have hp:0<row.length:=by cases row;exact absurd rfl h0;simp
     exact .inr ⟨b,off,rfl,⟨hb,cell_lt (hc 0 hp).1⟩,hc⟩
theorem chg_src (w:World) (a b c:Value) (ha:a.oneCell'=true):Src (w.alloc (.cells #[a,b,c] 42)) 3 (.slice (some ⟨w.heap.size,0,none⟩) 1 1) 1 [a,b,c] :=
 SlOwn.src (e:=42) (blk:=some w.heap.size) ⟨rfl,.inr ⟨_,0,1,_,rfl,rfl,World.alloc_heap_new w _,Nat.le_refl _,by simp [maxLen],by simp,rfl⟩⟩
theorem cels_add (ys:List (Chg×Value)) (p:Chg×Value):cels ys ++ [.int .i64 p.1.t,p.2,.int .i64 p.1.n]=cels (ys ++ [p]):=by simp [cels,cel]
theorem cels_setN (ys:List (Chg×Value)) (i:Nat) (hi:i<ys.length) (n:Int):(cels ys).set (i * 3+2) (.int .i64 n)=cels (ys.set i (⟨ys[i].1.t,ys[i].1.r,n⟩,ys[i].2)):=by
 refine List.ext_getElem? fun t=>?_
 by_cases ht:t<ys.length * 3
 · have hq:t / 3<ys.length:=Nat.div_lt_of_lt_mul (by omega)
   have he:t=t / 3 * 3+t % 3:=by omega
   have hm:t % 3<3:=Nat.mod_lt _ (by omega)
   generalize t / 3=q at hq he
   generalize t % 3=m at he hm
   subst he
   rw [cels_get (ys.set i _) q m (by simpa using hq) hm,List.getElem?_set,cels_get ys q m hq hm,cels_len]
   by_cases e:i=q
   · subst e
     rw [List.getElem_set_self]
     rcases m with _ | _ | _ | m
     · rw [if_neg (by omega)];rfl
     · rw [if_neg (by omega)];rfl
     · rw [if_pos rfl,if_pos (by omega)];rfl
     · omega
   · rw [List.getElem_set_ne e,if_neg (by omega)]
 · rw [List.getElem?_eq_none (by simp [cels_len];omega),List.getElem?_eq_none (by rw [cels_len,List.length_set];omega)]
structure OutAt (w0 w:World) (v:Value) (A:List Chg) (ys:List (Chg×Value)) (blk:Option Nat):Prop where
 is:ys.map (·.1)=A
 own:SlOwn w 42 3 v ys.length (cels ys) blk
 new:∀ g,blk=some g→w0.heap.size≤g
 rows:∀ p ∈ ys,RowAt w (fun b=>w0.heap.size≤b∧b<w.heap.size∧blk≠some b) p.2 p.1.r
 below:Below w0.heap.size w0 w
theorem OutAt.start (w:World):OutAt w w (.slice none 0 0) [] [] none :=
 ⟨rfl,SlOwn.nil _ _ _,(fun g e=>by cases e),(fun p hp=>by simp at hp),Below.refl _ _⟩
theorem OutAt.next {w0 w w':World} {v:Value} {A:List Chg} {ys:List (Chg×Value)} {blk:Option Nat} (h:OutAt w0 w v A ys blk) (hb:Below w.heap.size w w'):OutAt w0 w' v A ys blk :=
 ⟨h.is,h.own.keep fun g hg=>hb.block g (h.own.lt_of hg),h.new,fun p hp=>((h.rows p hp).below hb).mono fun b hb'=>⟨hb'.1,Nat.lt_of_lt_of_le hb'.2.1 hb.size,hb'.2.2⟩,h.below.trans (hb.mono h.below.size)⟩
theorem OutAt.add {w0 w w':World} {v v':Value} {A:List Chg} {ys:List (Chg×Value)} {blk blk':Option Nat} (h:OutAt w0 w v A ys blk) (c:Chg) (rv:Value) (hr:RowAt w (fun b=>w0.heap.size≤b∧b<w.heap.size∧blk≠some b) rv c.r) {o:Obj}
 (hs:SlOwn w' 42 3 v' (ys.length+1) (cels ys ++ [.int .i64 c.t,rv,.int .i64 c.n]) blk') (hg:(w.alloc o).grownBy w' blk) (hat:blk'=blk∨blk'=some (w.alloc o).heap.size):OutAt w0 w' v' (A ++ [c]) (ys ++ [(c,rv)]) blk':=by
 have hsz:=h.below.size
 have hgw:w.grownBy w' blk:=(World.grownBy.but (a:=w) (c:=w.alloc o) ⟨rfl,rfl,rfl,by simp,fun b hb _=>Below.heap_alloc w o b hb⟩ blk).trans hg
 have hrow:∀ {r:Value} {row:List Val},RowAt w (fun b=>w0.heap.size≤b∧b<w.heap.size∧blk≠some b) r row→RowAt w' (fun b=>w0.heap.size≤b∧b<w'.heap.size∧blk'≠some b) r row:=fun h=>(h.keep fun b hb hlt=>hgw.block b hlt (fun e=>hb.2.2 e.symm)).mono fun b hb=>⟨hb.1,Nat.lt_of_lt_of_le hb.2.1 hgw.size,fun e=>by
  rcases hat with ha | ha
  · exact hb.2.2 (ha ▸ e)
  · rw [ha] at e;injection e with e;simp at e;omega⟩
 refine ⟨by rw [List.map_append,h.is];rfl,by rw [List.length_append,← cels_add];exact hs,fun g e=>?_,fun p hp=>?_,h.below.grown hgw hsz h.new⟩
 · rcases hat with ha | ha
   · exact h.new g (ha ▸ e)
   · rw [ha] at e;injection e with e;simp at e;omega
 · rcases List.mem_append.1 hp with hp | hp
   · exact hrow (h.rows p hp)
   · rw [List.mem_singleton] at hp;subst hp;exact hrow hr
theorem OutAt.more {w0 w:World} {g o n cap:Nat} {A:List Chg} {ys:List (Chg×Value)} (hn:ys.length=n+1) (h:OutAt w0 w (.slice (some ⟨g,o,none⟩) (n+1) cap) A ys (some g)) (q:Int) :
 ∃ (hi:n<ys.length),OutAt w0 (w.setCell ⟨g,o+n * 3+2,none⟩ (.int .i64 q)) (.slice (some ⟨g,o,none⟩) (n+1) cap) ((ys.set n (⟨ys[n].1.t,ys[n].1.r,q⟩,ys[n].2)).map (·.1)) (ys.set n (⟨ys[n].1.t,ys[n].1.r,q⟩,ys[n].2)) (some g):=by
 have hi:n<ys.length:=by omega
 have hgl:=h.own.blk_lt
 refine ⟨hi,rfl,?_,h.new,fun p hp=>?_,?_⟩
 · have ho:=h.own
   rw [hn] at ho
   have:=ho.setJ (j:=n * 3+2) (by omega) (.int .i64 q)
   rw [cels_setN ys n hi q,← Nat.add_assoc] at this
   rw [List.length_set,hn]
   exact this
 · have hk:∀ {r:Value} {row:List Val},RowAt w (fun b=>w0.heap.size≤b∧b<w.heap.size∧some g≠some b) r row→RowAt (w.setCell ⟨g,o+n * 3+2,none⟩ (.int .i64 q)) (fun b=>w0.heap.size≤b∧b<(w.setCell ⟨g,o+n * 3+2,none⟩ (.int .i64 q)).heap.size∧some g≠some b) r row:=fun h =>
    (h.keep fun b hb _=>Below.heap_setCell w ⟨g,_,none⟩ _ b (fun e=>hb.2.2 (by rw [e]))).mono fun b hb=>⟨hb.1,by simpa using hb.2.1,hb.2.2⟩
   rcases List.mem_or_eq_of_mem_set hp with hp | rfl
   · exact hk (h.rows p hp)
   · exact hk (h.rows ys[n] (List.getElem_mem hi))
 · exact h.below.setCell (p:=⟨g,_,none⟩) (h.new g rfl) _
end Go.Proofs.YtjhknhgkjfabaaaGreatDoor
