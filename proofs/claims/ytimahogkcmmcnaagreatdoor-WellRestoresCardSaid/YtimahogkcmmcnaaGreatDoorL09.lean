/-
 The well, part 26: the reference's lists of splits and of marks in slices of one's own. If the lists lie in the world as the words say.
-/
import Derived.Test.YtimahogkcmmcnaaGreatDoorL08
set_option linter.unusedSimpArgs false
set_option linter.unusedVariables false
namespace Go.Proofs.YtimahogkcmmcnaaGreatDoor
open Go.RowKit Go.Proofs.YtimahogkcmmcnaaGreatDoor.Cmps
def spsC:List (SpM×Value)→List Value
 | []=>[]
 | p :: l=>spC p.1 p.2 ++ spsC l
theorem spC_len (x:SpM) (v:Value):(spC x v).length=6:=rfl
theorem spsC_len (ps:List (SpM×Value)):(spsC ps).length=ps.length * 6:=by
 induction ps with
 | nil=>rfl
 | cons p l ih=>simp only [spsC,List.length_append,List.length_cons,ih,spC_len];omega
theorem spsC_app (ps qs:List (SpM×Value)):spsC (ps ++ qs)=spsC ps ++ spsC qs:=by
 induction ps with
 | nil=>rfl
 | cons p l ih=>simp only [List.cons_append,spsC,ih,List.append_assoc]
theorem spsC_at {ps:List (SpM×Value)} {i j:Nat} (h:i<ps.length) (hj:j<6):(spsC ps)[i * 6+j]? = (spC ps[i].1 ps[i].2)[j]? := by
 induction ps generalizing i with
 | nil=>simp at h
 | cons p l ih =>
   cases i with
   | zero =>
     simp only [spsC,Nat.zero_mul,Nat.zero_add,List.getElem_cons_zero]
     rw [List.getElem?_append_left (by rw [spC_len];exact hj)]
   | succ i =>
     simp only [spsC,List.getElem_cons_succ]
     rw [List.getElem?_append_right (by rw [spC_len];omega),spC_len]
     have e:(i+1) * 6+j - 6=i * 6+j:=by omega
     rw [e]
     exact ih (by simpa using h)
theorem spsC_one {w:World} {D:Nat→Prop} {ps:List (SpM×Value)} (h:∀ p ∈ ps,EvtsAt w D p.2 p.1.evs):∀ u ∈ spsC ps,u.oneCell'=true:=by
 induction ps with
 | nil=>intro u hu;cases hu
 | cons p l ih =>
   intro u hu
   simp only [spsC,List.mem_append] at hu
   rcases hu with hu | hu
   · obtain ⟨a,c,e,_⟩:=h p (List.mem_cons_self ..)
     rw [e] at hu
     simp only [spC,List.mem_cons,List.not_mem_nil,or_false] at hu
     rcases hu with rfl | rfl | rfl | rfl | rfl | rfl <;> rfl
   · exact ih (fun q hq=>h q (List.mem_cons_of_mem _ hq)) u hu
def SplsOwn (w:World) (D:Nat→Prop) (v:Value) (l:List SpM) (blk:Option Nat):Prop :=
 ∃ ps:List (SpM×Value),ps.map Prod.fst=l∧SlOwn w 124 6 v l.length (spsC ps) blk∧∀ p ∈ ps,EvtsAt w D p.2 p.1.evs
theorem own_blk {w:World} {e:TypeId} {size n c g o:Nat} {xs:List Value} {blk:Option Nat} (h:SlOwn w e size (.slice (some ⟨g,o,none⟩) n c) n xs blk):blk=some g:=by
 rcases h.2 with ⟨h,_⟩ | ⟨g',o',_,_,hb,hv,_⟩
 · cases h
 · injection hv with hv _ _
   injection hv with hv
   injection hv with hv _ _
   rw [hb,hv]
theorem SplsOwn.spls {w:World} {D:Nat→Prop} {v:Value} {l:List SpM} {blk:Option Nat} (h:SplsOwn w D v l blk):SplsAt w (fun b=>D b∨blk=some b) v l:=by
 obtain ⟨ps,e,ho,hr⟩:=h
 subst e
 obtain ⟨a,c,rfl⟩:=ho.form
 refine ⟨a,c,rfl,?_⟩
 by_cases h0:ps=[]
 · left;rw [h0];rfl
 right
 have hpos:0<ps.length:=by cases ps with | nil=>exact absurd rfl h0 | cons p l=>simp
 obtain ⟨g,o,rfl⟩:=ho.some_of (by simpa using hpos)
 refine ⟨g,o,rfl,.inr (own_blk ho),fun i hi=>?_⟩
 have hi':i<ps.length:=by simpa using hi
 have hx:∀ j,j<6→∀ u,(spC ps[i].1 ps[i].2)[j]? = some u→w.cell? ⟨g,o+i * 6+j,none⟩=some u:=by
  intro j hj u hu
  rw [← spsC_at hi' hj] at hu
  have:=ho.cell _ _ hu
  rwa [← Nat.add_assoc] at this
 refine ⟨ps[i].2,?_,?_,?_,?_,?_,?_,?_⟩
 · simpa using (hr _ (List.getElem_mem hi')).mono (D':=fun b=>D b∨blk=some b) fun b hb=>.inl hb
 · simpa using hx 0 (by omega) _ rfl
 · simpa using hx 1 (by omega) _ rfl
 · simpa using hx 2 (by omega) _ rfl
 · simpa using hx 3 (by omega) _ rfl
 · simpa using hx 4 (by omega) _ rfl
 · simpa using hx 5 (by omega) _ rfl
theorem SplsAt.mono {w:World} {D D':Nat→Prop} {v:Value} {l:List SpM} (h:SplsAt w D v l) (hd:∀ b,D b→D' b):SplsAt w D' v l:=by
 obtain ⟨a,cap,rfl,hx⟩:=h
 refine ⟨a,cap,rfl,?_⟩
 rcases hx with rfl | ⟨b,off,rfl,hb,hc⟩
 · exact .inl rfl
 · refine .inr ⟨b,off,rfl,hd b hb,fun i hi=>?_⟩
   obtain ⟨ev,he,hh⟩:=hc i hi
   exact ⟨ev,he.mono hd,hh⟩
theorem NumsAt.mono {w:World} {D D':Nat→Prop} {v:Value} {l:List Int} (h:NumsAt w D v l) (hd:∀ b,D b→D' b):NumsAt w D' v l:=by
 obtain ⟨a,cap,rfl,hx⟩:=h
 refine ⟨a,cap,rfl,?_⟩
 rcases hx with rfl | ⟨b,off,rfl,hb,hc⟩
 · exact .inl rfl
 · exact .inr ⟨b,off,rfl,hd b hb,hc⟩
theorem RefAt.mono {w:World} {D D':Nat→Prop} {s:List Col} {m:WlM} {p:RS} (h:RefAt w D s m p) (hd:∀ b,D b→D' b):RefAt w D' s m p :=
 ⟨h.sch.mono hd,h.spl.mono hd,h.mks.mono hd,h.back.mono hd⟩
theorem SplsAt.parts {w:World} {D:Nat→Prop} {v:Value} {l:List SpM} (h:SplsAt w D v l):∃ ps:List (SpM×Value),ps.map Prod.fst=l∧Src w 6 v l.length (spsC ps)∧∀ p ∈ ps,EvtsAt w D p.2 p.1.evs:=by
 obtain ⟨a,cap,rfl,hx⟩:=h
 rcases hx with rfl | ⟨b,off,rfl,hb,hc⟩
 · exact ⟨[],rfl,⟨rfl,_,_,rfl,.inl rfl⟩,fun p hp=>by cases hp⟩
 have hc2:∀ i:Fin l.length,∃ ev,EvtsAt w D ev l[i.1].evs∧∀ j,j<6→∀ u,(spC l[i.1] ev)[j]? = some u→w.cell? ⟨b,off+i.1 * 6+j,none⟩=some u:=by
  intro i
  obtain ⟨ev,he,h0,h1,h2,h3,h4,h5⟩:=hc i.1 i.2
  refine ⟨ev,he,fun j hj u hu=>?_⟩
  rcases j with _ | _ | _ | _ | _ | _ | j
  · simp [spC] at hu;subst hu;exact h0
  · simp [spC] at hu;subst hu;exact h1
  · simp [spC] at hu;subst hu;exact h2
  · simp [spC] at hu;subst hu;exact h3
  · simp [spC] at hu;subst hu;exact h4
  · simp [spC] at hu;subst hu;exact h5
  · omega
 have hlen:(List.ofFn fun i:Fin l.length=>(l[i.1],(hc2 i).choose)).length=l.length:=by simp
 refine ⟨List.ofFn fun i:Fin l.length=>(l[i.1],(hc2 i).choose),?_,⟨by rw [spsC_len,hlen],_,_,rfl,.inr ⟨_,rfl,fun j u hu=>?_⟩⟩,?_⟩
 · apply List.ext_getElem
   · simp
   · intro i h1 h2;simp
 · have hj:j<(spsC (List.ofFn fun i:Fin l.length=>(l[i.1],(hc2 i).choose))).length:=by
    rcases Nat.lt_or_ge j (spsC (List.ofFn fun i:Fin l.length=>(l[i.1],(hc2 i).choose))).length with h | h
    · exact h
    · rw [List.getElem?_eq_none h] at hu;cases hu
   rw [spsC_len,hlen] at hj
   have hi:j / 6<l.length:=by omega
   have ej:j=j / 6 * 6+j % 6:=by omega
   rw [ej,spsC_at (by rw [hlen];exact hi) (Nat.mod_lt _ (by omega))] at hu
   rw [add_at,ej,← Nat.add_assoc]
   refine (hc2 ⟨j / 6,hi⟩).choose_spec.2 _ (Nat.mod_lt _ (by omega)) u ?_
   simpa using hu
 · intro p hp
   obtain ⟨i,hi,rfl⟩:=List.mem_iff_getElem.1 hp
   simp only [List.getElem_ofFn]
   exact (hc2 ⟨i,by simpa using hi⟩).choose_spec.1
theorem NumsAt.src {w:World} {D:Nat→Prop} {v:Value} {l:List Int} (h:NumsAt w D v l):Src w 1 v l.length (l.map (Value.int .i64)):=by
 obtain ⟨a,cap,rfl,hx⟩:=h
 refine ⟨by simp,a,cap,rfl,?_⟩
 rcases hx with rfl | ⟨b,off,rfl,hb,hc⟩
 · exact .inl rfl
 · refine .inr ⟨_,rfl,fun j u hu=>?_⟩
   rw [List.getElem?_map] at hu
   have hj:j<l.length:=by
    rcases Nat.lt_or_ge j l.length with h | h
    · exact h
    · rw [List.getElem?_eq_none h] at hu;cases hu
   rw [List.getElem?_eq_getElem hj] at hu
   simp at hu
   subst hu
   rw [add_at]
   exact hc j hj
theorem own_nums {w:World} {v:Value} {l:List Int} {blk:Option Nat} (h:SlOwn w 3 1 v l.length (l.map (Value.int .i64)) blk):NumsAt w (fun b=>blk=some b) v l:=by
 obtain ⟨a,c,rfl⟩:=h.form
 refine ⟨a,c,rfl,?_⟩
 by_cases h0:l=[]
 · exact .inl h0
 right
 have hpos:0<l.length:=by cases l with | nil=>exact absurd rfl h0 | cons p l=>simp
 obtain ⟨g,o,rfl⟩:=h.some_of hpos
 exact ⟨g,o,rfl,own_blk h,fun i hi=>h.cell i _ (by simp [hi])⟩
section leaves
set_option maxHeartbeats 400000
set_option maxRecDepth 10000
theorem f193_any (w:World) (n:Int) :
 Calls Tryz.prog 193 #[.agg #[.int .i64 n,.bool false,.bool false]] w fun e w'=>e=.returned (.tuple #[.int .i64 n,.bool true])∧Below w.heap.size w w':=by
 have HB:Hid (∀ o,Below w.heap.size w (w.alloc o)):=fun o=>(Below.refl _ _).alloc (Nat.le_refl _) o
 go_enter Tryz.func193,Tryz.ntmps193
 go_wp2_with fail
 go_quiet (fail)
 go_wp2_with fail
 go_ret2
 exact ⟨rfl,below_then (HB.out _) (Drew.belowW ⟨_,rfl⟩)⟩
theorem f192_any (w:World) (g:Nat) (n:Int) (h:w.heap[g]? = some (.cells #[.int .i64 n,.bool false,.bool false] 202 (0,0))) :
 Calls Tryz.prog 192 #[.slice (some ⟨g,0,none⟩) 1 1,.func (.func 193) #[] #[]] w fun e w'=>e=.returned (.tuple #[.int .i64 n,.bool true])∧Below w.heap.size w w':=by
 have HC:=Lib.hid h
 clear h
 go_enter Tryz.func192,Tryz.ntmps192
 go_wp2_with fail
 go_loopw [6,7,14] (fun z u i wr=>∃ k:Nat,k≤1∧i=.int .i64 k∧(k=1→z=.int .i64 n)∧(k=0→z=.int .i64 0)∧u=.bool (decide (k=1))∧Hid (Below w.heap.size w wr)) (fun _ _ i _=>1 - (intOf i).toNat)
 case atStart=>exact ⟨0,by omega,rfl,by omega,fun _=>rfl,rfl,Lib.hid (Below.refl _ _)⟩
 case round =>
  obtain ⟨k,hk,rfl,hz1,hz0,rfl,hbr⟩:=hrel
  rcases Nat.lt_or_ge k 1 with h1 | h1
  · obtain rfl:k=0:=by omega
    obtain rfl:=hz0 rfl
    have hb:=(hbr.out.block g (heap_lt HC.out)).trans HC.out
    have c0:=cells_at hb 0
    have c1:=cells_at hb 1
    have c2:=cells_at hb 2
    have hlt:=heap_lt hb
    have H:=Lib.hid (f193_any (wr.alloc (.cells #[.int .i64 n,.bool false,.bool false] 202)) n)
    clear hb
    go_wp2_with (go_at_call 193;with_reducible refine H.out.mono ?_;rintro e w1 ⟨rfl,hb1⟩;have HB1:=Lib.hid hb1;clear hb1)
    go_roundw
    case rel=>exact ⟨1,by omega,by go_num,fun _=>rfl,by omega,rfl,Lib.hid (below_then (hbr.out.alloc hbr.out.size _) HB1.out)⟩
    case measure=>simp [intOf]
  · obtain rfl:k=1:=by omega
    obtain rfl:=hz1 rfl
    go_wp2_with fail
    go_ret2
    exact ⟨rfl,hbr.out⟩
theorem f149_any (w:World) (b g:Nat) (y n:Int) (hb:w.heap[b]? = some (.cells #[.slice (some ⟨g,0,none⟩) 1 1,.int .i64 y] 204 (0,0))) (h:w.heap[g]? = some (.cells #[.int .i64 n,.bool false,.bool false] 202 (0,0))) :
 Calls Tryz.prog 149 #[ptr b] w fun e w'=>e=.returned (.tuple #[.int .i64 n,.bool true])∧Below w.heap.size w w':=by
 have H:=Lib.hid (f192_any w g n h)
 have c0:=cells_at hb 0
 have hlt:=heap_lt hb
 unfold ptr
 clear h hb
 go_enter Tryz.func149,Tryz.ntmps149
 go_wp2_with (go_at_call 192;with_reducible refine H.out.mono ?_;rintro e w1 ⟨rfl,hb1⟩;have HB1:=Lib.hid hb1;clear hb1)
 go_ret2
 exact ⟨rfl,HB1.out⟩
end leaves
theorem flat_len {α:Type} {f:α→List Value} {s:Nat} (hf:∀ x,(f x).length=s) (l:List α):(l.flatMap f).length=l.length * s:=by
 induction l with
 | nil=>simp
 | cons x l ih=>rw [List.flatMap_cons,List.length_append,hf,ih,List.length_cons,Nat.add_mul];omega
theorem flat_at {α:Type} {f:α→List Value} {s:Nat} (hf:∀ x,(f x).length=s) (l:List α) (i r:Nat) (hi:i<l.length) (hr:r<s):(l.flatMap f)[i * s+r]? = (f l[i])[r]? := by
 induction l generalizing i with
 | nil=>simp at hi
 | cons x l ih =>
   rw [List.flatMap_cons]
   cases i with
   | zero=>rw [List.getElem?_append_left (by rw [hf];omega)];simp
   | succ i =>
     rw [List.getElem?_append_right (by rw [hf,Nat.add_mul];omega),hf]
     have:(i+1) * s+r - s=i * s+r:=by rw [Nat.add_mul];omega
     rw [this,ih i (by simpa using hi)]
     simp
theorem flat_inv {α:Type} {f:α→List Value} {s:Nat} (hs:0<s) (hf:∀ x,(f x).length=s) (l:List α) (j:Nat) (u:Value) (h:(l.flatMap f)[j]? = some u):∃ i r,∃ hi:i<l.length,r<s∧j=i * s+r∧(f l[i])[r]? = some u:=by
 have hj:j<(l.flatMap f).length:=(List.getElem?_eq_some_iff.1 h).1
 rw [flat_len hf] at hj
 have hi:j / s<l.length:=Nat.div_lt_of_lt_mul (by rw [Nat.mul_comm];exact hj)
 have hr:j % s<s:=Nat.mod_lt _ hs
 have hjj:j=j / s * s+j % s:=by rw [Nat.mul_comm];exact (Nat.div_add_mod j s).symm
 refine ⟨j / s,j % s,hi,hr,hjj,?_⟩
 rw [← flat_at hf l (j / s) (j % s) hi hr,← hjj]
 exact h
def vcl (v:Val):List Value:=[.int .i64 v.k,.int .i64 v.n,.string v.s]
theorem vcl_len (v:Val):(vcl v).length=3:=rfl
theorem vcl_one {row:List Val}:∀ u ∈ row.flatMap vcl,u.oneCell'=true:=by
 intro u hu
 rw [List.mem_flatMap] at hu
 obtain ⟨v,_,h⟩:=hu
 simp only [vcl,List.mem_cons,List.not_mem_nil,or_false] at h
 rcases h with rfl | rfl | rfl <;> rfl
theorem RowAt.src {w:World} {D:Nat→Prop} {r:Value} {row:List Val} (h:RowAt w D r row):Src w 3 r row.length (row.flatMap vcl):=by
 obtain ⟨a,cap,rfl,hl,hx⟩:=h
 refine ⟨flat_len vcl_len row,a,cap,rfl,?_⟩
 rcases hx with rfl | ⟨b,off,rfl,hb,hc⟩
 · exact .inl rfl
 · refine .inr ⟨_,rfl,fun j u hu=>?_⟩
   obtain ⟨i,r,hi,hr,rfl,hv⟩:=flat_inv (by omega) vcl_len row j u hu
   rw [add_at]
   obtain ⟨h0,h1,h2⟩:=hc i hi
   match r,hr with
   | 0,_=>simp only [vcl,List.getElem?_cons_zero,Option.some.injEq] at hv;subst hv;exact h0
   | 1,_=>simp only [vcl,List.getElem?_cons_succ,List.getElem?_cons_zero,Option.some.injEq] at hv;subst hv;exact h1
   | 2,_=>simp only [vcl,List.getElem?_cons_succ,List.getElem?_cons_zero,Option.some.injEq] at hv;subst hv;exact h2
theorem RowAt.of_own {w:World} {v:Value} {n:Nat} {row:List Val} {blk:Option Nat} (h:SlOwn w 78 3 v n (row.flatMap vcl) blk) (hs:row.length≤9223372036854775807):RowAt w (fun b=>blk=some b) v row:=by
 have hn:n=row.length:=by
  have:=h.1
  rw [flat_len vcl_len] at this
  omega
 subst hn
 rcases h.2 with ⟨rfl,h0,_⟩ | ⟨g,o,cap,cur,rfl,rfl,_⟩
 · have:row=[]:=List.eq_nil_of_length_eq_zero h0
   subst this
   exact ⟨none,0,rfl,by simp,.inl rfl⟩
 · refine ⟨_,cap,rfl,hs,.inr ⟨g,o,rfl,rfl,fun i hi=>?_⟩⟩
   have key:∀ r u,r<3→(vcl row[i])[r]? = some u→w.cell? ⟨g,o+(i * 3+r),none⟩=some u:=fun r u hr hu=>h.cell _ u (by rw [flat_at vcl_len row i r hi hr];exact hu)
   exact ⟨key 0 _ (by omega) rfl,key 1 _ (by omega) rfl,key 2 _ (by omega) rfl⟩
theorem RowAt.imp {w:World} {D D':Nat→Prop} {r:Value} {row:List Val} (h:RowAt w D r row) (hd:∀ b,b<w.heap.size→D b→D' b):RowAt w D' r row:=by
 obtain ⟨a,cap,rfl,hl,hx⟩:=h
 refine ⟨a,cap,rfl,hl,?_⟩
 rcases hx with rfl | ⟨b,off,rfl,hb,hc⟩
 · exact .inl rfl
 · by_cases h0:row=[]
   · exact .inl h0
   · have hpos:0<row.length:=by cases row with | nil=>exact absurd rfl h0 | cons p l=>simp
     exact .inr ⟨b,off,rfl,hd b (cell_lt (hc 0 hpos).1) hb,hc⟩
def GivesRow (w:World) (row:List Val) (e:Ending) (w':World):Prop:=∃ r,e=.returned r∧RowAt w' (fun b=>w.heap.size≤b) r row∧Below w.heap.size w w'
theorem info78:(Tryz.prog.info? 78).map (fun i=>(i.zero,i.size,i.bytes))=some (some (.agg #[.int .i64 0,.int .i64 0,.string ⟨#[]⟩]),3,32):=by kernel_rfl
section leaves
set_option maxHeartbeats 400000
set_option maxRecDepth 100000
theorem f136_any (w:World) (r:Value) (row:List Val) (D:Nat→Prop) (hr:RowAt w D r row) (hsm:row.length≤1000000) :
 Calls Tryz.prog 136 #[r] w (GivesRow w row):=by
 have hr':=hr
 obtain ⟨a,cap,rfl,hl,hx⟩:=hr
 cases a with
 | none =>
   have hrow:row=[]:=by
    rcases hx with h | ⟨_,_,h,_⟩
    · exact h
    · cases h
   subst hrow
   have hk:=fun (w:World)=>Lib.run_eql_slice_nil (P:=Tryz.prog) w 28 78 none 0 cap 0 0 Tryz.underlying28
   clear hr' hx hl hsm
   go_enter Tryz.func136,Tryz.ntmps136
   go_wp2
   go_ret
   exact ⟨_,rfl,⟨none,0,rfl,by simp,.inl rfl⟩,Below.refl _ _⟩
 | some ad =>
   have hk:=fun (w:World)=>Lib.run_eql_slice_nil (P:=Tryz.prog) w 28 78 (some ad) row.length cap 0 0 Tryz.underlying28
   have hsrc:=(hr'.below ((Below.refl _ w).alloc (Nat.le_refl _) (.cells #[] 78))).src
   have hown:SlOwn (w.alloc (.cells #[] 78)) 78 3 (.slice (some ⟨w.heap.size,0,none⟩) 0 0) 0 [] (some w.heap.size) :=
    ⟨by simp,.inr ⟨w.heap.size,0,0,#[],rfl,rfl,heap_alloc_new w _,by omega,by simp [maxLen],by simp,by simp⟩⟩
   obtain ⟨i0,hi0,hz0,hz1,hz2⟩:=info_parts info78
   have HS:=Lib.hid hsrc
   have HO:=Lib.hid hown
   clear hr' hx hsrc hl hown
   go_enter Tryz.func136,Tryz.ntmps136
   go_wp2_with (at_builtin;refine wpList_append_S rfl (.tmp 5) (.tmp 6) 28 rfl 78 i0 _ 3 32 Tryz.underlying28 hi0 hz0 hz1 hz2 rfl (by omega) (.slice (some ⟨w.heap.size,0,none⟩) 0 0) 0 [] (some w.heap.size) rfl HO.out (.slice (some ad) row.length cap) row.length (row.flatMap vcl) rfl HS.out vcl_one (by simp only [maxLen];omega) (by omega) ?_;intro v1 w1 blk1 hown1 hgrow1 hat1)
   have hrow:=RowAt.of_own (row:=row) hown1 (by omega)
   go_ret
   refine ⟨_,rfl,hrow.mono fun b hb=>?_,((Below.refl _ w).alloc (Nat.le_refl _) _).grown hgrow1 (by simp) (fun k hk=>by cases hk;exact Nat.le_refl _)⟩
   rcases hat1 with h | h <;> rw [h] at hb <;> cases hb <;> simp
end leaves
structure OwnSt (w wr:World) (o:Value) (ps:List (Evt×Value)) (blk:Option Nat):Prop where
 own:SlOwn wr 30 2 o ps.length (evC ps) blk
 new:∀ g,blk=some g→w.heap.size≤g
 rows:∀ p ∈ ps,RowAt wr (fun b=>w.heap.size≤b∧b<wr.heap.size∧blk≠some b) p.2 p.1.r
 below:Below w.heap.size w wr
theorem OwnSt.start (w:World):OwnSt w w (.slice none 0 0) [] none:=⟨SlOwn.nil _ _ _,(fun g hg=>by cases hg),(fun p hp=>by cases hp),Below.refl _ _⟩
theorem OwnSt.next {w wr w2:World} {o:Value} {ps:List (Evt×Value)} {blk:Option Nat} (h:OwnSt w wr o ps blk) (hb:Below wr.heap.size wr w2):OwnSt w w2 o ps blk :=
 ⟨h.own.keep fun g hg=>hb.block g (h.own.lt_of hg),h.new,fun p hp=>((h.rows p hp).keep fun b hD hlt=>hb.block b hlt).mono fun b hD=>⟨hD.1,Nat.lt_of_lt_of_le hD.2.1 hb.size,hD.2.2⟩,h.below.trans (hb.mono h.below.size)⟩
theorem OwnSt.add {w wr w5 w6:World} {o v':Value} {ps:List (Evt×Value)} {blk blk':Option Nat} {x:Evt} {r:Value} {ob:Obj} (h:OwnSt w wr o ps blk) (hb5:Below wr.heap.size wr w5) (hr:RowAt w5 (fun b=>wr.heap.size≤b) r x.r)
 (hs:SlOwn w6 30 2 v' (ps.length+1) (evC ps ++ evC [(x,r)]) blk') (hg:(w5.alloc ob).grownBy w6 blk) (hat:blk'=blk∨blk'=some (w5.alloc ob).heap.size):OwnSt w w6 v' (ps ++ [(x,r)]) blk':=by
 have hza:(w5.alloc ob).heap.size=w5.heap.size+1:=by simp
 have hz5:=hb5.size
 have hz6:=hg.size
 have hzw:=h.below.size
 have hblk:∀ g,blk'=some g→blk=some g∨w5.heap.size+1≤g:=fun g hgg=>by
  rcases hat with e | e
  · exact .inl (e ▸ hgg)
  · rw [hgg] at e;injection e with e;exact .inr (by omega)
 have hkeep:∀ {S:Nat→Prop} {r row},RowAt w5 S r row→(∀ b,S b→b<w5.heap.size→blk≠some b)→RowAt w6 S r row:=fun hx hS=>hx.keep fun b hb hl=>(hg.block b (by omega) (fun e=>hS b hb hl e.symm)).trans (Below.heap_alloc _ _ _ hl)
 have hb5w:Below w.heap.size w (w5.alloc ob):=(h.below.trans (hb5.mono hzw)).alloc (by omega) _
 refine ⟨by rw [evC_app];simpa using hs,fun g hgg=>?_,fun p hp=>?_,hb5w.grown hg (by omega) (fun q hq=>h.new q hq)⟩
 · rcases hblk g hgg with e | e
   · exact h.new g e
   · omega
 · rcases List.mem_append.1 hp with hp | hp
   · have h1:=(h.rows p hp).below hb5
     exact (hkeep h1 fun b hb _=>hb.2.2).imp fun b _ hb=>⟨hb.1,by omega,fun e=>by
      rcases hblk b e with h | h
      · exact hb.2.2 h
      · omega⟩
   · rw [List.mem_singleton] at hp;subst hp
     have h1:=hr.imp (D':=fun b=>wr.heap.size≤b∧b<w5.heap.size) fun b hl hb=>⟨hb,hl⟩
     exact (hkeep h1 fun b hb _ e=>by have:=h.own.lt_of e;omega).imp fun b _ hb=>⟨by omega,by omega,fun e=>by
      rcases hblk b e with h' | h'
      · have:=h.own.lt_of h';omega
      · omega⟩
structure Owned (w w':World) (v:Value) (l:List Evt) (blk:Option Nat):Prop where
 own:EvsOwn w' (fun b=>w.heap.size≤b∧b<w'.heap.size∧blk≠some b) v l blk
 new:∀ g,blk=some g→w.heap.size≤g
 below:Below w.heap.size w w'
theorem OwnSt.owned {w wr:World} {o:Value} {ps:List (Evt×Value)} {blk:Option Nat} (h:OwnSt w wr o ps blk) {l:List Evt} (e:ps.map Prod.fst=l):Owned w wr o l blk:=by
 subst e
 exact ⟨⟨ps,rfl,by simpa using h.own,h.rows⟩,h.new,h.below⟩
theorem info30:(Tryz.prog.info? 30).map (fun i=>(i.zero,i.size,i.bytes))=some (some (.agg #[.int .i64 0,.slice none 0 0]),2,32):=by kernel_rfl
section leaves
set_option maxHeartbeats 1000000
set_option maxRecDepth 100000
theorem f62_any (hm:Tryz.prog.follows .mixedOrders=true) (w:World) (D:Nat→Prop) (v:Value) (l:List Evt) (h:EvtsAt w D v l) (hsm:∀ x ∈ l,x.r.length≤1000000) (hl:l.length≤1000000) :
 Calls Tryz.prog 62 #[v] w fun e w'=>∃ r blk,e=.returned r∧Owned w w' r l blk:=by
 have mixed:=hm
 obtain ⟨i0,hi0,hz0,hz1,hz2⟩:=info_parts info30
 have H:=Lib.hid h
 have HSM:=Lib.hid hsm
 obtain ⟨a,cap,rfl,-,-⟩:=h
 clear hsm
 go_enter Tryz.func62,Tryz.ntmps62
 go_wp2_with fail
 go_loopw [3,8] (fun o i wr=>∃ (k:Nat) (ps:List (Evt×Value)) (blk:Option Nat),k≤l.length∧i=.int .i64 k∧Hid (ps.map Prod.fst=l.take k)∧Hid (OwnSt w wr o ps blk)) (fun _ i _=>l.length - (intOf i).toNat)
 case atStart=>exact ⟨0,[],none,Nat.zero_le _,rfl,Lib.hid (by simp),Lib.hid (OwnSt.start w)⟩
 case round =>
  obtain ⟨k,ps,blk,hk,rfl,HE,HO⟩:=hrel
  obtain ⟨oa,oc,rfl⟩:=HO.out.own.form
  have hpk:ps.length=k:=by
   have:=congrArg List.length HE.out
   rw [List.length_map,List.length_take] at this
   omega
  subst hpk
  by_cases hlt:ps.length<l.length
  · obtain ⟨g,o,r1,r2,rfl,hg,x0,x1,xr,xl⟩:=(H.out.below HO.out.below).at hlt
    have HR:=Lib.hid xr
    have hsj:=HSM.out _ (List.getElem_mem hlt)
    have HC:=Lib.hid (fun (W:World) (hb:Below wr.heap.size wr W)=>f136_any W (.slice r1 l[ps.length].r.length r2) l[ps.length].r D (HR.out.below hb) hsj)
    have HT:=Lib.hid (List.take_append_getElem (i:=ps.length) (l:=l) hlt)
    generalize l[ps.length]=y at x0 x1 HC HR HT
    clear xr hsj xl
    go_wp2_with fail
    have hbx:=World.alloc_heap_new wr (Obj.cells #[.int .i64 y.t,.slice r1 y.r.length r2] 30)
    have hb1:Below wr.heap.size wr (wr.alloc (Obj.cells #[.int .i64 y.t,.slice r1 y.r.length r2] 30)):=(Below.refl _ _).alloc (Nat.le_refl _) _
    have hz1':(wr.alloc (Obj.cells #[.int .i64 y.t,.slice r1 y.r.length r2] 30)).heap.size=wr.heap.size+1:=by simp
    generalize wr.alloc (Obj.cells #[.int .i64 y.t,.slice r1 y.r.length r2] 30)=W1 at hbx hb1 hz1' ⊢
    have HB1:=Lib.hid hb1
    have HZ1:=Lib.hid hz1'
    have HBX:=Lib.hid hbx
    have HC0:Hid (Below W1.heap.size W1 W1.drew):=(Below.refl _ _).drew
    clear hb1 hz1' hbx x0 x1
    refine wp_region_float 5 5 (fun W=>W.heap[wr.heap.size]? = some (Obj.cells #[.int .i64 y.t,.slice r1 y.r.length r2] 30 (0,0))) mixed (by kernel_rfl) HBX.out ?_
    simp only [List.take_succ_cons,List.take_zero,List.drop_succ_cons,List.drop_zero]
    repeat (
     refine wpFloat_ex (fun K hK=>?_)
     apply Exists.intro
     refine ⟨fun W hW=>?_,?_⟩
     · have e0:=cells_at hW 0
       have e1:=cells_at hW 1
       clear hW
       go_simp
       rfl
     go_simp
     refine hK _ ?_
     clear hK K)
    refine wpFloat_nil ?_
    refine wpChain_step (fun K hK=>?_)
    go_simp
    go_at_call 136
    refine (HC.out _ (HB1.out.trans (HC0.out.mono HB1.out.size))).mono ?_
    rintro e' w5 ⟨r5,rfl,hr5,hb5⟩
    have HR5:=Lib.hid hr5
    have HO5:Hid (Below W1.heap.size W1 w5):=HC0.out.trans hb5
    obtain ⟨sa,sn,sc,rfl⟩:∃ a n c,r5=.slice a n c:=by obtain ⟨a,c,h,_⟩:=HR5.out;exact ⟨a,_,c,h⟩
    refine hK _ _ rfl (fun _=>(HO5.out.block _ (heap_lt HBX.out)).trans HBX.out) ?_
    clear hK K hr5 hb5
    refine wpChain_step (fun K hK=>?_)
    go_simp
    refine hK _ _ rfl (fun _=>(HO5.out.block _ (heap_lt HBX.out)).trans HBX.out) ?_
    clear hK K
    refine wpChain_step (fun K hK=>?_)
    go_simp
    refine hK _ _ rfl (fun _=>((HO5.out.alloc HO5.out.size _).block _ (heap_lt HBX.out)).trans HBX.out) ?_
    clear hK K
    have hb5:Below wr.heap.size wr w5:=HB1.out.trans (HO5.out.mono HB1.out.size)
    have hw5:Below wr.heap.size wr (w5.alloc (Obj.cells #[.int .i64 y.t,.slice sa sn sc] 30)):=hb5.alloc hb5.size _
    have hs5:=HO.out.own.keep (w':=w5.alloc (Obj.cells #[.int .i64 y.t,.slice sa sn sc] 30)) fun g hg=>hw5.block g (HO.out.own.lt_of hg)
    have hsrc:Src (w5.alloc (Obj.cells #[.int .i64 y.t,.slice sa sn sc] 30)) 2 (.slice (some ⟨w5.heap.size,0,none⟩) 1 1) 1 (evC [(y,.slice sa sn sc)]):=SlOwn.src (e:=30) (blk:=some w5.heap.size) ⟨rfl,.inr ⟨_,0,1,_,rfl,rfl,World.alloc_heap_new w5 _,Nat.le_refl _,by simp [maxLen],by simp,rfl⟩⟩
    have hone:∀ u ∈ evC [(y,Value.slice sa sn sc)],u.oneCell'=true:=fun u hu=>by simp only [evC,List.mem_cons,List.not_mem_nil,or_false] at hu;rcases hu with rfl | rfl <;> rfl
    have HB5:=Lib.hid hb5
    have HS5:=Lib.hid hs5
    have HSRC:=Lib.hid hsrc
    have HONE:=Lib.hid hone
    clear hs5 hsrc hone hw5 hb5
    refine wpChain_step (fun K hK=>?_)
    refine wp_append_S (.tmp 12) (.tmp 19) 24 rfl 30 i0 _ 2 32 Tryz.underlying24 hi0 hz0 hz1 hz2 rfl (by omega) (.slice oa ps.length oc) ps.length (evC ps) blk rfl HS5.out (.slice (some ⟨w5.heap.size,0,none⟩) 1 1) 1 (evC [(y,.slice sa sn sc)]) rfl HSRC.out HONE.out (by simp only [maxLen];omega) (by omega) ?_
    intro v6 w6 bk6 hown6 hgrow6 hat6
    have hc6:w6.heap[wr.heap.size]? = some (Obj.cells #[.int .i64 y.t,.slice r1 y.r.length r2] 30 (0,0)):=(hgrow6.block _ (by have:=((HO5.out.alloc HO5.out.size (Obj.cells #[.int .i64 y.t,.slice sa sn sc] 30)).size);have:=heap_lt HBX.out;omega) (fun e=>by have:=HO.out.own.lt_of e.symm;omega)).trans (((HO5.out.alloc HO5.out.size _).block _ (heap_lt HBX.out)).trans HBX.out)
    refine hK _ _ rfl (fun _=>hc6) ?_
    clear hK K
    refine wpChain_step (fun K hK=>?_)
    go_simp
    refine hK _ _ rfl (fun _=>hc6) ?_
    clear hK K
    refine wpChain_nil ?_
    have HNX:=Lib.hid (HO.out.add HB5.out (HR5.out.mono fun b hb=>by have h1:=hb;have h2:W1.drew.heap.size=W1.heap.size:=rfl;have h3:=HZ1.out;omega) hown6 hgrow6 hat6)
    clear hown6 hgrow6 hat6 hc6
    go_wp2_with fail
    go_roundw
    case rel=>exact ⟨ps.length+1,_,_,by omega,by go_num,Lib.hid (by rw [List.map_append,HE.out];exact HT.out),HNX⟩
    case measure=>simp [intOf];omega
  · have hkl:ps.length=l.length:=by omega
    have HF:=Lib.hid (HO.out.owned (l:=l) (by rw [HE.out,hkl,List.take_length]))
    go_wp2_with fail
    go_ret
    exact ⟨_,_,rfl,HF.out⟩
end leaves
section leaves
set_option maxHeartbeats 1000000
set_option maxRecDepth 10000
theorem f81_any (w:World) (b g:Nat) (y n:Int) (hb:w.heap[b]? = some (.cells #[.slice (some ⟨g,0,none⟩) 1 1,.int .i64 y] 204 (0,0))) (hg:w.heap[g]? = some (.cells #[.int .i64 y,.bool false,.bool false] 202 (0,0)))
 (h1 : -1000000000000≤n) (h2:n≤1000000000001) (h3:y≤n) :
 Calls Tryz.prog 81 #[ptr b,.int .i64 0,.int .i64 n] w fun e w'=>e=.returned (.int .i64 0)∧Only (fun k=>k=b∨k=g) w w' ∧
  w'.heap[b]? = some (.cells #[.slice (some ⟨g,0,none⟩) 1 1,.int .i64 n] 204 (0,0))∧w'.heap[g]? = some (.cells #[.int .i64 n,.bool false,.bool false] 202 (0,0)):=by
 have hne:b≠g:=by intro e;subst e;rw [hb] at hg;cases hg
 have c0:=cells_at hb 0
 have c1:=cells_at hb 1
 have d0:=cells_at hg 0
 have d1:=cells_at hg 1
 have hblt:=heap_lt hb
 have hglt:=heap_lt hg
 have hf0:w.frozen? ⟨g,0,none⟩=false:=by simp [World.frozen?,hg]
 have g1:=heap_set (j:=0) hg (.int .i64 n)
 have hf1:(w.setCell ⟨g,0,none⟩ (.int .i64 n)).frozen? ⟨g,1,none⟩=false:=by simp [World.frozen?,g1]
 have g2:=heap_set (j:=1) g1 (.bool false)
 have b2:((w.setCell ⟨g,0,none⟩ (.int .i64 n)).setCell ⟨g,1,none⟩ (.bool false)).heap[b]? = some (.cells #[.slice (some ⟨g,0,none⟩) 1 1,.int .i64 y] 204 (0,0)):=by rw [heap_set_ne _ hne,heap_set_ne _ hne];exact hb
 have g2':((w.setCell ⟨g,0,none⟩ (.int .i64 n)).setCell ⟨g,1,none⟩ (.bool false)).heap[g]? = some (.cells #[.int .i64 n,.bool false,.bool false] 202 (0,0)):=by simpa using g2
 have HO:Hid (Only (fun k=>k=b∨k=g) w ((w.setCell ⟨g,0,none⟩ (.int .i64 n)).setCell ⟨g,1,none⟩ (.bool false))) :=
  Only.setCell (S:=fun k=>k=b∨k=g) (p:=⟨g,1,none⟩) (Only.setCell (S:=fun k=>k=b∨k=g) (p:=⟨g,0,none⟩) (Only.refl _ _) (fun _=>.inr rfl) _) (fun _=>.inr rfl) _
 have H149:=Lib.hid (f149_any ((w.setCell ⟨g,0,none⟩ (.int .i64 n)).setCell ⟨g,1,none⟩ (.bool false)) b g y n b2 g2')
 have HK:Hid (∀ w1,Below ((w.setCell ⟨g,0,none⟩ (.int .i64 n)).setCell ⟨g,1,none⟩ (.bool false)).heap.size ((w.setCell ⟨g,0,none⟩ (.int .i64 n)).setCell ⟨g,1,none⟩ (.bool false)) w1 →
  w1.heap[b]? = some (.cells #[.slice (some ⟨g,0,none⟩) 1 1,.int .i64 y] 204 (0,0))∧w1.heap[g]? = some (.cells #[.int .i64 n,.bool false,.bool false] 202 (0,0))∧Only (fun k=>k=b∨k=g) w w1) :=
  fun w1 h=>⟨(h.block b (heap_lt b2)).trans b2,(h.block g (heap_lt g2')).trans g2',HO.out.trans (Only.of_below (S:=fun _=>False) h) (fun _ _ h=>h.elim)⟩
 have HW1:=Lib.hid (f129_any w 0 0 0)
 have HW2:=Lib.hid (f129_any w n (-1000000000000) 1000000000001)
 rw [show withinB 0 0 0=true by decide] at HW1
 rw [show withinB n (-1000000000000) 1000000000001=true by simp [withinB,h1,h2]] at HW2
 have hlt:¬ n<y:=by omega
 unfold ptr at H149 ⊢
 clear hb hg g1 g2 b2 g2'
 go_enter Tryz.func81,Tryz.ntmps81
 go_wp2_with (first
  | (go_at_call 129;(with_reducible refine HW1.out.mono ?_);rintro e w1 ⟨rfl,rfl⟩)
  | (go_at_call 129;(with_reducible refine HW2.out.mono ?_);rintro e w1 ⟨rfl,rfl⟩)
  | (go_at_call 149;with_reducible refine H149.out.mono ?_;rintro e w1 ⟨rfl,hb1⟩;obtain ⟨kb,kg,ko⟩:=HK.out w1 hb1;have e0:=cells_at kb 1;have hf2:w1.frozen? ⟨b,1,none⟩=false:=by simp [World.frozen?,kb]
     have HKB:=Lib.hid kb;have HKG:=Lib.hid kg;have HKO:=Lib.hid ko;clear hb1 kb kg ko))
 all_goals
  first
   | (exfalso;omega)
   | (go_ret
      have hb3:=heap_set (j:=1) HKB.out (.int .i64 n)
      exact ⟨rfl,HKO.out.setCell (p:=⟨b,1,none⟩) (fun _=>.inl rfl) _,by simpa using hb3,by rw [heap_set_ne _ (Ne.symm hne)];exact HKG.out⟩)
   | (obtain rfl:y=n:=by omega
      go_ret
      have hb3:=heap_set (j:=1) HKB.out (.int .i64 y)
      exact ⟨rfl,HKO.out.setCell (p:=⟨b,1,none⟩) (fun _=>.inl rfl) _,by simpa using hb3,by rw [heap_set_ne _ (Ne.symm hne)];exact HKG.out⟩)
end leaves
theorem riseN_sl {l:List SpM} {sl:Bool} {r:Nat} (h:sl=true):(riseN l sl r).2=true:=by
 subst h
 unfold riseN
 have key:∀ (l:List SpM) (a:Int×Bool),a.2=true→(l.foldl (riseStep r) a).2=true:=by
  intro l
  induction l with
  | nil=>intro a ha;exact ha
  | cons x l ih =>
    intro a ha
    refine ih _ ?_
    unfold riseStep
    split
    · rfl
    · exact ha
 exact key l _ rfl
section leaves
set_option maxHeartbeats 1000000
set_option maxRecDepth 10000
theorem f82_any (w:World) (col:Nat→Nat) (s:List Col) (ws:WS) (m:WlM) (r:Nat) (h:WAt w col s ws m) (hok:WOk m) (hr:r<m.marks.length) :
 Calls Tryz.prog 82 #[ptr ws.W,.int .i64 r] w fun e w'=>e=.returned (.tuple #[])∧WAt w' col s ws (risenM m r)∧Only (fun b=>col b≠0) w w':=by
 obtain ⟨a,c,e⟩:=h.splForm
 obtain ⟨a',c',e'⟩:=h.rdForm
 obtain ⟨_,_,c2,_,c4,c5,_⟩:=h.cells
 have hWs:=cell_lt c2
 rw [e] at c2
 rw [e'] at c4
 have H:=Lib.hid h
 have h50:=hok.splits
 have h16:=hok.hi
 have HG:=Lib.hid hok.gauge
 have HMK:=Lib.hid hok.marks
 obtain ⟨sl,hsl⟩:∃ b,m.sealed=b:=⟨_,rfl⟩
 rw [hsl] at c5
 have HSL:=Lib.hid hsl
 unfold ptr
 clear h hok hsl
 go_enter Tryz.func82,Tryz.ntmps82
 go_wp2_with fail
 go_loopw [4,5,18] (fun t u i wr=>∃ k:Nat,k≤m.splits.length∧i=.int .i64 k∧t=.int .i64 (riseN (m.splits.take k) sl r).1∧u=.bool (riseN (m.splits.take k) sl r).2∧Hid (Below w.heap.size w wr)) (fun _ _ i _=>m.splits.length - (intOf i).toNat)
 case atStart=>exact ⟨0,by omega,rfl,rfl,rfl,Lib.hid (Below.refl _ _)⟩
 case round =>
  obtain ⟨k,hk,rfl,rfl,rfl,hbr⟩:=hrel
  by_cases hlt:k<m.splits.length
  · have HW:=Lib.hid (H.out.below hbr.out)
    obtain ⟨g,o,e1,e2,rfl,hg,x0,hev,hxb,x1,y1,y2,y3,y4,y5⟩:=HW.out.split e hlt
    obtain ⟨_,_,_,_,_,c5',_⟩:=HW.out.cells
    rw [HSL.out] at c5'
    have H138:=Lib.hid (f138_any wr (ws.xb k) _ _ _ _ _ y1 y2 y4)
    have hgk:=HW.out.hG k hlt
    have HK:Hid (∀ w1,Below wr.heap.size wr w1→w1.cell? ⟨ws.xb k,3,none⟩=some (.pointer (some ⟨ws.gb k,0,none⟩))∧Calls Tryz.prog 150 #[.pointer (some ⟨ws.gb k,0,none⟩)] w1 fun e w'=>e=.returned (.int .i64 m.splits[k].mark)∧w1=w') :=
     fun w1 h=>⟨by rw [h.cell (p:=⟨ws.xb k,3,none⟩) hxb];exact y3,f150_any w1 (ws.gb k) _ (by rw [cells_at ((h.block _ (heap_lt hgk)).trans hgk)];rfl)⟩
    have hb0:=riseN_bound (l:=m.splits.take k) (sl:=sl) (r:=r) (fun x hx=>HG.out x (List.mem_of_mem_take hx))
    have hsu:sl=true→(riseN (m.splits.take k) sl r).2=true:=fun h=>riseN_sl h
    have HS:Hid (riseN (m.splits.take (k+1)) sl r=riseStep r ((riseN (m.splits.take k) sl r).1,(riseN (m.splits.take k) sl r).2) m.splits[k]):=riseN_take hlt
    generalize (riseN (m.splits.take k) sl r).1=T at *
    generalize (riseN (m.splits.take k) sl r).2=U at *
    obtain ⟨dn,hdn⟩:∃ b,m.splits[k].done=b:=⟨_,rfl⟩
    have hdn':(m.splits[k].sealed && ((m.splits[k].read:Int) == (m.splits[k].evs.length:Int)))=dn:=hdn
    rw [hdn'] at H138
    have HDN:=Lib.hid hdn
    unfold ptr at H138
    have hon:(m.splits[k].owner == r)=((m.splits[k].owner:Int) == (r:Int)):=by rw [Bool.eq_iff_iff];simp only [beq_iff_eq];omega
    clear hdn hdn' e y1 y2 y4 hev hgk
    cases ho:((m.splits[k].owner:Int) == (r:Int))
    · have HU:Hid (riseN (m.splits.take (k+1)) sl r=(T,U)):=by
       show _=_
       rw [HS.out,riseStep,hon,ho];rfl
      clear hon
      go_wp2_with fail
      go_roundw
      case rel=>exact ⟨k+1,by omega,by go_num,by rw [HU.out],by rw [HU.out],hbr⟩
      case measure=>simp [intOf];omega
    · have HU:Hid (riseN (m.splits.take (k+1)) sl r=if dn=true then (T,U) else (if m.splits[k].gauge<T then m.splits[k].gauge else T,true)):=by
       show _=_
       rw [HS.out,riseStep,hon,ho,HDN.out];cases dn <;> rfl
      have HM:Hid (m.splits[k].mark=if dn=true then 1000000000001 else m.splits[k].gauge):=by show m.splits[k].mark=_;rw [SpM.mark,HDN.out]
      clear hon HS
      generalize m.splits[k].mark=M at HK HM
      obtain ⟨z3,z4⟩:=HK.out wr (Below.refl _ _)
      have Z4:=Lib.hid z4
      clear z4
      cases sl
      · cases dn
        · go_wp2_with (first
           | (go_at_call 138;with_reducible refine H138.out.mono ?_;rintro e w1 ⟨rfl,hb1⟩;obtain ⟨z5,z6⟩:=HK.out w1 hb1;have Z6:=Lib.hid z6;have HB1:=Lib.hid hb1;clear hb1 z6)
           | (go_at_call 150;with_reducible refine Z6.out.mono ?_;rintro e w2 ⟨rfl,rfl⟩))
          go_roundw
          case rel=>exact ⟨k+1,by omega,by go_num,by rw [HU.out,HM.out];simp,by rw [HU.out];simp,Lib.hid (below_then hbr.out HB1.out)⟩
          case measure=>simp [intOf];omega
        · go_wp2_with (first
           | (go_at_call 138;with_reducible refine H138.out.mono ?_;rintro e w1 ⟨rfl,hb1⟩;have HB1:=Lib.hid hb1;clear hb1))
          go_roundw
          case rel=>exact ⟨k+1,by omega,by go_num,by rw [HU.out];simp,by rw [HU.out];simp,Lib.hid (below_then hbr.out HB1.out)⟩
          case measure=>simp [intOf];omega
      · obtain rfl:=hsu rfl
        go_wp2_with (first
         | (go_at_call 150;with_reducible refine Z4.out.mono ?_;rintro e w2 ⟨rfl,rfl⟩))
        go_roundw
        case rel =>
         refine ⟨k+1,by omega,by go_num,?_,?_,hbr⟩
         · rw [HU.out,HM.out]
           cases dn
           · simp
           · simp;omega
         · rw [HU.out];cases dn <;> simp
        case measure=>simp [intOf];omega
  · have hkl:k=m.splits.length:=by omega
    subst hkl
    rw [List.take_length]
    have HW:=Lib.hid (H.out.below hbr.out)
    obtain ⟨_,_,_,_,c4',_,_⟩:=HW.out.cells
    rw [e'] at c4'
    obtain ⟨g,o,rfl,hg,x0,x1⟩:=HW.out.reader e' hr
    have hb0:=riseN_bound (l:=m.splits) (sl:=sl) (r:=r) HG.out
    have HRM:Hid (risenM m r=if ((riseN m.splits sl r).2 && decide (m.marks[r]<(riseN m.splits sl r).1))=true then { m with marks:=m.marks.set r (riseN m.splits sl r).1 } else m):=by
     show risenM m r=_
     rw [risenM,HSL.out]
     simp [List.getD,hr]
    have hbb:=HW.out.hB r hr
    have hbi:=HW.out.hI r hr
    have hmm:=HMK.out _ (List.getElem_mem hr)
    have HA:Hid (Below wr.heap.size wr (wr.alloc (.cells #[.pointer (some ⟨ws.mb r,0,none⟩)] 104))):=(Below.refl _ _).alloc (Nat.le_refl _) _
    have a1:=(HA.out.block _ (heap_lt hbb)).trans hbb
    have a2:=(HA.out.block _ (heap_lt hbi)).trans hbi
    have a3:(wr.alloc (.cells #[.pointer (some ⟨ws.mb r,0,none⟩)] 104)).cell? ⟨ws.mb r,1,none⟩=some (.int .i64 m.marks[r]):=by rw [cells_at a1];rfl
    have H48:=Lib.hid (f48_any _ (ws.mb r) _ a3)
    have HW2:=Lib.hid (HW.out.below HA.out)
    have HBR:=Lib.hid (hbr.out.trans (HA.out.mono hbr.out.size))
    generalize (riseN m.splits sl r).1=T at *
    generalize (riseN m.splits sl r).2=U at *
    unfold ptr at x0 H48
    clear x1 a3 e hbb hbi
    cases U
    · go_wp2_with fail
      go_returns
      exact ⟨rfl,by rw [HRM.out];exact HW2.out,Only.of_below HBR.out⟩
    · by_cases hgt:m.marks[r]<T
      · have H81:=Lib.hid (f81_any _ (ws.mb r) (ws.ib r) _ T a1 a2 (by omega) (by omega) (by omega))
        unfold ptr at H81
        clear a1 a2
        go_wp2_with (first
         | (go_at_call 48;with_reducible refine H48.out.mono ?_;rintro e w2 ⟨rfl,rfl⟩)
         | (go_at_call 81;with_reducible refine H81.out.mono ?_;rintro e w2 ⟨rfl,ho,h1,h2⟩;have HO:=Lib.hid ho;have H1:=Lib.hid h1;have H2:=Lib.hid h2;clear ho h1 h2))
        go_returns
        refine ⟨rfl,?_,?_⟩
        · rw [HRM.out,if_pos (by simpa using hgt)]
          exact HW2.out.setMark hr T HO.out H1.out H2.out
        · exact (Only.of_below HBR.out).trans HO.out (fun x _ hx=>by rcases hx with rfl | rfl;rw [HW2.out.cB r hr];omega;rw [HW2.out.cI r hr];omega)
      · clear a1 a2
        go_wp2_with (first
         | (go_at_call 48;with_reducible refine H48.out.mono ?_;rintro e w2 ⟨rfl,rfl⟩))
        go_returns
        refine ⟨rfl,?_,Only.of_below HBR.out⟩
        rw [HRM.out,if_neg (by simpa using hgt)]
        exact HW2.out
end leaves
end Go.Proofs.YtimahogkcmmcnaaGreatDoor
