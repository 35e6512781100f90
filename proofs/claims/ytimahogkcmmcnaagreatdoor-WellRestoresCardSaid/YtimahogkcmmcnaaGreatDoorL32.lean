/-
 The well, part 69: what becomes of a well from act to act: the plain part. No conditions but those stated.
-/
import Derived.Test.YtimahogkcmmcnaaGreatDoorL29
import Derived.Test.YtimahogkcmmcnaaGreatDoorL31
import Derived.Test.YtimahogkcmmcnaaGreatDoorL30
import Derived.Test.YtimahogkcmmcnaaGreatDoorL10
set_option linter.unusedSimpArgs false
set_option linter.unusedVariables false
namespace Go.Proofs.YtimahogkcmmcnaaGreatDoor
open Go.RowKit Go.Proofs.YtimahogkcmmcnaaGreatDoor.Cmps
structure Later (m m':WlM):Prop where
 len:m'.marks.length=m.marks.length
 marks:∀ i (h:i<m.marks.length) (h':i<m'.marks.length),m.marks[i]≤m'.marks[i]
theorem Later.refl (m:WlM):Later m m:=⟨rfl,fun _ _ _=>Int.le_refl _⟩
theorem Later.trans {a b c:WlM} (h:Later a b) (g:Later b c):Later a c :=
 ⟨g.len.trans h.len,fun i h1 h2=>Int.le_trans (h.marks i h1 (by rw [h.len];exact h1)) (g.marks i _ h2)⟩
theorem Later.same {m m':WlM} (h:m'.marks=m.marks):Later m m':=⟨by rw [h],fun i h1 h2=>by simp [h]⟩
theorem later_risen (m:WlM) (q:Nat):Later m (risenM m q):=⟨risenM_len m q,fun i h1 _=>marks_rise m q i h1⟩
theorem later_marked (m:WlM) (n:Nat):Later m (markedM m n):=by
 induction n with
 | zero=>exact Later.refl m
 | succ n ih=>rw [markedM_succ];exact ih.trans (later_risen _ _)
theorem Later.risen {a b:WlM} (e:b.marks=a.marks) (q:Nat):Later a (risenM b q):=(Later.same e).trans (later_risen b q)
theorem Later.marked {a b:WlM} (e:b.marks=a.marks) (n:Nat):Later a (markedM b n):=(Later.same e).trans (later_marked b n)
theorem markedM_splits (m:WlM) (n:Nat):(markedM m n).splits=m.splits:=by
 induction n with
 | zero=>rfl
 | succ n ih=>rw [markedM_succ,risenM_splits,ih]
theorem uniq_of {l:List SpM}:(∀ i j (hi:i<l.length) (hj:j<l.length),l[i].name=l[j].name→i=j)↔(l.map SpM.name).Nodup:=by
 unfold List.Nodup
 rw [List.pairwise_iff_getElem]
 constructor
 · intro h i j hi hj hij e
   have:=h i j (by simpa using hi) (by simpa using hj) (by simpa using e)
   omega
 · intro h i j hi hj e
   rcases Nat.lt_trichotomy i j with hij | hij | hij
   · exact absurd (by rw [List.getElem_map,List.getElem_map];exact e) (h i j (by simpa using hi) (by simpa using hj) hij)
   · exact hij
   · exact absurd (by rw [List.getElem_map,List.getElem_map];exact e.symm) (h j i (by simpa using hj) (by simpa using hi) hij)
theorem Uniq.names {m m':WlM} (h:Uniq m) (e:m'.splits.map SpM.name=m.splits.map SpM.name):Uniq m':=by
 unfold Uniq at *
 rw [uniq_of] at h ⊢
 rw [e];exact h
theorem names_set {l:List SpM} {k:Nat} (hk:k<l.length) {x:SpM} (h:x.name=l[k].name):(l.set k x).map SpM.name=l.map SpM.name:=by
 rw [List.map_set,h]
 have:(l.map SpM.name)[k]'(by simpa using hk)=l[k].name:=by simp
 rw [← this,List.set_getElem_self]
theorem Uniq.setS {m:WlM} (h:Uniq m) {k:Nat} (hk:k<m.splits.length) {x:SpM} (e:x.name=m.splits[k].name):Uniq (m.setS k x) :=
 h.names (names_set hk e)
theorem Uniq.risen {m:WlM} (h:Uniq m) (q:Nat):Uniq (risenM m q):=h.names (by rw [risenM_splits])
structure Step0 (m m':WlM):Prop where
 later:Later m m'
 uniq:Uniq m→Uniq m'
 late:m'.late=m.late
theorem Step0.refl (m:WlM):Step0 m m:=⟨Later.refl m,id,rfl⟩
structure StepR (m m':WlM) (r late:Int):Prop where
 later:Later m m'
 uniq:Uniq m→Uniq m'
 late:late=m.late.length→lateI m r late=m'.late.length
 left:∀ j:Int,leftI m'.splits j=if (readR m r).2.2=0∧j=r then leftI m.splits j - 1 else leftI m.splits j
structure Kpt (b b':Int) (l l':List SpM):Prop where
 bound:b'=b
 names:l'.map SpM.name=l.map SpM.name
 gauge:∀ x' ∈ l',x'.gauge≤1000000000000 - b+1
structure Names (b:Int) (m:WlM):Prop where
 bd:m.bound=b
 uniq:Uniq m
 name:∀ x ∈ m.splits,nameB x.name=true
 gauge:∀ x ∈ m.splits,x.gauge≤1000000000000 - m.bound+1
theorem Names.of {b:Int} {m m':WlM} (h:Names b m) (k:Kpt m.bound m'.bound m.splits m'.splits):Names b m':=by
 refine ⟨k.bound.trans h.bd,h.uniq.names k.names,fun x hx=>?_,fun x hx=>by rw [k.bound];exact k.gauge x hx⟩
 have h1:x.name ∈ m'.splits.map SpM.name:=List.mem_map.2 ⟨x,hx,rfl⟩
 rw [k.names] at h1
 obtain ⟨y,hy,e⟩:=List.mem_map.1 h1
 rw [← e]
 exact h.name y hy
theorem markedM_bound (m:WlM):∀ n,(markedM m n).bound=m.bound
 | 0=>rfl
 | n+1=>by rw [markedM_succ,risenM_bound,markedM_bound m n]
theorem Names.set {b:Int} {m:WlM} (h:Names b m) {k:Nat} (hk:k<m.splits.length) {x:SpM} (e:x.name=m.splits[k].name) (hg:x.gauge≤1000000000000 - m.bound+1):Kpt m.bound m.bound m.splits (m.splits.set k x):=by
 refine ⟨rfl,?_,fun y hy=>?_⟩
 · rw [List.map_set,e]
   apply List.ext_getElem?
   intro i
   rw [List.getElem?_set]
   split
   · rename_i e2
     subst e2
     simp [hk]
   · rfl
 · rcases List.mem_or_eq_of_mem_set hy with hy | rfl
   · exact h.gauge y hy
   · exact hg
theorem newM_names (b:Int) (n:Nat):Names b (newM b n):=⟨rfl,fun i j hi=>absurd hi (by simp [newM]),(fun x hx=>by cases hx),(fun x hx=>by cases hx)⟩
theorem app_name {l:List SpM} {y:SpM} {i:Nat} (hi:i<(l ++ [y]).length):(l ++ [y])[i].name=if h:i<l.length then l[i].name else y.name:=by
 split
 · rename_i h;rw [List.getElem_append_left h]
 · rename_i h
   have e:i=l.length:=by simp at hi;omega
   subst e
   rw [List.getElem_concat_length rfl]
theorem Names.find {b:Int} {s:List Col} {m:WlM} (h:Names b m) (hok:WOk m) {n:ByteArray} {l:List Evt} (he:findE s m n l=0):Names b (findM m n l):=by
 have hsp:splitB s n l=true:=by
  cases hq:splitB s n l with
  | true=>rfl
  | false=>unfold findE at he;rw [if_pos hq] at he;cases he
 have hfi:findI m.splits n<0:=by
  unfold findE at he
  rw [hsp,if_neg (by simp)] at he
  by_cases h0:0≤findI m.splits n
  · rw [if_pos h0] at he;cases he
  · omega
 have hno:∀ i (hi:i<m.splits.length),m.splits[i].name≠n:=fun i hi e=>by
  have h1:=idxI_any (fun x:SpM=>eqS x.name n) m.splits
  have h2:m.splits.any (fun x=>eqS x.name n)=true:=List.any_eq_true.2 ⟨_,List.getElem_mem hi,eqS_true.mpr e⟩
  rw [h2] at h1
  have h3:findI m.splits n=idxI (fun x:SpM=>eqS x.name n) m.splits:=rfl
  simp at h1
  omega
 have hnb:nameB n=true:=by
  simp only [splitB,Bool.and_eq_true] at hsp
  exact hsp.1.2
 have hb:=hok.bound
 refine ⟨h.bd,fun i j hi hj e=>?_,fun x hx=>?_,fun x hx=>?_⟩
 · have hl:(findM m n l).splits.length=m.splits.length+1:=by simp [findM]
   have hat:∀ i (hi:i<(findM m n l).splits.length),(findM m n l).splits[i].name=if h:i<m.splits.length then m.splits[i].name else n:=fun i hi=>by
    exact app_name hi
   rw [hat i hi,hat j hj] at e
   by_cases h1:i<m.splits.length
   · by_cases h2:j<m.splits.length
     · rw [dif_pos h1,dif_pos h2] at e
       exact h.uniq i j h1 h2 e
     · rw [dif_pos h1,dif_neg h2] at e
       exact absurd e (hno i h1)
   · by_cases h2:j<m.splits.length
     · rw [dif_neg h1,dif_pos h2] at e
       exact absurd e.symm (hno j h2)
     · omega
 · rcases List.mem_append.1 hx with hx | hx
   · exact h.name x hx
   · rw [List.mem_singleton] at hx;subst hx;exact hnb
 · rcases List.mem_append.1 hx with hx | hx
   · exact h.gauge x hx
   · rw [List.mem_singleton] at hx;subst hx
     show (-1000000000000:Int)≤1000000000000 - m.bound+1
     omega
theorem Names.act {b:Int} {s:List Col} {m:WlM} (h:Names b m) (hok:WOk m) (x:ActM):Names b (actR s m x):=by
 unfold actR
 split
 · unfold findR
   split
   · rename_i he;exact h.find hok he
   · exact h
 · split
   · unfold moreR
     split
     · exact h
     · split
       · exact h
       · split
         · exact h
         · rename_i y hy
           split
           · exact h
           · split
             · exact h
             · obtain ⟨hk,e⟩:=List.getElem?_eq_some_iff.1 hy
               subst e
               exact h.of (h.set hk rfl (h.gauge (m.splits[(findI m.splits x.name).toNat]'hk) (List.getElem_mem hk)))
   · split
     · unfold sealR
       split
       · exact h
       · split
         · exact h
         · rename_i y hy
           split
           · exact h
           · obtain ⟨hk,e⟩:=List.getElem?_eq_some_iff.1 hy
             subst e
             refine h.of ?_
             unfold sealM
             rw [risenM_splits,risenM_bound]
             exact h.set hk rfl (h.gauge (m.splits[(findI m.splits x.name).toNat]'hk) (List.getElem_mem hk))
     · split
       · unfold sealAllR
         split
         · exact h
         · refine h.of ?_
           unfold sealAllM
           rw [markedM_splits,markedM_bound]
           exact ⟨rfl,rfl,h.gauge⟩
       · rcases readR_or m x.reader with h0 | ⟨q,k,hq,hk,hlt,mk2,hrq,ho,-,h1,-⟩
         · rw [readR_same h0]
           exact h
         · rw [h1]
           refine h.of ?_
           unfold readM
           rw [risenM_splits,risenM_bound]
           have ht:=hok.time _ (List.getElem_mem hk) _ (List.getElem_mem hlt)
           refine h.set hk rfl ?_
           have hg:=h.gauge _ (List.getElem_mem hk)
           show max m.splits[k].gauge ((m.splits[k].evs[m.splits[k].read]).t - m.bound+1)≤_
           omega
theorem Names.mark {b:Int} {m:WlM} (h:Names b m):∀ x ∈ m.splits,x.done=false→x.mark≤1000000000000 - m.bound+1:=fun x hx hd=>by
 unfold SpM.mark
 rw [hd,if_neg (by simp)]
 exact h.gauge x hx
theorem info88:(Tryz.prog.info? 88).map (fun i=>(i.zero,i.size,i.bytes))=some (some (.agg #[.string ⟨#[]⟩,.string ⟨#[]⟩,.slice none 0 0]),3,56):=by kernel_rfl
def givC:List (GivM×Value)→List Value
 | []=>[]
 | p :: l=>.string p.1.src :: .string p.1.name :: p.2 :: givC l
theorem givC_app:∀ ps qs:List (GivM×Value),givC (ps ++ qs)=givC ps ++ givC qs
 | [],_=>rfl
 | p :: l,qs=>by simp only [List.cons_append,givC,givC_app l qs]
theorem givC_at:∀ {ps:List (GivM×Value)} {i:Nat} (h:i<ps.length),(givC ps)[i * 3]? = some (.string ps[i].1.src)∧(givC ps)[i * 3+1]? = some (.string ps[i].1.name)∧(givC ps)[i * 3+2]? = some ps[i].2
 | [],i,h=>absurd h (by simp)
 | p :: l,0,_=>⟨rfl,rfl,rfl⟩
 | p :: l,i+1,h=>by
   have ih:=givC_at (ps:=l) (i:=i) (by simpa using h)
   have e:(i+1) * 3=i * 3+1+1+1:=by omega
   rw [e]
   exact ih
structure GivSt (w wr:World) (D:Nat→Prop) (o:Value) (ps:List (GivM×Value)) (blk:Option Nat):Prop where
 own:SlOwn wr 88 3 o ps.length (givC ps) blk
 new:∀ g,blk=some g→w.heap.size≤g
 evs:∀ p ∈ ps,EvtsAt wr (fun b=>(b<w.heap.size∧D b)∨(w.heap.size≤b∧b<wr.heap.size∧blk≠some b)) p.2 p.1.evs
 below:Below w.heap.size w wr
theorem GivSt.start (w:World) (D:Nat→Prop):GivSt w w D (.slice none 0 0) [] none:=⟨SlOwn.nil _ _ _,(fun g hg=>by cases hg),(fun p hp=>by cases hp),Below.refl _ _⟩
theorem GivSt.add {w wr w5 w6:World} {D:Nat→Prop} {o v':Value} {ps:List (GivM×Value)} {blk blk':Option Nat} {g:GivM} {r:Value} {ob:Obj} (h:GivSt w wr D o ps blk) (hb5:Below wr.heap.size wr w5) (hr:EvtsAt w5 (fun b=>(b<w.heap.size∧D b)∨(wr.heap.size≤b∧b<w5.heap.size)) r g.evs)
 (hs:SlOwn w6 88 3 v' (ps.length+1) (givC ps ++ givC [(g,r)]) blk') (hg:(w5.alloc ob).grownBy w6 blk) (hat:blk'=blk∨blk'=some (w5.alloc ob).heap.size):GivSt w w6 D v' (ps ++ [(g,r)]) blk':=by
 have hza:(w5.alloc ob).heap.size=w5.heap.size+1:=by simp
 have hz5:=hb5.size
 have hz6:=hg.size
 have hzw:=h.below.size
 have hblk:∀ g,blk'=some g→blk=some g∨w5.heap.size+1≤g:=fun g hgg=>by
  rcases hat with e | e
  · exact .inl (e ▸ hgg)
  · rw [hgg] at e;injection e with e;exact .inr (by omega)
 have hbl:∀ g,blk=some g→g<wr.heap.size:=fun g e=>h.own.lt_of e
 have hkeep:∀ {S:Nat→Prop} {r row},EvtsAt w5 S r row→(∀ b,S b→b<w5.heap.size→blk≠some b)→EvtsAt w6 S r row:=fun hx hS=>hx.keep fun b hb hl=>(hg.block b (by omega) (fun e=>hS b hb hl e.symm)).trans (Below.heap_alloc _ _ _ hl)
 have hb5w:Below w.heap.size w (w5.alloc ob):=(h.below.trans (hb5.mono hzw)).alloc (by omega) _
 refine ⟨by rw [givC_app];simpa using hs,fun g hgg=>?_,fun p hp=>?_,hb5w.grown hg (by omega) (fun q hq=>h.new q hq)⟩
 · rcases hblk g hgg with e | e
   · exact h.new g e
   · omega
 · rcases List.mem_append.1 hp with hp | hp
   · have h1:=(h.evs p hp).below hb5
     refine (hkeep h1 fun b hb _ e=>?_).mono fun b hb=>?_
     · rcases hb with hb | hb
       · have:=h.new b e;omega
       · exact hb.2.2 e
     · rcases hb with hb | hb
       · exact .inl hb
       · refine .inr ⟨hb.1,by omega,fun e=>?_⟩
         rcases hblk b e with h | h
         · exact hb.2.2 h
         · omega
   · rw [List.mem_singleton] at hp;subst hp
     refine (hkeep hr fun b hb _ e=>?_).mono fun b hb=>?_
     · rcases hb with hb | hb
       · have:=h.new b e;omega
       · have:=hbl b e;omega
     · rcases hb with hb | hb
       · exact .inl hb
       · refine .inr ⟨by omega,by omega,fun e=>?_⟩
         rcases hblk b e with h' | h'
         · have:=hbl b h';omega
         · omega
theorem GivSt.givs {w wr:World} {D:Nat→Prop} {o:Value} {ps:List (GivM×Value)} {blk:Option Nat} (h:GivSt w wr D o ps blk) {l:List GivM} (e:ps.map Prod.fst=l):∃ ev,GivsAt wr (fun b=>(b<w.heap.size∧D b)∨(w.heap.size≤b∧b<wr.heap.size)) o l ev:=by
 subst e
 obtain ⟨a,c,rfl⟩:=h.own.form
 refine ⟨fun i=>((ps.map Prod.snd).getD i .nilFunc),a,c,by rw [List.length_map],?_⟩
 by_cases h0:ps=[]
 · exact .inl (by rw [h0];rfl)
 · obtain ⟨b,off,rfl⟩:=h.own.some_of (List.length_pos_iff.2 h0)
   have hb:=own_blk h.own
   refine .inr ⟨b,off,rfl,.inr ⟨h.new b hb,h.own.lt_of hb⟩,fun i hi=>?_⟩
   have hi2:i<ps.length:=by simpa using hi
   obtain ⟨c0,c1,c2⟩:=givC_at hi2
   have e1:(ps.map Prod.fst)[i]=ps[i].1:=by simp
   have e2:(ps.map Prod.snd).getD i .nilFunc=ps[i].2:=by simp [List.getD,hi2]
   rw [e1]
   dsimp only
   rw [e2]
   refine ⟨(h.evs _ (List.getElem_mem hi2)).mono fun b hb=>?_,h.own.cell _ _ c0,h.own.cell _ _ c1,h.own.cell _ _ c2⟩
   rcases hb with hb | hb
   · exact .inl hb
   · exact .inr ⟨hb.1,hb.2.1⟩
theorem src_below {w w':World} {size m:Nat} {x:Value} {news:List Value} (h:Src w size x m news) (hb:Below w.heap.size w w'):Src w' size x m news:=by
 obtain ⟨h0,a,c,e,h⟩:=h
 refine ⟨h0,a,c,e,h.imp id ?_⟩
 rintro ⟨ad,e1,h⟩
 exact ⟨ad,e1,fun j u hu=>by
  have h2:=h j u hu
  rw [hb.cell (World.block_lt_of_cell? w _ h2)]
  exact h2⟩
def givX (m:WlM) (t:Nat) (ml:List Evt) (i:Nat):GivM:=⟨⟨#[]⟩,(m.splits.getD ((i+t % m.splits.length) % m.splits.length) ⟨⟨#[]⟩,0,[],0,0,false⟩).name,(m.splits.getD ((i+t % m.splits.length) % m.splits.length) ⟨⟨#[]⟩,0,[],0,0,false⟩).evs ++ (if i=0 then ml else [])⟩
def givL (m:WlM) (t:Nat) (ml:List Evt):List GivM:=(List.range m.splits.length).map (givX m t ml)
section leaves
set_option maxHeartbeats 2000000
set_option maxRecDepth 100000
theorem f26_any (hm:Tryz.prog.follows .mixedOrders=true) (w:World) (D:Nat→Prop) (s:List Col) (m:WlM) (p:RS) (t:Nat) (mv:Value) (ml:List Evt) (h:RefAt w D s m p) (ht:t≤9223372036854775807) (hn:m.splits.length≤50) (hel:∀ x ∈ m.splits,x.evs.length≤400) (hml:EvtsAt w D mv ml) (hmn:ml.length≤400) :
 Calls Tryz.prog 26 #[refV m p,.int .i64 t,mv] w fun e w'=>∃ r ev,e=.returned r∧GivsAt w' (fun b=>D b∨(w.heap.size≤b∧b<w'.heap.size)) r (givL m t ml) ev∧Below w.heap.size w w':=by
 have mixed:=hm
 obtain ⟨sch,⟨sa,sc⟩,mks,back⟩:=p
 obtain ⟨n,hn0⟩:∃ n,m.splits.length=n:=⟨_,rfl⟩
 have H:=Lib.hid h
 have HML:=Lib.hid hml
 obtain ⟨ma,mc,rfl⟩:∃ a c,mv=.slice a ml.length c:=by obtain ⟨a,c,e,_⟩:=hml;exact ⟨a,c,e⟩
 clear h hml
 unfold refV
 dsimp only
 rw [hn0] at hn ⊢
 go_enter Tryz.func26,Tryz.ntmps26
 go_wp2_with fail
 have hspl:=H.out.spl
 rw [hn0] at hspl
 have HSPL:=Lib.hid hspl
 clear hspl
 have HBX:Hid ((w.alloc (.cells #[sch,.int .i64 m.bound,.slice sa n sc,.slice mks.1 m.marks.length mks.2,.bool m.sealed,back] 45)).heap[w.heap.size]? = some (.cells #[sch,.int .i64 m.bound,.slice sa n sc,.slice mks.1 m.marks.length mks.2,.bool m.sealed,back] 45 (0,0))):=heap_alloc_new _ _
 have HB1:Hid (Below w.heap.size w (w.alloc (.cells #[sch,.int .i64 m.bound,.slice sa n sc,.slice mks.1 m.marks.length mks.2,.bool m.sealed,back] 45))):=(Below.refl _ _).alloc (Nat.le_refl _) _
 generalize w.alloc (.cells #[sch,.int .i64 m.bound,.slice sa n sc,.slice mks.1 m.marks.length mks.2,.bool m.sealed,back] 45)=w1 at HBX HB1 ⊢
 go_loopw [7,9] (fun ov i wr=>∃ (k:Nat) (gs:List (GivM×Value)) (blk:Option Nat),k≤n∧i=.int .i64 k∧Hid (gs.map Prod.fst=(List.range k).map (givX m t ml))∧Hid (GivSt w1 wr (fun b=>b<w.heap.size∧D b) ov gs blk)) (fun _ i _=>n - (intOf i).toNat)
 case atStart=>exact ⟨0,[],none,by omega,rfl,Lib.hid rfl,Lib.hid (GivSt.start _ _)⟩
 obtain ⟨k,gs,blk,hk,rfl,HE,HG⟩:=hrel
 obtain ⟨oa,oc,rfl⟩:=HG.out.own.form
 have hgk:gs.length=k:=by
  have:=congrArg List.length HE.out
  simpa using this
 subst hgk
 by_cases hlt:gs.length<n
 · have hkn:(gs.length:Int)<(n:Int):=by omega
   have hnz:¬ (n:Int)=0:=by omega
   have hb:Hid (Below w1.heap.size w1 wr):=HG.out.below
   obtain ⟨q,hq,hqn,hqe⟩:∃ q:Nat,(t:Int).tmod (n:Int)=(q:Int)∧q<n∧q=t % n:=⟨t % n,rfl,Nat.mod_lt _ (by omega),rfl⟩
   obtain ⟨j,hj,hjn,hje⟩:∃ j:Nat,((gs.length:Int)+(q:Int)).tmod (n:Int)=(j:Int)∧j<n∧j=(gs.length+q) % n:=⟨(gs.length+q) % n,rfl,Nat.mod_lt _ (by omega),rfl⟩
   have hwr:IntKind.i64.wrap ((gs.length:Int)+(q:Int))=(gs.length:Int)+(q:Int):=wrapI (by omega)
   have hjn2:(j:Int)<(n:Int):=by omega
   have hj0:(0:Int)≤(j:Int):=by omega
   have hgx:givX m t ml gs.length=⟨⟨#[]⟩,(m.splits[j]'(by omega)).name,(m.splits[j]'(by omega)).evs ++ (if gs.length=0 then ml else [])⟩:=by
    unfold givX
    have e:(gs.length+t % m.splits.length) % m.splits.length=j:=by rw [hn0,← hqe,← hje]
    rw [e]
    simp [List.getD,List.getElem?_eq_getElem (show j<m.splits.length by omega)]
   obtain ⟨a0,c0,he,hsp⟩:=HSPL.out
   have he1:sa=a0:=by injection he
   clear he
   subst he1
   have hsp:=hsp.resolve_left (fun e=>by rw [e] at hn0;simp at hn0;omega)
   obtain ⟨b,off,rfl,hDb,hsp⟩:=hsp
   obtain ⟨ev,hev,y0,y1,y2,y3,y4,y5⟩:=hsp j (by omega)
   have hxl:=hel _ (List.getElem_mem (show j<m.splits.length by omega))
   generalize m.splits[j]'(by omega)=x at hxl hev y0 y1 y2 y3 y4 y5 hgx
   have HGX:=Lib.hid hgx
   obtain ⟨ea,ec,rfl⟩:∃ a c,ev=.slice a x.evs.length c:=by obtain ⟨a,c,e,_⟩:=hev;exact ⟨a,c,e⟩
   clear hsp hgx hqe hje
   go_wp2_with fail
   have HCX:Hid (∀ W,Below w1.heap.size w1 W→W.cell? ⟨b,off+j * 6,none⟩=some (.string x.name)∧W.cell? ⟨b,off+j * 6+1,none⟩=some (.int .i64 x.owner)∧W.cell? ⟨b,off+j * 6+2,none⟩=some (.slice ea x.evs.length ec)∧W.cell? ⟨b,off+j * 6+3,none⟩=some (.int .i64 x.read)∧W.cell? ⟨b,off+j * 6+4,none⟩=some (.int .i64 x.gauge)∧W.cell? ⟨b,off+j * 6+5,none⟩=some (.bool x.sealed)):=fun W hb=>by
    have hbw:=HB1.out.trans (hb.mono HB1.out.size)
    have kc:∀ i v,w.cell? ⟨b,i,none⟩=some v→W.cell? ⟨b,i,none⟩=some v:=fun i v h=>by rw [hbw.cell (p:=⟨b,i,none⟩) (cell_lt h)];exact h
    exact ⟨kc _ _ y0,kc _ _ y1,kc _ _ y2,kc _ _ y3,kc _ _ y4,kc _ _ y5⟩
   clear y0 y1 y2 y3 y4 y5
   have HCL:Hid (∀ W,Below w1.heap.size w1 W→W.cell? ⟨w.heap.size,2,none⟩=some (.slice (some ⟨b,off,none⟩) n sc)):=fun W hb=>cells_at ((hb.block _ (heap_lt HBX.out)).trans HBX.out) 2
   have hC:Below w1.heap.size w1 wr.drew:=hb.out.trans ((Below.refl wr.heap.size wr).drew.mono hb.out.size)
   have hCr:Below wr.heap.size wr wr.drew:=(Below.refl wr.heap.size wr).drew
   refine wp_region_ord [0,1,2,3,4,5,6,7,8,9,10,11,12] (fun W=>Below w1.heap.size w1 W) mixed (by kernel_rfl) (fun hg=>?_)
   generalize wr.drew=wd at hC hCr ⊢
   iterate 8 (refine ord_rd hg hC (fun K hK=>?_);apply Exists.intro;refine ⟨fun W hW=>?_,?_⟩;(· have u2:=HCL.out W hW;go_simp;first | rfl | (rw [if_neg (by omega)];done));go_simp;refine hK _ ?_;clear hK K)
   iterate 3 (refine ord_rd hg hC (fun K hK=>?_);apply Exists.intro;refine ⟨fun W hW=>?_,?_⟩;(· have u2:=HCL.out W hW;obtain ⟨v0,v1,v2,v3,v4,v5⟩:=HCX.out W hW;go_simp;first | rfl | (rw [if_neg (by omega)];done));(try rw [hq]);(try rw [hwr]);(try rw [hj]);go_simp;refine hK _ ?_;clear hK K)
   iterate 2 (
    refine ord_on (fun K hK=>?_)
    go_simp
    refine hK _ _ rfl (hC.alloc hC.size _) ?_
    clear hK K)
   refine ord_end (by kernel_rfl) ?_
   have hb2:Below w1.heap.size w1 (wd.alloc (.cells #[.string x.name,.int .i64 x.owner,.slice ea x.evs.length ec,.int .i64 x.read,.int .i64 x.gauge,.bool x.sealed] 124)):=hC.alloc hC.size _
   have ha2:=heap_alloc_new wd (.cells #[.string x.name,.int .i64 x.owner,.slice ea x.evs.length ec,.int .i64 x.read,.int .i64 x.gauge,.bool x.sealed] 124)
   have HR2:Hid (Below wr.heap.size wr (wd.alloc (.cells #[.string x.name,.int .i64 x.owner,.slice ea x.evs.length ec,.int .i64 x.read,.int .i64 x.gauge,.bool x.sealed] 124))):=hCr.alloc hCr.size _
   clear hC hCr
   generalize wd.alloc (.cells #[.string x.name,.int .i64 x.owner,.slice ea x.evs.length ec,.int .i64 x.read,.int .i64 x.gauge,.bool x.sealed] 124)=w2 at hb2 ha2 HR2 ⊢
   generalize wd.heap.size=xb at ha2 ⊢
   have HB2:=Lib.hid hb2
   have HA2:=Lib.hid ha2
   obtain ⟨i0,hi0,hz0,hz1,hz2⟩:=info_parts info30
   obtain ⟨i8,hi8,hy0,hy1,hy2⟩:=info_parts info88
   have hbw2:Below w.heap.size w w2:=HB1.out.trans (hb2.mono HB1.out.size)
   have hbw3:Below w.heap.size w (w2.alloc (.cells #[] 30)):=hbw2.alloc hbw2.size _
   obtain ⟨ps,hps,hsrc0,hrow0⟩:=hev.parts
   have hsrc:=src_below hsrc0 hbw3
   have hrow:∀ p ∈ ps,RowAt (w2.alloc (.cells #[] 30)) D p.2 p.1.r:=fun p hp=>(hrow0 p hp).below hbw3
   have HROWW:=Lib.hid hrow0
   clear hsrc0 hrow0
   have HSRC:=Lib.hid hsrc
   have HPS:=Lib.hid hps
   have HROW:=Lib.hid hrow
   have HBW2:=Lib.hid hbw2
   have z2:=cells_at ((Below.heap_alloc w2 (.cells #[] 30) _ (heap_lt ha2)).trans ha2) 2
   have z0:=cells_at ((Below.heap_alloc w2 (.cells #[] 30) _ (heap_lt ha2)).trans ha2) 0
   have HA3:Hid (SlOwn (w2.alloc (.cells #[] 30)) 30 2 (.slice (some ⟨w2.heap.size,0,none⟩) 0 0) 0 [] (some w2.heap.size)):=⟨rfl,.inr ⟨_,0,0,_,rfl,rfl,heap_alloc_new w2 _,Nat.le_refl _,by simp [maxLen],by simp,rfl⟩⟩
   clear hps hrow hb2 ha2 hsrc
   by_cases hk0:gs.length=0
   · have hke:((gs.length:Int) == 0)=true:=by simp [hk0]
     have HK0:=Lib.hid hk0
     clear hk0
     obtain ⟨qs,hqe,hqs,hqr⟩:=HML.out.parts
     have HQE:=Lib.hid hqe
     have HQS:Hid (∀ W,Below w.heap.size w W→Src W 2 (.slice ma ml.length mc) ml.length (evC qs)∧∀ p ∈ qs,RowAt W D p.2 p.1.r):=Lib.hid fun W hbw=>⟨src_below hqs hbw,fun p hp=>(hqr p hp).below hbw⟩
     have HRW:Hid (∀ p ∈ ps ++ qs,RowAt w (fun b=>b<w.heap.size∧D b) p.2 p.1.r):=Lib.hid fun p hp=>by
      rcases List.mem_append.1 hp with hp | hp
      · exact (HROWW.out p hp).imp fun b hl hb=>⟨hl,hb⟩
      · exact (hqr p hp).imp fun b hl hb=>⟨hl,hb⟩
     clear hqe hqs hqr
     go_wp2_with (first
      | (at_builtin
         refine wpList_append_S rfl (.tmp 31) (.tmp 33) 24 rfl 30 i0 _ 2 32 Tryz.underlying24 hi0 hz0 hz1 hz2 rfl (by omega) (.slice (some ⟨w2.heap.size,0,none⟩) 0 0) 0 [] (some w2.heap.size) rfl HA3.out (.slice ea x.evs.length ec) x.evs.length (evC ps) rfl HSRC.out (evC_one HROW.out) (by simp only [maxLen];omega) (by omega) ?_
         intro v3 w3 bk3 hown3 hgrow3 hat3
         rw [List.nil_append,Nat.zero_add] at hown3
         obtain ⟨a3,c3,rfl⟩:=hown3.form
         have hza:(w2.alloc (.cells #[] 30)).heap.size=w2.heap.size+1:=by simp
         have hz2:=HR2.out.size
         have hxl:=heap_lt HA2.out
         have z3:=(hgrow3.block _ (by omega) (fun e=>by injection e with e;omega)).trans (alloc_keep (ob:=.cells #[] 30) HA2.out)
         have z30:=cells_at z3 0
         have hb3:Below wr.heap.size wr w3:=(HR2.out.alloc HR2.out.size (.cells #[] 30)).grown hgrow3 (by omega) (fun q e=>by injection e with e;omega)
         have hk3:∀ b,bk3=some b→wr.heap.size≤b:=fun b e=>by
          rcases hat3 with e2 | e2 <;> (rw [e] at e2;injection e2 with e2;omega)
         have hlt3:=heap_lt z3
         have HZ3:=Lib.hid z3
         have HBK:=Lib.hid hk3
         have HB3:=Lib.hid hb3
         have HO3:=Lib.hid hown3
         have hbw:Below w.heap.size w w3:=HB1.out.trans ((hb.out.trans (hb3.mono hb.out.size)).mono HB1.out.size)
         obtain ⟨hs3,hr3⟩:=HQS.out w3 hbw
         have HS3:=Lib.hid hs3;have HR3:=Lib.hid hr3
         clear hbw hs3 hr3
         have HZK:Hid (∀ b,bk3=some b→b≠xb):=Lib.hid fun b e=>by
          rcases hat3 with e2 | e2 <;> (rw [e] at e2;injection e2 with e2;omega)
         clear hown3 hgrow3 hat3 hza hz2 z3 hb3 hk3 hxl)
      | (at_builtin
         refine wpList_append_S rfl (.tmp 37) (.tmp 38) 24 rfl 30 i0 _ 2 32 Tryz.underlying24 hi0 hz0 hz1 hz2 rfl (by omega) (.slice a3 x.evs.length c3) x.evs.length (evC ps) bk3 rfl HO3.out (.slice ma ml.length mc) ml.length (evC qs) rfl HS3.out (evC_one HR3.out) (by simp only [maxLen];omega) (by omega) ?_
         intro v4 w4 bk4 hown4 hgrow4 hat4
         rw [← evC_app] at hown4
         obtain ⟨a4,c4,rfl⟩:=hown4.form
         have z4:=(hgrow4.block _ hlt3 (fun e=>by have:=HZK.out _ e.symm;omega)).trans HZ3.out
         have z40:=cells_at z4 0
         have hb4:Below wr.heap.size wr w4:=HB3.out.grown hgrow4 HB3.out.size (fun q e=>HBK.out q e)
         have HB4:=Lib.hid hb4
         have HO4:=Lib.hid hown4
         have HBK4:Hid (∀ b,bk4=some b→wr.heap.size≤b):=Lib.hid fun b e=>by
          rcases hat4 with e2 | e2
          · exact HBK.out b (e2 ▸ e)
          · rw [e] at e2;injection e2 with e2;have:=HB3.out.size;omega
         have HBE:Hid (Below wr.heap.size wr w4):=HB4
         have HOG:Hid (SlOwn (w4.alloc (.cells #[.string ⟨#[]⟩,.string x.name,.slice a4 (x.evs.length+ml.length) c4] 88)) 88 3 (.slice oa gs.length oc) gs.length (givC gs) blk):=Lib.hid (HG.out.own.keep fun b e=>(HBE.out.alloc HBE.out.size (.cells #[.string ⟨#[]⟩,.string x.name,.slice a4 (x.evs.length+ml.length) c4] 88)).block b (HG.out.own.lt_of e))
         have HSG:Hid (Src (w4.alloc (.cells #[.string ⟨#[]⟩,.string x.name,.slice a4 (x.evs.length+ml.length) c4] 88)) 3 (.slice (some ⟨w4.heap.size,0,none⟩) 1 1) 1 (givC [((⟨⟨#[]⟩,x.name,x.evs ++ ml⟩:GivM),.slice a4 (x.evs.length+ml.length) c4)])):=Lib.hid (SlOwn.src (e:=88) (blk:=some w4.heap.size) ⟨rfl,.inr ⟨_,0,1,_,rfl,rfl,World.alloc_heap_new w4 _,Nat.le_refl _,by simp [maxLen],by simp,rfl⟩⟩)
         have HEV:Hid (EvtsAt w4 (fun b=>(b<w1.heap.size∧b<w.heap.size∧D b)∨(wr.heap.size≤b∧b<w4.heap.size)) (.slice a4 (x.evs.length+ml.length) c4) (⟨⟨#[]⟩,x.name,x.evs ++ ml⟩:GivM).evs):=Lib.hid (by
          have hbw:Below w.heap.size w w4:=HB1.out.trans ((hb.out.trans (HBE.out.mono hb.out.size)).mono HB1.out.size)
          have ho:EvsOwn w4 (fun b=>b<w.heap.size∧D b) (.slice a4 (x.evs.length+ml.length) c4) (⟨⟨#[]⟩,x.name,x.evs ++ ml⟩:GivM).evs bk4:=⟨(ps ++ qs),(by rw [List.map_append,HPS.out,HQE.out]),(show SlOwn w4 30 2 _ (x.evs ++ ml).length _ bk4 by rw [List.length_append];exact HO4.out),fun p hp=>(HRW.out p hp).below hbw⟩
          exact (ho.evts (by simp;omega)).mono fun b hb2=>by
           rcases hb2 with hb2 | hb2
           · exact .inl ⟨Nat.lt_of_lt_of_le hb2.1 HB1.out.size,hb2⟩
           · exact .inr ⟨HBK4.out b hb2,HO4.out.lt_of hb2⟩)
         clear hown4 hgrow4 hat4 z4 hb4)
      | (at_builtin
         refine wpList_append_S rfl (.tmp 40) (.tmp 45) 60 rfl 88 i8 _ 3 56 Tryz.underlying60 hi8 hy0 hy1 hy2 rfl (by omega) (.slice oa gs.length oc) gs.length (givC gs) blk rfl HOG.out (.slice (some ⟨w4.heap.size,0,none⟩) 1 1) 1 (givC [((⟨⟨#[]⟩,x.name,x.evs ++ ml⟩:GivM),.slice a4 (x.evs.length+ml.length) c4)]) rfl HSG.out (fun u hu=>by simp only [givC,List.mem_cons,List.not_mem_nil,or_false] at hu;rcases hu with rfl | rfl | rfl <;> rfl) (by simp only [maxLen];omega) (by omega) ?_
         intro v5 w5 bk5 hown5 hgrow5 hat5
         have HNX:=Lib.hid (HG.out.add HBE.out HEV.out hown5 hgrow5 hat5)
         clear hown5 hgrow5 hat5))
     go_roundw
     case rel=>exact ⟨gs.length+1,gs ++ [((⟨⟨#[]⟩,x.name,x.evs ++ ml⟩:GivM),.slice a4 (x.evs.length+ml.length) c4)],bk5,by omega,by go_num,Lib.hid (by have e:=HGX.out;rw [if_pos HK0.out] at e;simp [List.map_append,HE.out,List.range_succ,e]),HNX⟩
     case measure=>simp [intOf];omega
   · have hke:((gs.length:Int) == 0)=false:=by simp [hk0]
     have HK0:=Lib.hid hk0
     clear hk0
     have HRW:Hid (∀ p ∈ ps,RowAt w (fun b=>b<w.heap.size∧D b) p.2 p.1.r):=Lib.hid fun p hp=>(HROWW.out p hp).imp fun b hl hb=>⟨hl,hb⟩
     go_wp2_with (first
      | (at_builtin
         refine wpList_append_S rfl (.tmp 31) (.tmp 33) 24 rfl 30 i0 _ 2 32 Tryz.underlying24 hi0 hz0 hz1 hz2 rfl (by omega) (.slice (some ⟨w2.heap.size,0,none⟩) 0 0) 0 [] (some w2.heap.size) rfl HA3.out (.slice ea x.evs.length ec) x.evs.length (evC ps) rfl HSRC.out (evC_one HROW.out) (by simp only [maxLen];omega) (by omega) ?_
         intro v3 w3 bk3 hown3 hgrow3 hat3
         rw [List.nil_append,Nat.zero_add] at hown3
         obtain ⟨a3,c3,rfl⟩:=hown3.form
         have hza:(w2.alloc (.cells #[] 30)).heap.size=w2.heap.size+1:=by simp
         have hz2:=HR2.out.size
         have hxl:=heap_lt HA2.out
         have z3:=(hgrow3.block _ (by omega) (fun e=>by injection e with e;omega)).trans (alloc_keep (ob:=.cells #[] 30) HA2.out)
         have z30:=cells_at z3 0
         have hb3:Below wr.heap.size wr w3:=(HR2.out.alloc HR2.out.size (.cells #[] 30)).grown hgrow3 (by omega) (fun q e=>by injection e with e;omega)
         have hk3:∀ b,bk3=some b→wr.heap.size≤b:=fun b e=>by
          rcases hat3 with e2 | e2 <;> (rw [e] at e2;injection e2 with e2;omega)
         have hlt3:=heap_lt z3
         have HZ3:=Lib.hid z3
         have HBK:=Lib.hid hk3
         have HB3:=Lib.hid hb3
         have HO3:=Lib.hid hown3
         have HBE:Hid (Below wr.heap.size wr w3):=HB3
         have HOG:Hid (SlOwn (w3.alloc (.cells #[.string ⟨#[]⟩,.string x.name,.slice a3 x.evs.length c3] 88)) 88 3 (.slice oa gs.length oc) gs.length (givC gs) blk):=Lib.hid (HG.out.own.keep fun b e=>(HBE.out.alloc HBE.out.size (.cells #[.string ⟨#[]⟩,.string x.name,.slice a3 x.evs.length c3] 88)).block b (HG.out.own.lt_of e))
         have HSG:Hid (Src (w3.alloc (.cells #[.string ⟨#[]⟩,.string x.name,.slice a3 x.evs.length c3] 88)) 3 (.slice (some ⟨w3.heap.size,0,none⟩) 1 1) 1 (givC [((⟨⟨#[]⟩,x.name,x.evs⟩:GivM),.slice a3 x.evs.length c3)])):=Lib.hid (SlOwn.src (e:=88) (blk:=some w3.heap.size) ⟨rfl,.inr ⟨_,0,1,_,rfl,rfl,World.alloc_heap_new w3 _,Nat.le_refl _,by simp [maxLen],by simp,rfl⟩⟩)
         have HEV:Hid (EvtsAt w3 (fun b=>(b<w1.heap.size∧b<w.heap.size∧D b)∨(wr.heap.size≤b∧b<w3.heap.size)) (.slice a3 x.evs.length c3) (⟨⟨#[]⟩,x.name,x.evs⟩:GivM).evs):=Lib.hid (by
          have hbw:Below w.heap.size w w3:=HB1.out.trans ((hb.out.trans (HBE.out.mono hb.out.size)).mono HB1.out.size)
          have ho:EvsOwn w3 (fun b=>b<w.heap.size∧D b) (.slice a3 x.evs.length c3) (⟨⟨#[]⟩,x.name,x.evs⟩:GivM).evs bk3:=⟨ps,HPS.out,HO3.out,fun p hp=>(HRW.out p hp).below hbw⟩
          exact (ho.evts (by simp;omega)).mono fun b hb2=>by
           rcases hb2 with hb2 | hb2
           · exact .inl ⟨Nat.lt_of_lt_of_le hb2.1 HB1.out.size,hb2⟩
           · exact .inr ⟨HBK.out b hb2,HO3.out.lt_of hb2⟩)
         clear hown3 hgrow3 hat3 hza hz2 z3 hb3 hk3 hxl)
      | (at_builtin
         refine wpList_append_S rfl (.tmp 40) (.tmp 45) 60 rfl 88 i8 _ 3 56 Tryz.underlying60 hi8 hy0 hy1 hy2 rfl (by omega) (.slice oa gs.length oc) gs.length (givC gs) blk rfl HOG.out (.slice (some ⟨w3.heap.size,0,none⟩) 1 1) 1 (givC [((⟨⟨#[]⟩,x.name,x.evs⟩:GivM),.slice a3 x.evs.length c3)]) rfl HSG.out (fun u hu=>by simp only [givC,List.mem_cons,List.not_mem_nil,or_false] at hu;rcases hu with rfl | rfl | rfl <;> rfl) (by simp only [maxLen];omega) (by omega) ?_
         intro v5 w5 bk5 hown5 hgrow5 hat5
         have HNX:=Lib.hid (HG.out.add HBE.out HEV.out hown5 hgrow5 hat5)
         clear hown5 hgrow5 hat5))
     go_roundw
     case rel=>exact ⟨gs.length+1,gs ++ [((⟨⟨#[]⟩,x.name,x.evs⟩:GivM),.slice a3 x.evs.length c3)],bk5,by omega,by go_num,Lib.hid (by have e:=HGX.out;rw [if_neg HK0.out,List.append_nil] at e;simp [List.map_append,HE.out,List.range_succ,e]),HNX⟩
     case measure=>simp [intOf];omega
 · have hkn:gs.length=n:=by omega
   have hx0:¬ (gs.length:Int)<(n:Int):=by omega
   have hl:gs.map Prod.fst=givL m t ml:=by rw [HE.out,hkn];unfold givL;rw [hn0]
   have hfin:=HG.out.givs hl
   have HBL:Hid (Below w.heap.size w wr):=HB1.out.trans (HG.out.below.mono HB1.out.size)
   have HZ1:=Lib.hid HB1.out.size
   have HFIN:=Lib.hid hfin
   clear hl hfin
   go_wp2_with fail
   go_ret
   obtain ⟨ev,hev⟩:=HFIN.out
   refine ⟨.slice oa gs.length oc,by rw [hkn];rfl,⟨ev,?_⟩,HBL.out⟩
   obtain ⟨a,c,e,h⟩:=hev
   refine ⟨a,c,e,h.imp id ?_⟩
   have hD:∀ b,((b<w1.heap.size∧b<w.heap.size∧D b)∨(w1.heap.size≤b∧b<wr.heap.size))→(D b∨(w.heap.size≤b∧b<wr.heap.size)):=fun b hb=>by
    rcases hb with hb | hb
    · exact .inl hb.2.2
    · exact .inr ⟨Nat.le_trans HZ1.out hb.1,hb.2⟩
   rintro ⟨b,off,e1,e2,h⟩
   exact ⟨b,off,e1,hD b e2,fun i hi=>⟨(h i hi).1.mono hD,(h i hi).2⟩⟩
end leaves
theorem rot_mod {i q n:Nat} (hi:i<n) (hq:q<n):(i+q) % n=if i+q<n then i+q else i+q - n:=by
 split
 · rename_i h;exact Nat.mod_eq_of_lt h
 · rename_i h
   rw [Nat.mod_eq_sub_mod (by omega),Nat.mod_eq_of_lt (by omega)]
section
variable {m : WlM} {t : Nat} {ml : List Evt}
theorem givL_len:(givL m t ml).length=m.splits.length:=by simp [givL]
theorem givL_at {i:Nat} (h:i<(givL m t ml).length):(givL m t ml)[i]=givX m t ml i:=by simp [givL]
theorem givX_at {i p:Nat} (hi:i<m.splits.length) (hp:p<m.splits.length) (e:(i+t % m.splits.length) % m.splits.length=p):givX m t ml i=⟨⟨#[]⟩,m.splits[p].name,m.splits[p].evs ++ (if i=0 then ml else [])⟩:=by
 unfold givX
 rw [e]
 simp [List.getD,List.getElem?_eq_getElem hp]
theorem giv_of {p:Nat} (hp:p<m.splits.length):∃ i,∃ hi:i<(givL m t ml).length,(givL m t ml)[i].name=m.splits[p].name∧∃ r,(r=ml∨r=[])∧(givL m t ml)[i].evs=m.splits[p].evs ++ r:=by
 have hn:0<m.splits.length:=by omega
 have hq:=Nat.mod_lt t hn
 have hk:∃ i,i<m.splits.length∧(i+t % m.splits.length) % m.splits.length=p:=by
  by_cases h:t % m.splits.length≤p
  · refine ⟨p - t % m.splits.length,by omega,?_⟩
    rw [rot_mod (by omega) hq,if_pos (by omega)]
    omega
  · refine ⟨p+m.splits.length - t % m.splits.length,by omega,?_⟩
    rw [rot_mod (by omega) hq,if_neg (by omega)]
    omega
 obtain ⟨i,hi,e⟩:=hk
 refine ⟨i,by rw [givL_len];exact hi,?_,(if i=0 then ml else []),by split <;> simp,?_⟩
 · rw [givL_at,givX_at hi hp e]
 · rw [givL_at,givX_at hi hp e]
theorem giv_from {i:Nat} (hi:i<(givL m t ml).length):∃ p,∃ hp:p<m.splits.length,p=(i+t % m.splits.length) % m.splits.length∧(givL m t ml)[i].name=m.splits[p].name∧(givL m t ml)[i].src=⟨#[]⟩:=by
 have hi2:i<m.splits.length:=by rw [givL_len] at hi;exact hi
 have hp:(i+t % m.splits.length) % m.splits.length<m.splits.length:=Nat.mod_lt _ (by omega)
 refine ⟨_,hp,rfl,?_,?_⟩
 · rw [givL_at,givX_at hi2 hp rfl]
 · rw [givL_at,givX_at hi2 hp rfl]
theorem givL_uniq (hu:Uniq m):GUniq (givL m t ml):=fun i j hi hj e=>by
 obtain ⟨p,hp,ep,np,-⟩:=giv_from hi
 obtain ⟨q,hq,eq,nq,-⟩:=giv_from hj
 rw [np,nq] at e
 have h:=hu p q hp hq e
 have hi2:i<m.splits.length:=by rw [givL_len] at hi;exact hi
 have hj2:j<m.splits.length:=by rw [givL_len] at hj;exact hj
 have hm:=Nat.mod_lt t (show 0<m.splits.length by omega)
 rw [ep,eq,rot_mod hi2 hm,rot_mod hj2 hm] at h
 split at h <;> split at h <;> omega
def givF (m:WlM) (t:Nat) (ml:List Evt) (x:SpM):GivM:=⟨⟨#[]⟩,x.name,(gOf (givL m t ml) x.name).evs⟩
theorem givF_at (hu:Uniq m) {i:Nat} (hi:i<(givL m t ml).length) {p:Nat} (hp:p<m.splits.length) (e:p=(i+t % m.splits.length) % m.splits.length):(givL m t ml)[i]=givF m t ml m.splits[p]:=by
 obtain ⟨q,hq,eq,nq,sq⟩:=giv_from hi
 have hpq:q=p:=by omega
 subst hpq
 have h:=gOf_at (givL_uniq hu) hi
 rw [nq] at h
 unfold givF
 rw [h]
 cases hg:(givL m t ml)[i] with
 | mk a b c =>
   rw [hg] at nq sq
   simp only at nq sq
   rw [nq,sq]
theorem givL_gives (hu:Uniq m):Gives m (givL m t ml) (givF m t ml):=by
 refine ⟨?_,fun x=>rfl⟩
 by_cases h0:m.splits.length=0
 · have e:m.splits=[]:=List.length_eq_zero_iff.1 h0
   have e2:givL m t ml=[]:=List.length_eq_zero_iff.1 (by rw [givL_len];exact h0)
   rw [e2,e]
   exact List.Perm.refl _
 · have hq:=Nat.mod_lt t (show 0<m.splits.length by omega)
   have h:givL m t ml=((m.splits.drop (t % m.splits.length)) ++ (m.splits.take (t % m.splits.length))).map (givF m t ml):=by
    apply List.ext_getElem
    · rw [givL_len];simp;omega
    · intro i h1 h2
      have hi:i<m.splits.length:=by rw [givL_len] at h1;exact h1
      have hp:(i+t % m.splits.length) % m.splits.length<m.splits.length:=Nat.mod_lt _ (by omega)
      rw [givF_at hu h1 hp rfl,List.getElem_map]
      congr 1
      by_cases hlt:i+t % m.splits.length<m.splits.length
      · rw [List.getElem_append_left (by simp;omega)]
        simp only [List.getElem_drop]
        congr 1
        rw [rot_mod hi hq,if_pos hlt]
        omega
      · rw [List.getElem_append_right (by simp;omega)]
        simp only [List.getElem_take]
        congr 1
        rw [rot_mod hi hq,if_neg hlt]
        simp
        omega
   rw [h]
   exact ((List.perm_append_comm).trans (by rw [List.take_append_drop])).map _
theorem giv_long (hu:Uniq m):∀ x ∈ m.splits,x.evs.length≤(gOf (givL m t ml) x.name).evs.length:=fun x hx=>by
 obtain ⟨p,hp,rfl⟩:=List.mem_iff_getElem.1 hx
 obtain ⟨i,hi,e,r,-,er⟩:=giv_of (t:=t) (ml:=ml) hp
 rw [← e,gOf_at (givL_uniq hu) hi,er,List.length_append]
 omega
theorem giv_perm:∀ x ∈ m.splits,∃ j,∃ h:j<(givL m t ml).length,(givL m t ml)[j].name=x.name:=fun x hx=>by
 obtain ⟨p,hp,rfl⟩:=List.mem_iff_getElem.1 hx
 obtain ⟨i,hi,e,-⟩:=giv_of (t:=t) (ml:=ml) hp
 exact ⟨i,hi,e⟩
theorem giv_pern:∀ g ∈ givL m t ml,∃ k,∃ h:k<m.splits.length,m.splits[k].name=g.name:=fun g hg=>by
 obtain ⟨i,hi,rfl⟩:=List.mem_iff_getElem.1 hg
 obtain ⟨p,hp,-,e,-⟩:=giv_from hi
 exact ⟨p,hp,e.symm⟩
theorem giv_sum (hu:Uniq m):sumG (givL m t ml) (givL m t ml).length≤allN m.splits+ml.length:=by
 have key:∀ k,k≤m.splits.length→sumG (givL m t ml) k≤sumG (givL m t []) k+(if k=0 then 0 else ml.length):=by
  intro k
  induction k with
  | zero=>intro _;simp [sumG]
  | succ k ih =>
    intro hk
    have hl:k<(givL m t ml).length:=by rw [givL_len];omega
    have hl0:k<(givL m t []).length:=by rw [givL_len];omega
    rw [sumG_succ hl,sumG_succ hl0,givL_at,givL_at]
    have h1:=ih (by omega)
    have h2:(givX m t ml k).evs.length=(givX m t [] k).evs.length+(if k=0 then ml.length else 0):=by
     unfold givX
     dsimp only
     rw [List.length_append,List.length_append]
     split <;> simp
    rw [if_neg (by omega)]
    split at h1 <;> split at h2 <;> omega
 have h:=key m.splits.length (Nat.le_refl _)
 have e:sumG (givL m t []) (givL m t []).length=allN m.splits:=by
  rw [← (givL_gives (t:=t) (ml:=[]) hu).sum hu]
  unfold allN
  congr 1
  apply List.map_congr_left
  intro x hx
  obtain ⟨p,hp,rfl⟩:=List.mem_iff_getElem.1 hx
  obtain ⟨i,hi,e,r,hr,er⟩:=giv_of (t:=t) (ml:=[]) hp
  rw [← e,gOf_at (givL_uniq hu) hi,er]
  rcases hr with rfl | rfl <;> simp
 rw [givL_len] at e ⊢
 split at h <;> omega
end
end Go.Proofs.YtimahogkcmmcnaaGreatDoor
