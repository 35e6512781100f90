/-
 The well restored, part 7: in every well that acts reach the marks are risen. No conditions but those stated.
-/
import Derived.Test.YtimahogkcmmcnaaGreatDoorL30
import Derived.Test.YtimahogkcmmcnaaGreatDoorL24
import Derived.Test.YtimahogkcmmcnaaGreatDoorL29
set_option linter.unusedSimpArgs false
set_option linter.unusedVariables false
namespace Go.Proofs.YtimahogkcmmcnaaGreatDoor
open Go.RowKit Go.Proofs.YtimahogkcmmcnaaGreatDoor.Cmps
def RisenAt (m:WlM) (r:Nat):Prop:=((riseN m.splits m.sealed r).2 && decide (m.marks.getD r 0<(riseN m.splits m.sealed r).1))=false
def Risen (m:WlM):Prop:=∀ r,r<m.marks.length→RisenAt m r
theorem RisenAt.same {m:WlM} {r:Nat} (h:RisenAt m r):risenM m r=m:=by
 unfold risenM
 rw [if_neg (by unfold RisenAt at h;rw [h];simp)]
theorem risenAt_rise (m:WlM) {r:Nat} (hr:r<m.marks.length):RisenAt (risenM m r) r:=by
 unfold RisenAt
 rw [risenM_splits,risenM_sealed]
 unfold risenM
 split
 · rename_i h
   have:(m.marks.set r (riseN m.splits m.sealed r).1).getD r 0=(riseN m.splits m.sealed r).1:=by simp [List.getD,hr]
   rw [this]
   simp
 · rename_i h
   simpa using h
theorem RisenAt.other {m:WlM} {q r:Nat} (h:RisenAt m q) (hne:q≠r):RisenAt (risenM m r) q:=by
 unfold RisenAt at h ⊢
 rw [risenM_splits,risenM_sealed]
 have e:(risenM m r).marks.getD q 0=m.marks.getD q 0:=by
  unfold risenM
  split
  · simp [List.getD,Ne.symm hne]
  · rfl
 rw [e]
 exact h
theorem riseN_set {l:List SpM} {sl:Bool} {q:Nat}:∀ {k:Nat} (hk:k<l.length) {x:SpM},(∀ a,riseStep q a x=riseStep q a l[k])→riseN (l.set k x) sl q=riseN l sl q:=by
 unfold riseN
 generalize ((1000000000001:Int),sl)=a0
 induction l generalizing a0 with
 | nil=>intro k hk;simp at hk
 | cons y l ih =>
   intro k hk x hx
   cases k with
   | zero =>
     simp only [List.set_cons_zero,List.foldl_cons]
     rw [hx a0]
     rfl
   | succ k =>
     simp only [List.set_cons_succ,List.foldl_cons]
     exact ih _ (by simpa using hk) (fun a=>hx a)
theorem riseStep_out {q:Nat} {x:SpM} (h:x.owner≠q) (a:Int×Bool):riseStep q a x=a:=by
 unfold riseStep
 rw [if_neg (by simp [h])]
theorem Risen.turn {m:WlM} (h:Risen m) {k:Nat} (hk:k<m.splits.length) {x:SpM} (ho:x.owner=m.splits[k].owner) {m':WlM} (h1:m'.splits=m.splits.set k x) (h2:m'.marks=m.marks) (h3:m'.sealed=m.sealed):Risen (risenM m' x.owner):=by
 intro q hq
 rw [risenM_len,h2] at hq
 by_cases e:q=x.owner
 · rw [e]
   exact risenAt_rise m' (by rw [h2,← e];exact hq)
 · refine RisenAt.other ?_ e
   have hr:=h q hq
   unfold RisenAt at hr ⊢
   rw [h1,h2,h3,riseN_set hk (fun a=>by rw [riseStep_out (Ne.symm e),riseStep_out (by rw [← ho];exact Ne.symm e)])]
   exact hr
theorem newM_risen (b:Int) (n:Nat):Risen (newM b n):=fun r _=>by simp [RisenAt,newM,riseN]
theorem Risen.find {m:WlM} (h:Risen m) (hok:WOk m) (n:ByteArray) (l:List Evt):Risen (findM m n l):=by
 intro q hq
 have hr:=h q hq
 unfold RisenAt at hr ⊢
 have e:riseN (findM m n l).splits m.sealed q=riseStep q (riseN m.splits m.sealed q) ⟨n,fewN m.splits (m.marks.length - 1),l,0,-1000000000000,false⟩:=by
  unfold riseN findM
  simp only [List.foldl_append,List.foldl_cons,List.foldl_nil]
 show ((riseN (findM m n l).splits m.sealed q).2 && decide (m.marks.getD q 0<(riseN (findM m n l).splits m.sealed q).1))=false
 rw [e]
 by_cases e2:fewN m.splits (m.marks.length - 1)=q
 · have hq':q<m.marks.length:=hq
   have hm:=hok.marks (m.marks[q]) (List.getElem_mem hq')
   have hg:m.marks.getD q 0=m.marks[q]:=by simp [List.getD,hq']
   have hle:(riseStep q (riseN m.splits m.sealed q) ⟨n,fewN m.splits (m.marks.length - 1),l,0,-1000000000000,false⟩).1≤-1000000000000:=by
    unfold riseStep
    rw [if_pos (by simp [e2,SpM.done])]
    dsimp only
    split <;> omega
   rw [hg,Bool.and_eq_false_iff]
   right
   simp only [decide_eq_false_iff_not]
   omega
 · rw [riseStep_out (by exact e2)]
   exact hr
theorem Risen.more {m:WlM} (h:Risen m) {k:Nat} (hk:k<m.splits.length) (hs:m.splits[k].sealed=false) (l:List Evt):Risen (moreM m k m.splits[k] l):=by
 intro q hq
 have hr:=h q hq
 unfold RisenAt at hr ⊢
 show ((riseN (m.splits.set k { m.splits[k] with evs:=m.splits[k].evs ++ l }) m.sealed q).2 && decide (m.marks.getD q 0<(riseN (m.splits.set k { m.splits[k] with evs:=m.splits[k].evs ++ l }) m.sealed q).1))=false
 rw [riseN_set hk (fun a=>by unfold riseStep SpM.done;simp [hs])]
 exact hr
theorem markedM_risen (m:WlM):∀ n,n≤m.marks.length→∀ q,q<n→RisenAt (markedM m n) q
 | 0,_,q,hq=>absurd hq (by omega)
 | n+1,hn,q,hq=>by
   rw [markedM_succ]
   by_cases e:q=n
   · subst e
     exact risenAt_rise _ (by rw [markedM_len];omega)
   · exact (markedM_risen m n (by omega) q (by omega)).other e
theorem readR_same {m:WlM} {r:Int} (h:(readR m r).2.2≠0):(readR m r).1=m:=by
 unfold readR at h ⊢
 split
 · rfl
 · split
   · rfl
   · split
     · rfl
     · split
       · rfl
       · rename_i h1 _ _ h2 _ _ h3 _ _ h4
         simp_all
theorem Risen.act {s:List Col} {m:WlM} (h:Risen m) (hok:WOk m) (x:ActM):Risen (actR s m x):=by
 unfold actR
 split
 · unfold findR
   split
   · exact h.find hok _ _
   · exact h
 · split
   · unfold moreR
     split
     · exact h
     · split
       · exact h
       · split
         · exact h
         · rename_i y hy
           split
           · exact h
           · rename_i hs
             split
             · exact h
             · obtain ⟨hk,e⟩:=List.getElem?_eq_some_iff.1 hy
               subst e
               exact h.more hk (by simpa using hs) _
   · split
     · unfold sealR
       split
       · exact h
       · split
         · exact h
         · rename_i y hy
           split
           · exact h
           · obtain ⟨hk,e⟩:=List.getElem?_eq_some_iff.1 hy
             subst e
             have:=Risen.turn (x:={ (m.splits[(findI m.splits x.name).toNat]'hk) with sealed:=true }) (m':=m.setS (findI m.splits x.name).toNat { (m.splits[(findI m.splits x.name).toNat]'hk) with sealed:=true }) h hk rfl rfl rfl rfl
             exact this
     · split
       · unfold sealAllR
         split
         · exact h
         · intro q hq
           have e:(sealAllM m).marks.length=m.marks.length:=markedM_len _ _
           exact markedM_risen { m with sealed:=true } m.marks.length (Nat.le_refl _) q (by rw [← e];exact hq)
       · rcases readR_or m x.reader with h0 | ⟨q,k,hq,hk,hlt,mk2,hrq,ho,-,h1,-⟩
         · rw [readR_same h0]
           exact h
         · rw [h1]
           have hoq:m.splits[k].owner=q:=by omega
           have:=Risen.turn (x:=seenS m.bound m.splits[k] (m.splits[k].evs[m.splits[k].read]).t) (m':={ m.setS k (seenS m.bound m.splits[k] (m.splits[k].evs[m.splits[k].read]).t) with late:=if (m.splits[k].evs[m.splits[k].read]).t<m.marks.getD q 0 then m.late ++ [m.splits[k].evs[m.splits[k].read]] else m.late }) h hk rfl rfl rfl rfl
           have e2:(seenS m.bound m.splits[k] (m.splits[k].evs[m.splits[k].read]).t).owner=q:=hoq
           rw [e2] at this
           exact this
theorem resK_same {no:Nat} {l:List GivM} {xs:List SpM}:∀ {k:Nat},k≤xs.length→resK true no l xs k=(xs.take k).map fun x=>resX l x.owner x
 | 0,_=>rfl
 | k+1,h=>by
   rw [resK_succ (by omega),resK_same (by omega),← List.take_append_getElem (show k<xs.length by omega),List.map_append]
   rfl
theorem resX_done {l:List GivM} {x:SpM} {ow:Nat} (hb:bigX l x=false) (hr:x.read≤x.evs.length) (he:x.evs.length≤(gOf l x.name).evs.length):(resX l ow x).done=x.done:=by
 obtain ⟨n,o,ev,rd,g,se⟩:=x
 cases se with
 | false=>simp [SpM.done,resX]
 | true =>
   simp only [bigX,SpM.done,resX,Bool.true_and] at hb hr he ⊢
   generalize (gOf l n).evs.length=z at hb he ⊢
   by_cases h1:rd=ev.length
   · have h0:((rd:Int) == (ev.length:Int))=true:=by simp;omega
     rw [h0] at hb ⊢
     have h2:z=rd:=by simpa using hb
     simp;omega
   · have h3:((rd:Int) == (z:Int))=false:=by simp;omega
     have h4:((rd:Int) == (ev.length:Int))=false:=by simp;omega
     rw [h3,h4]
theorem riseN_map {l:List SpM} {f:SpM→SpM} {sl:Bool} {q:Nat} (h:∀ x ∈ l,∀ a,riseStep q a (f x)=riseStep q a x):riseN (l.map f) sl q=riseN l sl q:=by
 unfold riseN
 generalize ((1000000000001:Int),sl)=a0
 induction l generalizing a0 with
 | nil=>rfl
 | cons x l ih =>
   simp only [List.map_cons,List.foldl_cons]
   rw [h x List.mem_cons_self]
   exact ih (fun y hy=>h y (List.mem_cons_of_mem _ hy)) _
theorem Risen.rest {m:WlM} (h:Risen m) (hok:WOk m) {l:List GivM} (hb:bigB m l=false) (he:∀ x ∈ m.splits,x.evs.length≤(gOf l x.name).evs.length) {m':WlM} (h1:m'.splits=resK true m.marks.length l m.splits m.splits.length) (h2:m'.marks=m.marks) (h3:m'.sealed=m.sealed):Risen m':=by
 intro q hq
 rw [h2] at hq
 have hr:=h q hq
 unfold RisenAt at hr ⊢
 have hbx:∀ x ∈ m.splits,bigX l x=false:=by
  unfold bigB at hb
  rw [List.any_eq_false] at hb
  intro x hx
  simpa using hb x hx
 rw [h1,h2,h3,resK_same (Nat.le_refl _),List.take_length,riseN_map (fun x hx a=>by
  have hd:=resX_done (ow:=x.owner) (hbx x hx) (hok.read x hx) (he x hx)
  unfold riseStep
  rw [hd]
  rfl)]
 exact hr
theorem resK_ok {m:WlM} (hok:WOk m) {same:Bool} {no:Nat} (h1:1≤no) (h2:no≤16) (hsame:same=true→no=m.marks.length) {l:List GivM} {f:SpM→GivM} (hg:Gives m l f) (hu:Uniq m) (hsum:sumG l l.length≤400)
 (hfit:∀ x ∈ m.splits,x.read≤(gOf l x.name).evs.length) (htime:∀ g ∈ l,∀ y ∈ g.evs,-1000000000000≤y.t∧y.t≤1000000000000) {k:Nat} (hk:k≤m.splits.length) {mks:List Int} (hml:mks.length=no) (hmk:∀ x ∈ mks,-1000000000000≤x∧x≤1000000000001) (sl:Bool) :
 WOk ⟨m.bound,resK same no l m.splits k,mks,sl,[]⟩:=by
 have hlen:(resK same no l m.splits k).length=k:=resK_len hk
 refine ⟨?_,?_,?_,?_,?_,?_,hok.bound,?_,hmk,?_,?_⟩
 · show (resK same no l m.splits k).length≤50
   have:=hok.splits
   omega
 · show allN (resK same no l m.splits k)≤400
   rw [resK_all hk]
   have e:=hg.sum hu
   have h3:((m.splits.take k).map fun x=>(gOf l x.name).evs.length).sum+((m.splits.drop k).map fun x=>(gOf l x.name).evs.length).sum=sumG l l.length:=by
    rw [← e,← List.sum_append,← List.map_append,List.take_append_drop]
   omega
 · intro y hy
   obtain ⟨ow,x,hx,rfl⟩:=resK_mem hk hy
   exact hfit x hx
 · intro y hy
   show y.owner<mks.length
   rw [hml]
   obtain ⟨i,hi,rfl⟩:=List.mem_iff_getElem.1 hy
   have key:∀ {j:Nat},j≤m.splits.length→∀ y ∈ resK same no l m.splits j,y.owner<no:=by
    intro j
    induction j with
    | zero=>intro _ y hy;cases hy
    | succ j ih =>
      intro hj y hy
      rw [resK_succ (by omega)] at hy
      rcases List.mem_append.1 hy with hy | hy
      · exact ih (by omega) y hy
      · rw [List.mem_singleton] at hy
        subst hy
        show ownX same no (resK same no l m.splits j) m.splits[j]<no
        unfold ownX
        cases same with
        | true =>
          have:=hok.owner _ (List.getElem_mem (show j<m.splits.length by omega))
          have:=hsame rfl
          simp only [if_true]
          omega
        | false =>
          have:=fewN_le (resK false no l m.splits j) (no - 1)
          simp only [Bool.false_eq_true,if_false]
          omega
   exact key hk _ (List.getElem_mem hi)
 · show 1≤mks.length
   omega
 · show mks.length≤16
   omega
 · intro y hy
   obtain ⟨ow,x,hx,rfl⟩:=resK_mem hk hy
   exact hok.gauge x hx
 · intro y hy
   obtain ⟨ow,x,hx,rfl⟩:=resK_mem hk hy
   exact hok.name x hx
 · intro y hy z hz
   obtain ⟨ow,x,hx,rfl⟩:=resK_mem hk hy
   have hz':z ∈ (gOf l x.name).evs:=hz
   rw [hg.gOf hu hx] at hz'
   exact htime _ (hg.mem hx) z hz'
theorem getD_in {l:List Int} (h:∀ x ∈ l,-1000000000000≤x∧x≤1000000000001) (i:Nat) : -1000000000000≤l.getD i 0∧l.getD i 0≤1000000000001:=by
 rw [List.getD_eq_getElem?_getD]
 cases hq:l[i]? with
 | none=>simp
 | some y=>exact h y (List.mem_of_getElem? hq)
theorem mkK_in {same:Bool} {no:Nat} {l:List GivM} {xs:List SpM} {ms:List Int} (h:∀ x ∈ ms,-1000000000000≤x∧x≤1000000000001):∀ {k:Nat},k≤xs.length→∀ x ∈ mkK same no l xs ms k,-1000000000000≤x∧x≤1000000000001
 | 0,_,x,hx=>by
   rw [mkK] at hx
   rw [List.eq_of_mem_replicate hx]
   omega
 | k+1,hk,x,hx=>by
   have ih:=mkK_in (same:=same) (no:=no) (l:=l) (xs:=xs) h (k:=k) (by omega)
   rw [mkK_succ (by omega)] at hx
   rcases List.mem_or_eq_of_mem_set hx with hx | hx
   · exact ih x hx
   · have h1:=getD_in ih (ownX same no (resK same no l xs k) xs[k])
     have h2:=getD_in h xs[k].owner
     rw [hx]
     omega
theorem minK_in {ms:List Int} (h:∀ x ∈ ms,-1000000000000≤x∧x≤1000000000001):∀ k,-1000000000000≤minK ms k∧minK ms k≤1000000000001
 | 0=>getD_in h 0
 | k+1=>by
   have h1:=minK_in h k
   have h2:=getD_in h k
   rw [minK]
   omega
theorem finK_in {same:Bool} {no:Nat} {l:List GivM} {m:WlM} (hok:WOk m) (i:Nat) : -1000000000000≤finK same no l m i∧finK same no l m i≤1000000000001:=by
 unfold finK
 split
 · exact getD_in hok.marks i
 · split
   · exact minK_in hok.marks _
   · exact getD_in (mkK_in hok.marks (Nat.le_refl _)) i
theorem restM_ok {m:WlM} (hok:WOk m) {no:Nat} (h1:1≤no) (h2:no≤16) {l:List GivM} {f:SpM→GivM} (hg:Gives m l f) (hu:Uniq m) (hsum:sumG l l.length≤400)
 (hfit:∀ x ∈ m.splits,x.read≤(gOf l x.name).evs.length) (htime:∀ g ∈ l,∀ y ∈ g.evs,-1000000000000≤y.t∧y.t≤1000000000000):WOk (restM m no l) :=
 resK_ok hok h1 h2 (fun e=>by simpa using e) hg hu hsum hfit htime (Nat.le_refl _) (by simp) (fun x hx=>by
  obtain ⟨i,_,rfl⟩:=List.mem_map.1 hx
  exact finK_in hok i) m.sealed
def pcol (col:Nat→Nat) (xb gb:Nat→Nat):Nat→Nat→Nat
 | 0=>col
 | k+1=>paint (paint (pcol col xb gb k) (some (xb k)) (8 * k+8)) (some (gb k)) (8 * k+9)
theorem pcol_old {col:Nat→Nat} {xb gb:Nat→Nat} {b:Nat}:∀ {k:Nat},(∀ j,j<k→xb j≠b∧gb j≠b)→pcol col xb gb k b=col b
 | 0,_=>rfl
 | k+1,h=>by
   have ih:=pcol_old (col:=col) (k:=k) (fun j hj=>h j (by omega))
   obtain ⟨h1,h2⟩:=h k (by omega)
   rw [pcol]
   unfold paint
   rw [if_neg (by simpa using h2),if_neg (by simpa using h1)]
   exact ih
theorem pcol_at {col:Nat→Nat} {xb gb:Nat→Nat} {n:Nat} (h1:∀ j,j<n→xb j<gb j) (h2:∀ j k,j<k→k<n→gb j<xb k):∀ {k:Nat},k≤n→∀ j,j<k→pcol col xb gb k (xb j)=8 * j+8∧pcol col xb gb k (gb j)=8 * j+9
 | 0,_,j,hj=>absurd hj (by omega)
 | k+1,hk,j,hj=>by
   have hxg:=h1 k (by omega)
   rw [pcol]
   unfold paint
   by_cases e:j=k
   · subst e
     rw [if_neg (by simp;omega),if_pos rfl,if_pos rfl]
     exact ⟨rfl,rfl⟩
   · have h3:=h2 j k (by omega) (by omega)
     have h4:=h1 j (by omega)
     rw [if_neg (by simp;omega),if_neg (by simp;omega),if_neg (by simp;omega),if_neg (by simp;omega)]
     exact pcol_at h1 h2 (by omega) j (by omega)
theorem pcol_new {col:Nat→Nat} {xb gb:Nat→Nat} {b:Nat} {k:Nat} (h:pcol col xb gb k b≠0):col b≠0∨∃ j,j<k∧(xb j=b∨gb j=b):=by
 by_cases e:∃ j,j<k∧(xb j=b∨gb j=b)
 · exact .inr e
 · refine .inl ?_
   rw [pcol_old (fun j hj=>⟨fun h=>e ⟨j,hj,.inl h⟩,fun h=>e ⟨j,hj,.inr h⟩⟩)] at h
   exact h
structure Put (w7 wr:World) (c7 col:Nat→Nat) (s:List Col) (W:Nat) (ws:WS) (m:WlM) (same:Bool) (no:Nat) (l:List GivM) (xb gb:Nat→Nat) (mk k:Nat):Prop where
 wat:WAt wr col s ws ⟨m.bound,resK same no l m.splits k,List.replicate no (-1000000000000),m.sealed,[]⟩
 W:ws.W=W
 sp:∀ j (h:j<m.splits.length),k≤j→wr.heap[xb j]? = some (.cells (spR m.splits[j] (gb j)) 129 (0,0))∧wr.heap[gb j]? = some (.cells #[.int .i64 m.bound,.int .i64 m.splits[j].mark,.bool m.splits[j].done] 215 (0,0))∧col (xb j)=8 * j+8∧col (gb j)=8 * j+9
 mks:IntsB wr mk (mkK same no l m.splits m.marks k)
 cmk:col mk=6
 only:Only (fun b=>c7 b≠0) w7 wr
 colE:∀ b,b<w7.heap.size→col b=c7 b
def Turns (col:Nat→Nat) (k b:Nat):Prop:=col b=1∨col b=2∨col b=3∨col b=6∨col b=8 * k+8
theorem Put.next {w7 wr w9:World} {c7 col:Nat→Nat} {s:List Col} {W:Nat} {ws:WS} {m:WlM} {same:Bool} {no:Nat} {l:List GivM} {xb gb:Nat→Nat} {mk k:Nat} (h:Put w7 wr c7 col s W ws m same no l xb gb mk k) (hk:k<m.splits.length)
 (o:Only (Turns col k) wr w9) {ev spl:Value} {be sb:Option Nat} {en:Array MapEntry} {ck:Nat}
 (hbe:∀ b,be=some b→wr.heap.size≤b∧b<w9.heap.size) (hsb:∀ b,sb=some b→ws.sb=some b∨(wr.heap.size≤b∧b<w9.heap.size∧be≠some b))
 (hW:w9.heap[W]? = some (.cells #[ws.sch,.int .i64 m.bound,spl,.map (some ws.mp),ws.rd,.bool m.sealed,ws.late] 99 (0,0)))
 (hS:SlOwn w9 126 1 spl (k+1) (((List.range k).map fun k=>ptr (ws.xb k)) ++ [ptr (xb k)]) sb)
 (hX:w9.heap[xb k]? = some (.cells #[.string m.splits[k].name,ev,.int .i64 m.splits[k].read,ptr (gb k),.bool m.splits[k].sealed,.int .i64 (ownX same no (resK same no l m.splits k) m.splits[k]:Nat)] 129 (0,0)))
 (hE:EvsOwn w9 (fun b=>wr.heap.size≤b∧b<w9.heap.size∧be≠some b∧sb≠some b) ev (gOf l m.splits[k].name).evs be)
 (hM:w9.heap[ws.mp]? = some (.map en ck)) (hN:PEnts en.toList (namesW (resK same no l m.splits k) ws.xb ++ [(m.splits[k].name,ptr (xb k))]))
 (hI:IntsB w9 mk (mkK same no l m.splits m.marks (k+1)))
 (hdn:(resX l (ownX same no (resK same no l m.splits k) m.splits[k]) m.splits[k]).mark=m.splits[k].mark∧(resX l (ownX same no (resK same no l m.splits k) m.splits[k]) m.splits[k]).done=m.splits[k].done) :
 ∃ col' ws',Put w7 w9 c7 col' s W ws' m same no l xb gb mk (k+1):=by
 have hlen:(resK same no l m.splits k).length=k:=resK_len (by omega)
 obtain ⟨sp1,sp2,sp3,sp4⟩:=h.sp k hk (Nat.le_refl _)
 have hc0:=h.wat.c0
 have h0:∀ b,wr.heap.size≤b→col b=0:=fun b hb=>by
  rcases Nat.eq_zero_or_pos (col b) with e | e
  · exact e
  · have:=hc0 b (by omega);omega
 have hsw:∀ b,ws.sb=some b→col b=2:=h.wat.cS
 have hcol:∀ b,b<wr.heap.size→paint (paint col sb 2) be (8 * k+10) b=col b:=fun b hb=>by
  unfold paint
  rw [if_neg (by intro e;have:=hbe b e;omega)]
  split
  · rename_i e
    rcases hsb b e with e2 | e2
    · exact (hsw b e2).symm
    · omega
  · rfl
 have hkept:Kept wr w9 col (paint (paint col sb 2) be (8 * k+10)) (fun c=>c=1∨c=2∨c=3∨c=6∨c=8 * k+8):=by
  refine ⟨o.size,hcol,fun b hb hn=>o.block b hb hn,fun b hb=>?_⟩
  unfold paint at hb
  by_cases e3:be=some b
  · exact (hbe b e3).2
  · rw [if_neg e3] at hb
    by_cases e4:sb=some b
    · rcases hsb b e4 with e | e
      · have:=hc0 b (by rw [hsw b e];omega);have:=o.size;omega
      · exact e.2.1
    · rw [if_neg e4] at hb
      have:=hc0 b hb;have:=o.size;omega
 have hresk:=resK_succ (same:=same) (no:=no) (l:=l) hk
 have hadd:=WAt.addSplit2 h.wat (x:=resX l (ownX same no (resK same no l m.splits k) m.splits[k]) m.splits[k]) (bx:=xb k) (bg:=gb k) (ev:=ev) (be:=be) (spl:=spl) (sb:=sb) (en:=en) (ck:=ck) (w':=w9) (col':=paint (paint col sb 2) be (8 * k+10))
  (by dsimp only;rw [hlen];exact hkept) (by dsimp only;rw [hlen,hcol _ (heap_lt sp1)];exact sp3) (by dsimp only;rw [hlen,hcol _ (heap_lt sp2)];exact sp4)
  (fun b hb=>by dsimp only;rw [hlen];unfold paint;rw [if_pos hb]) (fun b hb=>by
    rcases hsb b hb with e | e
    · have e2:=hsw b e
      rw [hcol b (hc0 b (by omega))];exact e2
    · unfold paint;rw [if_neg e.2.2,if_pos hb])
  (by rw [h.W];exact hW) (by dsimp only;rw [hlen];exact hS) (by exact hX)
  (by dsimp only;rw [hdn.1,hdn.2,hkept.obj sp2 sp4 (by omega)]) (hE.mono fun b hb=>⟨hb.2.1,by unfold paint;rw [if_neg hb.2.2.1,if_neg hb.2.2.2];exact h0 b hb.1⟩) hM hN
 dsimp only at hadd
 rw [← hresk] at hadd
 refine ⟨_,_,⟨hadd,h.W,fun j hj hkj=>?_,hI,(hcol _ (hc0 _ (by rw [h.cmk];omega))).trans h.cmk,h.only.trans o (fun b hb ht e=>?_),fun b hb=>(hcol b (Nat.lt_of_lt_of_le hb h.only.size)).trans (h.colE b hb)⟩⟩
 · obtain ⟨q1,q2,q3,q4⟩:=h.sp j hj (by omega)
   exact ⟨hkept.obj q1 q3 (by omega),hkept.obj q2 q4 (by omega),(hcol _ (heap_lt q1)).trans q3,(hcol _ (heap_lt q2)).trans q4⟩
 · rw [← h.colE b hb] at e
   rcases ht with h | h | h | h | h <;> omega
theorem resX_mark {l:List GivM} {x:SpM} {ow:Nat} (hb:bigX l x=false) (hr:x.read≤x.evs.length) (he:x.evs.length≤(gOf l x.name).evs.length):(resX l ow x).mark=x.mark∧(resX l ow x).done=x.done:=by
 have h:=resX_done (ow:=ow) hb hr he
 refine ⟨?_,h⟩
 unfold SpM.mark
 rw [h]
 rfl
theorem Put.start {w4 w8:World} {col:Nat→Nat} {s:List Col} {ws:WS} {m:WlM} {same:Bool} {no:Nat} {l:List GivM} {xb gb:Nat→Nat} {mk:Nat} (h:WAt w4 col s ws (newM m.bound no)) (o:Only (fun b=>b=ws.W) w4 w8)
 (hW:w8.heap[ws.W]? = some (.cells #[ws.sch,.int .i64 m.bound,ws.spl,.map (some ws.mp),ws.rd,.bool m.sealed,ws.late] 99 (0,0)))
 (hsp:∀ k (h:k<m.splits.length),w8.heap[xb k]? = some (.cells (spR m.splits[k] (gb k)) 129 (0,0))∧w8.heap[gb k]? = some (.cells #[.int .i64 m.bound,.int .i64 m.splits[k].mark,.bool m.splits[k].done] 215 (0,0))∧w4.heap.size≤xb k∧xb k<gb k)
 (sep:∀ j k,j<k→k<m.splits.length→gb j<xb k) (hmk:w4.heap.size≤mk) (hne:∀ k,k<m.splits.length→xb k≠mk∧gb k≠mk) (hI:IntsB w8 mk (List.replicate no 1000000000001)) :
 Put w8 w8 (pcol (paint col (some mk) 6) xb gb m.splits.length) (pcol (paint col (some mk) 6) xb gb m.splits.length) s ws.W ws m same no l xb gb mk 0:=by
 have hold:∀ b,b<w4.heap.size→pcol (paint col (some mk) 6) xb gb m.splits.length b=col b:=fun b hb=>by
  rw [pcol_old (fun j hj=>by have:=(hsp j hj).2.2;omega)]
  unfold paint
  rw [if_neg (by simp;omega)]
 have hat:=pcol_at (col:=paint col (some mk) 6) (n:=m.splits.length) (fun j hj=>(hsp j hj).2.2.2) sep (Nat.le_refl _)
 have hk:Kept w4 w8 col (pcol (paint col (some mk) 6) xb gb m.splits.length) (fun c=>c=1):=by
  refine ⟨o.size,hold,fun b hb hn=>o.block b hb (fun e=>hn (by rw [e];exact h.cW)),fun b hb=>?_⟩
  rcases pcol_new hb with e | ⟨j,hj,e | e⟩
  · unfold paint at e
    by_cases e2:some mk=some b
    · injection e2 with e2;subst e2;exact heap_lt hI
    · rw [if_neg e2] at e;exact Nat.lt_of_lt_of_le (h.c0 b e) o.size
  · subst e;exact heap_lt (hsp j hj).1
  · subst e;exact heap_lt (hsp j hj).2.1
 refine ⟨h.setSealedG hk hW,rfl,fun j hj _=>⟨(hsp j hj).1,(hsp j hj).2.1,hat j hj⟩,hI,?_,Only.refl _ _,fun _ _=>rfl⟩
 rw [pcol_old (fun j hj=>hne j hj)]
 unfold paint
 rw [if_pos rfl]
def finL (same:Bool) (no:Nat) (l:List GivM) (m:WlM) (i:Nat):List Int:=(List.range i).map (finK same no l m) ++ List.replicate (no - i) (-1000000000000)
def finM (same:Bool) (no:Nat) (l:List GivM) (m:WlM) (i:Nat):WlM:=⟨m.bound,resK same no l m.splits m.splits.length,finL same no l m i,m.sealed,[]⟩
theorem finL_len {same:Bool} {no:Nat} {l:List GivM} {m:WlM} {i:Nat} (h:i≤no):(finL same no l m i).length=no:=by
 unfold finL
 simp
 omega
theorem finL_in {same:Bool} {no:Nat} {l:List GivM} {m:WlM} (hok:WOk m) {i:Nat}:∀ x ∈ finL same no l m i,-1000000000000≤x∧x≤1000000000001:=fun x hx=>by
 rcases List.mem_append.1 hx with hx | hx
 · obtain ⟨j,_,rfl⟩:=List.mem_map.1 hx
   exact finK_in hok j
 · rw [List.eq_of_mem_replicate hx];omega
theorem finL_at {same:Bool} {no:Nat} {l:List GivM} {m:WlM} {i:Nat} (h:i<no):(finL same no l m i)[i]? = some (-1000000000000):=by
 unfold finL
 rw [List.getElem?_append_right (by simp),List.getElem?_replicate,if_pos (by simp;omega)]
theorem finL_set {same:Bool} {no:Nat} {l:List GivM} {m:WlM} {i:Nat} (h:i<no):(finL same no l m i).set i (finK same no l m i)=finL same no l m (i+1):=by
 unfold finL
 have e:no - i=(no - (i+1))+1:=by omega
 rw [e,List.replicate_succ,List.set_append_right _ _ (by simp)]
 simp [List.range_succ,List.append_assoc]
theorem finL_end {same:Bool} {no:Nat} {l:List GivM} {m:WlM}:finL same no l m no=(List.range no).map (finK same no l m):=by
 unfold finL
 simp
structure Fin4 (w8 wr:World) (col:Nat→Nat) (s:List Col) (ws:WS) (m:WlM) (same:Bool) (no:Nat) (l:List GivM) (mk i:Nat):Prop where
 wat:WAt wr col s ws (finM same no l m i)
 mks:∃ L:List Int,L.length=no∧IntsB wr mk L∧∀ j,i≤j→L.getD j 0=(mkK same no l m.splits m.marks m.splits.length).getD j 0
 only:Only (fun b=>col b≠0) w8 wr
theorem Put.fin {w7 wr:World} {c7 col:Nat→Nat} {s:List Col} {W:Nat} {ws:WS} {m:WlM} {same:Bool} {no:Nat} {l:List GivM} {xb gb:Nat→Nat} {mk:Nat} (h:Put w7 wr c7 col s W ws m same no l xb gb mk m.splits.length):Fin4 wr wr col s ws m same no l mk 0:=by
 refine ⟨?_,⟨_,mkK_len (Nat.le_refl _),h.mks,fun _ _=>rfl⟩,Only.refl _ _⟩
 have e:finM same no l m 0=⟨m.bound,resK same no l m.splits m.splits.length,List.replicate no (-1000000000000),m.sealed,[]⟩:=by simp [finM,finL]
 rw [e]
 exact h.wat
theorem Fin4.next {w8 wr w1 w2:World} {col:Nat→Nat} {s:List Col} {ws:WS} {m:WlM} {same:Bool} {no:Nat} {l:List GivM} {mk i:Nat} (h:Fin4 w8 wr col s ws m same no l mk i) (hi:i<no) (hcm:col mk=6) {L:List Int} (hL:IntsB wr mk L) (hll:L.length=no) (hlj:∀ j,i≤j→L.getD j 0=(mkK same no l m.splits m.marks m.splits.length).getD j 0)
 (o1:Only (fun b=>b=mk) wr w1) (hI:IntsB w1 mk (L.set i (finK same no l m i))) (o2:Only (fun b=>b=ws.mb i∨b=ws.ib i) w1 w2)
 (hb:w2.heap[ws.mb i]? = some (.cells #[.slice (some ⟨ws.ib i,0,none⟩) 1 1,.int .i64 (finK same no l m i)] 204 (0,0))) (hg:w2.heap[ws.ib i]? = some (.cells #[.int .i64 (finK same no l m i),.bool false,.bool false] 202 (0,0))) :
 Fin4 w8 w2 col s ws m same no l mk (i+1):=by
 have hlen:(finL same no l m i).length=no:=finL_len (by omega)
 have h1:WAt w1 col s ws (finM same no l m i):=h.wat.kept (Kept.of_only (o1.mono fun b _ e=>.inl (by rw [e];exact hcm)) h.wat.c0)
 have hir:i<(finM same no l m i).marks.length:=by show i<(finL same no l m i).length;omega
 have h2:=h1.setMark hir (finK same no l m i) o2 hb hg
 have cB:=h1.cB i hir
 have cI:=h1.cI i hir
 have e:({ finM same no l m i with marks:=(finM same no l m i).marks.set i (finK same no l m i) }:WlM)=finM same no l m (i+1):=by
  unfold finM
  rw [← finL_set hi]
 rw [e] at h2
 refine ⟨h2,⟨L.set i (finK same no l m i),by simpa using hll,?_,fun j hj=>?_⟩,(h.only.trans o1 fun b _ e=>by rw [e,hcm];omega).trans o2 fun b _ e=>by rcases e with rfl | rfl <;> omega⟩
 · unfold IntsB at hI ⊢
   rw [o2.block mk (heap_lt hI) (by rintro (e | e) <;> (rw [e] at hcm;omega))]
   exact hI
 · rw [← hlj j (by omega)]
   simp [List.getD,List.getElem?_set,show i≠j by omega]
theorem Fin4.rise {w8 w2 w3:World} {col:Nat→Nat} {s:List Col} {ws:WS} {m:WlM} {same:Bool} {no:Nat} {l:List GivM} {mk i r:Nat} (h:Fin4 w8 w2 col s ws m same no l mk i) (hcm:col mk=6)
 (hw:WAt w3 col s ws (risenM (finM same no l m i) r)) (o:Only (fun b=>8≤col b) w2 w3) (hr:RisenAt (finM same no l m i) r):Fin4 w8 w3 col s ws m same no l mk i:=by
 rw [hr.same] at hw
 obtain ⟨L,h1,h2,h3⟩:=h.mks
 refine ⟨hw,⟨L,h1,?_,h3⟩,h.only.trans o fun b _ e=>by omega⟩
 unfold IntsB at h2 ⊢
 rw [o.block mk (heap_lt h2) (by omega)]
 exact h2
section round
variable {w7 wr w35 w10 w36 w37 w38 : World} {c7 col : Nat → Nat} {s : List Col} {W : Nat} {ws : WS} {m : WlM} {same : Bool} {no : Nat} {l : List GivM} {xb gb : Nat → Nat} {mk k : Nat} {X : Array Value} {v : Value} {sb : Option Nat} {ob : Obj}
theorem Put.apart (h:Put w7 wr c7 col s W ws m same no l xb gb mk k) (hk:k<m.splits.length):col W=1∧col ws.mp=3∧col mk=6∧col (xb k)=8 * k+8∧(∀ b,ws.sb=some b→col b=2)∧(∀ b,wr.heap.size≤b→col b=0) :=
 ⟨h.W ▸ h.wat.cW,h.wat.cM,h.cmk,(h.sp k hk (Nat.le_refl _)).2.2.1,h.wat.cS,fun b hb=>by
  rcases Nat.eq_zero_or_pos (col b) with e | e
  · exact e
  · have:=h.wat.c0 b (by omega);omega⟩
theorem Put.to {W2:World} (h:Put w7 wr c7 col s W ws m same no l xb gb mk k) (o:Only (Turns col k) wr W2):Only (fun b=>c7 b≠0) w7 W2 :=
 h.only.trans o fun b hb ht e=>by
  rw [← h.colE b hb] at e
  rcases ht with h | h | h | h | h <;> omega
theorem Put.mid36 (h:Put w7 wr c7 col s W ws m same no l xb gb mk k) (hk:k<m.splits.length) (o35:Only (fun b=>b=xb k) wr w35) (hX:w35.heap[xb k]? = some (.cells X 129 (0,0)))
 (hg:(w35.alloc ob).grownBy w10 ws.sb) (o36:Only (fun b=>b=W) w10 w36) :
 w36.heap[xb k]? = some (.cells X 129 (0,0))∧w36.heap[ws.mp]? = some (.map ws.ents ws.clock)∧IntsB w36 mk (mkK same no l m.splits m.marks k)∧Only (Turns col k) wr w36∧(∀ b,wr.heap.size≤b→b<w35.heap.size→w36.heap[b]? = w35.heap[b]?):=by
 obtain ⟨cW,cM,cK,cX,cS,c0⟩:=h.apart hk
 have oz:Only (fun b=>col b=1∨col b=2) w35 w36 :=
  (((Only.refl (fun b=>col b=1∨col b=2) w35).alloc ob).grown hg (fun b e _=>.inr (cS b e))).trans o36 fun b _ e=>.inl (by rw [e];exact cW)
 have ob:∀ b,b<wr.heap.size→col b≠1→col b≠2→col b≠8 * k+8→w36.heap[b]? = wr.heap[b]? := fun b hb h1 h2 h3 =>
  (oz.block b (Nat.lt_of_lt_of_le hb o35.size) (by omega)).trans (o35.block b hb (fun e=>h3 (by rw [e];exact cX)))
 refine ⟨(oz.block _ (heap_lt hX) (by omega)).trans hX,(ob _ (heap_lt h.wat.hM) (by omega) (by omega) (by omega)).trans h.wat.hM,?_,o35.mono (fun b _ e=>by subst e;exact .inr (.inr (.inr (.inr cX)))) |>.trans oz fun b _ e=>by rcases e with e | e;exact .inl e;exact .inr (.inl e),fun b h1 h2=>oz.block b h2 (by have:=c0 b h1;omega)⟩
 exact (ob mk (heap_lt h.mks) (by omega) (by omega) (by omega)).trans h.mks
theorem Put.mid37 (h:Put w7 wr c7 col s W ws m same no l xb gb mk k) (hk:k<m.splits.length) (o35:Only (fun b=>b=xb k) wr w35) (hX:w35.heap[xb k]? = some (.cells X 129 (0,0)))
 (hg:(w35.alloc ob).grownBy w10 ws.sb) (o36:Only (fun b=>b=W) w10 w36) (o37:Only (fun b=>b=ws.mp) w36 w37) :
 w37.heap[xb k]? = some (.cells X 129 (0,0))∧IntsB w37 mk (mkK same no l m.splits m.marks k)∧Only (Turns col k) wr w37∧(∀ b,wr.heap.size≤b→b<w35.heap.size→w37.heap[b]? = w35.heap[b]?):=by
 obtain ⟨cW,cM,cK,cX,cS,c0⟩:=h.apart hk
 obtain ⟨x1,x2,x3,x4,x5⟩:=h.mid36 hk o35 hX hg o36
 refine ⟨(o37.block _ (heap_lt x1) (fun e=>by rw [e] at cX;omega)).trans x1,?_,x4.trans o37 fun b _ e=>.inr (.inr (.inl (by rw [e];exact cM))),fun b h1 h2=>?_⟩
 · exact (o37.block mk (heap_lt x3) (fun e=>by rw [e] at cK;omega)).trans x3
 · have h3:w35.heap.size≤w36.heap.size:=by have:=hg.size;have:=o36.size;simp at *;omega
   exact (o37.block b (by omega) (fun e=>by have:=c0 b h1;rw [e] at this;omega)).trans (x5 b h1 h2)
theorem Put.round (h:Put w7 wr c7 col s W ws m same no l xb gb mk k) (hk:k<m.splits.length) {ev:Value} {be:Option Nat} {en:Array MapEntry} {ck:Nat} (o35:Only (fun b=>b=xb k) wr w35)
 (hX:w35.heap[xb k]? = some (.cells #[.string m.splits[k].name,ev,.int .i64 m.splits[k].read,ptr (gb k),.bool m.splits[k].sealed,.int .i64 (ownX same no (resK same no l m.splits k) m.splits[k]:Nat)] 129 (0,0)))
 (hE:EvsOwn w35 (fun b=>wr.heap.size≤b∧b<w35.heap.size∧be≠some b) ev (gOf l m.splits[k].name).evs be) (hbe:∀ b,be=some b→wr.heap.size≤b)
 (hs:SlOwn w10 126 1 v (k+1) (((List.range k).map fun k=>ptr (ws.xb k)) ++ [ptr (xb k)]) sb) (hg:(w35.alloc ob).grownBy w10 ws.sb) (hat:sb=ws.sb∨sb=some (w35.alloc ob).heap.size)
 (o36:Only (fun b=>b=W) w10 w36) (hW:w36.heap[W]? = some (.cells #[ws.sch,.int .i64 m.bound,v,.map (some ws.mp),ws.rd,.bool m.sealed,ws.late] 99 (0,0)))
 (o37:Only (fun b=>b=ws.mp) w36 w37) (hM:w37.heap[ws.mp]? = some (.map en ck)) (hN:PEnts en.toList (namesW (resK same no l m.splits k) ws.xb ++ [(m.splits[k].name,ptr (xb k))]))
 (o38:Only (fun b=>b=mk) w37 w38) (hI:IntsB w38 mk (mkK same no l m.splits m.marks (k+1)))
 (hdn:(resX l (ownX same no (resK same no l m.splits k) m.splits[k]) m.splits[k]).mark=m.splits[k].mark∧(resX l (ownX same no (resK same no l m.splits k) m.splits[k]) m.splits[k]).done=m.splits[k].done) :
 ∃ col' ws',Put w7 w38 c7 col' s W ws' m same no l xb gb mk (k+1):=by
 obtain ⟨cW,cM,cK,cX,cS,c0⟩:=h.apart hk
 obtain ⟨x1,x2,x3,x4⟩:=h.mid37 hk o35 hX hg o36 o37
 have hz1:(w35.alloc ob).heap.size=w35.heap.size+1:=by simp
 have hz2:=hg.size
 have hz0:=o35.size
 have z6:=o36.size
 have z7:=o37.size
 have z8:=o38.size
 have o8:Only (Turns col k) wr w38:=x3.trans o38 fun b _ e=>.inr (.inr (.inr (.inl (by rw [e];exact cK))))
 have hsn:∀ b,sb=some b→ws.sb=some b∨b=w35.heap.size+1:=fun b e=>by
  rcases hat with e2 | e2
  · exact .inl (e2 ▸ e)
  · rw [e] at e2;injection e2 with e2;exact .inr (by omega)
 have hsl:∀ b,ws.sb=some b→b<wr.heap.size:=fun b e=>h.wat.c0 b (by rw [cS b e];omega)
 have hbl:∀ b,be=some b→b<w35.heap.size:=fun b e=>by obtain ⟨_,_,q,_⟩:=hE;exact q.lt_of e
 have hk8:∀ b,wr.heap.size≤b→b<w35.heap.size→w38.heap[b]? = w35.heap[b]? := fun b h1 h2=>(o38.block b (by omega) (fun e=>by have:=c0 b h1;rw [e] at this;omega)).trans (x4 b h1 h2)
 refine h.next hk o8 (ev:=ev) (ck:=ck) (fun b e=>⟨hbe b e,by have:=hbl b e;omega⟩) (fun b e=>?_) ?_ (hs.keep fun b e=>?_) ?_ ?_ ?_ hN hI hdn
 · rcases hsn b e with e2 | e2
   · exact .inl e2
   · have hb10:=hs.lt_of e
     refine .inr ⟨by omega,by omega,fun e3=>by have:=hbl b e3;omega⟩
 · exact (o38.block W (by have:=heap_lt hW;omega) (fun e=>by rw [e] at cW;omega)).trans ((o37.block W (heap_lt hW) (fun e=>by rw [e] at cW;omega)).trans hW)
 · have hb10:=hs.lt_of e
   have hc:col b=2∨col b=0:=by
    rcases hsn b e with e2 | e2
    · exact .inl (cS b e2)
    · exact .inr (c0 b (by omega))
   exact (o38.block b (by omega) (fun e=>by rw [e] at hc;omega)).trans ((o37.block b (by omega) (fun e=>by rw [e] at hc;omega)).trans (o36.block b hb10 (fun e=>by rw [e] at hc;omega)))
 · exact (o38.block _ (heap_lt x1) (fun e=>by rw [e] at cX;omega)).trans x1
 · refine EvsOwn.mono (EvsOwn.keep (D:=fun b=>wr.heap.size≤b∧b<w35.heap.size∧be≠some b) hE fun b hb hlt=>?_) fun b hb=>⟨hb.1,by omega,hb.2.2,fun e=>?_⟩
   · refine hk8 b ?_ hlt
     rcases hb with hb | hb
     · exact hb.1
     · exact hbe b hb
   · rcases hsn b e with e2 | e2
     · have:=hsl b e2;omega
     · omega
 · exact (o38.block _ (heap_lt hM) (fun e=>by rw [e] at cM;omega)).trans hM
end round
structure Envi (w:World) (c8:Nat→Nat) (m:WlM) (l:List GivM) (ev:Nat→Value) (xb:Nat→Nat) (vb mv mp mg mo mc:Nat) (pa:Option Addr) (pc:Nat) (es:Array MapEntry) (ck:Nat):Prop where
 var:w.heap[vb]? = some (.cells #[.bool m.sealed,.slice (some ⟨mg,mo,none⟩) m.marks.length mc,.slice pa m.splits.length pc] 140 (0,0))∧c8 vb=0
 mks:(∀ i (h:i<m.marks.length),w.cell? ⟨mg,mo+i,none⟩=some (.int .i64 m.marks[i]))∧c8 mg=0
 spl:m.splits=[]∨∃ g o,pa=some ⟨g,o,none⟩∧c8 g=0∧∀ i,i<m.splits.length→w.cell? ⟨g,o+i,none⟩=some (ptr (xb i))
 mv:w.heap[mv]? = some (.cells #[.map (some mp)] 138 (0,0))∧c8 mv=0
 map:w.heap[mp]? = some (.map es ck)∧c8 mp=0
 giv:∀ j (h:j<l.length),EvtsAt w (fun b=>c8 b=0) (ev j) l[j].evs
theorem Envi.keep {w w':World} {c8:Nat→Nat} {m:WlM} {l:List GivM} {ev:Nat→Value} {xb:Nat→Nat} {vb mv mp mg mo mc:Nat} {pa:Option Addr} {pc:Nat} {es:Array MapEntry} {ck:Nat} (h:Envi w c8 m l ev xb vb mv mp mg mo mc pa pc es ck) (o:Only (fun b=>c8 b≠0) w w') :
 Envi w' c8 m l ev xb vb mv mp mg mo mc pa pc es ck:=by
 have kb:∀ {b:Nat},b<w.heap.size→c8 b=0→w'.heap[b]? = w.heap[b]? := fun hb h0=>o.block _ hb (fun e=>e h0)
 have kc:∀ {b i:Nat} {v:Value},w.cell? ⟨b,i,none⟩=some v→c8 b=0→w'.cell? ⟨b,i,none⟩=some v:=fun hc h0=>by rw [cell_keep (kb (cell_lt hc) h0)];exact hc
 refine ⟨⟨(kb (heap_lt h.var.1) h.var.2).trans h.var.1,h.var.2⟩,⟨fun i hi=>kc (h.mks.1 i hi) h.mks.2,h.mks.2⟩,h.spl.imp id ?_,⟨(kb (heap_lt h.mv.1) h.mv.2).trans h.mv.1,h.mv.2⟩,⟨(kb (heap_lt h.map.1) h.map.2).trans h.map.1,h.map.2⟩,fun j hj=>(h.giv j hj).keep fun b hb hlt=>kb hlt hb⟩
 rintro ⟨g,o,e,h0,hc⟩
 exact ⟨g,o,e,h0,fun i hi=>kc (hc i hi) h0⟩
theorem ScanRes.envi {w w4 w5 w8:World} {D:Nat→Prop} {col:Nat→Nat} {m:WlM} {l:List GivM} {ev:Nat→Value} {lv:Value} {xb gb:Nat→Nat} {ma pa:Option Addr} {mc pc B W mv mp mk ck:Nat} {mblk sblk:Option Nat} {es:Array MapEntry}
 (h:ScanRes w4 w5 m (.slice ma m.marks.length mc) (.slice pa m.splits.length pc) xb gb mblk sblk) (hm1:1≤m.marks.length) (h0:∀ b,col b≠0→b<w4.heap.size) (hB:B≤w4.heap.size) (hc:∀ b,b<B→col b=0) (hW:col W=1)
 (o8:Only (fun b=>b=W) (w5.alloc (.cells #[.bool m.sealed,.slice ma m.marks.length mc,.slice pa m.splits.length pc] 140)) w8) (hmk:w5.heap.size<mk)
 (hmv:(w5.alloc (.cells #[.bool m.sealed,.slice ma m.marks.length mc,.slice pa m.splits.length pc] 140)).heap[mv]? = some (.cells #[.map (some mp)] 138 (0,0))) (hvb:mv<B)
 (hmp:(w5.alloc (.cells #[.bool m.sealed,.slice ma m.marks.length mc,.slice pa m.splits.length pc] 140)).heap[mp]? = some (.map es ck)) (hpb:mp<B)
 (hl:GivsAt w D lv l ev) (hb:Below w.heap.size w w8) (hwB:w.heap.size≤B) :
 ∃ mg mo,ma=some ⟨mg,mo,none⟩∧Envi w8 (pcol (paint col (some mk) 6) xb gb m.splits.length) m l ev xb w5.heap.size mv mp mg mo mc pa pc es ck:=by
 have hz:=h.below.size
 have hza:(w5.alloc (.cells #[.bool m.sealed,.slice ma m.marks.length mc,.slice pa m.splits.length pc] 140)).heap.size=w5.heap.size+1:=by simp
 have hW4:W<w4.heap.size:=h0 W (by omega)
 have hq:∀ b,(b<w4.heap.size→col b=0)→b≤w5.heap.size→(∀ j,j<m.splits.length→xb j≠b∧gb j≠b)→pcol (paint col (some mk) 6) xb gb m.splits.length b=0:=fun b h1 h2 h3=>by
  rw [pcol_old h3]
  unfold paint
  rw [if_neg (by simp;omega)]
  rcases Nat.eq_zero_or_pos (col b) with e | e
  · exact e
  · exact h1 (h0 b (by omega))
 have hx:∀ b,b<w4.heap.size∨b=w5.heap.size→∀ j,j<m.splits.length→xb j≠b∧gb j≠b:=fun b hbb j hj=>by
  obtain ⟨a1,a2,a3,a4⟩:=h.sp j hj
  have:=heap_lt a2
  omega
 have kb:∀ {b:Nat} {o:Obj},(w5.alloc (.cells #[.bool m.sealed,.slice ma m.marks.length mc,.slice pa m.splits.length pc] 140)).heap[b]? = some o→b≠W→w8.heap[b]? = some o:=fun hb hn=>(o8.block _ (heap_lt hb) hn).trans hb
 have kc:∀ {b i:Nat} {v:Value},w5.cell? ⟨b,i,none⟩=some v→b≠W→w8.cell? ⟨b,i,none⟩=some v:=fun {b i v} hcl hn=>by
  have hlt:=cell_lt hcl
  have e:w8.heap[b]? = w5.heap[b]? := (o8.block b (by omega) hn).trans (Below.heap_alloc w5 _ _ hlt)
  rw [cell_keep e]
  exact hcl
 have hso:=h.marks
 obtain ⟨mg,mo,rfl⟩:=hso.some_of hm1
 have hmb:=own_blk hso
 obtain ⟨hm4,hmx⟩:=h.mb mg hmb
 have hml:=hso.lt_of hmb
 refine ⟨mg,mo,rfl,⟨⟨kb (heap_alloc_new w5 _) (by omega),hq _ (by omega) (by omega) (hx _ (.inr rfl))⟩,⟨fun i hi=>kc (hso.cell i _ (by simp [hi])) (by omega),hq _ (by omega) (by omega) hmx⟩,?_,
  ⟨kb hmv (fun e=>by have:=hc _ hvb;rw [e] at this;omega),hq _ (fun _=>hc _ hvb) (by omega) (hx _ (.inl (by omega)))⟩,⟨kb hmp (fun e=>by have:=hc _ hpb;rw [e] at this;omega),hq _ (fun _=>hc _ hpb) (by omega) (hx _ (.inl (by omega)))⟩,fun j hj=>?_⟩⟩
 · by_cases e:m.splits=[]
   · exact .inl e
   · have hn:0<m.splits.length:=List.length_pos_iff.2 e
     have hs:=h.spl
     obtain ⟨g,o,rfl⟩:=hs.some_of hn
     have hsb:=own_blk hs
     obtain ⟨q1,q2⟩:=h.sb g hsb
     have hgl:=hs.lt_of hsb
     exact .inr ⟨g,o,rfl,hq _ (by omega) (by omega) q2,fun i hi=>kc (hs.cell i _ (by simp [hi])) (by omega)⟩
 · obtain ⟨_,_,_,hl⟩:=hl
   rcases hl with e | ⟨b,off,_,_,hl⟩
   · rw [e] at hj;simp at hj
   · exact ((((hl j hj).1.imp (D':=fun b=>b<w.heap.size) fun b hb _=>hb).below hb)).mono fun b hb=>hq _ (fun _=>hc _ (by omega)) (by omega) (hx _ (.inl (by omega)))
theorem resK_absent {same:Bool} {no:Nat} {l:List GivM} {m:WlM} (hu:Uniq m) {xb:Nat→Nat} {k:Nat} (hk:k<m.splits.length):valS (namesW (resK same no l m.splits k) xb) m.splits[k].name=none:=by
 refine valS_none ?_
 have hlen:(resK same no l m.splits k).length=k:=resK_len (by omega)
 have h:findI (resK same no l m.splits k) m.splits[k].name = -1:=idxI_none fun j hj=>by
  obtain ⟨ow,e⟩:=resK_at (same:=same) (no:=no) (l:=l) (xs:=m.splits) (k:=k) (i:=j) (by omega) (by omega)
  rw [List.getElem?_eq_getElem hj] at e
  injection e with e
  rw [e]
  cases hq:eqS (resX l ow m.splits[j]).name m.splits[k].name with
  | false=>rfl
  | true=>have:=hu j k (by omega) hk (eqS_true.mp hq);omega
 omega
theorem ownX_lt {same:Bool} {no:Nat} {acc:List SpM} {x:SpM} (h1:1≤no) (hs:same=true→x.owner<no):ownX same no acc x<no:=by
 unfold ownX
 cases same with
 | true=>exact hs rfl
 | false=>have:=fewN_le acc (no - 1);simp only [Bool.false_eq_true,if_false];omega
theorem finL_get {same:Bool} {no:Nat} {l:List GivM} {m:WlM} {i q:Nat} (h:q<i):(finL same no l m i).getD q 0=finK same no l m q:=by
 unfold finL
 rw [List.getD_eq_getElem?_getD,List.getElem?_append_left (by simpa using h)]
 simp [h]
theorem finM_risen {m:WlM} (h:Risen m) (hok:WOk m) {l:List GivM} (hb:bigB m l=false) (he:∀ x ∈ m.splits,x.evs.length≤(gOf l x.name).evs.length) {i q:Nat} (hq:q<i) (hi:i≤m.marks.length):RisenAt (finM true m.marks.length l m i) q:=by
 have h1:=h.rest hok hb he (m':=⟨m.bound,resK true m.marks.length l m.splits m.splits.length,m.marks,m.sealed,[]⟩) rfl rfl rfl q (by show q<m.marks.length;omega)
 unfold RisenAt at h1 ⊢
 have e:(finM true m.marks.length l m i).marks.getD q 0=m.marks.getD q 0:=finL_get hq
 rw [e]
 exact h1
theorem Fin4.env {w8 w20 wr:World} {c8 c:Nat→Nat} {s:List Col} {W:Nat} {ws ws':WS} {m:WlM} {same:Bool} {no:Nat} {l:List GivM} {xb gb:Nat→Nat} {mk k i:Nat} (hp:Put w8 w20 c8 c s W ws m same no l xb gb mk k) (h:Fin4 w20 wr c s ws' m same no l mk i):Only (fun b=>c8 b≠0) w8 wr :=
 hp.only.trans h.only fun b hb e=>by rw [← hp.colE b hb];exact e
end Go.Proofs.YtimahogkcmmcnaaGreatDoor
