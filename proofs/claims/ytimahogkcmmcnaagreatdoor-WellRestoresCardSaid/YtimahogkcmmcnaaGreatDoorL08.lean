/-
 The well, part 20: gauges that see a time. If the gauge's block lies in the world.
-/
import Derived.Test.YtimahogkcmmcnaaGreatDoorL07
import Derived.Handy
set_option linter.unusedSimpArgs false
set_option linter.unusedVariables false
namespace Go.Proofs.YtimahogkcmmcnaaGreatDoor
open Go.RowKit Go.Proofs.YtimahogkcmmcnaaGreatDoor.Cmps
section leaves
set_option maxHeartbeats 1000000
set_option maxRecDepth 10000
theorem f126_any (hm:Tryz.prog.follows .mixedOrders=true) (w:World) (b:Nat) (x y t:Int) (h:w.heap[b]? = some (.cells #[.int .i64 x,.int .i64 y,.bool false] 215 (0,0)))
 (h1 : -1000000000000≤t) (h2:t≤1000000000000) (h3:0≤x) (h4:x≤1000000000) :
 Calls Tryz.prog 126 #[ptr b,.int .i64 t] w fun e w'=>e=.returned (.tuple #[.bool (decide (t<y)),.int .i64 0])∧Turned w w' b #[.int .i64 x,.int .i64 (max y (t - x+1)),.bool false] 215:=by
 have mixed:=hm
 have hv:validTime t=true:=validTime_in (by omega) (by omega)
 have H174:=Lib.hid (f174_any t)
 rw [hv] at H174
 have c0:=cells_at h 0
 have c1:=cells_at h 1
 have c2:=cells_at h 2
 have hlt:=heap_lt h
 have H125:=Lib.hid (f125_any w t y)
 generalize decide (t<y)=q at H125 ⊢
 unfold ptr
 clear hv
 go_enter Tryz.func126,Tryz.ntmps126
 go_wp2_with (first
  | (go_at_call 174;with_reducible refine (H174.out _).mono ?_;rintro e w1 ⟨rfl,rfl⟩)
  | (go_at_call 125;with_reducible refine H125.out.mono ?_;rintro e w1 ⟨rfl,rfl⟩))
 have hC0:Only (fun k=>k=b) w w.drew:=(Only.refl _ _).drew
 refine wp_region_float 13 0 (fun W=>Only (fun _=>False) w W) mixed (by kernel_rfl) ((Only.refl _ _).drew) ?_
 simp only [List.take_succ_cons,List.take_zero,List.drop_succ_cons,List.drop_zero]
 repeat (
  refine wpFloat_ex (fun K hK=>?_)
  apply Exists.intro
  refine ⟨fun W hW=>?_,?_⟩
  · have hk:=hW.cell
    clear hW
    go_simp
    rfl
  go_simp
  refine hK _ ?_
  clear hK K)
 refine wpFloat_nil ?_
 have e1:IntKind.i64.wrap (t - x)=t - x:=wrapI (by omega)
 have e2:IntKind.i64.wrap (t - x+1)=t - x+1:=wrapI (by omega)
 simp only [e1,e2]
 have hd:w.drew.heap[b]? = some (.cells #[.int .i64 x,.int .i64 y,.bool false] 215 (0,0)):=h
 have hf1:w.drew.frozen? ⟨b,1,none⟩=false:=by simp [World.frozen?,hd]
 have d1:w.drew.cell? ⟨b,1,none⟩=some (.int .i64 y):=c1
 iterate 3 (
  refine wpChain_step (fun K hK=>?_)
  go_simp
  refine hK _ _ rfl (fun h=>by omega) ?_
  clear hK K)
 have hz:(if y<t - x+1 then t - x+1 else y)=max y (t - x+1):=by
  split <;> omega
 rw [hz]
 refine wpChain_nil ?_
 go_wp2_with fail
 go_ret2
 have h3':=heap_set (j:=1) h (.int .i64 (max y (t - x+1)))
 simp at h3'
 exact ⟨rfl,h3',Only.drew (Only.setCell (S:=fun k=>k=b) (p:=⟨b,1,none⟩) (Only.refl _ _) (fun _=>rfl) _),by simp⟩
end leaves
section leaves
set_option maxHeartbeats 400000
set_option maxRecDepth 10000
theorem f127_any (w:World) (b g:Nat) (sl:Bool) (r n:Nat) (a:Option Addr) (c:Nat) (x y:Int) (h1:w.cell? ⟨b,1,none⟩=some (.slice a n c)) (h2:w.cell? ⟨b,2,none⟩=some (.int .i64 r)) (h3:w.cell? ⟨b,3,none⟩=some (.pointer (some ⟨g,0,none⟩)))
 (h4:w.cell? ⟨b,4,none⟩=some (.bool sl)) (hg:w.heap[g]? = some (.cells #[.int .i64 x,.int .i64 y,.bool false] 215 (0,0))) :
 Calls Tryz.prog 127 #[ptr b] w fun e w'=>e=.returned (.tuple #[])∧Only (fun k=>k=g) w w' ∧
  w'.heap[g]? = some (.cells #[.int .i64 x,.int .i64 (if (sl && ((r:Int) == (n:Int)))=true then 1000000000001 else y),.bool (sl && ((r:Int) == (n:Int)))] 215 (0,0)):=by
 have H138:=Lib.hid (f138_any w b sl r n a c h1 h2 h4)
 have hb:=cell_lt h1
 generalize (sl && ((r:Int) == (n:Int)))=q at H138 ⊢
 have HK:Hid (∀ w1,Below w.heap.size w w1→w1.cell? ⟨b,3,none⟩=some (.pointer (some ⟨g,0,none⟩))∧Calls Tryz.prog 184 #[.pointer (some ⟨g,0,none⟩)] w1 fun e w'=>e=.returned (.tuple #[])∧Turned w1 w' g #[.int .i64 x,.int .i64 1000000000001,.bool true] 215) :=
  fun w1 h=>⟨by rw [h.cell (p:=⟨b,3,none⟩) hb];exact h3,f184_any w1 g x y false ((h.block g (heap_lt hg)).trans hg)⟩
 have HG:=Lib.hid hg
 clear h1 h2 h3 h4 hg
 unfold ptr at H138 ⊢
 cases q
 · go_enter Tryz.func127,Tryz.ntmps127
   go_wp2_with (go_at_call 138;with_reducible refine H138.out.mono ?_;rintro e w1 ⟨rfl,hb1⟩;have HB1:=Lib.hid hb1;clear hb1)
   go_returns
   exact ⟨rfl,Only.of_below HB1.out,by rw [HB1.out.block g (heap_lt HG.out)];simpa using HG.out⟩
 · go_enter Tryz.func127,Tryz.ntmps127
   go_wp2_with (first
    | (go_at_call 138;with_reducible refine H138.out.mono ?_;rintro e w1 ⟨rfl,hb1⟩;obtain ⟨d3,hcl⟩:=HK.out w1 hb1;have HC:=Lib.hid hcl;have HB1:=Lib.hid hb1;clear hb1 hcl)
    | (go_at_call 184;with_reducible refine HC.out.mono ?_;rintro e w2 ⟨rfl,ht⟩;have HT:=Lib.hid ht;clear ht))
   go_returns
   exact ⟨rfl,(Only.of_below HB1.out).trans HT.out.only (fun _ _ h=>h),by simpa using HT.out.blk⟩
end leaves
def riseStep (r:Nat) (a:Int×Bool) (x:SpM):Int×Bool:=if (x.owner == r && !x.done)=true then (if x.gauge<a.1 then x.gauge else a.1,true) else a
def riseN (l:List SpM) (sl:Bool) (r:Nat):Int×Bool:=l.foldl (riseStep r) (1000000000001,sl)
theorem riseN_take {l:List SpM} {sl:Bool} {r k:Nat} (h:k<l.length):riseN (l.take (k+1)) sl r=riseStep r (riseN (l.take k) sl r) l[k]:=by
 unfold riseN
 rw [← List.take_append_getElem h,List.foldl_append]
 rfl
theorem riseN_bound {l:List SpM} {sl:Bool} {r:Nat} (h:∀ x ∈ l,-1000000000000≤x.gauge∧x.gauge≤1000000000001) : -1000000000000≤(riseN l sl r).1∧(riseN l sl r).1≤1000000000001:=by
 unfold riseN
 have key:∀ (l:List SpM) (a:Int×Bool),(∀ x ∈ l,-1000000000000≤x.gauge∧x.gauge≤1000000000001)→(-1000000000000≤a.1∧a.1≤1000000000001)→-1000000000000≤(l.foldl (riseStep r) a).1∧(l.foldl (riseStep r) a).1≤1000000000001:=by
  intro l
  induction l with
  | nil=>intro a _ ha;exact ha
  | cons x l ih =>
    intro a hl ha
    refine ih _ (fun y hy=>hl y (List.mem_cons_of_mem _ hy)) ?_
    have:=hl x (List.mem_cons_self ..)
    unfold riseStep
    split
    · dsimp only;split <;> omega
    · exact ha
 exact key l _ h (by simp)
def risenM (m:WlM) (r:Nat):WlM :=
 if ((riseN m.splits m.sealed r).2 && decide (m.marks.getD r 0<(riseN m.splits m.sealed r).1))=true then { m with marks:=m.marks.set r (riseN m.splits m.sealed r).1 } else m
theorem risenM_splits (m:WlM) (r:Nat):(risenM m r).splits=m.splits:=by unfold risenM;split <;> rfl
theorem risenM_sealed (m:WlM) (r:Nat):(risenM m r).sealed=m.sealed:=by unfold risenM;split <;> rfl
theorem risenM_bound (m:WlM) (r:Nat):(risenM m r).bound=m.bound:=by unfold risenM;split <;> rfl
theorem risenM_late (m:WlM) (r:Nat):(risenM m r).late=m.late:=by unfold risenM;split <;> rfl
theorem risenM_len (m:WlM) (r:Nat):(risenM m r).marks.length=m.marks.length:=by unfold risenM;split <;> simp
theorem WOk.risen {m:WlM} (h:WOk m) (r:Nat):WOk (risenM m r):=by
 have e1:=risenM_splits m r
 have e5:=risenM_len m r
 refine ⟨by rw [e1];exact h.splits,by rw [e1];exact h.all,by rw [e1];exact h.read,by rw [e1,e5];exact h.owner,by rw [e5];exact h.lo,by rw [e5];exact h.hi,
  by rw [risenM_bound];exact h.bound,by rw [e1];exact h.gauge,?_,by rw [e1];exact h.name,by rw [e1];exact h.time⟩
 unfold risenM
 split
 · intro x hx
   rcases List.mem_or_eq_of_mem_set hx with hx | rfl
   · exact h.marks x hx
   · exact riseN_bound h.gauge
 · exact h.marks
def markedM (m:WlM) (n:Nat):WlM:=(List.range n).foldl risenM m
theorem markedM_succ (m:WlM) (n:Nat):markedM m (n+1)=risenM (markedM m n) n:=by
 unfold markedM
 rw [List.range_succ,List.foldl_append]
 rfl
theorem markedM_len (m:WlM) (n:Nat):(markedM m n).marks.length=m.marks.length:=by
 induction n with
 | zero=>rfl
 | succ n ih=>rw [markedM_succ,risenM_len,ih]
theorem WOk.marked {m:WlM} (h:WOk m) (n:Nat):WOk (markedM m n):=by
 induction n with
 | zero=>exact h
 | succ n ih=>rw [markedM_succ];exact ih.risen n
def fewN (l:List SpM) (n:Nat):Nat:=(List.range n).foldl (fun b r=>if countN l (r+1:Nat)<countN l b then r+1 else b) 0
theorem fewN_succ (l:List SpM) (n:Nat):fewN l (n+1)=if countN l (n+1:Nat)<countN l (fewN l n:Nat) then n+1 else fewN l n:=by
 unfold fewN
 rw [List.range_succ,List.foldl_append]
 rfl
theorem fewN_le (l:List SpM) (n:Nat):fewN l n≤n:=by
 induction n with
 | zero=>exact Nat.le_refl _
 | succ n ih=>rw [fewN_succ];split <;> omega
def lessO:Option (Nat×Nat)→Nat→Bool
 | none,_=>true
 | some p,n=>decide (n<p.2)
def nextStep (r:Int) (a:Option (Nat×Nat)) (k:Nat) (x:SpM):Option (Nat×Nat) :=
 if ((x.owner:Int) == r && decide (x.read<x.evs.length) && lessO a x.read)=true then some (k,x.read) else a
def nextN (l:List SpM) (r:Int):Nat→Option (Nat×Nat)
 | 0=>none
 | k+1=>match l[k]? with | none=>nextN l r k | some x=>nextStep r (nextN l r k) k x
theorem nextN_succ {l:List SpM} {r:Int} {k:Nat} (h:k<l.length):nextN l r (k+1)=nextStep r (nextN l r k) k l[k]:=by
 simp [nextN,h]
theorem nextN_some {l:List SpM} {r:Int} {k i n:Nat} (hk:k≤l.length) (h:nextN l r k=some (i,n)):∃ hi:i<l.length,i<k∧l[i].read=n∧n<l[i].evs.length∧(l[i].owner:Int)=r:=by
 induction k generalizing i n with
 | zero=>cases h
 | succ k ih =>
   rw [nextN_succ (by omega)] at h
   unfold nextStep at h
   split at h
   · rename_i hc
     injection h with h
     injection h with h1 h2
     subst h1
     simp only [Bool.and_eq_true,decide_eq_true_eq,beq_iff_eq] at hc
     exact ⟨by omega,by omega,h2,by rw [← h2];exact hc.1.2,hc.1.1⟩
   · obtain ⟨hi,h1,h2⟩:=ih (by omega) h
     exact ⟨hi,by omega,h2⟩
def WlM.setS (m:WlM) (k:Nat) (x:SpM):WlM:={ m with splits:=m.splits.set k x }
def findM (m:WlM) (n:ByteArray) (l:List Evt):WlM:={ m with splits:=m.splits ++ [⟨n,fewN m.splits (m.marks.length - 1),l,0,-1000000000000,false⟩] }
def moreM (m:WlM) (k:Nat) (x:SpM) (l:List Evt):WlM:=m.setS k { x with evs:=x.evs ++ l }
def sealM (m:WlM) (k:Nat) (x:SpM):WlM:=risenM (m.setS k { x with sealed:=true }) x.owner
def sealAllM (m:WlM):WlM:=markedM { m with sealed:=true } m.marks.length
def seenS (b:Int) (x:SpM) (t:Int):SpM:={ x with read:=x.read+1,gauge:=max x.gauge (t - b+1) }
def readM (m:WlM) (k:Nat) (x:SpM) (y:Evt) (r:Nat):WlM :=
 risenM { m.setS k (seenS m.bound x y.t) with late:=if y.t<m.marks.getD r 0 then m.late ++ [y] else m.late } r
theorem allN_set {l:List SpM} {k:Nat} (h:k<l.length) (x:SpM):allN (l.set k x)+l[k].evs.length=allN l+x.evs.length:=by
 induction l generalizing k with
 | nil=>simp at h
 | cons y l ih =>
   cases k with
   | zero=>simp [allN];omega
   | succ k =>
     have:=ih (k:=k) (by simpa using h)
     simp only [allN,List.set_cons_succ,List.map_cons,List.sum_cons,List.getElem_cons_succ] at this ⊢
     omega
theorem WOk.setS {m:WlM} (h:WOk m) {k:Nat} (hk:k<m.splits.length) {x:SpM} (ha:allN m.splits+x.evs.length≤400+m.splits[k].evs.length) (hr:x.read≤x.evs.length) (ho:x.owner<m.marks.length)
 (hg : -1000000000000≤x.gauge∧x.gauge≤1000000000001) (hn:x.name.size≤16) (ht:∀ y ∈ x.evs,-1000000000000≤y.t∧y.t≤1000000000000):WOk (m.setS k x):=by
 have hm:∀ {P:SpM→Prop},(∀ y ∈ m.splits,P y)→P x→∀ y ∈ m.splits.set k x,P y:=by
  intro P h1 h2 y hy
  rcases List.mem_or_eq_of_mem_set hy with hy | rfl
  · exact h1 y hy
  · exact h2
 refine ⟨by simpa [WlM.setS] using h.splits,?_,hm h.read hr,hm h.owner ho,h.lo,h.hi,h.bound,hm h.gauge hg,h.marks,hm h.name hn,hm (P:=fun x=>∀ y ∈ x.evs,_) h.time ht⟩
 have:=allN_set hk x
 show allN (m.splits.set k x)≤400
 omega
theorem WOk.sealOne {m:WlM} (h:WOk m) {k:Nat} (hk:k<m.splits.length):WOk (sealM m k m.splits[k]):=by
 have hx:=List.getElem_mem hk
 exact (h.setS hk (x:={ m.splits[k] with sealed:=true }) (by have:=h.all;show allN m.splits+m.splits[k].evs.length≤_;omega) (h.read m.splits[k] hx) (h.owner m.splits[k] hx) (h.gauge m.splits[k] hx) (h.name m.splits[k] hx) (fun y hy=>h.time m.splits[k] hx y hy)).risen _
theorem WOk.sealAll {m:WlM} (h:WOk m):WOk (sealAllM m) :=
 WOk.marked (m:={ m with sealed:=true }) ⟨h.splits,h.all,h.read,h.owner,h.lo,h.hi,h.bound,h.gauge,h.marks,h.name,h.time⟩ _
theorem WOk.more {m:WlM} (h:WOk m) {k:Nat} (hk:k<m.splits.length) {l:List Evt} (ha:allN m.splits+l.length≤400) (ht:∀ y ∈ l,-1000000000000≤y.t∧y.t≤1000000000000):WOk (moreM m k m.splits[k] l):=by
 have hx:=List.getElem_mem hk
 refine h.setS hk (x:={ m.splits[k] with evs:=m.splits[k].evs ++ l }) ?_ ?_ (h.owner m.splits[k] hx) (h.gauge m.splits[k] hx) (h.name m.splits[k] hx) ?_
 · show allN m.splits+(m.splits[k].evs ++ l).length≤_
   rw [List.length_append];omega
 · have:=h.read m.splits[k] hx
   show m.splits[k].read≤(m.splits[k].evs ++ l).length
   rw [List.length_append];omega
 · intro y hy
   rcases List.mem_append.1 hy with hy | hy
   · exact h.time m.splits[k] hx y hy
   · exact ht y hy
theorem WOk.find {m:WlM} (h:WOk m) (n:ByteArray) (l:List Evt) (h50:m.splits.length<50) (ha:allN m.splits+l.length≤400) (hn:n.size≤16) (ht:∀ y ∈ l,-1000000000000≤y.t∧y.t≤1000000000000):WOk (findM m n l):=by
 have hm:∀ {P:SpM→Prop},(∀ y ∈ m.splits,P y)→P ⟨n,fewN m.splits (m.marks.length - 1),l,0,-1000000000000,false⟩→∀ y ∈ (findM m n l).splits,P y:=by
  intro P h1 h2 y hy
  rcases List.mem_append.1 hy with hy | hy
  · exact h1 y hy
  · rw [List.mem_singleton.1 hy];exact h2
 refine ⟨by simp [findM];omega,?_,hm h.read (Nat.zero_le _),hm h.owner ?_,h.lo,h.hi,h.bound,hm h.gauge (by simp),h.marks,hm h.name hn,hm (P:=fun x=>∀ y ∈ x.evs,_) h.time ht⟩
 · show allN (m.splits ++ [_])≤400
   simp only [allN,List.map_append,List.sum_append,List.map_cons,List.map_nil,List.sum_cons,List.sum_nil,Nat.add_zero] at ha ⊢
   exact ha
 · have:=fewN_le m.splits (m.marks.length - 1)
   have:=h.lo
   show fewN _ _<m.marks.length
   omega
theorem WOk.setLate {m:WlM} (h:WOk m) (l:List Evt):WOk { m with late:=l }:=⟨h.splits,h.all,h.read,h.owner,h.lo,h.hi,h.bound,h.gauge,h.marks,h.name,h.time⟩
theorem WOk.readOne {m:WlM} (h:WOk m) {k:Nat} (hk:k<m.splits.length) (hlt:m.splits[k].read<m.splits[k].evs.length) (r:Nat):WOk (readM m k m.splits[k] (m.splits[k].evs[m.splits[k].read]) r):=by
 have hx:=List.getElem_mem hk
 have hb:=h.bound
 have hg:=h.gauge m.splits[k] hx
 have ht:=h.time m.splits[k] hx _ (List.getElem_mem hlt)
 have h1:=h.setS hk (x:=seenS m.bound m.splits[k] (m.splits[k].evs[m.splits[k].read]).t) (by have:=h.all;show allN m.splits+m.splits[k].evs.length≤_;omega) (by show m.splits[k].read+1≤m.splits[k].evs.length;omega) (h.owner m.splits[k] hx) (by show -1000000000000≤max _ _∧max _ _≤(1000000000001:Int);omega) (h.name m.splits[k] hx) (h.time m.splits[k] hx)
 exact (h1.setLate _).risen r
def readN (l:List SpM):Nat:=(l.map fun x=>x.read).sum
theorem readN_le {l:List SpM} (h:∀ x ∈ l,x.read≤x.evs.length):readN l≤allN l:=by
 induction l with
 | nil=>exact Nat.le_refl _
 | cons x l ih =>
   have h1:=h x (List.mem_cons_self ..)
   have h2:=ih fun y hy=>h y (List.mem_cons_of_mem _ hy)
   simp only [readN,allN,List.map_cons,List.sum_cons] at h2 ⊢
   omega
theorem readN_set {l:List SpM} {k:Nat} (h:k<l.length) (x:SpM):readN (l.set k x)+l[k].read=readN l+x.read:=by
 induction l generalizing k with
 | nil=>simp at h
 | cons y l ih =>
   cases k with
   | zero=>simp [readN];omega
   | succ k =>
     have:=ih (k:=k) (by simpa using h)
     simp only [readN,List.set_cons_succ,List.map_cons,List.sum_cons,List.getElem_cons_succ] at this ⊢
     omega
structure WRow (m:WlM):Prop where
 evs:∀ x ∈ m.splits,∀ y ∈ x.evs,y.r.length≤1000000
 late:∀ y ∈ m.late,y.r.length≤1000000
 num:m.late.length≤readN m.splits
theorem WRow.bound {m:WlM} (h:WRow m) (hok:WOk m):m.late.length≤400:=Nat.le_trans h.num (Nat.le_trans (readN_le hok.read) hok.all)
theorem WRow.risen {m:WlM} (h:WRow m) (r:Nat):WRow (risenM m r) :=
 ⟨by rw [risenM_splits];exact h.evs,by rw [risenM_late];exact h.late,by rw [risenM_late,risenM_splits];exact h.num⟩
theorem WRow.marked {m:WlM} (h:WRow m) (n:Nat):WRow (markedM m n):=by
 induction n with
 | zero=>exact h
 | succ n ih=>rw [markedM_succ];exact ih.risen n
theorem WRow.setS {m:WlM} (h:WRow m) {k:Nat} (hk:k<m.splits.length) {x:SpM} (hx:∀ y ∈ x.evs,y.r.length≤1000000) (hr:m.splits[k].read≤x.read):WRow (m.setS k x):=by
 refine ⟨?_,h.late,?_⟩
 · intro y hy
   rcases List.mem_or_eq_of_mem_set hy with hy | rfl
   · exact h.evs y hy
   · exact hx
 · have:=readN_set hk x
   have:=h.num
   show m.late.length≤readN (m.splits.set k x)
   omega
theorem WRow.sealOne {m:WlM} (h:WRow m) {k:Nat} (hk:k<m.splits.length):WRow (sealM m k m.splits[k]) :=
 (h.setS hk (x:={ m.splits[k] with sealed:=true }) (fun y hy=>h.evs m.splits[k] (List.getElem_mem hk) y hy) (Nat.le_refl _)).risen _
theorem WRow.sealAll {m:WlM} (h:WRow m):WRow (sealAllM m):=WRow.marked (m:={ m with sealed:=true }) ⟨h.evs,h.late,h.num⟩ _
theorem WRow.more {m:WlM} (h:WRow m) {k:Nat} (hk:k<m.splits.length) {l:List Evt} (hl:∀ y ∈ l,y.r.length≤1000000):WRow (moreM m k m.splits[k] l) :=
 h.setS hk (x:={ m.splits[k] with evs:=m.splits[k].evs ++ l }) (fun y hy=>by
  rcases List.mem_append.1 hy with hy | hy
  · exact h.evs m.splits[k] (List.getElem_mem hk) y hy
  · exact hl y hy) (Nat.le_refl _)
theorem WRow.find {m:WlM} (h:WRow m) (n:ByteArray) {l:List Evt} (hl:∀ y ∈ l,y.r.length≤1000000):WRow (findM m n l):=by
 refine ⟨?_,h.late,?_⟩
 · intro y hy
   rcases List.mem_append.1 hy with hy | hy
   · exact h.evs y hy
   · rw [List.mem_singleton.1 hy];exact hl
 · have:=h.num
   show m.late.length≤readN (m.splits ++ [_])
   simp only [readN,List.map_append,List.sum_append,List.map_cons,List.map_nil,List.sum_cons,List.sum_nil,Nat.add_zero] at this ⊢
   exact this
theorem WRow.readOne {m:WlM} (h:WRow m) {k:Nat} (hk:k<m.splits.length) (hlt:m.splits[k].read<m.splits[k].evs.length) (r:Nat):WRow (readM m k m.splits[k] (m.splits[k].evs[m.splits[k].read]) r):=by
 have hx:=List.getElem_mem hk
 have h1:=readN_set hk (seenS m.bound m.splits[k] (m.splits[k].evs[m.splits[k].read]).t)
 have h2:=h.num
 have h3:(seenS m.bound m.splits[k] (m.splits[k].evs[m.splits[k].read]).t).read=m.splits[k].read+1:=rfl
 unfold readM
 refine WRow.risen ⟨?_,?_,?_⟩ r
 · intro y hy
   rcases List.mem_or_eq_of_mem_set hy with hy | rfl
   · exact h.evs y hy
   · exact fun z hz=>h.evs m.splits[k] hx z hz
 · dsimp only
   split
   · intro y hy
     rcases List.mem_append.1 hy with hy | hy
     · exact h.late y hy
     · rw [List.mem_singleton.1 hy];exact h.evs m.splits[k] hx _ (List.getElem_mem hlt)
   · exact h.late
 · show (if m.splits[k].evs[m.splits[k].read].t<m.marks.getD r 0 then m.late ++ [m.splits[k].evs[m.splits[k].read]] else m.late).length≤readN (m.splits.set k _)
   split
   · rw [List.length_append,List.length_singleton];omega
   · omega
structure Kept (w w':World) (col col':Nat→Nat) (S:Nat→Prop):Prop where
 size:w.heap.size≤w'.heap.size
 colE:∀ b,b<w.heap.size→col' b=col b
 blk:∀ b,b<w.heap.size→¬ S (col b)→w'.heap[b]? = w.heap[b]?
 new:∀ b,col' b≠0→b<w'.heap.size
section kept
variable {w w' : World} {col col' : Nat → Nat} {S : Nat → Prop} {s : List Col} {ws : WS} {m : WlM}
theorem Kept.calm (k:Kept w w' col col' S) {b:Nat} (h:Calm w col b):Calm w' col' b:=⟨Nat.lt_of_lt_of_le h.1 k.size,(k.colE b h.1).trans h.2⟩
theorem Kept.obj (k:Kept w w' col col' S) {b c:Nat} {o:Obj} (h:w.heap[b]? = some o) (hc:col b=c) (hS:¬ S c):w'.heap[b]? = some o:=by
 subst hc;exact (k.blk b (heap_lt h) hS).trans h
theorem Kept.evs (k:Kept w w' col col' S) (h0:¬ S 0) {c:Nat} (hc:¬ S c) {v:Value} {l:List Evt} {blk:Option Nat} (hb:∀ b,blk=some b→col b=c) (h:EvsOwn w (Calm w col) v l blk):EvsOwn w' (Calm w' col') v l blk :=
 (h.keep fun b hD hlt=>k.blk b hlt (by rcases hD with hD | hD;· rw [hD.2];exact h0
                                       · rw [hb b hD];exact hc)).mono fun _ h=>k.calm h
theorem Kept.own (k:Kept w w' col col' S) {c e sz n:Nat} (hc:¬ S c) {v:Value} {xs:List Value} {blk:Option Nat} (hb:∀ b,blk=some b→col b=c) (h:SlOwn w e sz v n xs blk):SlOwn w' e sz v n xs blk :=
 h.keep fun g hg=>k.blk g (h.lt_of hg) (by rw [hb g hg];exact hc)
theorem Kept.sch (k:Kept w w' col col' S) (h0:¬ S 0) {v:Value} (h:SchemaAt w (Calm w col) v s):SchemaAt w' (Calm w' col') v s :=
 (h.keep fun b hD hlt=>k.blk b hlt (by rw [hD.2];exact h0)).mono fun _ h=>k.calm h
theorem Kept.rows (k:Kept w w' col col' S) (h0:¬ S 0) {v:Value} {l:List Val} (h:RowAt w (Calm w col) v l):RowAt w' (Calm w' col') v l :=
 (h.keep fun b hD hlt=>k.blk b hlt (by rw [hD.2];exact h0)).mono fun _ h=>k.calm h
theorem Kept.colb (k:Kept w w' col col' S) {b c:Nat} (h:col b=c) (hc:c≠0) (h0:∀ b,col b≠0→b<w.heap.size):col' b=c:=by
 rw [k.colE b (h0 b (by rw [h];exact hc))];exact h
theorem Kept.of_only {w w':World} {col:Nat→Nat} {S:Nat→Prop} (h:Only (fun b=>S (col b)) w w') (h0:∀ b,col b≠0→b<w.heap.size):Kept w w' col col S :=
 ⟨h.size,fun _ _=>rfl,fun b hb hn=>h.block b hb hn,fun b hb=>Nat.lt_of_lt_of_le (h0 b hb) h.size⟩
theorem WAt.setMark (h:WAt w col s ws m) {r:Nat} (hr:r<m.marks.length) (n:Int) (ho:Only (fun b=>b=ws.mb r∨b=ws.ib r) w w')
 (hb:w'.heap[ws.mb r]? = some (.cells #[.slice (some ⟨ws.ib r,0,none⟩) 1 1,.int .i64 n] 204 (0,0))) (hi:w'.heap[ws.ib r]? = some (.cells #[.int .i64 n,.bool false,.bool false] 202 (0,0))) :
 WAt w' col s ws { m with marks:=m.marks.set r n }:=by
 have k:Kept w w' col col (fun c=>c=8 * r+11∨c=8 * r+12) :=
  Kept.of_only (ho.mono fun b _ e=>by rcases e with rfl | rfl;exact .inl (h.cB r hr);exact .inr (h.cI r hr)) h.c0
 refine ⟨k.new,h.cW,h.cS,h.cM,h.cR,h.cL,h.cX,h.cG,h.cE,fun q hq=>h.cB q (by simpa using hq),fun q hq=>h.cI q (by simpa using hq),k.obj h.hW h.cW (by omega),k.sch (by omega) h.hC,k.own (by omega) h.cS h.hS,?_,
  k.evs (by omega) (by omega) h.cL h.hL,fun q hq=>k.obj (h.hX q hq) (h.cX q hq) (by omega),fun q hq=>k.obj (h.hG q hq) (h.cG q hq) (by omega),fun q hq=>k.evs (by omega) (by omega) (fun b hb=>h.cE q b hq hb) (h.hE q hq),?_,?_,k.obj h.hM h.cM (by omega),h.hN⟩
 · simpa using k.own (by omega) h.cR h.hR
 · intro q hq
   have hq':q<m.marks.length:=by simpa using hq
   by_cases e:q=r
   · subst e;simpa using hb
   · have:=k.obj (h.hB q hq') (h.cB q hq') (by omega)
     simpa [List.getElem_set,Ne.symm e] using this
 · intro q hq
   have hq':q<m.marks.length:=by simpa using hq
   by_cases e:q=r
   · subst e;simpa using hi
   · have:=k.obj (h.hI q hq') (h.cI q hq') (by omega)
     simpa [List.getElem_set,Ne.symm e] using this
theorem WAt.setSplit (h:WAt w col s ws m) {k:Nat} (hk:k<m.splits.length) (x:SpM) (hn:x.name=m.splits[k].name) (he:x.evs=m.splits[k].evs) (ho:Only (fun b=>b=ws.xb k∨b=ws.gb k) w w')
 (hx:w'.heap[ws.xb k]? = some (.cells #[.string x.name,ws.ev k,.int .i64 x.read,ptr (ws.gb k),.bool x.sealed,.int .i64 x.owner] 129 (0,0)))
 (hg:w'.heap[ws.gb k]? = some (.cells #[.int .i64 m.bound,.int .i64 x.mark,.bool x.done] 215 (0,0))) :
 WAt w' col s ws (m.setS k x):=by
 have kk:Kept w w' col col (fun c=>c=8 * k+8∨c=8 * k+9) :=
  Kept.of_only (ho.mono fun b _ e=>by rcases e with rfl | rfl;exact .inl (h.cX k hk);exact .inr (h.cG k hk)) h.c0
 have hl:(m.setS k x).splits.length=m.splits.length:=by simp [WlM.setS]
 have hge:∀ q (hq:q<(m.setS k x).splits.length),(m.setS k x).splits[q]=if k=q then x else m.splits[q]'(hl ▸ hq):=fun q hq=>by simp [WlM.setS,List.getElem_set]
 refine ⟨kk.new,h.cW,h.cS,h.cM,h.cR,h.cL,fun q hq=>h.cX q (hl ▸ hq),fun q hq=>h.cG q (hl ▸ hq),fun q b hq=>h.cE q b (hl ▸ hq),h.cB,h.cI,kk.obj h.hW h.cW (by omega),kk.sch (by omega) h.hC,?_,kk.own (by omega) h.cR h.hR,
  kk.evs (by omega) (by omega) h.cL h.hL,?_,?_,?_,fun q hq=>kk.obj (h.hB q hq) (h.cB q hq) (by omega),fun q hq=>kk.obj (h.hI q hq) (h.cI q hq) (by omega),kk.obj h.hM h.cM (by omega),?_⟩
 · rw [hl];exact kk.own (by omega) h.cS h.hS
 · intro q hq
   have hq':q<m.splits.length:=hl ▸ hq
   rw [hge q hq]
   by_cases e:k=q
   · subst e;rw [if_pos rfl];exact hx
   · rw [if_neg e];exact kk.obj (h.hX q hq') (h.cX q hq') (by omega)
 · intro q hq
   have hq':q<m.splits.length:=hl ▸ hq
   rw [hge q hq]
   by_cases e:k=q
   · subst e;rw [if_pos rfl];exact hg
   · rw [if_neg e];exact kk.obj (h.hG q hq') (h.cG q hq') (by omega)
 · intro q hq
   have hq':q<m.splits.length:=hl ▸ hq
   have:=kk.evs (by omega) (by omega) (fun b hb=>h.cE q b hq' hb) (h.hE q hq')
   rw [hge q hq]
   by_cases e:k=q
   · subst e;rw [if_pos rfl,he];exact this
   · rw [if_neg e];exact this
 · rw [h.hN,hl]
   apply List.map_congr_left
   intro q hq
   have hq':q<m.splits.length:=by simpa using hq
   have hq2:q<(m.setS k x).splits.length:=hl.symm ▸ hq'
   have:=hge q hq2
   simp only [List.getD_eq_getElem?_getD,List.getElem?_eq_getElem hq',List.getElem?_eq_getElem hq2,Option.getD_some,this]
   by_cases e:k=q
   · subst e;rw [if_pos rfl,hn]
   · rw [if_neg e]
theorem WAt.setSealed (h:WAt w col s ws m) (ho:Only (fun b=>b=ws.W) w w')
 (hx:w'.heap[ws.W]? = some (.cells #[ws.sch,.int .i64 m.bound,ws.spl,.map (some ws.mp),ws.rd,.bool true,ws.late] 99 (0,0))):WAt w' col s ws { m with sealed:=true }:=by
 have k:Kept w w' col col (fun c=>c=1):=Kept.of_only (ho.mono fun b _ e=>by subst e;exact h.cW) h.c0
 exact ⟨k.new,h.cW,h.cS,h.cM,h.cR,h.cL,h.cX,h.cG,h.cE,h.cB,h.cI,hx,k.sch (by omega) h.hC,k.own (by omega) h.cS h.hS,k.own (by omega) h.cR h.hR,
  k.evs (by omega) (by omega) h.cL h.hL,fun q hq=>k.obj (h.hX q hq) (h.cX q hq) (by omega),fun q hq=>k.obj (h.hG q hq) (h.cG q hq) (by omega),fun q hq=>k.evs (by omega) (by omega) (fun b hb=>h.cE q b hq hb) (h.hE q hq),
  fun q hq=>k.obj (h.hB q hq) (h.cB q hq) (by omega),fun q hq=>k.obj (h.hI q hq) (h.cI q hq) (by omega),k.obj h.hM h.cM (by omega),h.hN⟩
end kept
def updF {α:Type} (f:Nat→α) (k:Nat) (v:α) (q:Nat):α:=if q=k then v else f q
theorem updF_same {α:Type} (f:Nat→α) (k:Nat) (v:α):updF f k v k=v:=by simp [updF]
theorem updF_ne {α:Type} (f:Nat→α) {k q:Nat} (v:α) (h:q≠k):updF f k v q=f q:=by simp [updF,h]
section kept
variable {w w' : World} {col col' : Nat → Nat} {s : List Col} {ws : WS} {m : WlM}
theorem WAt.setLate (h:WAt w col s ws m) {l:List Evt} {v:Value} {blk:Option Nat} (k:Kept w w' col col' (fun c=>c=1∨c=5)) (hl:EvsOwn w' (Calm w' col') v l blk) (hc:∀ b,blk=some b→col' b=5)
 (hx:w'.heap[ws.W]? = some (.cells #[ws.sch,.int .i64 m.bound,ws.spl,.map (some ws.mp),ws.rd,.bool m.sealed,v] 99 (0,0))):WAt w' col' s { ws with late:=v,lb:=blk } { m with late:=l } :=
 ⟨k.new,k.colb h.cW (by omega) h.c0,fun b hb=>k.colb (h.cS b hb) (by omega) h.c0,k.colb h.cM (by omega) h.c0,fun b hb=>k.colb (h.cR b hb) (by omega) h.c0,hc,
  fun q hq=>k.colb (h.cX q hq) (by omega) h.c0,fun q hq=>k.colb (h.cG q hq) (by omega) h.c0,fun q b hq hb=>k.colb (h.cE q b hq hb) (by omega) h.c0,fun q hq=>k.colb (h.cB q hq) (by omega) h.c0,fun q hq=>k.colb (h.cI q hq) (by omega) h.c0,
  hx,k.sch (by omega) h.hC,k.own (by omega) h.cS h.hS,k.own (by omega) h.cR h.hR,hl,
  fun q hq=>k.obj (h.hX q hq) (h.cX q hq) (by omega),fun q hq=>k.obj (h.hG q hq) (h.cG q hq) (by omega),fun q hq=>k.evs (by omega) (by omega) (fun b hb=>h.cE q b hq hb) (h.hE q hq),
  fun q hq=>k.obj (h.hB q hq) (h.cB q hq) (by omega),fun q hq=>k.obj (h.hI q hq) (h.cI q hq) (by omega),k.obj h.hM h.cM (by omega),h.hN⟩
theorem WAt.setEvs (h:WAt w col s ws m) {k:Nat} (hk:k<m.splits.length) {l:List Evt} {v:Value} {blk:Option Nat} (kk:Kept w w' col col' (fun c=>c=8 * k+8∨c=8 * k+10)) (hl:EvsOwn w' (Calm w' col') v l blk) (hc:∀ b,blk=some b→col' b=8 * k+10)
 (hd:({ m.splits[k] with evs:=l }:SpM).done=m.splits[k].done)
 (hx:w'.heap[ws.xb k]? = some (.cells #[.string m.splits[k].name,v,.int .i64 m.splits[k].read,ptr (ws.gb k),.bool m.splits[k].sealed,.int .i64 m.splits[k].owner] 129 (0,0))) :
 WAt w' col' s { ws with ev:=updF ws.ev k v,eb:=updF ws.eb k blk } (m.setS k { m.splits[k] with evs:=l }):=by
 have hl':(m.setS k { m.splits[k] with evs:=l }).splits.length=m.splits.length:=by simp [WlM.setS]
 have hge:∀ q (hq:q<(m.setS k { m.splits[k] with evs:=l }).splits.length),(m.setS k { m.splits[k] with evs:=l }).splits[q]=if k=q then { m.splits[k] with evs:=l } else m.splits[q]'(hl' ▸ hq):=fun q hq=>by simp [WlM.setS,List.getElem_set]
 have hm:({ m.splits[k] with evs:=l }:SpM).mark=m.splits[k].mark:=by simp only [SpM.mark,hd]
 refine ⟨kk.new,kk.colb h.cW (by omega) h.c0,fun b hb=>kk.colb (h.cS b hb) (by omega) h.c0,kk.colb h.cM (by omega) h.c0,fun b hb=>kk.colb (h.cR b hb) (by omega) h.c0,fun b hb=>kk.colb (h.cL b hb) (by omega) h.c0,
  fun q hq=>kk.colb (h.cX q (hl' ▸ hq)) (by omega) h.c0,fun q hq=>kk.colb (h.cG q (hl' ▸ hq)) (by omega) h.c0,?_,fun q hq=>kk.colb (h.cB q hq) (by omega) h.c0,fun q hq=>kk.colb (h.cI q hq) (by omega) h.c0,
  kk.obj h.hW h.cW (by omega),kk.sch (by omega) h.hC,?_,kk.own (by omega) h.cR h.hR,kk.evs (by omega) (by omega) h.cL h.hL,?_,?_,?_,
  fun q hq=>kk.obj (h.hB q hq) (h.cB q hq) (by omega),fun q hq=>kk.obj (h.hI q hq) (h.cI q hq) (by omega),kk.obj h.hM h.cM (by omega),?_⟩
 · intro q b hq hb
   have hq':q<m.splits.length:=hl' ▸ hq
   by_cases e:q=k
   · subst e
     exact hc b (by simpa [updF] using hb)
   · exact kk.colb (h.cE q b hq' (by simpa [updF,e] using hb)) (by omega) h.c0
 · rw [hl'];exact kk.own (by omega) h.cS h.hS
 · intro q hq
   have hq':q<m.splits.length:=hl' ▸ hq
   rw [hge q hq]
   by_cases e:k=q
   · subst e;rw [if_pos rfl];dsimp only;rw [updF_same];exact hx
   · rw [if_neg e]
     have:=kk.obj (h.hX q hq') (h.cX q hq') (by omega)
     simpa [updF,Ne.symm e] using this
 · intro q hq
   have hq':q<m.splits.length:=hl' ▸ hq
   rw [hge q hq]
   have:=kk.obj (h.hG q hq') (h.cG q hq') (by omega)
   by_cases e:k=q
   · subst e;rw [if_pos rfl,hm,hd];exact this
   · rw [if_neg e];exact this
 · intro q hq
   have hq':q<m.splits.length:=hl' ▸ hq
   rw [hge q hq]
   by_cases e:k=q
   · subst e;simpa [updF] using hl
   · rw [if_neg e]
     have:=kk.evs (by omega) (c:=8 * q+10) (by omega) (fun b hb=>h.cE q b hq' hb) (h.hE q hq')
     simpa [updF,Ne.symm e] using this
 · rw [h.hN,hl']
   apply List.map_congr_left
   intro q hq
   have hq':q<m.splits.length:=by simpa using hq
   have hq2:q<(m.setS k { m.splits[k] with evs:=l }).splits.length:=hl'.symm ▸ hq'
   have:=hge q hq2
   simp only [List.getD_eq_getElem?_getD,List.getElem?_eq_getElem hq',List.getElem?_eq_getElem hq2,Option.getD_some,this]
   by_cases e:k=q
   · subst e;rw [if_pos rfl]
   · rw [if_neg e]
theorem WAt.addSplit (h:WAt w col s ws m) {x:SpM} {bx bg:Nat} {ev:Value} {be:Option Nat} {spl:Value} {sb:Option Nat} {en:Array MapEntry} {ck:Nat}
 (k:Kept w w' col col' (fun c=>c=1∨c=2∨c=3)) (hd:x.done=false)
 (cx:col' bx=8 * m.splits.length+8) (cg:col' bg=8 * m.splits.length+9) (ce:∀ b,be=some b→col' b=8 * m.splits.length+10) (cs:∀ b,sb=some b→col' b=2)
 (hW:w'.heap[ws.W]? = some (.cells #[ws.sch,.int .i64 m.bound,spl,.map (some ws.mp),ws.rd,.bool m.sealed,ws.late] 99 (0,0)))
 (hS:SlOwn w' 126 1 spl (m.splits.length+1) (((List.range m.splits.length).map fun k=>ptr (ws.xb k)) ++ [ptr bx]) sb)
 (hX:w'.heap[bx]? = some (.cells #[.string x.name,ev,.int .i64 x.read,ptr bg,.bool x.sealed,.int .i64 x.owner] 129 (0,0)))
 (hG:w'.heap[bg]? = some (.cells #[.int .i64 m.bound,.int .i64 x.gauge,.bool false] 215 (0,0)))
 (hE:EvsOwn w' (Calm w' col') ev x.evs be)
 (hM:w'.heap[ws.mp]? = some (.map en ck)) (hN:PEnts en.toList (namesW m.splits ws.xb ++ [(x.name,ptr bx)])) :
 WAt w' col' s { ws with spl:=spl,sb:=sb,xb:=updF ws.xb m.splits.length bx,gb:=updF ws.gb m.splits.length bg,ev:=updF ws.ev m.splits.length ev,eb:=updF ws.eb m.splits.length be,ents:=en,clock:=ck } { m with splits:=m.splits ++ [x] }:=by
 have hlen:(m.splits ++ [x]).length=m.splits.length+1:=by simp
 have hold:∀ q (hq:q<m.splits.length),(m.splits ++ [x])[q]'(by omega)=m.splits[q]:=fun q hq=>List.getElem_append_left hq
 have hnew:(m.splits ++ [x])[m.splits.length]'(by omega)=x:=by simp
 have split:∀ {P:∀ q,q<(m.splits ++ [x]).length→Prop},(∀ q (hq:q<m.splits.length),P q (by omega))→P m.splits.length (by omega)→∀ q hq,P q hq:=by
  intro P h1 h2 q hq
  by_cases e:q=m.splits.length
  · subst e;exact h2
  · exact h1 q (by omega)
 have hmk:x.mark=x.gauge:=by simp [SpM.mark,hd]
 refine ⟨k.new,k.colb h.cW (by omega) h.c0,cs,k.colb h.cM (by omega) h.c0,fun b hb=>k.colb (h.cR b hb) (by omega) h.c0,fun b hb=>k.colb (h.cL b hb) (by omega) h.c0,?_,?_,?_,
  fun q hq=>k.colb (h.cB q hq) (by omega) h.c0,fun q hq=>k.colb (h.cI q hq) (by omega) h.c0,hW,k.sch (by omega) h.hC,?_,k.own (by omega) h.cR h.hR,k.evs (by omega) (by omega) h.cL h.hL,?_,?_,?_,
  fun q hq=>k.obj (h.hB q hq) (h.cB q hq) (by omega),fun q hq=>k.obj (h.hI q hq) (h.cI q hq) (by omega),hM,?_⟩
 · refine split (fun q hq=>?_) ?_
   · dsimp only;rw [updF_ne _ _ (by omega)];exact k.colb (h.cX q hq) (by omega) h.c0
   · dsimp only;rw [updF_same];exact cx
 · refine split (fun q hq=>?_) ?_
   · dsimp only;rw [updF_ne _ _ (by omega)];exact k.colb (h.cG q hq) (by omega) h.c0
   · dsimp only;rw [updF_same];exact cg
 · intro q b hq
   refine split (P:=fun q _=>updF ws.eb m.splits.length be q=some b→col' b=8 * q+10) (fun q hq=>?_) ?_ q hq
   · rw [updF_ne _ _ (by omega)];exact fun hb=>k.colb (h.cE q b hq hb) (by omega) h.c0
   · rw [updF_same];exact ce b
 · have e1:(List.range (m.splits ++ [x]).length).map (fun k=>ptr (updF ws.xb m.splits.length bx k))=((List.range m.splits.length).map fun k=>ptr (ws.xb k)) ++ [ptr bx]:=by
    rw [hlen,List.range_succ,List.map_append]
    congr 1
    · apply List.map_congr_left
      intro q hq
      have:q<m.splits.length:=by simpa using hq
      rw [updF_ne _ _ (by omega)]
    · simp [updF_same]
   rw [e1,hlen];exact hS
 · refine split (fun q hq=>?_) ?_
   · simp only [hold q hq]
     rw [updF_ne _ _ (by omega),updF_ne _ _ (by omega),updF_ne _ _ (by omega)];exact k.obj (h.hX q hq) (h.cX q hq) (by omega)
   · simp only [hnew,updF_same];exact hX
 · refine split (fun q hq=>?_) ?_
   · simp only [hold q hq]
     rw [updF_ne _ _ (by omega)];exact k.obj (h.hG q hq) (h.cG q hq) (by omega)
   · simp only [hnew,updF_same,hmk,hd];exact hG
 · refine split (fun q hq=>?_) ?_
   · simp only [hold q hq]
     rw [updF_ne _ _ (by omega),updF_ne _ _ (by omega)];exact k.evs (by omega) (c:=8 * q+10) (by omega) (fun b hb=>h.cE q b hq hb) (h.hE q hq)
   · simp only [hnew,updF_same];exact hE
 · have e2:namesW m.splits ws.xb ++ [(x.name,ptr bx)]=namesW (m.splits ++ [x]) (updF ws.xb m.splits.length bx):=by
    unfold namesW
    rw [hlen,List.range_succ,List.map_append]
    congr 1
    · apply List.map_congr_left
      intro q hq
      have hq':q<m.splits.length:=by simpa using hq
      have hq2:q<(m.splits ++ [x]).length:=by omega
      rw [updF_ne _ _ (by omega)]
      simp only [List.getD_eq_getElem?_getD,List.getElem?_eq_getElem hq',List.getElem?_eq_getElem hq2,Option.getD_some,hold q hq']
    · simp [updF_same]
   rw [e2] at hN
   unfold PEnts namesW at hN
   rw [hN,List.map_map]
   rfl
end kept
theorem evC_len (ps:List (Evt×Value)):(evC ps).length=ps.length * 2:=by
 induction ps with
 | nil=>rfl
 | cons p l ih=>simp only [evC,List.length_cons,ih];omega
theorem evC_app (ps qs:List (Evt×Value)):evC (ps ++ qs)=evC ps ++ evC qs:=by
 induction ps with
 | nil=>rfl
 | cons p l ih=>simp only [List.cons_append,evC,ih]
theorem evC_at {ps:List (Evt×Value)} {i:Nat} (h:i<ps.length):(evC ps)[i * 2]? = some (.int .i64 ps[i].1.t)∧(evC ps)[i * 2+1]? = some ps[i].2:=by
 induction ps generalizing i with
 | nil=>simp at h
 | cons p l ih =>
   cases i with
   | zero=>exact ⟨rfl,rfl⟩
   | succ i =>
     have e1:(i+1) * 2=i * 2+1+1:=by omega
     have:=ih (i:=i) (by simpa using h)
     rw [e1]
     simpa only [evC,List.getElem?_cons_succ,List.getElem_cons_succ] using this
theorem evC_one {w:World} {D:Nat→Prop} {ps:List (Evt×Value)} (h:∀ p ∈ ps,RowAt w D p.2 p.1.r):∀ u ∈ evC ps,u.oneCell'=true:=by
 induction ps with
 | nil=>intro u hu;cases hu
 | cons p l ih =>
   intro u hu
   simp only [evC,List.mem_cons] at hu
   rcases hu with rfl | rfl | hu
   · rfl
   · obtain ⟨a,c,e,_⟩:=h p (List.mem_cons_self ..)
     rw [e];rfl
   · exact ih (fun q hq=>h q (List.mem_cons_of_mem _ hq)) u hu
theorem EvsOwn.evts {w:World} {D:Nat→Prop} {v:Value} {l:List Evt} {blk:Option Nat} (h:EvsOwn w D v l blk) (hl:l.length≤9223372036854775807):EvtsAt w (fun b=>D b∨blk=some b) v l:=by
 obtain ⟨ps,e,ho,hr⟩:=h
 subst e
 obtain ⟨a,c,rfl⟩:=ho.form
 refine ⟨a,c,rfl,hl,?_⟩
 by_cases h0:ps=[]
 · left;rw [h0];rfl
 right
 have hpos:0<ps.length:=by cases ps with | nil=>exact absurd rfl h0 | cons p l=>simp
 obtain ⟨g,o,rfl⟩:=ho.some_of (by simpa using hpos)
 have hg:blk=some g:=by
  rcases ho.2 with ⟨h,_⟩ | ⟨g',o',_,_,hb,hv,_⟩
  · cases h
  · injection hv with hv _ _
    injection hv with hv
    injection hv with hv _ _
    rw [hb,hv]
 refine ⟨g,o,rfl,.inr hg,fun i hi=>?_⟩
 have hi':i<ps.length:=by simpa using hi
 obtain ⟨c1,c2⟩:=evC_at hi'
 refine ⟨by simpa using ho.cell _ _ c1,ps[i].2,ho.cell _ _ c2,?_⟩
 have:=(hr _ (List.getElem_mem hi')).mono (D':=fun b=>D b∨blk=some b) fun b hb=>.inl hb
 simpa using this
theorem EvtsAt.mono {w:World} {D D':Nat→Prop} {v:Value} {l:List Evt} (h:EvtsAt w D v l) (hd:∀ b,D b→D' b):EvtsAt w D' v l:=by
 obtain ⟨a,cap,rfl,hl,hx⟩:=h
 refine ⟨a,cap,rfl,hl,?_⟩
 rcases hx with rfl | ⟨b,off,rfl,hb,hc⟩
 · exact .inl rfl
 · exact .inr ⟨b,off,rfl,hd b hb,fun i hi=>⟨(hc i hi).1,(hc i hi).2.imp fun r hr=>⟨hr.1,hr.2.mono hd⟩⟩⟩
theorem EvtsAt.parts {w:World} {D:Nat→Prop} {v:Value} {l:List Evt} (h:EvtsAt w D v l):∃ ps:List (Evt×Value),ps.map Prod.fst=l∧Src w 2 v l.length (evC ps)∧∀ p ∈ ps,RowAt w D p.2 p.1.r:=by
 obtain ⟨a,cap,rfl,hl,hx⟩:=h
 rcases hx with rfl | ⟨b,off,rfl,hb,hc⟩
 · exact ⟨[],rfl,⟨rfl,_,_,rfl,.inl rfl⟩,fun p hp=>by cases hp⟩
 have hc2:∀ i:Fin l.length,∃ r,w.cell? ⟨b,off+i.1 * 2+1,none⟩=some r∧RowAt w D r l[i.1].r:=fun i=>(hc i.1 i.2).2
 have hlen:(List.ofFn fun i:Fin l.length=>(l[i.1],(hc2 i).choose)).length=l.length:=by simp
 refine ⟨List.ofFn fun i:Fin l.length=>(l[i.1],(hc2 i).choose),?_,⟨by rw [evC_len,hlen],_,_,rfl,.inr ⟨_,rfl,fun j u hu=>?_⟩⟩,?_⟩
 · apply List.ext_getElem
   · simp
   · intro i h1 h2;simp
 · have hj:j<(evC (List.ofFn fun i:Fin l.length=>(l[i.1],(hc2 i).choose))).length:=by
    rcases Nat.lt_or_ge j (evC (List.ofFn fun i:Fin l.length=>(l[i.1],(hc2 i).choose))).length with h | h
    · exact h
    · rw [List.getElem?_eq_none h] at hu;cases hu
   rw [evC_len,hlen] at hj
   have hi:j / 2<l.length:=by omega
   obtain ⟨c1,c2⟩:=evC_at (ps:=List.ofFn fun i:Fin l.length=>(l[i.1],(hc2 i).choose)) (i:=j / 2) (by rw [hlen];exact hi)
   rw [add_at]
   rcases Nat.mod_two_eq_zero_or_one j with h2 | h2
   · have e:j=j / 2 * 2:=by omega
     rw [e,c1] at hu
     injection hu with hu
     subst hu
     rw [show off+j=off+j / 2 * 2 by omega]
     simpa using (hc (j / 2) hi).1
   · have e:j=j / 2 * 2+1:=by omega
     rw [e,c2] at hu
     injection hu with hu
     subst hu
     rw [show off+j=off+j / 2 * 2+1 by omega]
     simpa using (hc2 ⟨j / 2,hi⟩).choose_spec.1
 · intro p hp
   obtain ⟨i,hi,rfl⟩:=List.mem_iff_getElem.1 hp
   simp only [List.getElem_ofFn]
   exact (hc2 ⟨i,by simpa using hi⟩).choose_spec.2
end Go.Proofs.YtimahogkcmmcnaaGreatDoor
