/-
 Comparing values, rows and events, and sorting numbers of events: the plain part. No conditions: definitions and their laws.
-/
import Derived.Sort.Lot0
import Derived.Sort.LotA
import GoSem.Op.String
import Derived.Test.YtjhknhgkjfabaaaGreatDoorProg
import Derived.WalkKit
import Derived.WalkSpells
import Derived.WalkLawsBesides
import Derived.Lib.Hide
import Derived.Deep.RegionHeld3
import Derived.Deep.QuietTactic
import Derived.BigQuiet
import Derived.Deep.DeepCutAuto
import Derived.Lib.QuietBelow
import Derived.Shelf.SlSortCmp.QuietGrown
import Derived.Maps.AppendAt
import Derived.Deep.AppendLies
import Derived.Orders
import Derived.Still
import Derived.Deep.Draws
import Derived.Deep.Quiet
import Derived.StillTail
set_option linter.unusedSimpArgs false
set_option linter.unusedVariables false
namespace Go.Proofs.YtjhknhgkjfabaaaGreatDoor.Cmps
open Go.Sort
structure Cmp3 {α:Type} (c:α→α→Int):Prop where
 swap:∀ x y,c y x = - c x y
 trans:∀ x y z,c x y≤0→c y z≤0→c x z≤0
theorem Cmp3.refl {α:Type} {c:α→α→Int} (h:Cmp3 c) (x:α):c x x=0:=by have:=h.swap x x;omega
theorem Cmp3.zero {α:Type} {c:α→α→Int} (h:Cmp3 c) {x y z:α} (h1:c x y=0) (h2:c y z=0):c x z=0:=by
 have a:=h.trans x y z (by omega) (by omega)
 have s1:=h.swap x y
 have s2:=h.swap y z
 have b:=h.trans z y x (by omega) (by omega)
 have s3:=h.swap x z
 omega
theorem Cmp3.ltle {α:Type} {c:α→α→Int} (h:Cmp3 c) {x y z:α} (h1:c x y<0) (h2:c y z≤0):c x z<0:=by
 have a:=h.trans x y z (by omega) h2
 by_cases e:c x z=0
 · exfalso
   have s1:=h.swap x z
   have b:=h.trans y z x h2 (by omega)
   have s2:=h.swap x y
   omega
 · omega
theorem Cmp3.lelt {α:Type} {c:α→α→Int} (h:Cmp3 c) {x y z:α} (h1:c x y≤0) (h2:c y z<0):c x z<0:=by
 have a:=h.trans x y z h1 (by omega)
 by_cases e:c x z=0
 · exfalso
   have s1:=h.swap x z
   have b:=h.trans z x y (by omega) h1
   have s2:=h.swap y z
   omega
 · omega
theorem Cmp3.swo {α:Type} {c:α→α→Int} (h:Cmp3 c):SWO (fun x y=>decide (c x y<0)) where
 irrefl x:=by simp [h.refl]
 trans x y z h1 h2:=by
  simp only [decide_eq_true_eq] at *
  exact h.ltle h1 (by omega)
 ntrans x y z h1 h2:=by
  simp only [decide_eq_false_iff_not] at *
  have s1:=h.swap x y
  have s2:=h.swap y z
  have s3:=h.swap x z
  have:=h.trans z y x (by omega) (by omega)
  omega
theorem Cmp3.comap {α β:Type} {c:α→α→Int} (h:Cmp3 c) (f:β→α):Cmp3 (fun x y=>c (f x) (f y)) :=
 ⟨fun _ _=>h.swap _ _,fun _ _ _=>h.trans _ _ _⟩
def orI (x y:Int):Int:=if x != 0 then x else y
theorem Cmp3.or {α:Type} {c d:α→α→Int} (h:Cmp3 c) (k:Cmp3 d):Cmp3 (fun x y=>orI (c x y) (d x y)) where
 swap x y:=by
  have a:=h.swap x y
  have b:=k.swap x y
  unfold orI
  by_cases e:c x y=0
  · have e':c y x=0:=by omega
    simp [e,e',b]
  · have e':c y x≠0:=by omega
    simp [e,e',a]
 trans x y z h1 h2:=by
  unfold orI at *
  by_cases e1:c x y=0
  · by_cases e2:c y z=0
    · have e3:=h.zero e1 e2
      simp only [e1,e2,e3,bne_self_eq_false,Bool.false_eq_true,if_false] at *
      exact k.trans x y z h1 h2
    · simp only [e1,bne_self_eq_false,Bool.false_eq_true,if_false] at h1
      rw [if_pos (by simpa using e2)] at h2
      have:=h.lelt (x:=x) (y:=y) (z:=z) (by omega) (by omega)
      rw [if_pos (by simp;omega)]
      omega
  · rw [if_pos (by simpa using e1)] at h1
    have:=h.ltle (x:=x) (y:=y) (z:=z) (by omega) (by
     by_cases e2:c y z=0
     · omega
     · rw [if_pos (by simpa using e2)] at h2;exact h2)
    rw [if_pos (by simp;omega)]
    omega
def cmpI (a b:Int):Int:=if a<b then -1 else if b<a then 1 else 0
theorem cmpI_3:Cmp3 cmpI where
 swap x y:=by unfold cmpI;repeat' split
              all_goals omega
 trans x y z h1 h2:=by
  unfold cmpI at *
  repeat' split
  all_goals (try omega)
  all_goals (split at h1 <;> split at h2 <;> (try omega))
  all_goals (split at h1 <;> (try omega))
  all_goals (split at h2 <;> (try omega))
theorem bytesLess_lt:∀ (x y:List UInt8),Op.bytesLess x y=decide (x<y)
 | [],[]=>by simp [Op.bytesLess]
 | _ :: _,[]=>by simp [Op.bytesLess]
 | [],_ :: _=>by simp [Op.bytesLess]
 | a :: x,b :: y=>by
   rw [Op.bytesLess,bytesLess_lt x y]
   simp only [List.cons_lt_cons_iff]
   by_cases h1:a<b <;> by_cases h2:a=b <;> by_cases h3:x<y <;> simp [h1,h2,h3]
def lessS (a b:ByteArray):Bool:=Op.bytesLess a.toList b.toList
def cmpS (a b:ByteArray):Int:=if lessS a b then -1 else if lessS b a then 1 else 0
theorem lessS_asymm {a b:ByteArray} (h:lessS a b=true):lessS b a=false:=by
 unfold lessS at *
 simp only [bytesLess_lt,decide_eq_true_eq,decide_eq_false_iff_not] at *
 exact List.lt_asymm h
theorem lessS_trans {a b c:ByteArray} (h:lessS b a=false) (k:lessS c b=false):lessS c a=false:=by
 unfold lessS at *
 simp only [bytesLess_lt,decide_eq_false_iff_not,List.not_lt] at *
 exact List.le_trans h k
theorem cmpS_3:Cmp3 cmpS where
 swap x y:=by
  unfold cmpS
  cases h:lessS x y
  · cases k:lessS y x <;> simp
  · have:=lessS_asymm h
    simp [this]
 trans x y z h1 h2:=by
  have a:lessS y x=false:=by
   cases e:lessS y x
   · rfl
   · have:=lessS_asymm e
     unfold cmpS at h1
     rw [this,e] at h1
     simp at h1
  have b:lessS z y=false:=by
   cases e:lessS z y
   · rfl
   · have:=lessS_asymm e
     unfold cmpS at h2
     rw [this,e] at h2
     simp at h2
  have c:=lessS_trans a b
  unfold cmpS
  rw [c]
  split <;> simp
structure Val where
 k:Int
 n:Int
 s:ByteArray
def cls (k:Int):Int:=if k == 1 || k == 2 then k else 0
theorem cls_vals (k:Int):cls k=0∨cls k=1∨cls k=2:=by
 unfold cls;by_cases h1:k=1
 · simp [h1]
 · by_cases h2:k=2 <;> simp [h1,h2]
def cmpVal (a b:Val):Int :=
 orI (cmpI (cls a.k) (cls b.k)) (if cls a.k == 1 then cmpI a.n b.n else if cls a.k == 2 then cmpS a.s b.s else 0)
theorem cmpVal_as (a b:Val):cmpVal a b=orI (cmpI (cls a.k) (cls b.k)) (orI (cmpI (if cls a.k == 1 then a.n else 0) (if cls b.k == 1 then b.n else 0)) (cmpS (if cls a.k == 2 then a.s else ByteArray.empty) (if cls b.k == 2 then b.s else ByteArray.empty))):=by
 unfold cmpVal
 by_cases h:cls a.k=cls b.k
 · rw [← h,cmpI_3.refl]
   have hs:=cmpS_3.refl ByteArray.empty
   have hi:=cmpI_3.refl 0
   rcases cls_vals a.k with e | e | e
   · simp [orI,e,hs,hi]
   · simp only [orI,e,hs]
     by_cases e2:cmpI a.n b.n=0 <;> simp [e2,hs]
   · simp [orI,e,hi]
 · have:cmpI (cls a.k) (cls b.k)≠0:=by
    unfold cmpI;repeat' split
    all_goals omega
   unfold orI
   rw [if_pos (by simpa using this),if_pos (by simpa using this)]
theorem cmpVal_3:Cmp3 cmpVal:=by
 have:cmpVal=fun a b=>orI (cmpI (cls a.k) (cls b.k)) (orI (cmpI (if cls a.k == 1 then a.n else 0) (if cls b.k == 1 then b.n else 0)) (cmpS (if cls a.k == 2 then a.s else ByteArray.empty) (if cls b.k == 2 then b.s else ByteArray.empty))):=by
  funext a b;exact cmpVal_as a b
 rw [this]
 exact (cmpI_3.comap (fun v:Val=>cls v.k)).or ((cmpI_3.comap (fun v:Val=>if cls v.k == 1 then v.n else 0)).or (cmpS_3.comap (fun v:Val=>if cls v.k == 2 then v.s else ByteArray.empty)))
def cmpRow:List Val→List Val→Int
 | [],[]=>0
 | [],_ :: _ => -1
 | _ :: _,[]=>1
 | x :: xs,y :: ys=>orI (cmpVal x y) (cmpRow xs ys)
theorem cmpRow_swap:∀ a b:List Val,cmpRow b a = - cmpRow a b
 | [],[]=>rfl
 | [],_ :: _=>rfl
 | _ :: _,[]=>rfl
 | x :: xs,y :: ys=>by
   have a:=cmpVal_3.swap x y
   have b:=cmpRow_swap xs ys
   simp only [cmpRow,orI]
   by_cases e:cmpVal x y=0
   · have e':cmpVal y x=0:=by omega
     simp [e,e',b]
   · have e':cmpVal y x≠0:=by omega
     simp [e,e',a]
theorem cmpRow_trans:∀ a b c:List Val,cmpRow a b≤0→cmpRow b c≤0→cmpRow a c≤0
 | [],[],[],_,_=>by simp [cmpRow]
 | [],_,_ :: _,_,_=>by simp [cmpRow]
 | [],_ :: _,[],_,h=>by simp [cmpRow] at h
 | _ :: _,[],_,h,_=>by simp [cmpRow] at h
 | _ :: _,_ :: _,[],_,h=>by simp [cmpRow] at h
 | x :: xs,y :: ys,z :: zs,h1,h2=>by
   have IH:=cmpRow_trans xs ys zs
   simp only [cmpRow,orI] at *
   by_cases e1:cmpVal x y=0
   · by_cases e2:cmpVal y z=0
     · have e3:=cmpVal_3.zero e1 e2
       simp only [e1,e2,e3,bne_self_eq_false,Bool.false_eq_true,if_false] at *
       exact IH h1 h2
     · rw [if_pos (by simpa using e2)] at h2
       have:=cmpVal_3.lelt (x:=x) (y:=y) (z:=z) (by omega) (by omega)
       rw [if_pos (by simp;omega)]
       omega
   · rw [if_pos (by simpa using e1)] at h1
     have:=cmpVal_3.ltle (x:=x) (y:=y) (z:=z) (by omega) (by
      by_cases e2:cmpVal y z=0
      · omega
      · rw [if_pos (by simpa using e2)] at h2;exact h2)
     rw [if_pos (by simp;omega)]
     omega
theorem cmpRow_3:Cmp3 cmpRow:=⟨cmpRow_swap,cmpRow_trans⟩
structure Evt where
 t:Int
 r:List Val
/-! ### numbers in their order -/
def sltN (c:Nat→Nat→Int) (i j:Nat):Bool:=decide (c i j<0) || (decide (c i j=0) && decide (i<j))
def Ordered (c:Nat→Nat→Int) (n:Nat) (l:List Nat):Prop:=l.Perm (List.range n)∧l.Pairwise (fun x y=>sltN c y x=false)
theorem Ordered.nil (c:Nat→Nat→Int):Ordered c 0 []:=⟨List.Perm.refl _,List.Pairwise.nil⟩
theorem Ordered.lt {c:Nat→Nat→Int} {n:Nat} {l:List Nat} (h:Ordered c n l) {x:Nat} (hx:x ∈ l):x<n:=by
 have:=h.1.mem_iff.1 hx
 simpa using this
end Go.Proofs.YtjhknhgkjfabaaaGreatDoor.Cmps
namespace Go.Proofs.YtjhknhgkjfabaaaGreatDoor
open Go.RowKit Go.Proofs.YtjhknhgkjfabaaaGreatDoor.Cmps
theorem ret_bool {a b:Bool} (h:a=b):Ending.returned (.bool a)=.returned (.bool b):=by rw [h]
theorem ret_int {k:IntKind} {a b:Int} (h:a=b):Ending.returned (.int k a)=.returned (.int k b):=by rw [h]
def withinB (n lo hi:Int):Bool:=decide (lo≤n∧n≤hi)
theorem bcell {W w1:World} (hb:Below W.heap.size W w1):(∀ b o,b<W.heap.size→w1.cell? ⟨b,o,none⟩=W.cell? ⟨b,o,none⟩)∧(∀ b o,b<W.heap.size→w1.frozen? ⟨b,o,none⟩=W.frozen? ⟨b,o,none⟩) :=
 ⟨fun b o h=>hb.cell (p:=⟨b,o,none⟩) h,fun b o h=>hb.frozen (p:=⟨b,o,none⟩) h⟩
def Grew (w w':World):Prop:=∃ q os,w'=Sort.grow (w.drewN q) os
theorem Grew.refl (w:World):Grew w w:=⟨0,#[],by rw [Sort.grow_empty];rfl⟩
theorem Grew.trans {a b c:World} (h:Grew a b) (k:Grew b c):Grew a c:=by
 obtain ⟨q,os,rfl⟩:=h
 obtain ⟨q',os',rfl⟩:=k
 exact ⟨q+q',os ++ os',by show Sort.grow (Sort.grow ((a.drewN q).drewN q') os) os'=_;rw [Sort.grow_grow,World.drewN_drewN]⟩
theorem Grew.alloc {a b:World} (h:Grew a b) (o:Obj):Grew a (b.alloc o):=by
 obtain ⟨q,os,rfl⟩:=h
 exact ⟨q,os ++ #[o],by rw [Sort.alloc_eq_grow,Sort.grow_grow]⟩
theorem Grew.drew {a b:World} (h:Grew a b):Grew a b.drew:=h.trans ⟨1,#[],by rw [Sort.grow_empty];rfl⟩
theorem Grew.box {a b:World} {o:Obj} (h:Grew (a.alloc o) b):Grew a b:=((Grew.refl a).alloc o).trans h
theorem Grew.below {a b:World} (h:Grew a b):Below a.heap.size a b:=by
 obtain ⟨q,os,rfl⟩:=h
 exact below_regrown a (a.drawn+q) os
theorem Grew.at {w:World} {n:Nat} {os:Array Obj} {w':World} (h:Grew (Sort.grow (w.drewN n) os) w'):∃ q os',w'=Sort.grow ((Sort.grow (w.drewN n) os).drewN q) os':=h
theorem Grew.of {w w':World} (h:∃ p:GrownBy,w'=Sort.grow (w.drewN p.n) p.os):Grew w w':=by
 obtain ⟨p,rfl⟩:=h
 exact ⟨_,_,rfl⟩
def validValue (v:Val):Bool :=
 if v.k == 0 then v.n == 0 && v.s.toList.isEmpty
 else if v.k == 1 then withinB v.n (-1000000000000000) 1000000000000000 && v.s.toList.isEmpty
 else if v.k == 2 then v.n == 0 && decide ((v.s.size:Int)≤200)
 else false
abbrev _root_.Go.Proofs.YtjhknhgkjfabaaaGreatDoor.Cmps.Val.v (v:Val):Value:=.agg #[.int .i64 v.k,.int .i64 v.n,.string v.s]
def RowAt (w:World) (D:Nat→Prop) (r:Value) (row:List Val):Prop :=
 ∃ a cap,r=.slice a row.length cap∧row.length≤9223372036854775807∧(row=[]∨∃ b off,a=some ⟨b,off,none⟩∧D b∧∀ i,(h:i<row.length) →
  w.cell? ⟨b,off+i * 3,none⟩=some (.int .i64 row[i].k)∧w.cell? ⟨b,off+i * 3+1,none⟩=some (.int .i64 row[i].n)∧w.cell? ⟨b,off+i * 3+2,none⟩=some (.string row[i].s))
theorem RowAt.mono {w:World} {D D':Nat→Prop} {r:Value} {row:List Val} (h:RowAt w D r row) (hd:∀ b,D b→D' b):RowAt w D' r row:=by
 obtain ⟨a,cap,rfl,hl,hx⟩:=h
 refine ⟨a,cap,rfl,hl,?_⟩
 rcases hx with rfl | ⟨b,off,rfl,hb,hc⟩
 · exact .inl rfl
 · exact .inr ⟨b,off,rfl,hd b hb,hc⟩
theorem RowAt.keep {w w':World} {D:Nat→Prop} {r:Value} {row:List Val} (h:RowAt w D r row) (hk:∀ b,D b→b<w.heap.size→w'.heap[b]? = w.heap[b]?):RowAt w' D r row:=by
 obtain ⟨a,cap,rfl,hl,hx⟩:=h
 refine ⟨a,cap,rfl,hl,?_⟩
 rcases hx with rfl | ⟨b,off,rfl,hb,hc⟩
 · exact .inl rfl
 · refine .inr ⟨b,off,rfl,hb,fun i hi=>?_⟩
   have hlt:b<w.heap.size:=World.block_lt_of_cell? w ⟨b,off+i * 3,none⟩ (hc i hi).1
   have hh:=hk b hb hlt
   have hcc:∀ o,w'.cell? ⟨b,o,none⟩=w.cell? ⟨b,o,none⟩:=fun o=>World.cell?_of_block (a:=⟨b,o,none⟩) hh
   rw [hcc,hcc,hcc]
   exact hc i hi
theorem RowAt.below {w w':World} {D:Nat→Prop} {r:Value} {row:List Val} (h:RowAt w D r row) (hb:Below w.heap.size w w'):RowAt w' D r row :=
 h.keep fun b _ hlt=>hb.block b hlt
def badAt (row:List Val):Int:=match row.findIdx? (fun v => !validValue v) with | some i=>i | none => -1
theorem badAt_hit {row:List Val} {k:Nat} (hk:k<row.length) (hb:(!validValue row[k])=true) (h:∀ j (h:j<row.length),j<k→validValue row[j]=true):badAt row=k:=by
 have:row.findIdx? (fun v => !validValue v)=some k:=by
  rw [List.findIdx?_eq_some_iff_getElem]
  exact ⟨hk,hb,fun j hj=>by simp [h j (by omega) hj]⟩
 simp [badAt,this]
theorem badAt_none {row:List Val} (h:∀ j (h:j<row.length),validValue row[j]=true):badAt row = -1:=by
 have:row.findIdx? (fun v => !validValue v)=none:=by
  rw [List.findIdx?_eq_none_iff]
  intro x hx
  obtain ⟨i,hi,rfl⟩:=List.mem_iff_getElem.1 hx
  simp [h i hi]
 simp [badAt,this]
theorem badAt_all (row:List Val):decide (0≤badAt row) = !row.all validValue:=by
 unfold badAt
 cases h:row.findIdx? (fun v => !validValue v) with
 | none =>
   rw [List.findIdx?_eq_none_iff] at h
   have:row.all validValue=true:=by rw [List.all_eq_true];intro x hx;simpa using h x hx
   simp [this]
 | some i =>
   rw [List.findIdx?_eq_some_iff_getElem] at h
   obtain ⟨hi,hb,_⟩:=h
   have:row.all validValue=false:=by
    rw [List.all_eq_false];exact ⟨row[i],List.getElem_mem hi,by simpa using hb⟩
   simp [this]
def validRow (row:List Val):Bool:=decide ((row.length:Int)≤8) && row.all validValue
section leaves
set_option maxHeartbeats 400000
theorem f136_any (n lo hi:Int) (w:World) :
 Calls Tryz.prog 136 #[.int .i64 n,.int .i64 lo,.int .i64 hi] w fun e w'=>e=.returned (.bool (withinB n lo hi))∧w=w':=by
 go_enter Tryz.func136,Tryz.ntmps136
 go_wp2
 all_goals go_ret
 all_goals (exact ⟨ret_bool (by simp [withinB, *] <;> omega),rfl⟩)
theorem f189_any (n lo hi:Int) (w:World) :
 Calls Tryz.prog 189 #[.int .i64 n,.int .i64 lo,.int .i64 hi] w fun e w'=>e=.returned (.bool (withinB n lo hi))∧w=w':=by
 go_enter Tryz.func189,Tryz.ntmps189
 go_wp2
 all_goals go_ret
 all_goals (exact ⟨ret_bool (by simp [withinB, *] <;> omega),rfl⟩)
theorem f138_any (n lo hi:Int) (w:World) :
 Calls Tryz.prog 138 #[.int .i64 n,.int .i64 lo,.int .i64 hi] w fun e w'=>e=.returned (.bool (withinB n lo hi))∧w=w':=by
 go_enter Tryz.func138,Tryz.ntmps138
 go_wp2
 all_goals go_ret
 all_goals (exact ⟨ret_bool (by simp [withinB, *] <;> omega),rfl⟩)
def validTime (n:Int):Bool:=withinB n (-1000000000000) 1000000000000
theorem f96_any (n:Int) (w:World) :
 Calls Tryz.prog 96 #[.int .i64 n] w fun e w'=>e=.returned (.bool (validTime n))∧w=w':=by
 go_enter Tryz.func96,Tryz.ntmps96
 go_wp2_with (go_at_call 138;refine (f138_any _ _ _ _).mono ?_;rintro e w' ⟨rfl,rfl⟩)
 go_ret
 exact ⟨rfl,rfl⟩
theorem f125_any (v:Val) (w:World) :
 Calls Tryz.prog 125 #[v.v] w fun e w'=>e=.returned (.bool (validValue v))∧Below w.heap.size w w':=by
 go_enter Tryz.func125,Tryz.ntmps125
 go_wp2_with (go_at_call 136;refine (f136_any _ _ _ _).mono ?_;rintro e w' ⟨rfl,rfl⟩)
 all_goals go_ret
 all_goals (exact ⟨ret_bool (by simp [validValue, *]),(Below.refl _ _).alloc (Nat.le_refl _) _⟩)
theorem f139_any (v:Val) (w:World) :
 Calls Tryz.prog 139 #[v.v] w fun e w'=>e=.returned (.bool (validValue v))∧Below w.heap.size w w':=by
 go_enter Tryz.func139,Tryz.ntmps139
 go_wp2_with (go_at_call 189;refine (f189_any _ _ _ _).mono ?_;rintro e w' ⟨rfl,rfl⟩)
 all_goals go_ret
 all_goals (exact ⟨ret_bool (by simp [validValue, *]),(Below.refl _ _).alloc (Nat.le_refl _) _⟩)
theorem f124_any (v:Val) (w:World) :
 Calls Tryz.prog 124 #[v.v] w fun e w'=>e=.returned (.bool (!validValue v))∧Below w.heap.size w w':=by
 go_enter Tryz.func124,Tryz.ntmps124
 go_wp2_with (go_at_call 125;refine (f125_any v _).mono ?_;rintro e w' ⟨rfl,hb⟩)
 go_ret
 exact ⟨rfl,((Below.refl _ _).alloc (Nat.le_refl _) _).trans (hb.mono (by simp))⟩
theorem f184_any (w:World) (r:Value) (row:List Val) (D:Nat→Prop) (hr:RowAt w D r row) :
 Calls Tryz.prog 184 #[r,.func (.func 124) #[] #[]] w fun e w'=>e=.returned (.int .i64 (badAt row))∧Below w.heap.size w w':=by
 obtain ⟨a,cap,rfl,hl,hx⟩:=hr
 go_enter Tryz.func184,Tryz.ntmps184
 go_wp2
 go_loopw [8] (fun i wr=>∃ k:Nat,k≤row.length∧i=.int .i64 k∧(∀ j (h:j<row.length),j<k→validValue row[j]=true)∧Below w.heap.size w wr) (fun i _=>row.length - (intOf i).toNat)
 case atStart=>exact ⟨0,by omega,rfl,by omega,Below.refl _ _⟩
 case round =>
  obtain ⟨k,hk,rfl,hv,hb⟩:=hrel
  by_cases hlt:k<row.length
  · rcases hx with rfl | ⟨b,off,rfl,hbD,hc⟩
    · simp at hlt
    · obtain ⟨h0,h1,h2⟩:=hc k hlt
      have hbb:b<w.heap.size:=World.block_lt_of_cell? w ⟨b,off+k * 3,none⟩ h0
      rw [← hb.cell (p:=⟨b,_,none⟩) hbb] at h0 h1 h2
      clear hc
      go_wp2_with (go_at_call 124;refine (f124_any row[k] _).mono ?_;rintro e w' ⟨rfl,hb1⟩)
      · have hbad:(!validValue row[k])=true:=by assumption
        go_ret
        exact ⟨ret_int (badAt_hit hlt hbad hv).symm,hb.trans (hb1.mono hb.size)⟩
      · have hok:(!validValue row[k])=false:=by assumption
        go_roundw
        case rel =>
         refine ⟨k+1,by omega,by go_num,fun j hj hjk=>?_,hb.trans (hb1.mono hb.size)⟩
         by_cases e:j=k
         · subst e;simpa using hok
         · exact hv j hj (by omega)
        case measure=>simp [intOf];omega
  · go_wp2
    go_ret
    exact ⟨ret_int (badAt_none (fun j hj=>hv j hj (by omega))).symm,hb⟩
theorem f123_any (w:World) (r:Value) (row:List Val) (D:Nat→Prop) (hr:RowAt w D r row) :
 Calls Tryz.prog 123 #[r,.func (.func 124) #[] #[]] w fun e w'=>e=.returned (.bool (!row.all validValue))∧Below w.heap.size w w':=by
 have e:=badAt_all row
 go_enter Tryz.func123,Tryz.ntmps123
 go_wp2_with (go_at_call 184;refine (f184_any _ _ row D hr).mono ?_;rintro e w' ⟨rfl,hb1⟩)
 go_ret
 exact ⟨rfl,hb1⟩
theorem f75_any (w:World) (r:Value) (row:List Val) (D:Nat→Prop) (hr:RowAt w D r row) :
 Calls Tryz.prog 75 #[r] w fun e w'=>e=.returned (.bool (validRow row))∧Below w.heap.size w w':=by
 have hc:=f123_any w r row D hr
 obtain ⟨a,cap,rfl,hl,hx⟩:=hr
 go_enter Tryz.func75,Tryz.ntmps75
 go_wp2_with (go_at_call 123;refine (hc).mono ?_;rintro e w' ⟨rfl,hb1⟩)
 all_goals go_ret
 · exact ⟨ret_bool (by simp [validRow, *]),hb1⟩
 · exact ⟨ret_bool (by simp [validRow, *] <;> omega),Below.refl _ _⟩
theorem f97_any (w:World) (r:Value) (row:List Val) (D:Nat→Prop) (hr:RowAt w D r row) :
 Calls Tryz.prog 97 #[r] w fun e w'=>e=.returned (.bool (validRow row))∧Below w.heap.size w w':=by
 obtain ⟨a,cap,rfl,hl,hx⟩:=hr
 go_enter Tryz.func97,Tryz.ntmps97
 go_wp2
 go_loopw [3] (fun i wr=>∃ k:Nat,k≤row.length∧i=.int .i64 k∧(∀ j (h:j<row.length),j<k→validValue row[j]=true)∧Below w.heap.size w wr) (fun i _=>row.length - (intOf i).toNat)
 case atStart=>exact ⟨0,by omega,rfl,by omega,Below.refl _ _⟩
 case round =>
  obtain ⟨k,hk,rfl,hv,hb⟩:=hrel
  by_cases hlt:k<row.length
  · rcases hx with rfl | ⟨b,off,rfl,hbD,hc⟩
    · simp at hlt
    · obtain ⟨h0,h1,h2⟩:=hc k hlt
      have hbb:b<w.heap.size:=World.block_lt_of_cell? w ⟨b,off+k * 3,none⟩ h0
      rw [← hb.cell (p:=⟨b,_,none⟩) hbb] at h0 h1 h2
      clear hc
      go_wp2_with (go_at_call 139;refine (f139_any row[k] _).mono ?_;rintro e w' ⟨rfl,hb1⟩)
      · have hbad':(!validValue row[k])=true:=by assumption
        have hbad:validValue row[k]=false:=by simpa using hbad'
        go_ret
        refine ⟨ret_bool ?_,hb.trans (hb1.mono hb.size)⟩
        have:row.all validValue=false:=by
         rw [List.all_eq_false];exact ⟨row[k],List.getElem_mem hlt,by simp [hbad]⟩
        simp [validRow,this]
      · have hok':(!validValue row[k])=false:=by assumption
        have hok:validValue row[k]=true:=by simpa using hok'
        go_roundw
        case rel =>
         refine ⟨k+1,by omega,by go_num,fun j hj hjk=>?_,hb.trans (hb1.mono hb.size)⟩
         by_cases e:j=k
         · subst e;exact hok
         · exact hv j hj (by omega)
        case measure=>simp [intOf];omega
  · go_wp2
    go_ret
    refine ⟨ret_bool ?_,hb⟩
    have:row.all validValue=true:=by
     rw [List.all_eq_true];intro x hx'
     obtain ⟨i,hi,rfl⟩:=List.mem_iff_getElem.1 hx'
     exact hv i hi (by omega)
    simp [validRow,this]
end leaves
theorem gtr_less (a b:List UInt8):(!(Op.bytesLess a b || a == b))=Op.bytesLess b a:=by
 simp only [bytesLess_lt]
 by_cases h1:a<b
 · have:¬ b<a:=List.lt_asymm h1
   simp [h1,this]
 · by_cases h2:a=b
   · subst h2;simp [List.lt_irrefl]
   · have h3:b<a:=by
      rw [List.not_lt] at h1
      rcases List.le_iff_lt_or_eq.1 h1 with h | h
      · exact h
      · exact absurd h.symm h2
     simp [h1,h2,h3]
section leaves
set_option maxHeartbeats 400000
set_option maxRecDepth 10000
theorem f80_any (n:Int) (w:World) :
 Calls Tryz.prog 80 #[.int .i64 n] w fun e w'=>e=.returned (.bool false)∧w=w':=by
 go_enter Tryz.func80,Tryz.ntmps80
 go_wp2
 go_ret
 exact ⟨ret_bool (by simp),rfl⟩
theorem f44_any (a b:Int) (w:World) :
 Calls Tryz.prog 44 #[.int .i64 a,.int .i64 b] w fun e w'=>e=.returned (.int .i64 (cmpI a b))∧w=w':=by
 go_enter Tryz.func44,Tryz.ntmps44
 go_wp2_with (go_at_call 80;refine (f80_any _ _).mono ?_;rintro e w' ⟨rfl,rfl⟩)
 all_goals go_ret
 all_goals (exact ⟨ret_int (by unfold cmpI;(repeat' split) <;> omega),rfl⟩)
theorem f137_any (n:ByteArray) (w:World) :
 Calls Tryz.prog 137 #[.string n] w fun e w'=>e=.returned (.bool false)∧w=w':=by
 go_enter Tryz.func137,Tryz.ntmps137
 go_wp2
 go_ret
 exact ⟨ret_bool (by simp),rfl⟩
theorem f95_any (a b:ByteArray) (w:World) :
 Calls Tryz.prog 95 #[.string a,.string b] w fun e w'=>e=.returned (.int .i64 (cmpS a b))∧w=w':=by
 have hg:=gtr_less a.toList b.toList
 go_enter Tryz.func95,Tryz.ntmps95
 go_wp2_with (go_at_call 137;refine (f137_any _ _).mono ?_;rintro e w' ⟨rfl,rfl⟩)
 all_goals go_ret
 all_goals (refine ⟨ret_int ?_,rfl⟩;unfold cmpS lessS;simp_all)
theorem f91_any (v:Val) (w:World) :
 Calls Tryz.prog 91 #[v.v] w fun e w'=>e=.returned (.int .i64 (cls v.k))∧Grew w w':=by
 go_enter Tryz.func91,Tryz.ntmps91
 go_wp2_with (go_at_call 136;refine (f136_any _ _ _ _).mono ?_;rintro e w' ⟨rfl,rfl⟩)
 all_goals go_ret
 all_goals (refine ⟨ret_int ?_,(Grew.refl _).alloc _⟩;rename_i h;simp only [withinB,decide_eq_true_eq,decide_eq_false_iff_not] at h;unfold cls;simp only [Bool.or_eq_true,beq_iff_eq];split <;> omega)
theorem f92_any (a b:Val) (w:World) :
 Calls Tryz.prog 92 #[a.v,b.v] w fun e w'=>e=.returned (.int .i64 0)∧Grew w w':=by
 go_enter Tryz.func92,Tryz.ntmps92
 go_wp2
 go_ret
 exact ⟨rfl,((Grew.refl _).alloc _).alloc _⟩
theorem f93_any (a b:Val) (w:World) :
 Calls Tryz.prog 93 #[a.v,b.v] w fun e w'=>e=.returned (.int .i64 (cmpI a.n b.n))∧Grew w w':=by
 go_enter Tryz.func93,Tryz.ntmps93
 go_wp2_with (go_at_call 44;refine (f44_any _ _ _).mono ?_;rintro e w' ⟨rfl,rfl⟩)
 go_ret
 exact ⟨rfl,((Grew.refl _).alloc _).alloc _⟩
theorem f94_any (a b:Val) (w:World) :
 Calls Tryz.prog 94 #[a.v,b.v] w fun e w'=>e=.returned (.int .i64 (cmpS a.s b.s))∧Grew w w':=by
 go_enter Tryz.func94,Tryz.ntmps94
 go_wp2_with (go_at_call 95;refine (f95_any _ _ _).mono ?_;rintro e w' ⟨rfl,rfl⟩)
 go_ret
 exact ⟨rfl,((Grew.refl _).alloc _).alloc _⟩
theorem grown_cells {w w1:World} (h:Grew w w1):(∀ b o,b<w.heap.size→w1.cell? ⟨b,o,none⟩=w.cell? ⟨b,o,none⟩)∧(∀ b o,b<w.heap.size→w1.frozen? ⟨b,o,none⟩=w.frozen? ⟨b,o,none⟩):=bcell h.below
theorem grown_cl (w:World) (n:Nat) (os:Array Obj) (b o:Nat) (h:b<w.heap.size):(Sort.grow (w.drewN n) os).cell? ⟨b,o,none⟩=w.cell? ⟨b,o,none⟩:=by
 rw [Sort.cell?_grow _ _ _ (by exact h)];rfl
theorem f49_of (hm:Tryz.prog.follows .mixedOrders=true) (a b:Val) (c r:Int) (g:FuncId) (w:World) (hc:cls a.k=c)
 (hg:(c=0∧g=92)∨(c=1∧g=93)∨(c=2∧g=94)) (hG:∀ W,Calls Tryz.prog g #[a.v,b.v] W fun e w'=>e=.returned (.int .i64 r)∧Grew W w') :
 Calls Tryz.prog 49 #[a.v,b.v] w fun e w'=>e=.returned (.int .i64 (orI (cmpI c (cls b.k)) r))∧Grew w w':=by
 have mixed:=hm
 have HA:∀ W,Calls Tryz.prog 91 #[a.v] W fun e w'=>e=.returned (.int .i64 c)∧Grew W w':=by
  intro W;have:=f91_any a W;rw [hc] at this;exact this
 have HA:=Lib.hid HA
 have HG:=Lib.hid hG
 have hi0:∀ W:World,(Instr.index 143 (.agg #[.func (.func 92) #[] #[],.func (.func 93) #[] #[],.func (.func 94) #[] #[]]) (.int .i64 0)).run Tryz.prog W=.ok (.func (.func 92) #[] #[]) W:=fun W=>by kernel_rfl
 have hi1:∀ W:World,(Instr.index 143 (.agg #[.func (.func 92) #[] #[],.func (.func 93) #[] #[],.func (.func 94) #[] #[]]) (.int .i64 1)).run Tryz.prog W=.ok (.func (.func 93) #[] #[]) W:=fun W=>by kernel_rfl
 have hi2:∀ W:World,(Instr.index 143 (.agg #[.func (.func 92) #[] #[],.func (.func 93) #[] #[],.func (.func 94) #[] #[]]) (.int .i64 2)).run Tryz.prog W=.ok (.func (.func 94) #[] #[]) W:=fun W=>by kernel_rfl
 have H0:=Lib.hid (((Grew.refl w).alloc (.cells #[.int .i64 a.k,.int .i64 a.n,.string a.s] 44)).alloc (.cells #[.int .i64 b.k,.int .i64 b.n,.string b.s] 44))
 clear hG hc
 rcases hg with ⟨rfl,rfl⟩ | ⟨rfl,rfl⟩ | ⟨rfl,rfl⟩
 all_goals (
  go_enter Tryz.func49,Tryz.ntmps49
  go_wp2_with (first
   | (go_at_call 91;with_reducible refine (HA.out _).mono ?_;rintro e w1 ⟨rfl,hb1⟩;obtain ⟨hc1,hf1⟩:=grown_cells hb1;have hz1:=hb1.below.size;have HB1:=Lib.hid hb1;clear hb1)
   | (go_at_call 91;with_reducible refine (f91_any b _).mono ?_;rintro e w2 ⟨rfl,hb2⟩;obtain ⟨hc2,hf2⟩:=grown_cells hb2;have hz2:=hb2.below.size;have HB2:=Lib.hid hb2;clear hb2)
   | (go_at_call 44;refine (f44_any _ _ _).mono ?_;rintro e w' ⟨rfl,rfl⟩))
  · rename_i hne
    go_ret
    exact ⟨ret_int (by rw [orI,if_pos hne]),(H0.out.trans HB1.out).trans HB2.out⟩
  · rename_i hne K hK
    have hs1:w.heap.size<w2.heap.size:=by simp at hz1;omega
    have hs2:w.heap.size+1<w2.heap.size:=by simp at hz1;omega
    have hs3:w.heap.size<w1.heap.size:=by simp at hz1;omega
    have hs4:w.heap.size+1<w1.heap.size:=by simp at hz1;omega
    have HNE:=Lib.hid hne
    clear hne hz1 hz2
    have hcl:=fun n os b' o' h=>grown_cl w2 n os b' o' h
    refine wp_region_quiet_grown mixed (by kernel_rfl) ?_
    repeat (quiet_step (exact Calls.grown_of (HG.out _)))
    refine wpQuiet_nil ?_
    intro w3 hw'
    have hb3:=Grew.of hw'
    clear hw' hcl
    go_wp2
    go_ret
    exact ⟨ret_int (by rw [orI,if_neg (by rw [HNE.out];simp)]),((H0.out.trans HB1.out).trans HB2.out).trans hb3⟩)
theorem f49_any (hm:Tryz.prog.follows .mixedOrders=true) (a b:Val) (w:World) :
 Calls Tryz.prog 49 #[a.v,b.v] w fun e w'=>e=.returned (.int .i64 (cmpVal a b))∧Grew w w':=by
 rcases cls_vals a.k with h | h | h
 · have:=f49_of hm a b 0 0 92 w h (.inl ⟨rfl,rfl⟩) (fun W=>f92_any a b W)
   unfold cmpVal;rw [h];exact this
 · have:=f49_of hm a b 1 (cmpI a.n b.n) 93 w h (.inr (.inl ⟨rfl,rfl⟩)) (fun W=>f93_any a b W)
   unfold cmpVal;rw [h];exact this
 · have:=f49_of hm a b 2 (cmpS a.s b.s) 94 w h (.inr (.inr ⟨rfl,rfl⟩)) (fun W=>f94_any a b W)
   unfold cmpVal;rw [h];exact this
end leaves
end Go.Proofs.YtjhknhgkjfabaaaGreatDoor
namespace Go.Proofs.YtjhknhgkjfabaaaGreatDoor
open Go.RowKit
theorem count_set {l:List Bool} {i:Nat} (h:l[i]? = some false):((l.set i true).filter (! ·)).length+1=(l.filter (! ·)).length:=by
 induction l generalizing i with
 | nil=>simp at h
 | cons b l ih =>
   cases i with
   | zero =>
     simp only [List.getElem?_cons_zero,Option.some.injEq] at h
     subst h
     simp
   | succ i =>
     simp only [List.getElem?_cons_succ] at h
     have:=ih h
     cases b <;> simp [List.set_cons_succ] <;> omega
def Closed (md:Region.Mode) (ops:Array Oper) (listed:Array Bool):Prop :=
 ∀ j o,ops[j]? = some o→listed.getD j false=true→∀ e ∈ o.after,Region.binds md e=true→listed.getD e.on false=true
theorem getD_set_true {listed:Array Bool} {i j:Nat} (h:listed.getD j false=true):(listed.setIfInBounds i true).getD j false=true:=by
 by_cases e:i=j
 · subst e
   rcases Nat.lt_or_ge i listed.size with h' | h'
   · simp [h']
   · simp [Array.getElem?_eq_none h'] at h
 · simpa [Array.getElem?_setIfInBounds,e] using h
theorem Closed.step {md:Region.Mode} {ops:Array Oper} {listed:Array Bool} {i:Nat} {o:Oper} (h:Closed md ops listed) (ho:ops[i]? = some o) (hd:∀ e ∈ o.after,Region.binds md e=true→listed.getD e.on false=true):Closed md ops (listed.setIfInBounds i true):=by
 intro j oj hj hl e he hb
 by_cases c:i=j
 · subst c
   rw [ho] at hj
   injection hj with hj
   subst hj
   exact getD_set_true (hd e he hb)
 · refine getD_set_true (h j oj hj ?_ e he hb)
   simpa [Array.getElem?_setIfInBounds,c] using hl
theorem wpAny_inv {P:Program} {md:Region.Mode} {ops:Array Oper} {Q:Exit→Act→World→Prop} (St:Array Bool→Act→World→Prop)
 (hstep:∀ listed a w i o,St listed a w→Closed md ops listed→ops[i]? = some o→listed.getD i true=false→(∀ e ∈ o.after,Region.binds md e=true→listed.getD e.on false=true) →
   wpOp P ops Q i (fun a' w'=>St (listed.setIfInBounds i true) a' w') a w)
 (hend:∀ listed a w,St listed a w→Region.ready md ops listed=[]→Q .normal a w) :
 ∀ (fuel:Nat) (listed:Array Bool) (a:Act) (w:World),St listed a w→Closed md ops listed→(listed.toList.filter (! ·)).length≤fuel→wpAny P md ops Q fuel listed a w:=by
 intro fuel
 induction fuel with
 | zero =>
   intro listed a w hs _ hc
   have hr:Region.ready md ops listed=[]:=by
    cases hr:Region.ready md ops listed with
    | nil=>rfl
    | cons j js =>
      exfalso
      have hj:j ∈ Region.ready md ops listed:=by rw [hr];exact List.mem_cons_self
      have h0:=(mem_ready.1 hj).1
      have hx:listed.toList[j]? = some false:=by
       rcases Nat.lt_or_ge j listed.size with h' | h'
       · simp [h'] at h0 ⊢;exact h0
       · simp [Array.getElem?_eq_none h'] at h0
      have:=count_set hx
      omega
   exact ⟨hr,hend _ _ _ hs hr⟩
 | succ fuel ih =>
   intro listed a w hs hcl hc
   refine ⟨fun hr=>hend _ _ _ hs hr,fun i hi=>?_⟩
   obtain ⟨h0,o,ho,hd⟩:=mem_ready.1 hi
   refine wpOp_mono (fun a' w' hs'=>ih _ a' w' hs' (hcl.step ho hd) ?_) (hstep _ _ _ _ _ hs hcl ho h0 hd)
   have hx:listed.toList[i]? = some false:=by
    rcases Nat.lt_or_ge i listed.size with h' | h'
    · simp [h'] at h0 ⊢;exact h0
    · simp [Array.getElem?_eq_none h'] at h0
   have:=count_set hx
   rw [Array.toList_setIfInBounds]
   omega
structure Mid (ops:Array Oper) (n:Nat):Prop where
 sel:Region.noSelect ops=true
 lt:n<ops.size
 grd:∀ {i:Nat} {o:Oper},ops[i]? = some o→o.guard=none
 low:∀ {i:Nat} {o:Oper},ops[i]? = some o→∀ e ∈ o.after,Region.binds .any e=true→e.on<i
 look:∀ {i j:Nat} {o oj:Oper} {d:Tmp},ops[i]? = some o→ops[j]? = some oj→oj.dst=some d→d ∈ o.looksAt ops→j<i∧Region.waitsFor .any ops i j=true
 dist:∀ {i j:Nat} {o oj:Oper} {d:Tmp},ops[i]? = some o→ops[j]? = some oj→i≠j→oj.dst=some d→o.dst≠some d
 sink:∀ {i:Nat},i<n→∃ j,i<j∧j≤n∧Region.waitsFor .any ops j i=true
 hang:∀ {i:Nat},n<i→i<ops.size→∃ j,n≤j∧j<i∧Region.waitsFor .any ops i j=true
structure FillSt (ops:Array Oper) (val:Nat→Value) (a:Act) (L:Nat→Prop) (a':Act):Prop where
 defers:a'.defers=a.defers
 size:a'.tmps.size=a.tmps.size
 old:∀ s,(∀ j oj,ops[j]? = some oj→L j→oj.dst≠some s)→a'.tmps[s]? = a.tmps[s]?
 new:∀ s j oj,ops[j]? = some oj→L j→oj.dst=some s→s<a.tmps.size→a'.tmps[s]? = some (val j)
section
variable {ops : Array Oper} {val : Nat → Value} {a a' a1 a2 : Act} {L L' : Nat → Prop} {n : Nat}
theorem FillSt.none (ops:Array Oper) (val:Nat→Value) (a:Act):FillSt ops val a (fun _=>False) a:=⟨rfl,rfl,fun _ _=>rfl,fun _ _ _ _ h=>h.elim⟩
theorem FillSt.congr (h:FillSt ops val a L a') (hl:∀ j,L j↔L' j):FillSt ops val a L' a' :=
 ⟨h.defers,h.size,fun s hs=>h.old s fun j oj ho hj=>hs j oj ho ((hl j).1 hj),fun s j oj ho hj=>h.new s j oj ho ((hl j).2 hj)⟩
theorem FillSt.put (hm:Mid ops n) (h:FillSt ops val a L a') {i:Nat} {oi:Oper} (hi:ops[i]? = some oi):FillSt ops val a (fun j=>L j∨j=i) (a'.put oi.dst (val i)):=by
 cases hd:oi.dst with
 | none =>
   refine ⟨h.defers,h.size,fun s hs=>h.old s fun j oj ho hj=>hs j oj ho (.inl hj),fun s j oj ho hj hds hlt=>?_⟩
   rcases hj with hj | rfl
   · exact h.new s j oj ho hj hds hlt
   · rw [hi] at ho;injection ho with ho;subst ho;rw [hd] at hds;cases hds
 | some d =>
   refine ⟨h.defers,by simpa [Act.put] using h.size,fun s hs=>?_,fun s j oj ho hj hds hlt=>?_⟩
   · have hne:d≠s:=fun e=>hs i oi hi (.inr rfl) (e ▸ hd)
     simp only [Act.put,Array.getElem?_setIfInBounds_ne hne]
     exact h.old s fun j oj ho hj=>hs j oj ho (.inl hj)
   · by_cases e:j=i
     · subst e
       rw [hi] at ho;injection ho with ho;subst ho
       rw [hd] at hds;injection hds with hds;subst hds
       have:d<a'.tmps.size:=by rw [h.size];exact hlt
       simp [Act.put,this]
     · have hj':=hj.resolve_right e
       have hne:d≠s:=fun e'=>hm.dist ho hi e hd (e' ▸ hds)
       simp only [Act.put,Array.getElem?_setIfInBounds_ne hne]
       exact h.new s j oj ho hj' hds hlt
theorem FillSt.get (h1:FillSt ops val a L a1) (h2:FillSt ops val a L' a2) {s:Nat} (hl:∀ j oj,ops[j]? = some oj→oj.dst=some s→(L j↔L' j)):a1.tmps[s]? = a2.tmps[s]? := by
 by_cases hx:∃ j oj,ops[j]? = some oj∧oj.dst=some s∧L j
 · obtain ⟨j,oj,ho,hd,hj⟩:=hx
   by_cases hs:s<a.tmps.size
   · rw [h1.new s j oj ho hj hd hs,h2.new s j oj ho ((hl j oj ho hd).1 hj) hd hs]
   · rw [Array.getElem?_eq_none (by rw [h1.size];omega),Array.getElem?_eq_none (by rw [h2.size];omega)]
 · rw [h1.old s fun j oj ho hj hd=>hx ⟨j,oj,ho,hd,hj⟩,h2.old s fun j oj ho hj hd=>hx ⟨j,oj,ho,hd,(hl j oj ho hd).2 hj⟩]
theorem FillSt.eq (h1:FillSt ops val a L a1) (h2:FillSt ops val a L a2):a1=a2:=by
 obtain ⟨t1,d1⟩:=a1
 obtain ⟨t2,d2⟩:=a2
 have hd:d1=d2:=h1.defers.trans h2.defers.symm
 have ht:t1=t2:=Array.ext_getElem? fun s=>h1.get h2 fun _ _ _ _=>Iff.rfl
 rw [hd,ht]
theorem FillSt.yields {P:Program} {w:World} {o:Oper} {v:Value} (h1:FillSt ops val a L a1) (h2:FillSt ops val a L' a2) (hg:o.guard=Option.none) (hsel:∀ cs b,o.op≠.select cs b)
 (hl:∀ d,d ∈ o.looksAt ops→∀ j oj,ops[j]? = some oj→oj.dst=some d→(L j↔L' j)) (hy:YieldsAt P ops w o v a1):YieldsAt P ops w o v a2:=by
 refine hy.of_same (execOp_congr o hsel fun x hx=>?_) (by simp [Region.wanted,hg])
 cases x with
 | tmp d =>
   have hd:d ∈ o.looksAt ops:=List.mem_append_left _ (List.mem_filterMap.2 ⟨.tmp d,by simpa using hx,rfl⟩)
   have:=h2.get h1 (s:=d) fun j oj ho hdd=>(hl d hd j oj ho hdd).symm
   simp [Act.eval,this]
 | _=>rfl
theorem waits_listed {listed:Array Bool} {i j:Nat} {o:Oper} (ho:ops[i]? = some o) (hd:∀ e ∈ o.after,Region.binds .any e=true→listed.getD e.on false=true) (hw:Region.waitsFor .any ops i j=true):listed.getD j false=true:=by
 obtain ⟨o',ho',e,he,hb,hon⟩:=Region.waitsFor_spec hw
 rw [ho] at ho';injection ho' with ho';subst ho'
 rw [← hon]
 exact hd e he hb
theorem set_getD {listed:Array Bool} {i j:Nat} (hi:i<listed.size):(listed.setIfInBounds i true).getD j false=true↔listed.getD j false=true∨j=i:=by
 by_cases e:i=j
 · subst e;simp [hi]
 · have e':¬ j=i:=fun h=>e h.symm
   simp [e,e']
end
def floatB (ops:Array Oper) (f c:Nat):Bool :=
 Region.noSelect ops && decide (f≤ops.size) &&
 (List.range ops.size).all fun i =>
   match ops[i]? with
   | none=>false
   | some o=>o.guard.isNone && (o.after.all fun e => !Region.binds .any e || decide (e.on<i)) &&
     ((List.range ops.size).all fun j =>
       match ops[j]? with
       | none=>false
       | some oj =>
         match oj.dst with
         | none=>true
         | some d=>(!(o.looksAt ops).contains d || (decide (j<i) && Region.waitsFor .any ops i j) || (decide (i<j) && Region.waitsFor .any ops j i)) && (decide (i=j) || o.dst != some d)) &&
     (decide (i≤f) || Region.waitsFor .any ops i (i - 1)) &&
     (decide (i≠f+c) || (List.range f).all fun j=>Region.waitsFor .any ops i j)
structure Float (ops:Array Oper) (f c:Nat):Prop where
 sel:Region.noSelect ops=true
 le:f≤ops.size
 grd:∀ {i:Nat} {o:Oper},ops[i]? = some o→o.guard=none
 low:∀ {i:Nat} {o:Oper},ops[i]? = some o→∀ e ∈ o.after,Region.binds .any e=true→e.on<i
 look:∀ {i j:Nat} {o oj:Oper} {d:Tmp},ops[i]? = some o→ops[j]? = some oj→oj.dst=some d→d ∈ o.looksAt ops→(j<i∧Region.waitsFor .any ops i j=true)∨(i<j∧Region.waitsFor .any ops j i=true)
 dist:∀ {i j:Nat} {o oj:Oper} {d:Tmp},ops[i]? = some o→ops[j]? = some oj→i≠j→oj.dst=some d→o.dst≠some d
 chain:∀ {i:Nat},f<i→i<ops.size→Region.waitsFor .any ops i (i - 1)=true
 gone:∀ {j:Nat},f+c<ops.size→j<f→Region.waitsFor .any ops (f+c) j=true
theorem float_of {ops:Array Oper} {f c:Nat} (h:floatB ops f c=true):Float ops f c:=by
 unfold floatB at h
 simp only [Bool.and_eq_true,decide_eq_true_eq,List.all_eq_true,List.mem_range] at h
 obtain ⟨⟨h1,h2⟩,h3⟩:=h
 have key:∀ {i:Nat} {o:Oper},ops[i]? = some o→((((o.guard.isNone=true∧(o.after.all fun e => !Region.binds .any e || decide (e.on<i))=true) ∧
  ∀ j,j<ops.size→(match ops[j]? with | none=>false | some oj=>match oj.dst with | none=>true | some d=>(!(o.looksAt ops).contains d || (decide (j<i) && Region.waitsFor .any ops i j) || (decide (i<j) && Region.waitsFor .any ops j i)) && (decide (i=j) || o.dst != some d))=true) ∧
  (decide (i≤f) || Region.waitsFor .any ops i (i - 1))=true) ∧
  (decide (i≠f+c) || (List.range f).all fun j=>Region.waitsFor .any ops i j)=true):=by
  intro i o ho
  have hi:i<ops.size:=(Array.getElem?_eq_some_iff.1 ho).1
  have:=h3 i hi
  rw [ho] at this
  simpa only [Bool.and_eq_true,List.all_eq_true,List.mem_range] using this
 have two:∀ {i j:Nat} {o oj:Oper} {d:Tmp},ops[i]? = some o→ops[j]? = some oj→oj.dst=some d→((!(o.looksAt ops).contains d || (decide (j<i) && Region.waitsFor .any ops i j) || (decide (i<j) && Region.waitsFor .any ops j i)) && (decide (i=j) || o.dst != some d))=true:=by
  intro i j o oj d ho hj hd
  have:=(key ho).1.1.2 j (Array.getElem?_eq_some_iff.1 hj).1
  rw [hj] at this
  simpa only [hd] using this
 refine ⟨h1,h2,fun ho=>?_,fun ho e he hb=>?_,fun ho hj hd hl=>?_,fun ho hj hij hd=>?_,fun {i} hi hs=>?_,fun {j} hs hj=>?_⟩
 · have:=(key ho).1.1.1.1
   simpa using this
 · have h4:=(key ho).1.1.1.2
   rw [Array.all_eq_true'] at h4
   have:=h4 e he
   rw [hb] at this
   simpa using this
 · have:=two ho hj hd
   simp only [Bool.and_eq_true,Bool.or_eq_true,decide_eq_true_eq] at this
   rcases this.1 with (h | h) | h
   · exfalso
     rw [List.contains_iff_mem.2 hl] at h
     cases h
   · exact .inl h
   · exact .inr h
 · have:=two ho hj hd
   simp only [Bool.and_eq_true,Bool.or_eq_true,decide_eq_true_eq] at this
   rcases this.2 with h | h
   · exact absurd h hij
   · simpa using h
 · obtain ⟨o,ho⟩:∃ o,ops[i]? = some o:=⟨_,Array.getElem?_eq_getElem hs⟩
   have:=(key ho).1.2
   simp only [Bool.or_eq_true,decide_eq_true_eq] at this
   rcases this with h | h
   · omega
   · exact h
 · obtain ⟨o,ho⟩:∃ o,ops[f+c]? = some o:=⟨_,Array.getElem?_eq_getElem hs⟩
   have:=(key ho).2
   simp only [Bool.or_eq_true,decide_eq_true_eq,List.all_eq_true,List.mem_range] at this
   rcases this with h | h
   · exact absurd rfl h
   · exact h j hj
theorem Float.dist' {ops:Array Oper} {f c:Nat} (h:Float ops f c):∀ {i j:Nat} {o oj:Oper} {d:Tmp},ops[i]? = some o→ops[j]? = some oj→i≠j→oj.dst=some d→o.dst≠some d:=fun a b c d=>h.dist a b c d
section
variable {P : Program} {ops : Array Oper} {val val' : Nat → Value} {a a' a1 a2 : Act} {L L' : Nat → Prop}
theorem FillSt.put' (hdist:∀ {i j:Nat} {o oj:Oper} {d:Tmp},ops[i]? = some o→ops[j]? = some oj→i≠j→oj.dst=some d→o.dst≠some d) (h:FillSt ops val a L a') {i:Nat} {oi:Oper} (hi:ops[i]? = some oi):FillSt ops val a (fun j=>L j∨j=i) (a'.put oi.dst (val i)):=by
 cases hd:oi.dst with
 | none =>
   refine ⟨h.defers,h.size,fun s hs=>h.old s fun j oj ho hj=>hs j oj ho (.inl hj),fun s j oj ho hj hds hlt=>?_⟩
   rcases hj with hj | rfl
   · exact h.new s j oj ho hj hds hlt
   · rw [hi] at ho;injection ho with ho;subst ho;rw [hd] at hds;cases hds
 | some d =>
   refine ⟨h.defers,by simpa [Act.put] using h.size,fun s hs=>?_,fun s j oj ho hj hds hlt=>?_⟩
   · have hne:d≠s:=fun e=>hs i oi hi (.inr rfl) (e ▸ hd)
     simp only [Act.put,Array.getElem?_setIfInBounds_ne hne]
     exact h.old s fun j oj ho hj=>hs j oj ho (.inl hj)
   · by_cases e:j=i
     · subst e
       rw [hi] at ho;injection ho with ho;subst ho
       rw [hd] at hds;injection hds with hds;subst hds
       have:d<a'.tmps.size:=by rw [h.size];exact hlt
       simp [Act.put,this]
     · have hj':=hj.resolve_right e
       have hne:d≠s:=fun e'=>hdist ho hi e hd (e' ▸ hds)
       simp only [Act.put,Array.getElem?_setIfInBounds_ne hne]
       exact h.new s j oj ho hj' hds hlt
theorem FillSt.revalue (h:FillSt ops val a L a') (hv:∀ j,L j→val j=val' j):FillSt ops val' a L a' :=
 ⟨h.defers,h.size,h.old,fun s j oj ho hj hd hs=>by rw [← hv j hj];exact h.new s j oj ho hj hd hs⟩
theorem FillSt.evals (h1:FillSt ops val a L a1) (h2:FillSt ops val a L' a2) {o:Oper} (hl:∀ d,d ∈ o.looksAt ops→∀ j oj,ops[j]? = some oj→oj.dst=some d→(L j↔L' j)):∀ x ∈ o.op.operands,a2.eval x=a1.eval x:=by
 intro x hx
 cases x with
 | tmp d =>
   have hd:d ∈ o.looksAt ops:=List.mem_append_left _ (List.mem_filterMap.2 ⟨.tmp d,by simpa using hx,rfl⟩)
   have:=h2.get h1 (s:=d) fun j oj ho hdd=>(hl d hd j oj ho hdd).symm
   simp [Act.eval,this]
 | _=>rfl
abbrev NoOut:Exit→Act→World→Prop:=fun _ _ _=>False
theorem wp_move {o:Oper} {b b':Act} {w:World} {K K':Act→World→Prop} {Q:Exit→Act→World→Prop} (he:execOp b'.eval o=execOp b.eval o) (h:o.wp P b w K NoOut) (hK:∀ v w',K (b.put o.dst v) w'→K' (b'.put o.dst v) w') (hd:∀ a w',K a w'→a.defers=b.defers):o.wp P b' w K' Q:=by
 unfold Oper.wp at *
 rw [he]
 generalize (execOp b.eval o).run P w=r at h
 cases r with
 | ok n w' =>
   cases n <;> simp only [Oper.upon] at h ⊢
   case value v=>exact hK _ _ h
   case skip=>exact hK _ _ h
   case defer d =>
    exfalso
    have:=hd _ _ h
    cases hdst:o.dst <;> simp [Act.put,hdst] at this
   case enter f args =>
    refine h.mono fun e w'' he'=>?_
    cases e with
    | returned v=>exact hK _ _ he'
    | panicked ch=>exact he'.elim
    | outgrown=>obtain ⟨_,_,hf⟩:=he';exact hf.elim
   case row row args=>exact h.mono fun v w'' hv=>hK _ _ hv
 | halt x w' =>
   cases x <;> simp only [Oper.upon] at h
   exact h.elim
def wpChain (P:Program) (C:World→Prop) (Q:Exit→Act→World→Prop):Nat→List Oper→Act→World→Prop
 | _,[],a,w=>Q .normal a w
 | c,o :: rest,a,w=>o.wp P a w (fun a' w'=>a'.defers=a.defers∧(0<c→C w')∧wpChain P C Q (c - 1) rest a' w') NoOut
theorem float_fill (hdist:∀ {i j:Nat} {o oj:Oper} {d:Tmp},ops[i]? = some o→ops[j]? = some oj→i≠j→oj.dst=some d→o.dst≠some d) {acts:Nat→Act} {m:Nat} {R:Nat→Oper→Prop} (ha:acts 0=a) (h:∀ j,j<m→∃ o,ops[j]? = some o∧R j o∧acts (j+1)=(acts j).put o.dst (val j)) :
 ∀ d,d≤m→FillSt ops val a (fun j=>j<d) (acts d):=by
 intro d
 induction d with
 | zero=>intro _;rw [ha];exact (FillSt.none ops val a).congr fun j=>by simp
 | succ d ih =>
   intro hd
   obtain ⟨o,ho,_,e⟩:=h d (by omega)
   have:=(ih (by omega)).put' hdist ho
   rw [← e] at this
   exact this.congr fun j=>by constructor <;> intro hj <;> omega
end
theorem wpChain_nil {P:Program} {C:World→Prop} {Q:Exit→Act→World→Prop} {c:Nat} {a:Act} {w:World} (h:Q .normal a w):wpChain P C Q c [] a w:=h
theorem wpChain_step {P:Program} {C:World→Prop} {Q:Exit→Act→World→Prop} {c:Nat} {o:Oper} {rest:List Oper} {a:Act} {w:World}
 (h:∀ K:Act→World→Prop,(∀ a' w',a'.defers=a.defers→(0<c→C w')→wpChain P C Q (c - 1) rest a' w'→K a' w')→o.wp P a w K NoOut):wpChain P C Q c (o :: rest) a w :=
 h _ fun _ _ h1 h2 h3=>⟨h1,h2,h3⟩
section
variable {P : Program} {ops : Array Oper} {val val' : Nat → Value} {a a' a1 a2 : Act} {L L' : Nat → Prop}
def wpQf (P:Program) (C:World→Prop) (Q:Act→Prop):List Oper→Act→Prop
 | [],a=>Q a
 | o :: rest,a=>∃ v,(∀ w,C w→o.quietAt P a C w v)∧wpQf P C Q rest (a.put o.dst v)
theorem qf_vals {C:World→Prop} {Q:Act→Prop}:∀ (l:List Oper) (k:Nat) (a:Act),(∀ j,j<l.length→l[j]? = ops[k+j]?)→wpQf P C Q l a →
 ∃ (val:Nat→Value) (acts:Nat→Act),acts k=a∧(∀ j,k≤j→j<k+l.length→∃ o,ops[j]? = some o∧(∀ w,C w→o.quietAt P (acts j) C w (val j))∧acts (j+1)=(acts j).put o.dst (val j))∧Q (acts (k+l.length))
 | [],k,a,_,h=>⟨fun _=>undef,fun _=>a,rfl,fun j h1 h2=>by simp at h2;omega,h⟩
 | o :: l,k,a,hl,h=>by
   have h0:ops[k]? = some o:=by simpa using (hl 0 (by simp)).symm
   obtain ⟨v,hy,hK⟩:=h
   obtain ⟨val,acts,e1,e2,e3⟩:=qf_vals l (k+1) _ (fun j hj=>by have:=hl (j+1) (by simp;omega);simpa [Nat.add_assoc,Nat.add_comm 1 j] using this) hK
   refine ⟨fun j=>if j=k then v else val j,fun j=>if j=k then a else acts j,by simp,fun j h1 h2=>?_,?_⟩
   · by_cases e:j=k
     · subst e
       refine ⟨o,h0,by simpa using hy,?_⟩
       have:¬ j+1=j:=by omega
       simp only [this,if_false,if_true]
       exact e1
     · obtain ⟨o',ho',hy',ha'⟩:=e2 j (by omega) (by simp at h2;omega)
       refine ⟨o',ho',by simpa [e] using hy',?_⟩
       have:¬ j+1=k:=by omega
       simp only [this,e,if_false]
       exact ha'
   · have:¬ k+(o :: l).length=k:=by simp
     simp only [this,if_false]
     have e4:k+(o :: l).length=k+1+l.length:=by simp;omega
     rw [e4]
     exact e3
end
def goneB (ops:Array Oper) (f:Nat):Bool :=
 (List.range f).all fun j=>(List.range (f+1)).any fun k=>decide (j<k) && Region.waitsFor .any ops k j
theorem gone_listed {ops:Array Oper} {f:Nat} {listed:Array Bool} (hG:goneB ops f=true) (hf:f<ops.size) (hcl:Closed .any ops listed) (h:listed.getD f false=true):∀ n j,f - j≤n→j≤f→listed.getD j false=true:=by
 intro n
 induction n with
 | zero =>
   intro j hj hjf
   have:j=f:=by omega
   rw [this];exact h
 | succ n ih =>
   intro j hj hjf
   rcases Nat.eq_or_lt_of_le hjf with e | hlt
   · rw [e];exact h
   · unfold goneB at hG
     rw [List.all_eq_true] at hG
     have:=hG j (List.mem_range.2 hlt)
     rw [List.any_eq_true] at this
     obtain ⟨k,hk,hx⟩:=this
     simp only [Bool.and_eq_true,decide_eq_true_eq] at hx
     have hkf:k≤f:=by have:=List.mem_range.1 hk;omega
     have hkl:=ih k (by omega) hkf
     obtain ⟨ok,hok⟩:∃ ok,ops[k]? = some ok:=⟨_,Array.getElem?_eq_getElem (by omega)⟩
     exact waits_listed hok (fun e he hb=>hcl _ ok hok hkl e he hb) hx.2
theorem wp_region_qfloat {P:Program} {id:Nat} {Q:Exit→Act→World→Prop} {a:Act} {w:World} {l:List Oper} (f:Nat) (C:World→Prop) (hm:P.follows .mixedOrders=true) (hB:floatB l.toArray f l.length=true) (hG:goneB l.toArray f=true) (hf:f<l.length) (hC:C w.drew)
 (h:wpQf P C (fun b=>∀ w',C w'→wpChain P C Q 0 (l.drop f) b w') (l.take f) a):(Code.region id l.toArray true).wp P Q a w:=by
 have hfl:=float_of hB
 generalize hops:l.toArray=ops at *
 have hsz:ops.size=l.length:=by rw [← hops];simp
 have htl:(l.take f).length=f:=by simp;omega
 have hel:∀ j:Nat,l[j]? = ops[j]? := fun j=>by rw [← hops];simp
 obtain ⟨val,acts,e1,e2,e3⟩:=qf_vals (ops:=ops) (l.take f) 0 a (fun j hj=>by
  rw [htl] at hj
  rw [List.getElem?_take_of_lt hj,Nat.zero_add]
  exact hel j) h
 rw [htl,Nat.zero_add] at e3
 simp only [htl,Nat.zero_add,Nat.zero_le,true_imp_iff] at e2
 have hfill:=fun (val':Nat→Value) (hv:∀ j,j<f→val j=val' j) (d:Nat) (hd:d≤f)=>((float_fill hfl.dist' e1 e2) d hd).revalue (val':=val') fun j hj=>hv j (by omega)
 have hsel:=Region.noSelect_spec hfl.sel
 let St:Array Bool→Act→World→Prop:=fun listed a' w'=>listed.size=ops.size∧∃ (t:Nat) (b:Act) (val':Nat→Value),f+t≤ops.size∧(∀ j,j<f→val j=val' j)∧(∀ j,f≤j→(listed.getD j false=true↔j<f+t)) ∧
  (t=0→C w'∧b=acts f)∧(0<t→wpChain P C Q 0 (l.drop (f+t)) b w')∧FillSt ops val' a (fun j=>j<f+t) b∧FillSt ops val' a (fun j=>listed.getD j false=true) a'
 refine wp_region_any hm (wpAny_inv St ?_ ?_ _ _ _ _ ?_ ?_ ?_)
 · rintro listed a' w' i oi ⟨hs,t,b,val',ht,hv,hch,hCw,hwp,hfb,hfa⟩ hcl hoi hun hd
   have hi:i<ops.size:=(Array.getElem?_eq_some_iff.1 hoi).1
   have hun':listed.getD i false=false:=by
    simp [show i<listed.size by omega] at hun ⊢;exact hun
   rcases Nat.lt_or_ge i f with hif | hif
   · have htc:t=0:=by
      rcases Nat.eq_zero_or_pos t with h' | h'
      · exact h'
      · exfalso
        have h1:=(hch f (by omega)).2 (by omega)
        have h2:=gone_listed hG (by omega) hcl h1 (f - i) i (Nat.le_refl _) (by omega)
        rw [hun'] at h2;cases h2
     obtain ⟨hC',hbf⟩:=hCw htc
     obtain ⟨o',ho',hy,_⟩:=e2 i hif
     rw [hoi] at ho';injection ho' with ho';subst ho'
     have hev:=(hfill val' hv i (by omega)).evals hfa (o:=oi) (fun d hdl j oj hj hdj=>by
      rcases hfl.look hoi hj hdj hdl with ⟨h1,h2⟩ | ⟨h1,h2⟩
      · exact ⟨fun _=>waits_listed hoi hd h2,fun _=>h1⟩
      · refine ⟨fun h=>by omega,fun h=>?_⟩
        have h3:=waits_listed hj (fun e he hb=>hcl _ oj hj h e he hb) h2
        rw [hun'] at h3;cases h3)
     have hcg:execOp a'.eval oi=execOp (acts i).eval oi:=execOp_congr oi (fun cs b=>hsel i oi cs b hoi) hev
     have hyw:=hy w' hC'
     have hnext:∀ w'',C w''→St (listed.setIfInBounds i true) (a'.put oi.dst (val i)) w'':=fun w'' hC''=>by
      refine ⟨by simpa using hs,t,b,val',ht,hv,fun j hj=>?_,fun _=>⟨hC'',hbf⟩,fun h0=>by omega,hfb,?_⟩
      · rw [set_getD (by omega)]
        have:=hch j hj
        constructor
        · rintro (h1 | h1)
          · exact this.1 h1
          · omega
        · intro h1;exact .inl (this.2 h1)
      · rw [hv i hif]
        exact (hfa.put' hfl.dist' hoi).congr fun j=>(set_getD (by omega)).symm
     unfold wpOp
     simp only [hoi]
     have hwt:Region.wanted oi (yielded ops a'.tmps)=true:=by simp [Region.wanted,hfl.grd hoi]
     rw [if_pos hwt]
     refine .inl ?_
     unfold Oper.wp
     rw [hcg]
     unfold Oper.quietAt at hyw
     generalize (execOp (acts i).eval oi).run P w'=r at hyw
     cases r with
     | ok n w2 =>
       cases n <;> simp only [Oper.quietUpon] at hyw <;> simp only [Oper.upon]
       case value u =>
        obtain ⟨q1,q2⟩:=hyw
        rw [q1,q2]
        exact hnext _ hC'
       case skip =>
        obtain ⟨q1,q2⟩:=hyw
        rw [q1,← q2]
        exact hnext _ hC'
       case enter g args =>
        obtain ⟨q1,hc⟩:=hyw
        rw [q1]
        exact hc.mono fun e w'' ⟨he,hw''⟩=>by subst he;exact hnext _ hw''
     | halt x w2=>simp only [Oper.quietUpon] at hyw
   · have hit:i=f+t:=by
      have h1:=hch i hif
      rw [hun'] at h1
      have hge:f+t≤i:=by
       rcases Nat.lt_or_ge i (f+t) with h' | h'
       · exact absurd (h1.2 h') (by simp)
       · exact h'
      rcases Nat.lt_or_ge (f+t) i with h' | h'
      · exfalso
        have h2:=waits_listed hoi hd (hfl.chain (by omega) hi)
        have h3:=(hch (i - 1) (by omega)).1 h2
        omega
      · omega
     subst hit
     have hdrop:l.drop (f+t)=oi :: l.drop (f+t+1):=by
      have h1:l[f+t]? = some oi:=(hel _).trans hoi
      obtain ⟨h2,h3⟩:=List.getElem?_eq_some_iff.1 h1
      rw [List.drop_eq_getElem_cons h2,h3]
     have hwp':wpChain P C Q 0 (oi :: l.drop (f+t+1)) b w':=by
      rcases Nat.eq_zero_or_pos t with h' | h'
      · obtain ⟨hC',hbf⟩:=hCw h'
        have:=e3 w' hC'
        rw [hbf,← hdrop,h',Nat.add_zero]
        exact this
      · rw [← hdrop];exact hwp h'
     have hev:=hfb.evals hfa (o:=oi) (fun d hdl j oj hj hdj=>by
      rcases hfl.look hoi hj hdj hdl with ⟨h1,h2⟩ | ⟨h1,h2⟩
      · exact ⟨fun _=>waits_listed hoi hd h2,fun _=>h1⟩
      · refine ⟨fun h=>by omega,fun h=>?_⟩
        have h3:=waits_listed hj (fun e he hb=>hcl _ oj hj h e he hb) h2
        rw [hun'] at h3;cases h3)
     unfold wpOp
     simp only [hoi]
     have hwt:Region.wanted oi (yielded ops a'.tmps)=true:=by simp [Region.wanted,hfl.grd hoi]
     rw [if_pos hwt]
     refine .inl (wp_move (execOp_congr oi (fun cs b=>hsel _ oi cs b hoi) hev) hwp' (fun v w'' hK=>?_) (fun _ _ hK=>hK.1))
     obtain ⟨_,_,hrest⟩:=hK
     let val2:Nat→Value:=fun j=>if j=f+t then v else val' j
     have hv2:val2 (f+t)=v:=by simp [val2]
     have hv3:∀ j,j≠f+t→val' j=val2 j:=fun j hj=>by simp [val2,hj]
     have f1:=(hfb.revalue (val':=val2) fun j hj=>hv3 j (by omega)).put' hfl.dist' hoi
     have f2:=(hfa.revalue (val':=val2) fun j hj=>hv3 j (fun e=>by rw [e,hun'] at hj;cases hj)).put' hfl.dist' hoi
     rw [hv2] at f1 f2
     refine ⟨by simpa using hs,t+1,_,val2,by omega,fun j hj=>(hv j hj).trans (hv3 j (by omega)),fun j hj=>?_,fun h0=>by omega,fun _=>?_,f1.congr fun j=>by omega,f2.congr fun j=>(set_getD (by omega)).symm⟩
     · rw [set_getD (by omega)]
       have:=hch j hj
       constructor
       · rintro (h1 | h1)
         · have:=this.1 h1;omega
         · omega
       · intro h1
         rcases Nat.lt_or_ge j (f+t) with h' | h'
         · exact .inl (this.2 h')
         · exact .inr (by omega)
     · rw [show f+(t+1)=f+t+1 by omega]
       exact hrest
 · rintro listed a' w' ⟨hs,t,b,val',ht,hv,hch,hCw,hwp,hfb,hfa⟩ hr
   have hall:∀ j,j<ops.size→listed.getD j false=true:=by
    intro j
    induction j using Nat.strongRecOn with
    | _ j ih =>
      intro hj
      cases hl:listed.getD j false with
      | true=>rfl
      | false =>
        exfalso
        obtain ⟨oj,hoj⟩:∃ oj,ops[j]? = some oj:=⟨_,Array.getElem?_eq_getElem hj⟩
        have:j ∈ Region.ready .any ops listed:=mem_ready.2 ⟨by simpa [show j<listed.size by omega] using hl,oj,hoj,fun e he hb=>by
         have h1:=hfl.low hoj e he hb
         exact ih _ h1 (by omega)⟩
        rw [hr] at this;cases this
   have hte:f+t=ops.size:=by
    rcases Nat.lt_or_ge (f+t) ops.size with h' | h'
    · have:=(hch (f+t) (by omega)).1 (hall _ h');omega
    · omega
   have hab:a'=b:=hfa.eq (hfb.congr fun j=>by
    constructor
    · intro h1;exact hall j (by omega)
    · intro h1
      rcases Nat.lt_or_ge j ops.size with h' | h'
      · omega
      · simp [Array.getElem?_eq_none (show listed.size≤j by omega)] at h1)
   have hwp:=hwp (by omega)
   have hnil:l.drop (f+t)=[]:=List.drop_of_length_le (by omega)
   rw [hnil] at hwp
   rw [hab]
   exact hwp
 · refine ⟨by simp,0,acts f,val,by omega,fun _ _=>rfl,fun j hj=>?_,fun _=>⟨hC,rfl⟩,fun h0=>by omega,hfill val (fun _ _=>rfl) f (Nat.le_refl _),(FillSt.none ops val a).congr fun j=>⟨fun h=>h.elim,fun h=>?_⟩⟩
   · rw [getD_replicate_false]
     constructor
     · intro h;cases h
     · intro h;omega
   · rw [getD_replicate_false] at h;cases h
 · intro j oj _ hl
   rw [getD_replicate_false] at hl;cases hl
 · simp
theorem wpQf_of_quiet {P:Program} {ops:Array Oper} {C:World→Prop} {Q:Act→Prop}:∀ (l:List Oper) (a:Act),(∀ o ∈ l,o.guard=none)→wpQuiet P ops C Q l a→wpQf P C Q l a
 | [],_,_,h=>h
 | o :: l,a,hg,h=>by
   unfold wpQuiet at h
   have hw:Region.wanted o (yielded ops a.tmps)=true:=by simp [Region.wanted,hg o (by simp)]
   rw [if_pos hw] at h
   obtain ⟨v,h1,h2⟩:=h
   exact ⟨v,h1,wpQf_of_quiet l _ (fun o' ho'=>hg o' (by simp [ho'])) h2⟩
end Go.Proofs.YtjhknhgkjfabaaaGreatDoor
