/-
 Comparing values, rows and events, and sorting numbers of events: the plain part. No conditions: definitions and their laws.
-/
import Derived.Sort.Lot0
import Derived.Sort.LotA
import GoSem.Op.String
import Derived.Test.YtimahogkcmmcnaaGreatDoorProg
import Derived.WalkKit
import Derived.WalkSpells
import Derived.WalkLawsBesides
import Derived.Lib.Hide
import Derived.Deep.RegionHeld3
import Derived.Deep.QuietTactic
import Derived.BigQuiet
import Derived.Deep.DeepCutAuto
import Derived.Lib.QuietBelow
import Derived.Shelf.SlSortCmp.QuietGrown
import Derived.Maps.AppendAt
import Derived.Deep.AppendLies
import Derived.Laws.Strings
set_option linter.unusedSimpArgs false
set_option linter.unusedVariables false
namespace Go.Proofs.YtimahogkcmmcnaaGreatDoor.Cmps
open Go.Sort
structure Cmp3 {α:Type} (c:α→α→Int):Prop where
 swap:∀ x y,c y x = - c x y
 trans:∀ x y z,c x y≤0→c y z≤0→c x z≤0
theorem Cmp3.refl {α:Type} {c:α→α→Int} (h:Cmp3 c) (x:α):c x x=0:=by have:=h.swap x x;omega
theorem Cmp3.zero {α:Type} {c:α→α→Int} (h:Cmp3 c) {x y z:α} (h1:c x y=0) (h2:c y z=0):c x z=0:=by
 have a:=h.trans x y z (by omega) (by omega)
 have s1:=h.swap x y
 have s2:=h.swap y z
 have b:=h.trans z y x (by omega) (by omega)
 have s3:=h.swap x z
 omega
theorem Cmp3.ltle {α:Type} {c:α→α→Int} (h:Cmp3 c) {x y z:α} (h1:c x y<0) (h2:c y z≤0):c x z<0:=by
 have a:=h.trans x y z (by omega) h2
 by_cases e:c x z=0
 · exfalso
   have s1:=h.swap x z
   have b:=h.trans y z x h2 (by omega)
   have s2:=h.swap x y
   omega
 · omega
theorem Cmp3.lelt {α:Type} {c:α→α→Int} (h:Cmp3 c) {x y z:α} (h1:c x y≤0) (h2:c y z<0):c x z<0:=by
 have a:=h.trans x y z h1 (by omega)
 by_cases e:c x z=0
 · exfalso
   have s1:=h.swap x z
   have b:=h.trans z x y (by omega) h1
   have s2:=h.swap y z
   omega
 · omega
theorem Cmp3.comap {α β:Type} {c:α→α→Int} (h:Cmp3 c) (f:β→α):Cmp3 (fun x y=>c (f x) (f y)) :=
 ⟨fun _ _=>h.swap _ _,fun _ _ _=>h.trans _ _ _⟩
def orI (x y:Int):Int:=if x != 0 then x else y
theorem Cmp3.or {α:Type} {c d:α→α→Int} (h:Cmp3 c) (k:Cmp3 d):Cmp3 (fun x y=>orI (c x y) (d x y)) where
 swap x y:=by
  have a:=h.swap x y
  have b:=k.swap x y
  unfold orI
  by_cases e:c x y=0
  · have e':c y x=0:=by omega
    simp [e,e',b]
  · have e':c y x≠0:=by omega
    simp [e,e',a]
 trans x y z h1 h2:=by
  unfold orI at *
  by_cases e1:c x y=0
  · by_cases e2:c y z=0
    · have e3:=h.zero e1 e2
      simp only [e1,e2,e3,bne_self_eq_false,Bool.false_eq_true,if_false] at *
      exact k.trans x y z h1 h2
    · simp only [e1,bne_self_eq_false,Bool.false_eq_true,if_false] at h1
      rw [if_pos (by simpa using e2)] at h2
      have:=h.lelt (x:=x) (y:=y) (z:=z) (by omega) (by omega)
      rw [if_pos (by simp;omega)]
      omega
  · rw [if_pos (by simpa using e1)] at h1
    have:=h.ltle (x:=x) (y:=y) (z:=z) (by omega) (by
     by_cases e2:c y z=0
     · omega
     · rw [if_pos (by simpa using e2)] at h2;exact h2)
    rw [if_pos (by simp;omega)]
    omega
def cmpI (a b:Int):Int:=if a<b then -1 else if b<a then 1 else 0
theorem cmpI_3:Cmp3 cmpI where
 swap x y:=by unfold cmpI;repeat' split
              all_goals omega
 trans x y z h1 h2:=by
  unfold cmpI at *
  repeat' split
  all_goals (try omega)
  all_goals (split at h1 <;> split at h2 <;> (try omega))
  all_goals (split at h1 <;> (try omega))
  all_goals (split at h2 <;> (try omega))
theorem bytesLess_lt:∀ (x y:List UInt8),Op.bytesLess x y=decide (x<y)
 | [],[]=>by simp [Op.bytesLess]
 | _ :: _,[]=>by simp [Op.bytesLess]
 | [],_ :: _=>by simp [Op.bytesLess]
 | a :: x,b :: y=>by
   rw [Op.bytesLess,bytesLess_lt x y]
   simp only [List.cons_lt_cons_iff]
   by_cases h1:a<b <;> by_cases h2:a=b <;> by_cases h3:x<y <;> simp [h1,h2,h3]
def lessS (a b:ByteArray):Bool:=Op.bytesLess a.toList b.toList
def cmpS (a b:ByteArray):Int:=if lessS a b then -1 else if lessS b a then 1 else 0
theorem lessS_asymm {a b:ByteArray} (h:lessS a b=true):lessS b a=false:=by
 unfold lessS at *
 simp only [bytesLess_lt,decide_eq_true_eq,decide_eq_false_iff_not] at *
 exact List.lt_asymm h
theorem lessS_trans {a b c:ByteArray} (h:lessS b a=false) (k:lessS c b=false):lessS c a=false:=by
 unfold lessS at *
 simp only [bytesLess_lt,decide_eq_false_iff_not,List.not_lt] at *
 exact List.le_trans h k
theorem cmpS_3:Cmp3 cmpS where
 swap x y:=by
  unfold cmpS
  cases h:lessS x y
  · cases k:lessS y x <;> simp
  · have:=lessS_asymm h
    simp [this]
 trans x y z h1 h2:=by
  have a:lessS y x=false:=by
   cases e:lessS y x
   · rfl
   · have:=lessS_asymm e
     unfold cmpS at h1
     rw [this,e] at h1
     simp at h1
  have b:lessS z y=false:=by
   cases e:lessS z y
   · rfl
   · have:=lessS_asymm e
     unfold cmpS at h2
     rw [this,e] at h2
     simp at h2
  have c:=lessS_trans a b
  unfold cmpS
  rw [c]
  split <;> simp
structure Val where
 k:Int
 n:Int
 s:ByteArray
def cls (k:Int):Int:=if k == 1 || k == 2 then k else 0
theorem cls_vals (k:Int):cls k=0∨cls k=1∨cls k=2:=by
 unfold cls;by_cases h1:k=1
 · simp [h1]
 · by_cases h2:k=2 <;> simp [h1,h2]
def cmpVal (a b:Val):Int :=
 orI (cmpI (cls a.k) (cls b.k)) (if cls a.k == 1 then cmpI a.n b.n else if cls a.k == 2 then cmpS a.s b.s else 0)
theorem cmpVal_as (a b:Val):cmpVal a b=orI (cmpI (cls a.k) (cls b.k)) (orI (cmpI (if cls a.k == 1 then a.n else 0) (if cls b.k == 1 then b.n else 0)) (cmpS (if cls a.k == 2 then a.s else ByteArray.empty) (if cls b.k == 2 then b.s else ByteArray.empty))):=by
 unfold cmpVal
 by_cases h:cls a.k=cls b.k
 · rw [← h,cmpI_3.refl]
   have hs:=cmpS_3.refl ByteArray.empty
   have hi:=cmpI_3.refl 0
   rcases cls_vals a.k with e | e | e
   · simp [orI,e,hs,hi]
   · simp only [orI,e,hs]
     by_cases e2:cmpI a.n b.n=0 <;> simp [e2,hs]
   · simp [orI,e,hi]
 · have:cmpI (cls a.k) (cls b.k)≠0:=by
    unfold cmpI;repeat' split
    all_goals omega
   unfold orI
   rw [if_pos (by simpa using this),if_pos (by simpa using this)]
theorem cmpVal_3:Cmp3 cmpVal:=by
 have:cmpVal=fun a b=>orI (cmpI (cls a.k) (cls b.k)) (orI (cmpI (if cls a.k == 1 then a.n else 0) (if cls b.k == 1 then b.n else 0)) (cmpS (if cls a.k == 2 then a.s else ByteArray.empty) (if cls b.k == 2 then b.s else ByteArray.empty))):=by
  funext a b;exact cmpVal_as a b
 rw [this]
 exact (cmpI_3.comap (fun v:Val=>cls v.k)).or ((cmpI_3.comap (fun v:Val=>if cls v.k == 1 then v.n else 0)).or (cmpS_3.comap (fun v:Val=>if cls v.k == 2 then v.s else ByteArray.empty)))
def cmpRow:List Val→List Val→Int
 | [],[]=>0
 | [],_ :: _ => -1
 | _ :: _,[]=>1
 | x :: xs,y :: ys=>orI (cmpVal x y) (cmpRow xs ys)
theorem cmpRow_swap:∀ a b:List Val,cmpRow b a = - cmpRow a b
 | [],[]=>rfl
 | [],_ :: _=>rfl
 | _ :: _,[]=>rfl
 | x :: xs,y :: ys=>by
   have a:=cmpVal_3.swap x y
   have b:=cmpRow_swap xs ys
   simp only [cmpRow,orI]
   by_cases e:cmpVal x y=0
   · have e':cmpVal y x=0:=by omega
     simp [e,e',b]
   · have e':cmpVal y x≠0:=by omega
     simp [e,e',a]
theorem cmpRow_trans:∀ a b c:List Val,cmpRow a b≤0→cmpRow b c≤0→cmpRow a c≤0
 | [],[],[],_,_=>by simp [cmpRow]
 | [],_,_ :: _,_,_=>by simp [cmpRow]
 | [],_ :: _,[],_,h=>by simp [cmpRow] at h
 | _ :: _,[],_,h,_=>by simp [cmpRow] at h
 | _ :: _,_ :: _,[],_,h=>by simp [cmpRow] at h
 | x :: xs,y :: ys,z :: zs,h1,h2=>by
   have IH:=cmpRow_trans xs ys zs
   simp only [cmpRow,orI] at *
   by_cases e1:cmpVal x y=0
   · by_cases e2:cmpVal y z=0
     · have e3:=cmpVal_3.zero e1 e2
       simp only [e1,e2,e3,bne_self_eq_false,Bool.false_eq_true,if_false] at *
       exact IH h1 h2
     · rw [if_pos (by simpa using e2)] at h2
       have:=cmpVal_3.lelt (x:=x) (y:=y) (z:=z) (by omega) (by omega)
       rw [if_pos (by simp;omega)]
       omega
   · rw [if_pos (by simpa using e1)] at h1
     have:=cmpVal_3.ltle (x:=x) (y:=y) (z:=z) (by omega) (by
      by_cases e2:cmpVal y z=0
      · omega
      · rw [if_pos (by simpa using e2)] at h2;exact h2)
     rw [if_pos (by simp;omega)]
     omega
theorem cmpRow_3:Cmp3 cmpRow:=⟨cmpRow_swap,cmpRow_trans⟩
structure Evt where
 t:Int
 r:List Val
/-! ### numbers in their order -/
def sltN (c:Nat→Nat→Int) (i j:Nat):Bool:=decide (c i j<0) || (decide (c i j=0) && decide (i<j))
theorem sltN_total {c:Nat→Nat→Int} (h:Cmp3 c) {i j:Nat} (h1:sltN c i j=false) (h2:sltN c j i=false):i=j:=by
 simp only [sltN,Bool.or_eq_false_iff,Bool.and_eq_false_iff,decide_eq_false_iff_not] at *
 have s1:=h.swap i j
 omega
def Ordered (c:Nat→Nat→Int) (n:Nat) (l:List Nat):Prop:=l.Perm (List.range n)∧l.Pairwise (fun x y=>sltN c y x=false)
theorem Ordered.uniq {c:Nat→Nat→Int} (h:Cmp3 c) {n:Nat} {l l':List Nat} (h1:Ordered c n l) (h2:Ordered c n l'):l=l' :=
 List.Perm.eq_of_pairwise (le:=fun x y=>sltN c y x=false) (fun _ _ _ _ a b=>sltN_total h b a) h1.2 h2.2 (h1.1.trans h2.1.symm)
theorem Ordered.nil (c:Nat→Nat→Int):Ordered c 0 []:=⟨List.Perm.refl _,List.Pairwise.nil⟩
theorem Ordered.lt {c:Nat→Nat→Int} {n:Nat} {l:List Nat} (h:Ordered c n l) {x:Nat} (hx:x ∈ l):x<n:=by
 have:=h.1.mem_iff.1 hx
 simpa using this
end Go.Proofs.YtimahogkcmmcnaaGreatDoor.Cmps
namespace Go.Proofs.YtimahogkcmmcnaaGreatDoor
open Go.RowKit Go.Proofs.YtimahogkcmmcnaaGreatDoor.Cmps
theorem ret_bool {a b:Bool} (h:a=b):Ending.returned (.bool a)=.returned (.bool b):=by rw [h]
theorem ret_int {k:IntKind} {a b:Int} (h:a=b):Ending.returned (.int k a)=.returned (.int k b):=by rw [h]
def withinB (n lo hi:Int):Bool:=decide (lo≤n∧n≤hi)
theorem bcell {W w1:World} (hb:Below W.heap.size W w1):(∀ b o,b<W.heap.size→w1.cell? ⟨b,o,none⟩=W.cell? ⟨b,o,none⟩)∧(∀ b o,b<W.heap.size→w1.frozen? ⟨b,o,none⟩=W.frozen? ⟨b,o,none⟩) :=
 ⟨fun b o h=>hb.cell (p:=⟨b,o,none⟩) h,fun b o h=>hb.frozen (p:=⟨b,o,none⟩) h⟩
theorem below_box {w w':World} {o:Obj} (h:Below (w.alloc o).heap.size (w.alloc o) w'):Below w.heap.size w w' :=
 ((Below.refl _ _).alloc (Nat.le_refl _) _).trans (h.mono (by simp))
theorem below_then {w w1 w':World} (h:Below w.heap.size w w1) (h':Below w1.heap.size w1 w'):Below w.heap.size w w':=h.trans (h'.mono h.size)
def Grew (w w':World):Prop:=∃ q os,w'=Sort.grow (w.drewN q) os
theorem Grew.refl (w:World):Grew w w:=⟨0,#[],by rw [Sort.grow_empty];rfl⟩
theorem Grew.trans {a b c:World} (h:Grew a b) (k:Grew b c):Grew a c:=by
 obtain ⟨q,os,rfl⟩:=h
 obtain ⟨q',os',rfl⟩:=k
 exact ⟨q+q',os ++ os',by show Sort.grow (Sort.grow ((a.drewN q).drewN q') os) os'=_;rw [Sort.grow_grow,World.drewN_drewN]⟩
theorem Grew.alloc {a b:World} (h:Grew a b) (o:Obj):Grew a (b.alloc o):=by
 obtain ⟨q,os,rfl⟩:=h
 exact ⟨q,os ++ #[o],by rw [Sort.alloc_eq_grow,Sort.grow_grow]⟩
theorem Grew.drew {a b:World} (h:Grew a b):Grew a b.drew:=h.trans ⟨1,#[],by rw [Sort.grow_empty];rfl⟩
theorem Grew.box {a b:World} {o:Obj} (h:Grew (a.alloc o) b):Grew a b:=((Grew.refl a).alloc o).trans h
theorem Grew.below {a b:World} (h:Grew a b):Below a.heap.size a b:=by
 obtain ⟨q,os,rfl⟩:=h
 exact below_regrown a (a.drawn+q) os
theorem Grew.at {w:World} {n:Nat} {os:Array Obj} {w':World} (h:Grew (Sort.grow (w.drewN n) os) w'):∃ q os',w'=Sort.grow ((Sort.grow (w.drewN n) os).drewN q) os':=h
theorem Grew.of {w w':World} (h:∃ p:GrownBy,w'=Sort.grow (w.drewN p.n) p.os):Grew w w':=by
 obtain ⟨p,rfl⟩:=h
 exact ⟨_,_,rfl⟩
def validValue (v:Val):Bool :=
 if v.k == 0 then v.n == 0 && v.s.toList.isEmpty
 else if v.k == 1 then withinB v.n (-1000000000000000) 1000000000000000 && v.s.toList.isEmpty
 else if v.k == 2 then v.n == 0 && decide ((v.s.size:Int)≤200)
 else false
abbrev _root_.Go.Proofs.YtimahogkcmmcnaaGreatDoor.Cmps.Val.v (v:Val):Value:=.agg #[.int .i64 v.k,.int .i64 v.n,.string v.s]
def RowAt (w:World) (D:Nat→Prop) (r:Value) (row:List Val):Prop :=
 ∃ a cap,r=.slice a row.length cap∧row.length≤9223372036854775807∧(row=[]∨∃ b off,a=some ⟨b,off,none⟩∧D b∧∀ i,(h:i<row.length) →
  w.cell? ⟨b,off+i * 3,none⟩=some (.int .i64 row[i].k)∧w.cell? ⟨b,off+i * 3+1,none⟩=some (.int .i64 row[i].n)∧w.cell? ⟨b,off+i * 3+2,none⟩=some (.string row[i].s))
theorem RowAt.mono {w:World} {D D':Nat→Prop} {r:Value} {row:List Val} (h:RowAt w D r row) (hd:∀ b,D b→D' b):RowAt w D' r row:=by
 obtain ⟨a,cap,rfl,hl,hx⟩:=h
 refine ⟨a,cap,rfl,hl,?_⟩
 rcases hx with rfl | ⟨b,off,rfl,hb,hc⟩
 · exact .inl rfl
 · exact .inr ⟨b,off,rfl,hd b hb,hc⟩
theorem RowAt.keep {w w':World} {D:Nat→Prop} {r:Value} {row:List Val} (h:RowAt w D r row) (hk:∀ b,D b→b<w.heap.size→w'.heap[b]? = w.heap[b]?):RowAt w' D r row:=by
 obtain ⟨a,cap,rfl,hl,hx⟩:=h
 refine ⟨a,cap,rfl,hl,?_⟩
 rcases hx with rfl | ⟨b,off,rfl,hb,hc⟩
 · exact .inl rfl
 · refine .inr ⟨b,off,rfl,hb,fun i hi=>?_⟩
   have hlt:b<w.heap.size:=World.block_lt_of_cell? w ⟨b,off+i * 3,none⟩ (hc i hi).1
   have hh:=hk b hb hlt
   have hcc:∀ o,w'.cell? ⟨b,o,none⟩=w.cell? ⟨b,o,none⟩:=fun o=>World.cell?_of_block (a:=⟨b,o,none⟩) hh
   rw [hcc,hcc,hcc]
   exact hc i hi
theorem RowAt.below {w w':World} {D:Nat→Prop} {r:Value} {row:List Val} (h:RowAt w D r row) (hb:Below w.heap.size w w'):RowAt w' D r row :=
 h.keep fun b _ hlt=>hb.block b hlt
def badAt (row:List Val):Int:=match row.findIdx? (fun v => !validValue v) with | some i=>i | none => -1
theorem badAt_hit {row:List Val} {k:Nat} (hk:k<row.length) (hb:(!validValue row[k])=true) (h:∀ j (h:j<row.length),j<k→validValue row[j]=true):badAt row=k:=by
 have:row.findIdx? (fun v => !validValue v)=some k:=by
  rw [List.findIdx?_eq_some_iff_getElem]
  exact ⟨hk,hb,fun j hj=>by simp [h j (by omega) hj]⟩
 simp [badAt,this]
theorem badAt_none {row:List Val} (h:∀ j (h:j<row.length),validValue row[j]=true):badAt row = -1:=by
 have:row.findIdx? (fun v => !validValue v)=none:=by
  rw [List.findIdx?_eq_none_iff]
  intro x hx
  obtain ⟨i,hi,rfl⟩:=List.mem_iff_getElem.1 hx
  simp [h i hi]
 simp [badAt,this]
theorem badAt_all (row:List Val):decide (0≤badAt row) = !row.all validValue:=by
 unfold badAt
 cases h:row.findIdx? (fun v => !validValue v) with
 | none =>
   rw [List.findIdx?_eq_none_iff] at h
   have:row.all validValue=true:=by rw [List.all_eq_true];intro x hx;simpa using h x hx
   simp [this]
 | some i =>
   rw [List.findIdx?_eq_some_iff_getElem] at h
   obtain ⟨hi,hb,_⟩:=h
   have:row.all validValue=false:=by
    rw [List.all_eq_false];exact ⟨row[i],List.getElem_mem hi,by simpa using hb⟩
   simp [this]
def validRow (row:List Val):Bool:=decide ((row.length:Int)≤8) && row.all validValue
section leaves
set_option maxHeartbeats 400000
theorem f104_any (n lo hi:Int) (w:World) :
 Calls Tryz.prog 104 #[.int .i64 n,.int .i64 lo,.int .i64 hi] w fun e w'=>e=.returned (.bool (withinB n lo hi))∧w=w':=by
 go_enter Tryz.func104,Tryz.ntmps104
 go_wp2
 all_goals go_ret
 all_goals (exact ⟨ret_bool (by simp [withinB, *] <;> omega),rfl⟩)
theorem f115_any (n lo hi:Int) (w:World) :
 Calls Tryz.prog 115 #[.int .i64 n,.int .i64 lo,.int .i64 hi] w fun e w'=>e=.returned (.bool (withinB n lo hi))∧w=w':=by
 go_enter Tryz.func115,Tryz.ntmps115
 go_wp2
 all_goals go_ret
 all_goals (exact ⟨ret_bool (by simp [withinB, *] <;> omega),rfl⟩)
theorem f234_any (n lo hi:Int) (w:World) :
 Calls Tryz.prog 234 #[.int .i64 n,.int .i64 lo,.int .i64 hi] w fun e w'=>e=.returned (.bool (withinB n lo hi))∧w=w':=by
 go_enter Tryz.func234,Tryz.ntmps234
 go_wp2
 all_goals go_ret
 all_goals (exact ⟨ret_bool (by simp [withinB, *] <;> omega),rfl⟩)
def validTime (n:Int):Bool:=withinB n (-1000000000000) 1000000000000
theorem f174_any (n:Int) (w:World) :
 Calls Tryz.prog 174 #[.int .i64 n] w fun e w'=>e=.returned (.bool (validTime n))∧w=w':=by
 go_enter Tryz.func174,Tryz.ntmps174
 go_wp2_with (go_at_call 234;refine (f234_any _ _ _ _).mono ?_;rintro e w' ⟨rfl,rfl⟩)
 go_ret
 exact ⟨rfl,rfl⟩
theorem f304_any (v:Val) (w:World) :
 Calls Tryz.prog 304 #[v.v] w fun e w'=>e=.returned (.bool (validValue v))∧Below w.heap.size w w':=by
 go_enter Tryz.func304,Tryz.ntmps304
 go_wp2_with (go_at_call 104;refine (f104_any _ _ _ _).mono ?_;rintro e w' ⟨rfl,rfl⟩)
 all_goals go_ret
 all_goals (exact ⟨ret_bool (by simp [validValue, *]),(Below.refl _ _).alloc (Nat.le_refl _) _⟩)
theorem f243_any (v:Val) (w:World) :
 Calls Tryz.prog 243 #[v.v] w fun e w'=>e=.returned (.bool (validValue v))∧Below w.heap.size w w':=by
 go_enter Tryz.func243,Tryz.ntmps243
 go_wp2_with (go_at_call 115;refine (f115_any _ _ _ _).mono ?_;rintro e w' ⟨rfl,rfl⟩)
 all_goals go_ret
 all_goals (exact ⟨ret_bool (by simp [validValue, *]),(Below.refl _ _).alloc (Nat.le_refl _) _⟩)
theorem f303_any (v:Val) (w:World) :
 Calls Tryz.prog 303 #[v.v] w fun e w'=>e=.returned (.bool (!validValue v))∧Below w.heap.size w w':=by
 go_enter Tryz.func303,Tryz.ntmps303
 go_wp2_with (go_at_call 304;refine (f304_any v _).mono ?_;rintro e w' ⟨rfl,hb⟩)
 go_ret
 exact ⟨rfl,((Below.refl _ _).alloc (Nat.le_refl _) _).trans (hb.mono (by simp))⟩
theorem f359_any (w:World) (r:Value) (row:List Val) (D:Nat→Prop) (hr:RowAt w D r row) :
 Calls Tryz.prog 359 #[r,.func (.func 303) #[] #[]] w fun e w'=>e=.returned (.int .i64 (badAt row))∧Below w.heap.size w w':=by
 obtain ⟨a,cap,rfl,hl,hx⟩:=hr
 go_enter Tryz.func359,Tryz.ntmps359
 go_wp2
 go_loopw [8] (fun i wr=>∃ k:Nat,k≤row.length∧i=.int .i64 k∧(∀ j (h:j<row.length),j<k→validValue row[j]=true)∧Below w.heap.size w wr) (fun i _=>row.length - (intOf i).toNat)
 case atStart=>exact ⟨0,by omega,rfl,by omega,Below.refl _ _⟩
 case round =>
  obtain ⟨k,hk,rfl,hv,hb⟩:=hrel
  by_cases hlt:k<row.length
  · rcases hx with rfl | ⟨b,off,rfl,hbD,hc⟩
    · simp at hlt
    · obtain ⟨h0,h1,h2⟩:=hc k hlt
      have hbb:b<w.heap.size:=World.block_lt_of_cell? w ⟨b,off+k * 3,none⟩ h0
      rw [← hb.cell (p:=⟨b,_,none⟩) hbb] at h0 h1 h2
      clear hc
      go_wp2_with (go_at_call 303;refine (f303_any row[k] _).mono ?_;rintro e w' ⟨rfl,hb1⟩)
      · have hbad:(!validValue row[k])=true:=by assumption
        go_ret
        exact ⟨ret_int (badAt_hit hlt hbad hv).symm,hb.trans (hb1.mono hb.size)⟩
      · have hok:(!validValue row[k])=false:=by assumption
        go_roundw
        case rel =>
         refine ⟨k+1,by omega,by go_num,fun j hj hjk=>?_,hb.trans (hb1.mono hb.size)⟩
         by_cases e:j=k
         · subst e;simpa using hok
         · exact hv j hj (by omega)
        case measure=>simp [intOf];omega
  · go_wp2
    go_ret
    exact ⟨ret_int (badAt_none (fun j hj=>hv j hj (by omega))).symm,hb⟩
theorem f302_any (w:World) (r:Value) (row:List Val) (D:Nat→Prop) (hr:RowAt w D r row) :
 Calls Tryz.prog 302 #[r,.func (.func 303) #[] #[]] w fun e w'=>e=.returned (.bool (!row.all validValue))∧Below w.heap.size w w':=by
 have e:=badAt_all row
 go_enter Tryz.func302,Tryz.ntmps302
 go_wp2_with (go_at_call 359;refine (f359_any _ _ row D hr).mono ?_;rintro e w' ⟨rfl,hb1⟩)
 go_ret
 exact ⟨rfl,hb1⟩
theorem f235_any (w:World) (r:Value) (row:List Val) (D:Nat→Prop) (hr:RowAt w D r row) :
 Calls Tryz.prog 235 #[r] w fun e w'=>e=.returned (.bool (validRow row))∧Below w.heap.size w w':=by
 have hc:=f302_any w r row D hr
 obtain ⟨a,cap,rfl,hl,hx⟩:=hr
 go_enter Tryz.func235,Tryz.ntmps235
 go_wp2_with (go_at_call 302;refine (hc).mono ?_;rintro e w' ⟨rfl,hb1⟩)
 all_goals go_ret
 · exact ⟨ret_bool (by simp [validRow, *]),hb1⟩
 · exact ⟨ret_bool (by simp [validRow, *] <;> omega),Below.refl _ _⟩
theorem f182_any (w:World) (r:Value) (row:List Val) (D:Nat→Prop) (hr:RowAt w D r row) :
 Calls Tryz.prog 182 #[r] w fun e w'=>e=.returned (.bool (validRow row))∧Below w.heap.size w w':=by
 obtain ⟨a,cap,rfl,hl,hx⟩:=hr
 go_enter Tryz.func182,Tryz.ntmps182
 go_wp2
 go_loopw [3] (fun i wr=>∃ k:Nat,k≤row.length∧i=.int .i64 k∧(∀ j (h:j<row.length),j<k→validValue row[j]=true)∧Below w.heap.size w wr) (fun i _=>row.length - (intOf i).toNat)
 case atStart=>exact ⟨0,by omega,rfl,by omega,Below.refl _ _⟩
 case round =>
  obtain ⟨k,hk,rfl,hv,hb⟩:=hrel
  by_cases hlt:k<row.length
  · rcases hx with rfl | ⟨b,off,rfl,hbD,hc⟩
    · simp at hlt
    · obtain ⟨h0,h1,h2⟩:=hc k hlt
      have hbb:b<w.heap.size:=World.block_lt_of_cell? w ⟨b,off+k * 3,none⟩ h0
      rw [← hb.cell (p:=⟨b,_,none⟩) hbb] at h0 h1 h2
      clear hc
      go_wp2_with (go_at_call 243;refine (f243_any row[k] _).mono ?_;rintro e w' ⟨rfl,hb1⟩)
      · have hbad':(!validValue row[k])=true:=by assumption
        have hbad:validValue row[k]=false:=by simpa using hbad'
        go_ret
        refine ⟨ret_bool ?_,hb.trans (hb1.mono hb.size)⟩
        have:row.all validValue=false:=by
         rw [List.all_eq_false];exact ⟨row[k],List.getElem_mem hlt,by simp [hbad]⟩
        simp [validRow,this]
      · have hok':(!validValue row[k])=false:=by assumption
        have hok:validValue row[k]=true:=by simpa using hok'
        go_roundw
        case rel =>
         refine ⟨k+1,by omega,by go_num,fun j hj hjk=>?_,hb.trans (hb1.mono hb.size)⟩
         by_cases e:j=k
         · subst e;exact hok
         · exact hv j hj (by omega)
        case measure=>simp [intOf];omega
  · go_wp2
    go_ret
    refine ⟨ret_bool ?_,hb⟩
    have:row.all validValue=true:=by
     rw [List.all_eq_true];intro x hx'
     obtain ⟨i,hi,rfl⟩:=List.mem_iff_getElem.1 hx'
     exact hv i hi (by omega)
    simp [validRow,this]
end leaves
end Go.Proofs.YtimahogkcmmcnaaGreatDoor
namespace Go.Proofs.YtimahogkcmmcnaaGreatDoor.Cmps
def okI (i:Nat) (c:Int):Bool:=decide ((97≤c∧c≤122)∨(i≠0∧((48≤c∧c≤57)∨c=95)))
def okByte (i:Nat) (c:UInt8):Bool:=okI i (c.toNat:Int)
def nameB (s:ByteArray):Bool:=((List.range s.size).all fun i=>okByte i (s.data[i]!)) && decide (1≤s.size∧s.size≤16)
theorem nameB_miss {s:ByteArray} {k:Nat} (hk:k<s.size) (h:okByte k (s.data[k]!)=false):nameB s=false:=by
 unfold nameB
 have:((List.range s.size).all fun i=>okByte i (s.data[i]!))=false:=by
  rw [List.all_eq_false]
  exact ⟨k,by simpa using hk,by simp [h]⟩
 rw [this,Bool.false_and]
theorem nameB_all {s:ByteArray} (h:∀ k,k<s.size→okByte k (s.data[k]!)=true):nameB s=decide (1≤s.size∧s.size≤16):=by
 unfold nameB
 have:((List.range s.size).all fun i=>okByte i (s.data[i]!))=true:=by
  rw [List.all_eq_true]
  intro i hi
  exact h i (by simpa using hi)
 rw [this,Bool.true_and]
def eqS (a b:ByteArray):Bool:=a.toList == b.toList
theorem eqS_true {a b:ByteArray}:eqS a b=true↔a=b:=by
 unfold eqS
 rw [beq_iff_eq]
 constructor
 · intro h
   rw [ByteArray.toList_eq,ByteArray.toList_eq] at h
   obtain ⟨⟨a⟩⟩:=a
   obtain ⟨⟨b⟩⟩:=b
   simpa using h
 · rintro rfl;rfl
theorem eqS_comm (a b:ByteArray):eqS a b=eqS b a:=by
 rw [Bool.eq_iff_iff,eqS_true,eqS_true]
 exact ⟨Eq.symm,Eq.symm⟩
theorem eqS_beq (a b:ByteArray):(a == b)=eqS a b:=by
 have:(a == b)=(a.data == b.data):=rfl
 rw [this,Bool.eq_iff_iff,eqS_true,beq_iff_eq]
 exact ⟨fun h=>by obtain ⟨a⟩:=a;obtain ⟨b⟩:=b;simpa using h,fun h=>by rw [h]⟩
def hasS (l:List ByteArray) (n:ByteArray):Bool:=l.any fun x=>eqS x n
structure Col where
 n:ByteArray
 k:Int
def kindB (k:Int):Bool:=decide (1≤k∧k≤2)
def schemaFrom (seen:List ByteArray):List Col→Bool
 | []=>true
 | c :: l=>nameB c.n && !hasS seen c.n && kindB c.k && schemaFrom (seen ++ [c.n]) l
def validSchema (l:List Col):Bool:=schemaFrom [] l && decide (1≤l.length∧l.length≤8)
def namesTo (l:List Col) (k:Nat):List ByteArray:=(l.take k).map Col.n
theorem namesTo_succ {l:List Col} {k:Nat} (h:k<l.length):namesTo l (k+1)=namesTo l k ++ [l[k].n]:=by
 unfold namesTo
 rw [List.take_succ_eq_append_getElem h,List.map_append]
 rfl
theorem schemaFrom_step {l:List Col} {k:Nat} (h:k<l.length):schemaFrom (namesTo l k) (l.drop k)=(nameB l[k].n && !hasS (namesTo l k) l[k].n && kindB l[k].k && schemaFrom (namesTo l (k+1)) (l.drop (k+1))):=by
 rw [List.drop_eq_getElem_cons h,schemaFrom,namesTo_succ h]
theorem schemaFrom_go {l:List Col} {k:Nat} (h:k<l.length) (h1:nameB l[k].n=true) (h2:hasS (namesTo l k) l[k].n=false) (h3:kindB l[k].k=true) :
 schemaFrom (namesTo l (k+1)) (l.drop (k+1))=schemaFrom (namesTo l k) (l.drop k):=by
 rw [schemaFrom_step h,h1,h2,h3];simp
theorem schemaFrom_bad {l:List Col} {k:Nat} (h:k<l.length) (hb:nameB l[k].n=false∨hasS (namesTo l k) l[k].n=true∨kindB l[k].k=false) :
 schemaFrom (namesTo l k) (l.drop k)=false:=by
 rw [schemaFrom_step h]
 rcases hb with h | h | h <;> simp [h]
theorem schemaFrom_end (l:List Col):schemaFrom (namesTo l l.length) (l.drop l.length)=true:=by
 rw [List.drop_length];rfl
def fitsFrom:List Col→List Val→Bool
 | c :: s,v :: r=>(v.k == 0 || v.k == c.k) && fitsFrom s r
 | _,_=>true
theorem fitsFrom_go {s:List Col} {r:List Val} {k:Nat} (h:k<s.length) (h':k<r.length) (hf:(r[k].k == 0 || r[k].k == s[k].k)=true):fitsFrom (s.drop (k+1)) (r.drop (k+1))=fitsFrom (s.drop k) (r.drop k):=by
 rw [List.drop_eq_getElem_cons h,List.drop_eq_getElem_cons h',fitsFrom,hf,Bool.true_and]
theorem fitsFrom_bad {s:List Col} {r:List Val} {k:Nat} (h:k<s.length) (h':k<r.length) (hf:(r[k].k == 0 || r[k].k == s[k].k)=false):fitsFrom (s.drop k) (r.drop k)=false:=by
 rw [List.drop_eq_getElem_cons h,List.drop_eq_getElem_cons h',fitsFrom,hf,Bool.false_and]
theorem fitsFrom_end (s:List Col) (r:List Val):fitsFrom (s.drop r.length) (r.drop r.length)=true:=by
 rw [List.drop_length]
 cases s.drop r.length <;> rfl
end Go.Proofs.YtimahogkcmmcnaaGreatDoor.Cmps
namespace Go.Proofs.YtimahogkcmmcnaaGreatDoor
open Go.RowKit Go.Proofs.YtimahogkcmmcnaaGreatDoor.Cmps
theorem byte_at (s:ByteArray) (k:Nat) (h:k<s.size):s.data[k]! = s[k]'h:=getElem!_pos s.data k h
theorem byte_wrap (c:UInt8):wrap64 (c.toNat:Int)=(c.toNat:Int):=by
 have:=c.toNat_lt
 unfold wrap64
 omega
theorem byte_law (s:ByteArray) (k:Nat) (h:k<s.size):∃ c:Int,c=((s.data[k]!).toNat:Int)∧wrap64 c=c∧∀ W:World,(Instr.index 9 (.string s) (.int .i64 k)).run Tryz.prog W=.ok (.int .u8 c) W:=by
 refine ⟨_,rfl,byte_wrap _,fun W=>?_⟩
 have u9:=Tryz.underlying9
 rw [byte_at s k h]
 go_simp
theorem name_go {s:ByteArray} {k:Nat} {c:Int} (hk:k<s.size) (hc:c=((s.data[k]!).toNat:Int)) (hv:∀ j,j<k→okByte j (s.data[j]!)=true) (h:okI k c=true):∀ j,j<k+1→okByte j (s.data[j]!)=true:=by
 intro j hj
 by_cases e:j=k
 · subst e;unfold okByte;rw [← hc];exact h
 · exact hv j (by omega)
theorem name_bad {s:ByteArray} {k:Nat} {c:Int} (hk:k<s.size) (hc:c=((s.data[k]!).toNat:Int)) (h:okI k c=false):nameB s=false :=
 nameB_miss hk (by unfold okByte;rw [← hc];exact h)
section leaves
set_option maxHeartbeats 400000
set_option maxRecDepth 10000
theorem f103_any (s:ByteArray) (hs:s.size≤9223372036854775807) (w:World) :
 Calls Tryz.prog 103 #[.string s] w fun e w'=>e=.returned (.bool (nameB s))∧w=w':=by
 go_enter Tryz.func103,Tryz.ntmps103
 go_wp2
 go_loopw [7] (fun i wr=>∃ k:Nat,k≤s.size∧i=.int .i64 k∧Hid (∀ j,j<k→okByte j (s.data[j]!)=true)∧w=wr) (fun i _=>s.size - (intOf i).toNat)
 case atStart=>exact ⟨0,by omega,rfl,Lib.hid (by omega),rfl⟩
 case round =>
  obtain ⟨k,hk,rfl,hv,rfl⟩:=hrel
  by_cases hlt:k<s.size
  · obtain ⟨c,hc,hw,hx⟩:=byte_law s k hlt
    have HC:=Lib.hid hc
    clear hc
    go_wp2_with (go_at_call 104;refine (f104_any _ _ _ _).mono ?_;rintro e w' ⟨rfl,rfl⟩)
    all_goals first
     | (go_ret;exact ⟨ret_bool (name_bad hlt HC.out (by simp_all [okI,withinB] <;> omega)).symm,rfl⟩)
     | (go_roundw
        case rel=>exact ⟨k+1,by omega,by go_num,Lib.hid (name_go hlt HC.out hv.out (by simp_all [okI,withinB] <;> omega)),trivial⟩
        case measure=>simp [intOf];omega)
  · go_wp2_with (go_at_call 104;refine (f104_any _ _ _ _).mono ?_;rintro e w' ⟨rfl,rfl⟩)
    go_ret
    exact ⟨ret_bool (by rw [nameB_all (fun j hj=>hv.out j (by omega))];simp only [withinB];rw [Bool.eq_iff_iff];simp only [decide_eq_true_eq];omega),rfl⟩
theorem f180_any (c:Int) (w:World) :
 Calls Tryz.prog 180 #[.int .u8 c] w fun e w'=>e=.returned (.bool (withinB c 97 122))∧w=w':=by
 go_enter Tryz.func180,Tryz.ntmps180
 go_wp2
 all_goals go_ret
 all_goals (exact ⟨ret_bool (by simp [withinB, *] <;> omega),rfl⟩)
theorem f113_any (s:ByteArray) (hs:s.size≤9223372036854775807) (w:World) :
 Calls Tryz.prog 113 #[.string s] w fun e w'=>e=.returned (.bool (nameB s))∧w=w':=by
 go_enter Tryz.func113,Tryz.ntmps113
 go_wp2
 go_loopw [3] (fun i wr=>∃ k:Nat,k≤s.size∧i=.int .i64 k∧Hid (∀ j,j<k→okByte j (s.data[j]!)=true)∧w=wr) (fun i _=>s.size - (intOf i).toNat)
 case atStart=>exact ⟨0,by omega,rfl,Lib.hid (by omega),rfl⟩
 case round =>
  obtain ⟨k,hk,rfl,hv,rfl⟩:=hrel
  by_cases hlt:k<s.size
  · obtain ⟨c,hc,hw,hx⟩:=byte_law s k hlt
    have HC:=Lib.hid hc
    clear hc
    go_wp2_with (go_at_call 180;refine (f180_any _ _).mono ?_;rintro e w' ⟨rfl,rfl⟩)
    all_goals first
     | (go_ret;exact ⟨ret_bool (name_bad hlt HC.out (by simp_all [okI,withinB] <;> omega)).symm,rfl⟩)
     | (go_roundw
        case rel=>exact ⟨k+1,by omega,by go_num,Lib.hid (name_go hlt HC.out hv.out (by simp_all [okI,withinB] <;> omega)),trivial⟩
        case measure=>simp [intOf];omega)
  · go_wp2_with (go_at_call 115;refine (f115_any _ _ _ _).mono ?_;rintro e w' ⟨rfl,rfl⟩)
    go_ret
    exact ⟨ret_bool (by rw [nameB_all (fun j hj=>hv.out j (by omega))];simp only [withinB];rw [Bool.eq_iff_iff];simp only [decide_eq_true_eq];omega),rfl⟩
end leaves
theorem gtr_less (a b:List UInt8):(!(Op.bytesLess a b || a == b))=Op.bytesLess b a:=by
 simp only [bytesLess_lt]
 by_cases h1:a<b
 · have:¬ b<a:=List.lt_asymm h1
   simp [h1,this]
 · by_cases h2:a=b
   · subst h2;simp [List.lt_irrefl]
   · have h3:b<a:=by
      rw [List.not_lt] at h1
      rcases List.le_iff_lt_or_eq.1 h1 with h | h
      · exact h
      · exact absurd h.symm h2
     simp [h1,h2,h3]
section leaves
set_option maxHeartbeats 400000
set_option maxRecDepth 10000
theorem f177_any (n:Int) (w:World) :
 Calls Tryz.prog 177 #[.int .i64 n] w fun e w'=>e=.returned (.bool false)∧w=w':=by
 go_enter Tryz.func177,Tryz.ntmps177
 go_wp2
 go_ret
 exact ⟨ret_bool (by simp),rfl⟩
theorem f111_any (a b:Int) (w:World) :
 Calls Tryz.prog 111 #[.int .i64 a,.int .i64 b] w fun e w'=>e=.returned (.int .i64 (cmpI a b))∧w=w':=by
 go_enter Tryz.func111,Tryz.ntmps111
 go_wp2_with (go_at_call 177;refine (f177_any _ _).mono ?_;rintro e w' ⟨rfl,rfl⟩)
 all_goals go_ret
 all_goals (exact ⟨ret_int (by unfold cmpI;(repeat' split) <;> omega),rfl⟩)
theorem grown_cells {w w1:World} (h:Grew w w1):(∀ b o,b<w.heap.size→w1.cell? ⟨b,o,none⟩=w.cell? ⟨b,o,none⟩)∧(∀ b o,b<w.heap.size→w1.frozen? ⟨b,o,none⟩=w.frozen? ⟨b,o,none⟩):=bcell h.below
theorem grown_cl (w:World) (n:Nat) (os:Array Obj) (b o:Nat) (h:b<w.heap.size):(Sort.grow (w.drewN n) os).cell? ⟨b,o,none⟩=w.cell? ⟨b,o,none⟩:=by
 rw [Sort.cell?_grow _ _ _ (by exact h)];rfl
end leaves
end Go.Proofs.YtimahogkcmmcnaaGreatDoor
