/-
 The well, part 2: splits that are valid, what both sides answer. If the schema and the events lie in the world as the words say.
-/
import Derived.Test.YtimahogkcmmcnaaGreatDoorL04
import Derived.Deep.RegionHeld3
import Derived.Deep.QuietTactic
import Derived.BigQuiet
import Derived.Lib.QuietBelow
set_option linter.unusedSimpArgs false
set_option linter.unusedVariables false
namespace Go.Proofs.YtimahogkcmmcnaaGreatDoor
open Go.RowKit Go.Proofs.YtimahogkcmmcnaaGreatDoor.Cmps
def splitB (s:List Col) (nm:ByteArray) (l:List Evt):Bool:=validSchema s && nameB nm && rightB s l
theorem Drew.belowW {w w':World} (h:Drew w w'):Below w.heap.size w w':=by
 obtain ⟨q,rfl⟩:=h
 exact (Grew.below (a:=w) ⟨q,#[],by rw [Sort.grow_empty]⟩)
section leaves
set_option maxHeartbeats 400000
set_option maxRecDepth 10000
theorem f50_any (hm:Tryz.prog.follows .mixedOrders=true) (w:World) (D D':Nat→Prop) (v v':Value) (s:List Col) (src nm:ByteArray) (l:List Evt) (hs:SchemaAt w D v s) (hl:EvtsAt w D' v' l) (hn:nm.size≤9223372036854775807) :
 Calls Tryz.prog 50 #[v,.agg #[.string src,.string nm,v']] w fun e w'=>e=.returned (.bool (splitB s nm l))∧Below w.heap.size w w':=by
 have H1:Hid (∀ W,Below w.heap.size w W→Calls Tryz.prog 36 #[v] W fun e w'=>e=.returned (.bool (validSchema s))∧Below W.heap.size W w') :=
  fun W hb=>(f36_any W D v s (hs.below hb)).mono fun e w' ⟨h,hb1⟩=>⟨h,hb1⟩
 have H3:Hid (∀ W,Below w.heap.size w W→Calls Tryz.prog 131 #[v,v'] W fun e w'=>e=.returned (.bool (rightB s l))∧Below W.heap.size W w') :=
  fun W hb=>f131_any hm W D D' v v' s l (hs.below hb) (hl.below hb)
 have HB:Hid (∀ o,Below w.heap.size w (w.alloc o)):=fun o=>(Below.refl _ _).alloc (Nat.le_refl _) o
 have HC:Hid (∀ w1,Below (w.alloc (.cells #[.string src,.string nm,v'] 88)).heap.size (w.alloc (.cells #[.string src,.string nm,v'] 88)) w1→w1.cell? ⟨w.heap.size,1,none⟩=some (.string nm)∧w1.cell? ⟨w.heap.size,2,none⟩=some v') :=
  fun w1 h=>⟨by rw [h.cell (p:=⟨w.heap.size,1,none⟩) (by simp)];simp,by rw [h.cell (p:=⟨w.heap.size,2,none⟩) (by simp)];simp⟩
 obtain ⟨a,cap,hv⟩:∃ a cap,v=.slice a s.length cap:=by
  obtain ⟨a,cap,hv,_⟩:=hs;exact ⟨a,cap,hv⟩
 obtain ⟨a',cap',hv'⟩:∃ a cap,v'=.slice a l.length cap:=by
  obtain ⟨a,cap,hv,_⟩:=hl;exact ⟨a,cap,hv⟩
 clear hs hl
 subst hv hv'
 obtain ⟨b1,e1⟩:∃ b,validSchema s=b:=⟨_,rfl⟩
 obtain ⟨b2,e2⟩:∃ b,nameB nm=b:=⟨_,rfl⟩
 have HN:Hid (∀ W,Calls Tryz.prog 103 #[.string nm] W fun e w'=>e=.returned (.bool b2)∧W=w'):=fun W=>e2 ▸ f103_any nm hn W
 have HE:Hid (splitB s nm l=(b1 && b2 && rightB s l)):=by show splitB s nm l=_;rw [splitB,e1,e2]
 rw [e1] at H1
 clear e1 e2
 cases b1
 · go_enter Tryz.func50,Tryz.ntmps50
   go_wp2_with (go_at_call 36;with_reducible refine (H1.out _ (HB.out _)).mono ?_;rintro e w1 ⟨rfl,hb1⟩;obtain ⟨c1,c2⟩:=HC.out _ hb1;have HB1:=Lib.hid (below_box hb1);clear hb1)
   go_ret
   exact ⟨ret_bool (by rw [HE.out];rfl),HB1.out⟩
 · cases b2
   · go_enter Tryz.func50,Tryz.ntmps50
     go_wp2_with (first
      | (go_at_call 36;with_reducible refine (H1.out _ (HB.out _)).mono ?_;rintro e w1 ⟨rfl,hb1⟩;obtain ⟨c1,c2⟩:=HC.out _ hb1;have HB1:=Lib.hid (below_box hb1);clear hb1)
      | (go_at_call 103;with_reducible refine (HN.out _).mono ?_;rintro e w2 ⟨rfl,rfl⟩))
     go_ret
     exact ⟨ret_bool (by rw [HE.out];rfl),HB1.out⟩
   · go_enter Tryz.func50,Tryz.ntmps50
     go_wp2_with (first
      | (go_at_call 36;with_reducible refine (H1.out _ (HB.out _)).mono ?_;rintro e w1 ⟨rfl,hb1⟩;obtain ⟨c1,c2⟩:=HC.out _ hb1;have HB1:=Lib.hid (below_box hb1);clear hb1)
      | (go_at_call 103;with_reducible refine (HN.out _).mono ?_;rintro e w2 ⟨rfl,rfl⟩)
      | (go_at_call 131;with_reducible refine (H3.out _ HB1.out).mono ?_;rintro e w2 ⟨rfl,hb2⟩;have HB2:=Lib.hid (below_then HB1.out hb2);clear hb2))
     go_ret
     exact ⟨ret_bool (by rw [HE.out];simp),HB2.out⟩
theorem f51_any (hm:Tryz.prog.follows .mixedOrders=true) (w:World) (D D':Nat→Prop) (v v':Value) (s:List Col) (src nm:ByteArray) (l:List Evt) (hs:SchemaAt w D v s) (hl:EvtsAt w D' v' l) (hn:nm.size≤9223372036854775807) :
 Calls Tryz.prog 51 #[v,.agg #[.string src,.string nm,v']] w fun e w'=>e=.returned (.bool (splitB s nm l))∧Below w.heap.size w w':=by
 have H1:Hid (∀ W,Below w.heap.size w W→Calls Tryz.prog 39 #[v] W fun e w'=>e=.returned (.bool (validSchema s))∧Below W.heap.size W w') :=
  fun W hb=>(f39_any hm W D v s (hs.below hb)).mono fun e w' ⟨h,hb1⟩=>⟨h,hb1.belowW⟩
 have H3:Hid (∀ W,Below w.heap.size w W→Calls Tryz.prog 132 #[v,v'] W fun e w'=>e=.returned (.bool (rightB s l))∧Below W.heap.size W w') :=
  fun W hb=>f132_any hm W D D' v v' s l (hs.below hb) (hl.below hb)
 have HB:Hid (∀ o,Below w.heap.size w (w.alloc o)):=fun o=>(Below.refl _ _).alloc (Nat.le_refl _) o
 have HC:Hid (∀ w1,Below (w.alloc (.cells #[.string src,.string nm,v'] 88)).heap.size (w.alloc (.cells #[.string src,.string nm,v'] 88)) w1→w1.cell? ⟨w.heap.size,1,none⟩=some (.string nm)∧w1.cell? ⟨w.heap.size,2,none⟩=some v') :=
  fun w1 h=>⟨by rw [h.cell (p:=⟨w.heap.size,1,none⟩) (by simp)];simp,by rw [h.cell (p:=⟨w.heap.size,2,none⟩) (by simp)];simp⟩
 obtain ⟨a,cap,hv⟩:∃ a cap,v=.slice a s.length cap:=by
  obtain ⟨a,cap,hv,_⟩:=hs;exact ⟨a,cap,hv⟩
 obtain ⟨a',cap',hv'⟩:∃ a cap,v'=.slice a l.length cap:=by
  obtain ⟨a,cap,hv,_⟩:=hl;exact ⟨a,cap,hv⟩
 clear hs hl
 subst hv hv'
 obtain ⟨b1,e1⟩:∃ b,validSchema s=b:=⟨_,rfl⟩
 obtain ⟨b2,e2⟩:∃ b,nameB nm=b:=⟨_,rfl⟩
 have HN:Hid (∀ W,Calls Tryz.prog 113 #[.string nm] W fun e w'=>e=.returned (.bool b2)∧W=w'):=fun W=>e2 ▸ f113_any nm hn W
 have HE:Hid (splitB s nm l=(b1 && b2 && rightB s l)):=by show splitB s nm l=_;rw [splitB,e1,e2]
 rw [e1] at H1
 clear e1 e2
 cases b1
 · go_enter Tryz.func51,Tryz.ntmps51
   go_wp2_with (go_at_call 39;with_reducible refine (H1.out _ (HB.out _)).mono ?_;rintro e w1 ⟨rfl,hb1⟩;obtain ⟨c1,c2⟩:=HC.out _ hb1;have HB1:=Lib.hid (below_box hb1);clear hb1)
   go_ret
   exact ⟨ret_bool (by rw [HE.out];rfl),HB1.out⟩
 · cases b2
   · go_enter Tryz.func51,Tryz.ntmps51
     go_wp2_with (first
      | (go_at_call 39;with_reducible refine (H1.out _ (HB.out _)).mono ?_;rintro e w1 ⟨rfl,hb1⟩;obtain ⟨c1,c2⟩:=HC.out _ hb1;have HB1:=Lib.hid (below_box hb1);clear hb1)
      | (go_at_call 113;with_reducible refine (HN.out _).mono ?_;rintro e w2 ⟨rfl,rfl⟩))
     go_ret
     exact ⟨ret_bool (by rw [HE.out];rfl),HB1.out⟩
   · go_enter Tryz.func51,Tryz.ntmps51
     go_wp2_with (first
      | (go_at_call 39;with_reducible refine (H1.out _ (HB.out _)).mono ?_;rintro e w1 ⟨rfl,hb1⟩;obtain ⟨c1,c2⟩:=HC.out _ hb1;have HB1:=Lib.hid (below_box hb1);clear hb1)
      | (go_at_call 113;with_reducible refine (HN.out _).mono ?_;rintro e w2 ⟨rfl,rfl⟩)
      | (go_at_call 132;with_reducible refine (H3.out _ HB1.out).mono ?_;rintro e w2 ⟨rfl,hb2⟩;have HB2:=Lib.hid (below_then HB1.out hb2);clear hb2))
     go_ret
     exact ⟨ret_bool (by rw [HE.out];simp),HB2.out⟩
end leaves
structure SpM where
 name:ByteArray
 owner:Nat
 evs:List Evt
 read:Nat
 gauge:Int
 sealed:Bool
def SpM.done (x:SpM):Bool:=x.sealed && ((x.read:Int) == (x.evs.length:Int))
structure WlM where
 bound:Int
 splits:List SpM
 marks:List Int
 sealed:Bool
 late:List Evt
def allN (l:List SpM):Nat:=(l.map fun x=>x.evs.length).sum
theorem allN_take {l:List SpM} {k:Nat} (h:k<l.length):allN (l.take (k+1))=allN (l.take k)+l[k].evs.length:=by
 unfold allN
 rw [← List.take_append_getElem h]
 simp only [List.map_append,List.sum_append,List.map_cons,List.map_nil,List.sum_cons,List.sum_nil,Nat.add_zero]
theorem allN_le (l:List SpM) (k:Nat):allN (l.take k)≤allN l:=by
 have h:allN l=allN (l.take k)+allN (l.drop k):=by
  unfold allN
  rw [← List.sum_append,← List.map_append,List.take_append_drop]
 omega
structure WOk (m:WlM):Prop where
 splits:m.splits.length≤50
 all:allN m.splits≤400
 read:∀ x ∈ m.splits,x.read≤x.evs.length
 owner:∀ x ∈ m.splits,x.owner<m.marks.length
 lo:1≤m.marks.length
 hi:m.marks.length≤16
 bound:0≤m.bound∧m.bound≤1000000000
 gauge:∀ x ∈ m.splits,-1000000000000≤x.gauge∧x.gauge≤1000000000001
 marks:∀ x ∈ m.marks,-1000000000000≤x∧x≤1000000000001
 name:∀ x ∈ m.splits,x.name.size≤16
 time:∀ x ∈ m.splits,∀ y ∈ x.evs,-1000000000000≤y.t∧y.t≤1000000000000
def NumsAt (w:World) (D:Nat→Prop) (v:Value) (l:List Int):Prop :=
 ∃ a cap,v=.slice a l.length cap∧(l=[]∨∃ b off,a=some ⟨b,off,none⟩∧D b∧∀ i,(h:i<l.length)→w.cell? ⟨b,off+i,none⟩=some (.int .i64 l[i]))
def spC (x:SpM) (ev:Value):List Value:=[.string x.name,.int .i64 x.owner,ev,.int .i64 x.read,.int .i64 x.gauge,.bool x.sealed]
def SplsAt (w:World) (D:Nat→Prop) (v:Value) (l:List SpM):Prop :=
 ∃ a cap,v=.slice a l.length cap∧(l=[]∨∃ b off,a=some ⟨b,off,none⟩∧D b∧∀ i,(h:i<l.length)→∃ ev,EvtsAt w D ev l[i].evs ∧
  w.cell? ⟨b,off+i * 6,none⟩=some (.string l[i].name)∧w.cell? ⟨b,off+i * 6+1,none⟩=some (.int .i64 l[i].owner)∧w.cell? ⟨b,off+i * 6+2,none⟩=some ev ∧
  w.cell? ⟨b,off+i * 6+3,none⟩=some (.int .i64 l[i].read)∧w.cell? ⟨b,off+i * 6+4,none⟩=some (.int .i64 l[i].gauge)∧w.cell? ⟨b,off+i * 6+5,none⟩=some (.bool l[i].sealed))
structure RS where
 sch:Value
 spl:Option Addr×Nat
 mks:Option Addr×Nat
 back:Value
abbrev refV (m:WlM) (p:RS):Value :=
 .agg #[p.sch,.int .i64 m.bound,.slice p.spl.1 m.splits.length p.spl.2,.slice p.mks.1 m.marks.length p.mks.2,.bool m.sealed,p.back]
structure RefAt (w:World) (D:Nat→Prop) (s:List Col) (m:WlM) (p:RS):Prop where
 sch:SchemaAt w D p.sch s
 spl:SplsAt w D (.slice p.spl.1 m.splits.length p.spl.2) m.splits
 mks:NumsAt w D (.slice p.mks.1 m.marks.length p.mks.2) m.marks
 back:EvtsAt w D p.back m.late
section keeping
variable {w w' : World} {D : Nat → Prop}
theorem NumsAt.keep {v:Value} {l:List Int} (h:NumsAt w D v l) (hk:∀ b,D b→b<w.heap.size→w'.heap[b]? = w.heap[b]?):NumsAt w' D v l:=by
 obtain ⟨a,cap,rfl,hx⟩:=h
 refine ⟨a,cap,rfl,?_⟩
 rcases hx with rfl | ⟨b,off,rfl,hb,hc⟩
 · exact .inl rfl
 · refine .inr ⟨b,off,rfl,hb,fun i hi=>?_⟩
   have h0:=hc i hi
   rw [cell_keep (hk b hb (cell_lt h0))]
   exact h0
theorem SplsAt.keep {v:Value} {l:List SpM} (h:SplsAt w D v l) (hk:∀ b,D b→b<w.heap.size→w'.heap[b]? = w.heap[b]?):SplsAt w' D v l:=by
 obtain ⟨a,cap,rfl,hx⟩:=h
 refine ⟨a,cap,rfl,?_⟩
 rcases hx with rfl | ⟨b,off,rfl,hb,hc⟩
 · exact .inl rfl
 · refine .inr ⟨b,off,rfl,hb,fun i hi=>?_⟩
   obtain ⟨ev,he,h0,h1,h2,h3,h4,h5⟩:=hc i hi
   have hh:=cell_keep (hk b hb (cell_lt h0))
   exact ⟨ev,he.keep hk,by rw [hh];exact h0,by rw [hh];exact h1,by rw [hh];exact h2,by rw [hh];exact h3,by rw [hh];exact h4,by rw [hh];exact h5⟩
theorem RefAt.keep {s:List Col} {m:WlM} {p:RS} (h:RefAt w D s m p) (hk:∀ b,D b→b<w.heap.size→w'.heap[b]? = w.heap[b]?):RefAt w' D s m p :=
 ⟨h.sch.keep hk,h.spl.keep hk,h.mks.keep hk,h.back.keep hk⟩
theorem RefAt.below {s:List Col} {m:WlM} {p:RS} (h:RefAt w D s m p) (hb:Below w.heap.size w w'):RefAt w' D s m p :=
 h.keep fun b _ hlt=>hb.block b hlt
theorem NumsAt.below {v:Value} {l:List Int} (h:NumsAt w D v l) (hb:Below w.heap.size w w'):NumsAt w' D v l :=
 h.keep fun b _ hlt=>hb.block b hlt
theorem SplsAt.below {v:Value} {l:List SpM} (h:SplsAt w D v l) (hb:Below w.heap.size w w'):SplsAt w' D v l :=
 h.keep fun b _ hlt=>hb.block b hlt
theorem NumsAt.at {a:Option Addr} {cap:Nat} {l:List Int} (h:NumsAt w D (.slice a l.length cap) l) {k:Nat} (hk:k<l.length) :
 ∃ b off,a=some ⟨b,off,none⟩∧b<w.heap.size∧w.cell? ⟨b,off+k,none⟩=some (.int .i64 l[k]):=by
 obtain ⟨a',cap',hv,hx⟩:=h
 injection hv with hv _ _
 subst hv
 obtain ⟨b,off,rfl,hD,hc⟩:=hx.resolve_left (fun e=>by rw [e] at hk;simp at hk)
 exact ⟨b,off,rfl,cell_lt (hc k hk),hc k hk⟩
theorem SplsAt.at {a:Option Addr} {cap:Nat} {l:List SpM} (h:SplsAt w D (.slice a l.length cap) l) {k:Nat} (hk:k<l.length) :
 ∃ b off e1 e2,a=some ⟨b,off,none⟩∧b<w.heap.size∧EvtsAt w D (.slice e1 l[k].evs.length e2) l[k].evs ∧
 w.cell? ⟨b,off+k * 6,none⟩=some (.string l[k].name)∧w.cell? ⟨b,off+k * 6+1,none⟩=some (.int .i64 l[k].owner)∧w.cell? ⟨b,off+k * 6+2,none⟩=some (.slice e1 l[k].evs.length e2) ∧
 w.cell? ⟨b,off+k * 6+3,none⟩=some (.int .i64 l[k].read)∧w.cell? ⟨b,off+k * 6+4,none⟩=some (.int .i64 l[k].gauge)∧w.cell? ⟨b,off+k * 6+5,none⟩=some (.bool l[k].sealed):=by
 obtain ⟨a',cap',hv,hx⟩:=h
 injection hv with hv _ _
 subst hv
 obtain ⟨b,off,rfl,hD,hc⟩:=hx.resolve_left (fun e=>by rw [e] at hk;simp at hk)
 obtain ⟨ev,he,h0,h1,h2,h3,h4,h5⟩:=hc k hk
 have he':=he
 obtain ⟨e1,e2,e,_⟩:=he'
 subst e
 exact ⟨b,off,e1,e2,rfl,cell_lt h0,he,h0,h1,h2,h3,h4,h5⟩
end keeping
def findI (l:List SpM) (n:ByteArray):Int:=idxI (fun x=>eqS x.name n) l
section leaves
set_option maxHeartbeats 400000
set_option maxRecDepth 10000
theorem f89_any (x:SpM) (a:Option Addr) (cap:Nat) (w:World) :
 Calls Tryz.prog 89 #[.agg #[.string x.name,.int .i64 x.owner,.slice a x.evs.length cap,.int .i64 x.read,.int .i64 x.gauge,.bool x.sealed]] w fun e w'=>e=.returned (.bool x.done)∧Below w.heap.size w w':=by
 have HB:Hid (∀ o,Below w.heap.size w (w.alloc o)):=fun o=>(Below.refl _ _).alloc (Nat.le_refl _) o
 obtain ⟨b,hb⟩:∃ b,x.sealed=b:=⟨_,rfl⟩
 have HD:Hid (x.done=(b && ((x.read:Int) == (x.evs.length:Int)))):=by show x.done=_;rw [SpM.done,hb]
 rw [hb]
 clear hb
 cases b
 · go_enter Tryz.func89,Tryz.ntmps89
   go_wp2_with fail
   go_ret
   exact ⟨ret_bool (by rw [HD.out];rfl),HB.out _⟩
 · go_enter Tryz.func89,Tryz.ntmps89
   go_wp2_with fail
   go_ret
   exact ⟨ret_bool (by rw [HD.out];simp),HB.out _⟩
theorem f88_any (w:World) (D:Nat→Prop) (s:List Col) (m:WlM) (p:RS) (nm:ByteArray) (h:RefAt w D s m p) (hok:WOk m) :
 Calls Tryz.prog 88 #[refV m p,.string nm] w fun e w'=>e=.returned (.int .i64 (findI m.splits nm))∧Below w.heap.size w w':=by
 have HB:Hid (∀ o,Below w.heap.size w (w.alloc o)):=fun o=>(Below.refl _ _).alloc (Nat.le_refl _) o
 obtain ⟨sch,⟨sa,sc⟩,⟨ma,mc⟩,back⟩:=p
 have HS:=Lib.hid h.spl
 dsimp only at HS
 have h50:=hok.splits
 clear h hok
 go_enter Tryz.func88,Tryz.ntmps88
 go_wp2_with fail
 go_loopw [5] (fun i wr=>∃ k:Nat,k≤m.splits.length∧i=.int .i64 k∧Hid (∀ j (h:j<m.splits.length),j<k→eqS m.splits[j].name nm=false)∧w.alloc (.cells #[sch,.int .i64 m.bound,.slice sa m.splits.length sc,.slice ma m.marks.length mc,.bool m.sealed,back] 45)=wr) (fun i _=>m.splits.length - (intOf i).toNat)
 case atStart=>exact ⟨0,by omega,rfl,Lib.hid (by omega),rfl⟩
 case round =>
  obtain ⟨k,hk,rfl,hv,rfl⟩:=hrel
  by_cases hlt:k<m.splits.length
  · obtain ⟨b,off,e1,e2,rfl,hbw,-,x0,-⟩:=(HS.out.below (HB.out (.cells #[sch,.int .i64 m.bound,.slice sa m.splits.length sc,.slice ma m.marks.length mc,.bool m.sealed,back] 45))).at hlt
    go_wp2_with fail
    · rename_i he
      go_ret
      exact ⟨ret_int (idxI_hit (p:=fun x:SpM=>eqS x.name nm) hlt he (fun j hj hjk=>hv.out j hj hjk)).symm,HB.out _⟩
    · rename_i he
      go_roundw
      case rel =>
       refine ⟨k+1,by omega,by go_num,Lib.hid fun j hj hjk=>?_,trivial⟩
       by_cases e:j=k
       · subst e;exact he
       · exact hv.out j hj (by omega)
      case measure=>simp [intOf];omega
  · go_wp2_with fail
    go_ret
    exact ⟨ret_int (idxI_none (p:=fun x:SpM=>eqS x.name nm) (fun j hj=>hv.out j hj (by omega))).symm,HB.out _⟩
end leaves
def markI (m:WlM) (r:Int):Int:=if 0≤r∧r<(m.marks.length:Int) then m.marks.getD r.toNat 0 else -1000000000000
theorem markI_in {m:WlM} {k:Nat} (h:k<m.marks.length):markI m k=m.marks[k]:=by
 have h1:(0:Int)≤(k:Int)∧(k:Int)<(m.marks.length:Int):=by omega
 rw [markI,if_pos h1]
 simp [List.getD,h]
theorem markI_lo {m:WlM} {r:Int} (h:r<0):markI m r = -1000000000000:=by rw [markI,if_neg (by omega)]
theorem markI_hi {m:WlM} {r:Int} (h:(m.marks.length:Int)≤r):markI m r = -1000000000000:=by rw [markI,if_neg (by omega)]
def idleB (m:WlM) (r:Int):Bool:=decide (0≤r∧r<(m.marks.length:Int)) && !m.sealed && !(m.splits.any fun x=>(x.owner:Int) == r)
def doneB (m:WlM):Bool:=m.splits.all SpM.done && m.sealed
def ownerI (m:WlM) (n:ByteArray):Int×Int:=if findI m.splits n<0 then (0,5) else (((m.splits.getD (findI m.splits n).toNat ⟨n,0,[],0,0,false⟩).owner:Int),0)
theorem idxI_lt {α:Type} {p:α→Bool} {l:List α}:idxI p l<0∨∃ k,k<l.length∧idxI p l=(k:Int):=by
 unfold idxI
 cases h:l.findIdx? p with
 | none=>left;decide
 | some i =>
   right
   rw [List.findIdx?_eq_some_iff_getElem] at h
   exact ⟨i,h.1,rfl⟩
theorem any_none {α:Type} {p:α→Bool} {l:List α} (h:∀ j (h:j<l.length),p l[j]=false):l.any p=false:=by
 rw [List.any_eq_false]
 intro x hx
 obtain ⟨j,hj,rfl⟩:=List.mem_iff_getElem.1 hx
 simp [h j hj]
theorem any_hit {α:Type} {p:α→Bool} {l:List α} {k:Nat} (hk:k<l.length) (h:p l[k]=true):l.any p=true:=by
 rw [List.any_eq_true];exact ⟨l[k],List.getElem_mem hk,h⟩
theorem all_yes {α:Type} {p:α→Bool} {l:List α} (h:∀ j (h:j<l.length),p l[j]=true):l.all p=true:=by
 rw [List.all_eq_true]
 intro x hx
 obtain ⟨j,hj,rfl⟩:=List.mem_iff_getElem.1 hx
 exact h j hj
theorem all_miss {α:Type} {p:α→Bool} {l:List α} {k:Nat} (hk:k<l.length) (h:p l[k]=false):l.all p=false:=by
 rw [List.all_eq_false];exact ⟨l[k],List.getElem_mem hk,by simp [h]⟩
section leaves
set_option maxHeartbeats 400000
set_option maxRecDepth 10000
theorem f90_any (w:World) (D:Nat→Prop) (s:List Col) (m:WlM) (p:RS) (h:RefAt w D s m p) (hok:WOk m) :
 Calls Tryz.prog 90 #[refV m p] w fun e w'=>e=.returned (.int .i64 (allN m.splits))∧Below w.heap.size w w':=by
 have HB:Hid (∀ o,Below w.heap.size w (w.alloc o)):=fun o=>(Below.refl _ _).alloc (Nat.le_refl _) o
 obtain ⟨sch,⟨sa,sc⟩,⟨ma,mc⟩,back⟩:=p
 have HS:=Lib.hid h.spl
 dsimp only at HS
 have h50:=hok.splits
 have HA:=Lib.hid hok.all
 clear h hok
 go_enter Tryz.func90,Tryz.ntmps90
 go_wp2_with fail
 go_loopw [3,4] (fun z i wr=>∃ (k:Nat),k≤m.splits.length∧z=.int .i64 (allN (m.splits.take k))∧i=.int .i64 k∧w.alloc (.cells #[sch,.int .i64 m.bound,.slice sa m.splits.length sc,.slice ma m.marks.length mc,.bool m.sealed,back] 45)=wr) (fun _ i _=>m.splits.length - (intOf i).toNat)
 case atStart=>exact ⟨0,by omega,by rfl,rfl,rfl⟩
 case round =>
  obtain ⟨k,hk,rfl,rfl,rfl⟩:=hrel
  by_cases hlt:k<m.splits.length
  · obtain ⟨b,off,e1,e2,rfl,hbw,-,-,-,x2,-⟩:=(HS.out.below (HB.out (.cells #[sch,.int .i64 m.bound,.slice sa m.splits.length sc,.slice ma m.marks.length mc,.bool m.sealed,back] 45))).at hlt
    have hb1:allN (m.splits.take k)+m.splits[k].evs.length≤400:=by
     rw [← allN_take hlt]
     exact Nat.le_trans (allN_le _ _) HA.out
    have HT:=Lib.hid (allN_take hlt)
    obtain ⟨n1,e1'⟩:∃ n,allN (m.splits.take k)=n:=⟨_,rfl⟩
    obtain ⟨n2,e2'⟩:∃ n,m.splits[k].evs.length=n:=⟨_,rfl⟩
    rw [e1',e2'] at HT hb1
    rw [e2'] at x2
    rw [e1']
    go_wp2_with fail
    go_roundw
    case rel=>exact ⟨k+1,by omega,by rw [HT.out];go_num,by go_num,trivial⟩
    case measure=>simp [intOf];omega
  · have hk':k=m.splits.length:=by omega
    subst hk'
    go_wp2_with fail
    go_ret
    exact ⟨ret_int (by rw [List.take_length]),HB.out _⟩
theorem f63_any (w:World) (D:Nat→Prop) (s:List Col) (m:WlM) (p:RS) (r:Int) (h:RefAt w D s m p) (hok:WOk m) :
 Calls Tryz.prog 63 #[refV m p,.int .i64 r] w fun e w'=>e=.returned (.int .i64 (markI m r))∧Below w.heap.size w w':=by
 have HB:Hid (∀ o,Below w.heap.size w (w.alloc o)):=fun o=>(Below.refl _ _).alloc (Nat.le_refl _) o
 obtain ⟨sch,⟨sa,sc⟩,⟨ma,mc⟩,back⟩:=p
 have HS:=Lib.hid h.mks
 dsimp only at HS
 have h16:=hok.hi
 clear h hok
 by_cases h1:r<0
 · have HE:=Lib.hid (markI_lo (m:=m) h1)
   go_enter Tryz.func63,Tryz.ntmps63
   go_wp2_with fail
   go_ret
   exact ⟨ret_int HE.out.symm,HB.out _⟩
 · by_cases h2:(m.marks.length:Int)≤r
   · have HE:=Lib.hid (markI_hi (m:=m) h2)
     go_enter Tryz.func63,Tryz.ntmps63
     go_wp2_with fail
     go_ret
     exact ⟨ret_int HE.out.symm,HB.out _⟩
   · obtain ⟨k,rfl⟩:∃ k:Nat,r=k:=⟨r.toNat,by omega⟩
     have hlt:k<m.marks.length:=by omega
     have HE:=Lib.hid (markI_in hlt)
     obtain ⟨b,off,rfl,hbw,x0⟩:=(HS.out.below (HB.out (.cells #[sch,.int .i64 m.bound,.slice sa m.splits.length sc,.slice ma m.marks.length mc,.bool m.sealed,back] 45))).at hlt
     go_enter Tryz.func63,Tryz.ntmps63
     go_wp2_with fail
     go_ret
     exact ⟨ret_int HE.out.symm,HB.out _⟩
theorem f65_any (w:World) (D:Nat→Prop) (s:List Col) (m:WlM) (p:RS) (r:Int) (h:RefAt w D s m p) (hok:WOk m) :
 Calls Tryz.prog 65 #[refV m p,.int .i64 r] w fun e w'=>e=.returned (.bool (idleB m r))∧Below w.heap.size w w':=by
 have HB:Hid (∀ o,Below w.heap.size w (w.alloc o)):=fun o=>(Below.refl _ _).alloc (Nat.le_refl _) o
 obtain ⟨sch,⟨sa,sc⟩,⟨ma,mc⟩,back⟩:=p
 have HS:=Lib.hid h.spl
 dsimp only at HS
 have h50:=hok.splits
 clear h hok
 obtain ⟨sl,hsl⟩:∃ b,m.sealed=b:=⟨_,rfl⟩
 by_cases h1:r<0
 · have HE:Hid (idleB m r=false):=by show idleB m r=false;rw [idleB,decide_eq_false (by omega)];rfl
   go_enter Tryz.func65,Tryz.ntmps65
   go_wp2_with fail
   go_ret
   exact ⟨ret_bool HE.out.symm,HB.out _⟩
 · by_cases h2:(m.marks.length:Int)≤r
   · have HE:Hid (idleB m r=false):=by show idleB m r=false;rw [idleB,decide_eq_false (by omega)];rfl
     go_enter Tryz.func65,Tryz.ntmps65
     go_wp2_with fail
     go_ret
     exact ⟨ret_bool HE.out.symm,HB.out _⟩
   · have HE:Hid (idleB m r=(!sl && !(m.splits.any fun x=>(x.owner:Int) == r))):=by
      show idleB m r=_
      rw [idleB,decide_eq_true (by omega),hsl,Bool.true_and]
     dsimp only [refV]
     rw [hsl]
     clear hsl
     cases sl
     · go_enter Tryz.func65,Tryz.ntmps65
       go_wp2_with fail
       go_loopw [5] (fun i wr=>∃ k:Nat,k≤m.splits.length∧i=.int .i64 k∧Hid (∀ j (h:j<m.splits.length),j<k→((m.splits[j].owner:Int) == r)=false)∧w.alloc (.cells #[sch,.int .i64 m.bound,.slice sa m.splits.length sc,.slice ma m.marks.length mc,.bool false,back] 45)=wr) (fun i _=>m.splits.length - (intOf i).toNat)
       case atStart=>exact ⟨0,by omega,rfl,Lib.hid (by omega),rfl⟩
       case round =>
        obtain ⟨k,hk,rfl,hv,rfl⟩:=hrel
        by_cases hlt:k<m.splits.length
        · obtain ⟨b,off,e1,e2,rfl,hbw,-,-,x1,-⟩:=(HS.out.below (HB.out (.cells #[sch,.int .i64 m.bound,.slice sa m.splits.length sc,.slice ma m.marks.length mc,.bool false,back] 45))).at hlt
          cases ho:((m.splits[k].owner:Int) == r)
          · go_wp2_with fail
            go_roundw
            case rel =>
             refine ⟨k+1,by omega,by go_num,Lib.hid fun j hj hjk=>?_,trivial⟩
             by_cases e:j=k
             · subst e;exact ho
             · exact hv.out j hj (by omega)
            case measure=>simp [intOf];omega
          · go_wp2_with fail
            go_ret
            exact ⟨ret_bool (by rw [HE.out,any_hit hlt ho];rfl),HB.out _⟩
        · have hn:=Lib.hid (any_none (p:=fun x:SpM=>(x.owner:Int) == r) (l:=m.splits) (fun j hj=>hv.out j hj (by omega)))
          go_wp2_with fail
          go_ret
          exact ⟨ret_bool (by rw [HE.out,hn.out];rfl),HB.out _⟩
     · go_enter Tryz.func65,Tryz.ntmps65
       go_wp2_with fail
       go_ret
       exact ⟨ret_bool (by rw [HE.out];rfl),HB.out _⟩
theorem f71_any (w:World) (D:Nat→Prop) (s:List Col) (m:WlM) (p:RS) (h:RefAt w D s m p) (hok:WOk m) :
 Calls Tryz.prog 71 #[refV m p] w fun e w'=>e=.returned (.bool (doneB m))∧Below w.heap.size w w':=by
 have HB:Hid (∀ o,Below w.heap.size w (w.alloc o)):=fun o=>(Below.refl _ _).alloc (Nat.le_refl _) o
 obtain ⟨sch,⟨sa,sc⟩,⟨ma,mc⟩,back⟩:=p
 have HS:=Lib.hid h.spl
 dsimp only at HS
 have h50:=hok.splits
 clear h hok
 have HL:Hid (∀ w1,Below (w.alloc (.cells #[sch,.int .i64 m.bound,.slice sa m.splits.length sc,.slice ma m.marks.length mc,.bool m.sealed,back] 45)).heap.size (w.alloc (.cells #[sch,.int .i64 m.bound,.slice sa m.splits.length sc,.slice ma m.marks.length mc,.bool m.sealed,back] 45)) w1→w1.cell? ⟨w.heap.size,2,none⟩=some (.slice sa m.splits.length sc)∧w1.cell? ⟨w.heap.size,4,none⟩=some (.bool m.sealed)) :=
  fun w1 h=>⟨by rw [h.cell (p:=⟨w.heap.size,2,none⟩) (by simp)];simp,by rw [h.cell (p:=⟨w.heap.size,4,none⟩) (by simp)];simp⟩
 go_enter Tryz.func71,Tryz.ntmps71
 go_wp2_with fail
 go_loopw [3] (fun i wr=>∃ k:Nat,k≤m.splits.length∧i=.int .i64 k∧Hid (∀ j (h:j<m.splits.length),j<k→m.splits[j].done=true)∧Hid (Below (w.alloc (.cells #[sch,.int .i64 m.bound,.slice sa m.splits.length sc,.slice ma m.marks.length mc,.bool m.sealed,back] 45)).heap.size (w.alloc (.cells #[sch,.int .i64 m.bound,.slice sa m.splits.length sc,.slice ma m.marks.length mc,.bool m.sealed,back] 45)) wr)) (fun i _=>m.splits.length - (intOf i).toNat)
 case atStart=>exact ⟨0,by omega,rfl,Lib.hid (by omega),Lib.hid (Below.refl _ _)⟩
 case round =>
  obtain ⟨k,hk,rfl,hv,hbr⟩:=hrel
  obtain ⟨c2,c4⟩:=HL.out wr hbr.out
  have HW:=Lib.hid (below_box hbr.out)
  by_cases hlt:k<m.splits.length
  · obtain ⟨b,off,e1,e2,rfl,hbw,-,x0,x1,x2,x3,x4,x5⟩:=(HS.out.below HW.out).at hlt
    have H89:=Lib.hid (f89_any m.splits[k] e1 e2 wr)
    obtain ⟨dn,hdn⟩:∃ b,m.splits[k].done=b:=⟨_,rfl⟩
    rw [hdn] at H89
    have HDN:=Lib.hid hdn
    clear hdn
    cases dn
    · go_wp2_with (go_at_call 89;with_reducible refine H89.out.mono ?_;rintro e w1 ⟨rfl,hb1⟩;have HB1:=Lib.hid hb1;clear hb1)
      go_ret
      exact ⟨ret_bool (by rw [doneB,all_miss hlt HDN.out];rfl),below_then HW.out HB1.out⟩
    · go_wp2_with (go_at_call 89;with_reducible refine H89.out.mono ?_;rintro e w1 ⟨rfl,hb1⟩;have HB1:=Lib.hid hb1;clear hb1)
      go_roundw
      case rel =>
       refine ⟨k+1,by omega,by go_num,Lib.hid fun j hj hjk=>?_,Lib.hid (below_then hbr.out HB1.out)⟩
       by_cases e:j=k
       · subst e;exact HDN.out
       · exact hv.out j hj (by omega)
      case measure=>simp [intOf];omega
  · have hn:=Lib.hid (all_yes (p:=SpM.done) (l:=m.splits) (fun j hj=>hv.out j hj (by omega)))
    go_wp2_with fail
    go_ret
    exact ⟨ret_bool (by rw [doneB,hn.out];rfl),HW.out⟩
theorem f73_any (w:World) (D:Nat→Prop) (s:List Col) (m:WlM) (p:RS) (nm:ByteArray) (h:RefAt w D s m p) (hok:WOk m) :
 Calls Tryz.prog 73 #[refV m p,.string nm] w fun e w'=>e=.returned (.tuple #[.int .i64 (ownerI m nm).1,.int .i64 (ownerI m nm).2])∧Below w.heap.size w w':=by
 have HB:Hid (∀ o,Below w.heap.size w (w.alloc o)):=fun o=>(Below.refl _ _).alloc (Nat.le_refl _) o
 obtain ⟨sch,⟨sa,sc⟩,⟨ma,mc⟩,back⟩:=p
 have HS:=Lib.hid h.spl
 dsimp only at HS
 have h50:=hok.splits
 have H88:=Lib.hid (f88_any (w.alloc (.cells #[sch,.int .i64 m.bound,.slice sa m.splits.length sc,.slice ma m.marks.length mc,.bool m.sealed,back] 45)) D s m ⟨sch,(sa,sc),(ma,mc),back⟩ nm (h.below (HB.out _)) hok)
 dsimp only [refV] at H88
 clear h hok
 have HL:Hid (∀ w1,Below (w.alloc (.cells #[sch,.int .i64 m.bound,.slice sa m.splits.length sc,.slice ma m.marks.length mc,.bool m.sealed,back] 45)).heap.size (w.alloc (.cells #[sch,.int .i64 m.bound,.slice sa m.splits.length sc,.slice ma m.marks.length mc,.bool m.sealed,back] 45)) w1→w1.cell? ⟨w.heap.size,2,none⟩=some (.slice sa m.splits.length sc)) :=
  fun w1 h=>by rw [h.cell (p:=⟨w.heap.size,2,none⟩) (by simp)];simp
 rcases idxI_lt (p:=fun x:SpM=>eqS x.name nm) (l:=m.splits) with hi | ⟨k,hlt,hi⟩
 · have hi':findI m.splits nm<0:=hi
   have HE:Hid (ownerI m nm=(0,5)):=by show ownerI m nm=_;rw [ownerI,if_pos hi']
   rw [HE.out]
   go_enter Tryz.func73,Tryz.ntmps73
   go_wp2_with (go_at_call 88;with_reducible refine H88.out.mono ?_;rintro e w1 ⟨rfl,hb1⟩;have HB1:=Lib.hid (below_box hb1);clear hb1)
   go_ret2
   exact ⟨rfl,HB1.out⟩
 · have hi':findI m.splits nm=k:=hi
   have HE:Hid (ownerI m nm=((m.splits[k].owner:Int),0)):=by
    show ownerI m nm=_
    rw [ownerI,hi',if_neg (by omega)]
    simp [List.getD,hlt]
   rw [HE.out]
   rw [hi'] at H88
   clear hi hi'
   go_enter Tryz.func73,Tryz.ntmps73
   go_wp2_with (go_at_call 88;with_reducible refine H88.out.mono ?_;rintro e w1 ⟨rfl,hb1⟩;have c2:=HL.out w1 hb1;have HB1:=Lib.hid (below_box hb1);clear hb1;obtain ⟨b,off,e1,e2,rfl,hbw,-,x0,x1,-⟩:=(HS.out.below HB1.out).at hlt)
   go_ret2
   exact ⟨rfl,HB1.out⟩
end leaves
theorem below_of_class {w w':World} (h:∃ p:Regrown,w'=Sort.grow (redrawn w p.d) p.os):Below w.heap.size w w':=by
 obtain ⟨p,rfl⟩:=h
 exact below_regrown _ _ _
def leftI (l:List SpM) (r:Int):Int:=(l.map fun x=>if ((x.owner:Int) == r)=true then (x.evs.length:Int) - x.read else 0).sum
theorem leftI_take {l:List SpM} {r:Int} {k:Nat} (h:k<l.length):leftI (l.take (k+1)) r=leftI (l.take k) r+(if ((l[k].owner:Int) == r)=true then (l[k].evs.length:Int) - l[k].read else 0):=by
 unfold leftI
 rw [← List.take_append_getElem h]
 simp only [List.map_append,List.sum_append,List.map_cons,List.map_nil,List.sum_cons,List.sum_nil,Int.add_zero]
theorem leftI_bound {l:List SpM} (r:Int) (h:∀ x ∈ l,x.read≤x.evs.length):0≤leftI l r∧leftI l r≤(allN l:Int):=by
 induction l with
 | nil=>simp [leftI,allN]
 | cons x l ih =>
   have h1:=h x (List.mem_cons_self ..)
   have h2:=ih fun y hy=>h y (List.mem_cons_of_mem _ hy)
   have e1:leftI (x :: l) r=(if ((x.owner:Int) == r)=true then (x.evs.length:Int) - x.read else 0)+leftI l r:=by simp only [leftI,List.map_cons,List.sum_cons]
   have e2:allN (x :: l)=x.evs.length+allN l:=by simp [allN]
   rw [e1,e2]
   split <;> omega
theorem wrapI {n:Int} (h : -9223372036854775808≤n∧n≤9223372036854775807):IntKind.i64.wrap n=n:=by
 simp [IntKind.wrap,IntKind.bits,IntKind.signed]
 omega
section leaves
set_option maxHeartbeats 400000
set_option maxRecDepth 10000
theorem f66_any (w:World) (D:Nat→Prop) (s:List Col) (m:WlM) (p:RS) (r:Int) (h:RefAt w D s m p) (hok:WOk m) :
 Calls Tryz.prog 66 #[refV m p,.int .i64 r] w fun e w'=>e=.returned (.int .i64 (leftI m.splits r))∧Below w.heap.size w w':=by
 have HB:Hid (∀ o,Below w.heap.size w (w.alloc o)):=fun o=>(Below.refl _ _).alloc (Nat.le_refl _) o
 obtain ⟨sch,⟨sa,sc⟩,⟨ma,mc⟩,back⟩:=p
 have HS:=Lib.hid h.spl
 dsimp only at HS
 have h50:=hok.splits
 have HA:=Lib.hid hok.all
 have HR:=Lib.hid hok.read
 clear h hok
 have HL:Hid (∀ w1,Below (w.alloc (.cells #[sch,.int .i64 m.bound,.slice sa m.splits.length sc,.slice ma m.marks.length mc,.bool m.sealed,back] 45)).heap.size (w.alloc (.cells #[sch,.int .i64 m.bound,.slice sa m.splits.length sc,.slice ma m.marks.length mc,.bool m.sealed,back] 45)) w1→w1.cell? ⟨w.heap.size,2,none⟩=some (.slice sa m.splits.length sc)) :=
  fun w1 h=>by rw [h.cell (p:=⟨w.heap.size,2,none⟩) (by simp)];simp
 go_enter Tryz.func66,Tryz.ntmps66
 go_wp2_with fail
 go_loopw [5,6] (fun z i wr=>∃ (k:Nat),k≤m.splits.length∧z=.int .i64 (leftI (m.splits.take k) r)∧i=.int .i64 k∧Hid (Below (w.alloc (.cells #[sch,.int .i64 m.bound,.slice sa m.splits.length sc,.slice ma m.marks.length mc,.bool m.sealed,back] 45)).heap.size (w.alloc (.cells #[sch,.int .i64 m.bound,.slice sa m.splits.length sc,.slice ma m.marks.length mc,.bool m.sealed,back] 45)) wr)) (fun _ i _=>m.splits.length - (intOf i).toNat)
 case atStart=>exact ⟨0,by omega,by rfl,rfl,Lib.hid (Below.refl _ _)⟩
 case round =>
  obtain ⟨k,hk,rfl,rfl,hbr⟩:=hrel
  have c2:=HL.out wr hbr.out
  have HW:=Lib.hid (below_box hbr.out)
  have hz:w.heap.size<wr.heap.size:=by have:=hbr.out.size;simp at this;omega
  by_cases hlt:k<m.splits.length
  · obtain ⟨b,off,e1,e2,rfl,hbw,-,-,x1,x2,x3,-⟩:=(HS.out.below HW.out).at hlt
    have hb0:=leftI_bound (l:=m.splits.take k) r (fun x hx=>HR.out x (List.mem_of_mem_take hx))
    have ha0:=allN_take hlt
    have ha1:=allN_le m.splits (k+1)
    have ha2:=HA.out
    have hr0:=HR.out _ (List.getElem_mem hlt)
    have HT:=Lib.hid (leftI_take (r:=r) hlt)
    obtain ⟨n1,q1⟩:∃ n,leftI (m.splits.take k) r=n:=⟨_,rfl⟩
    obtain ⟨n2,q2⟩:∃ n,m.splits[k].evs.length=n:=⟨_,rfl⟩
    obtain ⟨n3,q3⟩:∃ n,m.splits[k].read=n:=⟨_,rfl⟩
    rw [q1] at hb0
    rw [q2] at ha0 hr0 x2
    rw [q3] at hr0 x3
    rw [q1,q2,q3] at HT
    rw [q1]
    have hbb:0≤n1∧n1+n2≤400∧n3≤n2:=by omega
    clear ha0 ha1 ha2 hr0 hb0 q1 q2 q3
    obtain ⟨y1,y2,y3⟩:=hbb
    cases ho:((m.splits[k].owner:Int) == r)
    · rw [ho] at HT
      go_wp2_with fail
      go_roundw
      case rel=>exact ⟨k+1,by omega,by rw [HT.out];simp,by go_num,hbr⟩
      case measure=>simp [intOf];omega
    · have HU:Hid (leftI (m.splits.take (k+1)) r=n1+((n2:Int) - n3)):=by
       have:=HT.out
       rw [ho] at this
       show leftI (m.splits.take (k+1)) r=_
       rw [this]
       rfl
      clear HT
      go_wp2_with fail
      have hcl:=fun d os b' o' h=>(below_regrown wr d os).cell (p:=⟨b',o',none⟩) h
      refine wp_region_quiet_below (by kernel_rfl) (by kernel_rfl) ?_
      repeat (quiet_step (fail))
      refine wpQuiet_nil ?_
      intro wq hw'
      have HQ:=Lib.hid (below_of_class hw')
      clear hw' hcl
      go_wp2_with fail
      go_roundw
      case rel=>exact ⟨k+1,by omega,by rw [HU.out,wrapI (n:=(n2:Int) - n3) (by omega),wrapI (by omega)],by go_num,Lib.hid (hbr.out.trans (HQ.out.mono hbr.out.size))⟩
      case measure=>simp [intOf];omega
  · have hk':k=m.splits.length:=by omega
    subst hk'
    go_wp2_with fail
    go_ret
    exact ⟨ret_int (by rw [List.take_length]),HW.out⟩
end leaves
end Go.Proofs.YtimahogkcmmcnaaGreatDoor
