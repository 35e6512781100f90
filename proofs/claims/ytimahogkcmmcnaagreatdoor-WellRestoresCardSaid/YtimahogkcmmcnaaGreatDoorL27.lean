/-
 The well, part 63a: how acts and wells are kept. If the schema and the acts lie in the world as the words say.
-/
import Derived.Test.YtimahogkcmmcnaaGreatDoorL26
import Derived.ProofKit
import Derived.Deep.Strs
import Derived.Deep.Slices
import Derived.Lib.SmallJoins
import Derived.Test.YtimahogkcmmcnaaGreatDoorProg
import Derived.Shelf.Strings.Split
import Derived.Shelf.Strings.Prefix
import Derived.Shelf.Strings.Cut
import Derived.Shelf.Strings.OnBuilder
import Derived.Shelf.Strconv.Itoa3
import Derived.Shelf.Strconv.Atoi
import Derived.Lib.Join
import Derived.Lib.ItoaNum
import Derived.Lib.Atoi
import Derived.Lib.SplitLaws
set_option linter.unusedSimpArgs false
set_option linter.unusedVariables false
namespace Go.Proofs.YtimahogkcmmcnaaGreatDoor
open Go.RowKit Go.Proofs.YtimahogkcmmcnaaGreatDoor.Cmps
theorem ActsAt.keepC {w w':World} {D D':Nat→Prop} {v:Value} {l:List ActM} (h:ActsAt w D v l) (hk:∀ b,D b→b<w.heap.size→w'.heap[b]? = w.heap[b]?∧D' b):ActsAt w' D' v l:=by
 obtain ⟨a,cap,rfl,hl,hx⟩:=h
 refine ⟨a,cap,rfl,hl,?_⟩
 rcases hx with rfl | ⟨b,off,rfl,hb,hc⟩
 · exact .inl rfl
 · by_cases h0:l.length=0
   · exact .inl (List.eq_nil_of_length_eq_zero h0)
   · obtain ⟨_,_,_,_,y0,_⟩:=hc 0 (by omega)
     have hbl:=cell_lt y0
     have hcell:∀ o,w'.cell? ⟨b,o,none⟩=w.cell? ⟨b,o,none⟩:=fun o=>cell_keep (hk b hb hbl).1 o
     refine .inr ⟨b,off,rfl,(hk b hb hbl).2,fun i hi=>?_⟩
     obtain ⟨ev,he,hs,hn,x0,x1,x2,x3⟩:=hc i hi
     exact ⟨ev,((he.imp (D':=fun b=>D b∧b<w.heap.size) fun b hl hb=>⟨hb,hl⟩).keep fun b hb _=>(hk b hb.1 hb.2).1).mono fun b hb=>(hk b hb.1 hb.2).2,hs,hn,by rw [hcell];exact x0,by rw [hcell];exact x1,by rw [hcell];exact x2,by rw [hcell];exact x3⟩
theorem ActsAt.atD {w:World} {D:Nat→Prop} {a:Option Addr} {cap:Nat} {l:List ActM} (h:ActsAt w D (.slice a l.length cap) l) {k:Nat} (hk:k<l.length) :
 ∃ b off e1 e2,a=some ⟨b,off,none⟩∧D b∧EvtsAt w D (.slice e1 l[k].evs.length e2) l[k].evs∧EvsSmall l[k].evs∧l[k].name.size≤9223372036854775807 ∧
 w.cell? ⟨b,off+k * 4,none⟩=some (.int .u8 l[k].kind)∧w.cell? ⟨b,off+k * 4+1,none⟩=some (.int .i64 l[k].reader)∧w.cell? ⟨b,off+k * 4+2,none⟩=some (.string l[k].name)∧w.cell? ⟨b,off+k * 4+3,none⟩=some (.slice e1 l[k].evs.length e2):=by
 obtain ⟨a',cap',hv,-,hx⟩:=h
 injection hv with hv _ _
 subst hv
 obtain ⟨b,off,rfl,hD,hc⟩:=hx.resolve_left (fun e=>by rw [e] at hk;simp at hk)
 obtain ⟨ev,he,hs,hz,h0,h1,h2,h3⟩:=hc k hk
 have he':=he
 obtain ⟨e1,e2,rfl,-⟩:=he'
 exact ⟨b,off,e1,e2,rfl,hD,he,hs,hz,h0,h1,h2,h3⟩
theorem SchemaAt.keepC {w w':World} {D D':Nat→Prop} {v:Value} {l:List Col} (h:SchemaAt w D v l) (hk:∀ b,D b→b<w.heap.size→w'.heap[b]? = w.heap[b]?∧D' b):SchemaAt w' D' v l :=
 ((h.imp (D':=fun b=>D b∧b<w.heap.size) fun b hl hb=>⟨hb,hl⟩).keep fun b hb _=>(hk b hb.1 hb.2).1).mono fun b hb=>(hk b hb.1 hb.2).2
theorem RefAt.keepC {w w':World} {D D':Nat→Prop} {s:List Col} {m:WlM} {p:RS} (h:RefAt w D s m p) (hk:∀ b,D b→b<w.heap.size→w'.heap[b]? = w.heap[b]?∧D' b):RefAt w' D' s m p :=
 ((h.imp (D':=fun b=>D b∧b<w.heap.size) fun b hl hb=>⟨hb,hl⟩).keep fun b hb _=>(hk b hb.1 hb.2).1).mono fun b hb=>(hk b hb.1 hb.2).2
theorem WAt.turn {w w':World} {col:Nat→Nat} {s:List Col} {ws:WS} {m:WlM} {b:Nat} (h:WAt w col s ws m) (hm:Mute w b) (h0:col b=0) (hb:b<w.heap.size) (ho:Only (fun x=>x=b) w w'):WAt w' col s ws m:=by
 have hk:∀ x,x<w.heap.size→x≠b→w'.heap[x]? = w.heap[x]? := fun x hx hn=>ho.block x hx hn
 have hc:∀ {x c:Nat},col x=c→c≠0→x≠b:=fun {x c} hx hn e=>by subst e;omega
 have ho':∀ {x c:Nat} {o:Obj},w.heap[x]? = some o→col x=c→c≠0→w'.heap[x]? = some o:=fun {x c o} h1 h2 h3=>(hk x (heap_lt h1) (hc h2 h3)).trans h1
 have hcl:∀ x,Calm w col x∧x≠b→Calm w' col x:=fun x hx=>⟨Nat.lt_of_lt_of_le hx.1.1 ho.size,hx.1.2⟩
 have hev:∀ {v:Value} {l:List Evt} {blk:Option Nat} {c:Nat},EvsOwn w (Calm w col) v l blk→(∀ x,blk=some x→col x=c)→c≠0→EvsOwn w' (Calm w' col) v l blk:=fun {v l blk c} he hb hn =>
  ((he.mute hm).keep fun x hx hl=>by
    rcases hx with hx | hx
    · exact hk x hl hx.2
    · exact hk x hl (hc (hb x hx) hn)).mono hcl
 have hown:∀ {v:Value} {e sz n:Nat} {xs:List Value} {blk:Option Nat} {c:Nat},SlOwn w e sz v n xs blk→(∀ x,blk=some x→col x=c)→c≠0→SlOwn w' e sz v n xs blk:=fun {v e sz n xs blk c} hs hb hn =>
  hs.keep fun g hg=>hk g (hs.lt_of hg) (hc (hb g hg) hn)
 exact ⟨fun x hx=>Nat.lt_of_lt_of_le (h.c0 x hx) ho.size,h.cW,h.cS,h.cM,h.cR,h.cL,h.cX,h.cG,h.cE,h.cB,h.cI,
  ho' h.hW h.cW (by omega),((h.hC.mute hm).keep fun x hx hl=>hk x hl hx.2).mono hcl,hown h.hS h.cS (by omega),hown h.hR h.cR (by omega),hev h.hL h.cL (by omega),
  fun k hk=>ho' (h.hX k hk) (h.cX k hk) (by omega),fun k hk=>ho' (h.hG k hk) (h.cG k hk) (by omega),fun k hk=>hev (h.hE k hk) (fun x hx=>h.cE k x hk hx) (by omega),
  fun r hr=>ho' (h.hB r hr) (h.cB r hr) (by omega),fun r hr=>ho' (h.hI r hr) (h.cI r hr) (by omega),ho' h.hM h.cM (by omega),h.hN⟩
theorem mute45v {w:World} {b:Nat} {a1 a2 a3 a4:Option Addr} {n1 n2 n3 n4 c1 c2 c3 c4:Nat} {i:Int} {q:Bool} (h:w.heap[b]? = some (.cells #[.slice a1 n1 c1,.int .i64 i,.slice a2 n2 c2,.slice a3 n3 c3,.bool q,.slice a4 n4 c4] 45 (0,0))):Mute w b:=by
 refine ⟨_,_,_,h,fun i x hx=>?_⟩
 match i,hx with
 | 0,hx=>cases hx
 | 1,hx=>cases hx
 | 2,hx=>cases hx
 | 3,hx=>cases hx
 | 4,hx=>cases hx
 | 5,hx=>cases hx
 | n+6,hx=>cases hx
end Go.Proofs.YtimahogkcmmcnaaGreatDoor
namespace Go.Proofs.YtimahogkcmmcnaaGreatDoor
open Go.ChangeShapes Go.WideShapes Go.ChangeAt Go.RowKit Go.Deep Go.Proofs.YtimahogkcmmcnaaGreatDoor.Cmps
theorem choose_list {α:Type} {p:Nat→α→Prop}:∀ (n:Nat),(∀ i,i<n→∃ x,p i x)→∃ l:List α,l.length=n∧∀ i (hi:i<l.length),p i l[i]
 | 0,_=>⟨[],rfl,fun i hi=>by simp at hi⟩
 | n+1,h=>by
   obtain ⟨l,hl,hp⟩:=choose_list n (fun i hi=>h i (by omega))
   obtain ⟨x,hx⟩:=h n (by omega)
   refine ⟨l ++ [x],by simp [hl],fun i hi=>?_⟩
   by_cases e:i<l.length
   · rw [List.getElem_append_left e];exact hp i e
   · have hi':i<l.length+1:=by simpa using hi
     obtain rfl:i=l.length:=by omega
     rw [List.getElem_append_right (Nat.le_refl _)]
     simp [hl,hx]
section opening
variable {H : Type} {enc : TypeId × Value → H} {w : World} {base : Nat} {spare : Nat → Bool} {held : Bool} {fuel : Nat} {cs : List Value} {x : DataW H × List MemPlace}
theorem cz3:Tryz.prog.cellsOf 3=1:=by kernel_rfl
theorem cz9:Tryz.prog.cellsOf 9=1:=by kernel_rfl
theorem cz28:Tryz.prog.cellsOf 28=1:=by kernel_rfl
theorem cz30:Tryz.prog.cellsOf 30=2:=by kernel_rfl
theorem cz71:Tryz.prog.cellsOf 71=2:=by kernel_rfl
theorem cz78:Tryz.prog.cellsOf 78=3:=by kernel_rfl
theorem spot_none {a:Addr} {v:Value} (h:w.cell? a=some v):a.spot=none:=by
 unfold World.cell? at h
 split at h
 · split at h
   · cases h
   · rename_i hs;simpa using hs
 · cases h
theorem trod_val (h:DataW.trod enc Tryz.prog w base spare held fuel 78 cs=some x):∃ v:Val,cs=[.int .i64 v.k,.int .i64 v.n,.string v.s]∧v.s.size≤9223372036854775807:=by
 obtain ⟨y0,y1,y2,n,_,hl,h0,h1,h2⟩:=trod_struct3 Tryz.underlying78 h
 rw [cz78] at hl
 simp only [cz3,cz9] at h0 h1 h2
 obtain ⟨k,e0,_⟩:=DataW.trod_int Tryz.underlying3 h0
 obtain ⟨n',e1,_⟩:=DataW.trod_int Tryz.underlying3 h1
 obtain ⟨s,e2,_,hz⟩:=DataW.trod_string Tryz.underlying9 h2
 match cs,hl with
 | [a,b,c],_ =>
   simp only [List.drop_zero,List.take_succ_cons,List.take_zero,List.drop_succ_cons,List.cons.injEq,and_true] at e0 e1 e2
   exact ⟨⟨k,n',s⟩,by rw [e0,e1,e2],by simp only [maxLen] at hz;exact hz⟩
theorem trod_col (h:DataW.trod enc Tryz.prog w base spare held fuel 71 cs=some x):∃ v:Col,cs=[.string v.n,.int .i64 v.k]∧v.n.size≤9223372036854775807:=by
 obtain ⟨y0,y1,n,_,hl,h0,h1⟩:=trod_struct2 Tryz.underlying71 h
 rw [cz71] at hl
 simp only [cz3,cz9] at h0 h1
 obtain ⟨s,e0,_,hz⟩:=DataW.trod_string Tryz.underlying9 h0
 obtain ⟨k,e1,_⟩:=DataW.trod_int Tryz.underlying3 h1
 match cs,hl with
 | [a,b],_ =>
   simp only [List.drop_zero,List.take_succ_cons,List.take_zero,List.drop_succ_cons,List.cons.injEq,and_true] at e0 e1
   exact ⟨⟨s,k⟩,by rw [e0,e1],by simp only [maxLen] at hz;exact hz⟩
theorem trod_row (h:DataW.trod enc Tryz.prog w base spare held fuel 28 cs=some x):∃ r row,cs=[r]∧RowAt w (fun b=>b<w.heap.size) r row∧(∀ y ∈ row,y.s.size≤9223372036854775807):=by
 rcases Deep.open_slice Tryz.underlying28 h with ⟨rfl,_⟩ | ⟨a,len,cap,m,n,D,Pl,rfl,_,hlc,hcm,hm,_,hx⟩
 · exact ⟨_,[],rfl,⟨none,0,rfl,by simp,.inl rfl⟩,by simp⟩
 · rw [cz78] at hx
   have hlm:len≤m:=by subst hm;split <;> omega
   have hV:∀ i,i<len→∃ v:Val,w.cell? (a.add (i * 3))=some (.int .i64 v.k)∧w.cell? ((a.add (i * 3)).add 1)=some (.int .i64 v.n)∧w.cell? ((a.add (i * 3)).add 2)=some (.string v.s)∧v.s.size≤9223372036854775807:=fun i hi=>by
    obtain ⟨cs',h1,h2⟩:=hx i (by omega)
    obtain ⟨v,rfl,hz⟩:=trod_val h2
    obtain ⟨_,_,hc⟩:=World.cells?_some h1
    have c0:=hc 0 (by omega)
    have c1:=hc 1 (by omega)
    have c2:=hc 2 (by omega)
    exact ⟨v,by simpa [Addr.add] using c0,by simpa using c1,by simpa using c2,hz⟩
   obtain ⟨row,hl,hp⟩:=choose_list len hV
   refine ⟨_,row,rfl,⟨some a,cap,by rw [hl],by simp only [maxLen] at hcm;omega,?_⟩,fun y hy=>by obtain ⟨i,hi,rfl⟩:=List.mem_iff_getElem.1 hy;exact (hp i hi).2.2.2⟩
   rcases Nat.eq_zero_or_pos len with h0 | h0
   · exact .inl (List.eq_nil_of_length_eq_zero (by omega))
   · obtain ⟨v,c0,_⟩:=hV 0 h0
     have hsp:a.spot=none:=spot_none (w:=w) (a:=a) (v:=.int .i64 v.k) (by simpa [Addr.add] using c0)
     obtain ⟨b,off,spot⟩:=a
     dsimp only at hsp
     subst hsp
     refine .inr ⟨b,off,rfl,?_,fun i hi=>?_⟩
     · rw [add_at] at c0;exact cell_lt c0
     · obtain ⟨c0,c1,c2,_⟩:=hp i hi
       simp only [add_at] at c0 c1 c2
       exact ⟨c0,c1,c2⟩
theorem trod_event (h:DataW.trod enc Tryz.prog w base spare held fuel 30 cs=some x):∃ (t:Int) (r:Value) (row:List Val),cs=[.int .i64 t,r]∧RowAt w (fun b=>b<w.heap.size) r row∧(∀ y ∈ row,y.s.size≤9223372036854775807):=by
 obtain ⟨y0,y1,n,_,hl,h0,h1⟩:=trod_struct2 Tryz.underlying30 h
 rw [cz30] at hl
 simp only [cz3,cz28] at h0 h1
 obtain ⟨t,e0,_⟩:=DataW.trod_int Tryz.underlying3 h0
 obtain ⟨r,row,e1,hr,hsm⟩:=trod_row h1
 match cs,hl with
 | [a,b],_ =>
   simp only [List.drop_zero,List.take_succ_cons,List.take_zero,List.drop_succ_cons,List.cons.injEq,and_true] at e0 e1
   exact ⟨t,r,row,by rw [e0,e1],hr,hsm⟩
theorem trod_events (h:DataW.trod enc Tryz.prog w base spare held fuel 24 cs=some x):∃ v l,cs=[v]∧EvtsAt w (fun b=>b<w.heap.size) v l∧EvsSmall l:=by
 rcases Deep.open_slice Tryz.underlying24 h with ⟨rfl,_⟩ | ⟨a,len,cap,m,n,D,Pl,rfl,_,hlc,hcm,hm,_,hx⟩
 · exact ⟨_,[],rfl,⟨none,0,rfl,by simp,.inl rfl⟩,fun y hy=>by cases hy⟩
 · rw [cz30] at hx
   have hlm:len≤m:=by subst hm;split <;> omega
   have hV:∀ i,i<len→∃ y:Evt,w.cell? (a.add (i * 2))=some (.int .i64 y.t)∧(∃ r,w.cell? ((a.add (i * 2)).add 1)=some r∧RowAt w (fun b=>b<w.heap.size) r y.r)∧∀ z ∈ y.r,z.s.size≤9223372036854775807:=fun i hi=>by
    obtain ⟨cs',h1,h2⟩:=hx i (by omega)
    obtain ⟨t,r,row,rfl,hr,hsm⟩:=trod_event h2
    obtain ⟨_,_,hc⟩:=World.cells?_some h1
    have c0:=hc 0 (by omega)
    have c1:=hc 1 (by omega)
    exact ⟨⟨t,row⟩,by simpa [Addr.add] using c0,⟨r,by simpa using c1,hr⟩,hsm⟩
   obtain ⟨l,hl,hp⟩:=choose_list len hV
   refine ⟨_,l,rfl,⟨some a,cap,by rw [hl],by simp only [maxLen] at hcm;omega,?_⟩,fun y hy=>by obtain ⟨i,hi,rfl⟩:=List.mem_iff_getElem.1 hy;exact (hp i hi).2.2⟩
   rcases Nat.eq_zero_or_pos len with h0 | h0
   · exact .inl (List.eq_nil_of_length_eq_zero (by omega))
   · obtain ⟨v,c0,_⟩:=hV 0 h0
     have hsp:a.spot=none:=spot_none (w:=w) (a:=a) (v:=.int .i64 v.t) (by simpa [Addr.add] using c0)
     obtain ⟨b,off,spot⟩:=a
     dsimp only at hsp
     subst hsp
     refine .inr ⟨b,off,rfl,?_,fun i hi=>?_⟩
     · rw [add_at] at c0;exact cell_lt c0
     · obtain ⟨c0,⟨r,c1,hr⟩,_⟩:=hp i hi
       simp only [add_at] at c0 c1
       exact ⟨c0,r,c1,hr⟩
theorem trod_schema (h:DataW.trod enc Tryz.prog w base spare held fuel 23 cs=some x):∃ v l,cs=[v]∧SchemaAt w (fun b=>b<w.heap.size) v l:=by
 rcases Deep.open_slice Tryz.underlying23 h with ⟨rfl,_⟩ | ⟨a,len,cap,m,n,D,Pl,rfl,_,hlc,hcm,hm,_,hx⟩
 · exact ⟨_,[],rfl,none,0,rfl,by simp,by simp,by simp,.inl rfl⟩
 · rw [cz71] at hx
   have hlm:len≤m:=by subst hm;split <;> omega
   have hV:∀ i,i<len→∃ y:Col,w.cell? (a.add (i * 2))=some (.string y.n)∧w.cell? ((a.add (i * 2)).add 1)=some (.int .i64 y.k)∧y.n.size≤9223372036854775807:=fun i hi=>by
    obtain ⟨cs',h1,h2⟩:=hx i (by omega)
    obtain ⟨v,rfl,hz⟩:=trod_col h2
    obtain ⟨_,_,hc⟩:=World.cells?_some h1
    have c0:=hc 0 (by omega)
    have c1:=hc 1 (by omega)
    exact ⟨v,by simpa [Addr.add] using c0,by simpa using c1,hz⟩
   obtain ⟨l,hl,hp⟩:=choose_list len hV
   refine ⟨_,l,rfl,some a,cap,by rw [hl],by omega,by simp only [maxLen] at hcm;omega,fun c hc=>?_,?_⟩
   · obtain ⟨i,hi,rfl⟩:=List.mem_iff_getElem.1 hc
     exact (hp i hi).2.2
   rcases Nat.eq_zero_or_pos len with h0 | h0
   · exact .inl (List.eq_nil_of_length_eq_zero (by omega))
   · obtain ⟨v,c0,_⟩:=hV 0 h0
     have hsp:a.spot=none:=spot_none (w:=w) (a:=a) (v:=.string v.n) (by simpa [Addr.add] using c0)
     obtain ⟨b,off,spot⟩:=a
     dsimp only at hsp
     subst hsp
     refine .inr ⟨b,off,rfl,?_,fun i hi=>?_⟩
     · rw [add_at] at c0;exact cell_lt c0
     · obtain ⟨c0,c1,_⟩:=hp i hi
       simp only [add_at] at c0 c1
       exact ⟨c0,c1⟩
theorem cz5:Tryz.prog.cellsOf 5=1:=by kernel_rfl
theorem cz24:Tryz.prog.cellsOf 24=1:=by kernel_rfl
theorem cz50:Tryz.prog.cellsOf 50=4:=by kernel_rfl
theorem trod_act (h:DataW.trod enc Tryz.prog w base spare held fuel 50 cs=some x):∃ (y:ActM) (ev:Value),cs=[.int .u8 y.kind,.int .i64 y.reader,.string y.name,ev]∧EvtsAt w (fun b=>b<w.heap.size) ev y.evs∧EvsSmall y.evs∧y.name.size≤9223372036854775807:=by
 obtain ⟨y0,y1,y2,y3,n,_,hl,h0,h1,h2,h3⟩:=Go.Joins.trod_struct4 Tryz.underlying50 h
 rw [cz50] at hl
 simp only [cz3,cz5,cz9,cz24] at h0 h1 h2 h3
 obtain ⟨k,e0,_⟩:=DataW.trod_int Tryz.underlying5 h0
 obtain ⟨r,e1,_⟩:=DataW.trod_int Tryz.underlying3 h1
 obtain ⟨s,e2,_,hz⟩:=DataW.trod_string Tryz.underlying9 h2
 obtain ⟨ev,l,e3,he,hs⟩:=trod_events h3
 match cs,hl with
 | [a,b,c,d],_ =>
   simp only [List.drop_zero,List.take_succ_cons,List.take_zero,List.drop_succ_cons,List.cons.injEq,and_true] at e0 e1 e2 e3
   exact ⟨⟨k,r,s,l⟩,ev,by rw [e0,e1,e2,e3],he,hs,by simp only [maxLen] at hz;exact hz⟩
theorem trod_acts (h:DataW.trod enc Tryz.prog w base spare held fuel 37 cs=some x):∃ v l,cs=[v]∧ActsAt w (fun b=>b<w.heap.size) v l:=by
 rcases Deep.open_slice Tryz.underlying37 h with ⟨rfl,_⟩ | ⟨a,len,cap,m,n,D,Pl,rfl,_,hlc,hcm,hm,_,hx⟩
 · exact ⟨_,[],rfl,none,0,rfl,by simp,.inl rfl⟩
 · rw [cz50] at hx
   have hlm:len≤m:=by subst hm;split <;> omega
   have hV:∀ i,i<len→∃ y:ActM,∃ ev,EvtsAt w (fun b=>b<w.heap.size) ev y.evs∧EvsSmall y.evs∧y.name.size≤9223372036854775807 ∧
    w.cell? (a.add (i * 4))=some (.int .u8 y.kind)∧w.cell? ((a.add (i * 4)).add 1)=some (.int .i64 y.reader)∧w.cell? ((a.add (i * 4)).add 2)=some (.string y.name)∧w.cell? ((a.add (i * 4)).add 3)=some ev:=fun i hi=>by
    obtain ⟨cs',h1,h2⟩:=hx i (by omega)
    obtain ⟨y,ev,rfl,he,hs,hz⟩:=trod_act h2
    obtain ⟨_,_,hc⟩:=World.cells?_some h1
    have c0:=hc 0 (by omega)
    have c1:=hc 1 (by omega)
    have c2:=hc 2 (by omega)
    have c3:=hc 3 (by omega)
    exact ⟨y,ev,he,hs,hz,by simpa [Addr.add] using c0,by simpa using c1,by simpa using c2,by simpa using c3⟩
   obtain ⟨l,hl,hp⟩:=choose_list len hV
   refine ⟨_,l,rfl,some a,cap,by rw [hl],by simp only [maxLen] at hcm;omega,?_⟩
   rcases Nat.eq_zero_or_pos len with h0 | h0
   · exact .inl (List.eq_nil_of_length_eq_zero (by omega))
   · obtain ⟨v,ev,_,_,_,c0,_⟩:=hV 0 h0
     have hsp:a.spot=none:=spot_none (w:=w) (a:=a) (v:=.int .u8 v.kind) (by simpa [Addr.add] using c0)
     obtain ⟨b,off,spot⟩:=a
     dsimp only at hsp
     subst hsp
     refine .inr ⟨b,off,rfl,?_,fun i hi=>?_⟩
     · rw [add_at] at c0;exact cell_lt c0
     · obtain ⟨ev,he,hs,hz,c0,c1,c2,c3⟩:=hp i hi
       simp only [add_at] at c0 c1 c2 c3
       exact ⟨ev,he,hs,hz,c0,c1,c2,c3⟩
end opening
end Go.Proofs.YtimahogkcmmcnaaGreatDoor
set_option linter.unusedSimpArgs false
set_option linter.unusedVariables false
namespace Go.Proofs.YtimahogkcmmcnaaGreatDoor
open Go.RowKit Go.Proofs.YtimahogkcmmcnaaGreatDoor.Cmps
set_option maxHeartbeats 1000000
set_option maxRecDepth 100000
def Tryz.lays171_ren:Go.Shelf.Ren:=⟨fun | 171=>84 | 243=>151 | 246=>194 | 283=>252 | 284=>253 | 285=>254 | 286=>255 | 129=>316 | 317=>315 | 318=>317 | 319=>318 | 320=>319 | 337=>365 | 338=>366 | n=>n,fun | 3=>3 | 9=>9 | 2=>2 | 4=>4 | 171=>330 | 0=>0 | 53=>325 | 37=>221 | 5=>5 | 173=>333 | 212=>383 | 51=>322 | 20=>20 | 213=>384 | 46=>260 | 232=>453 | 233=>454 | n=>n,fun | 17=>0 | 18=>6 | 19=>7 | n=>n⟩
theorem Tryz.lays171:Go.Proofs.LaysM.n171 Tryz.prog Tryz.lays171_ren where
 mixed:=by kernel_rfl
 f129:=Tryz.func316.trans (congrArg some (by kernel_rfl))
 f171:=Tryz.func84.trans (congrArg some (by kernel_rfl))
 f243:=Tryz.func151.trans (congrArg some (by kernel_rfl))
 f246:=Tryz.func194.trans (congrArg some (by kernel_rfl))
 f283:=Tryz.func252.trans (congrArg some (by kernel_rfl))
 f284:=Tryz.func253.trans (congrArg some (by kernel_rfl))
 f285:=Tryz.func254.trans (congrArg some (by kernel_rfl))
 f286:=Tryz.func255.trans (congrArg some (by kernel_rfl))
 f317:=Tryz.func315.trans (congrArg some (by kernel_rfl))
 f318:=Tryz.func317.trans (congrArg some (by kernel_rfl))
 f319:=Tryz.func318.trans (congrArg some (by kernel_rfl))
 f320:=Tryz.func319.trans (congrArg some (by kernel_rfl))
 f337:=Tryz.func365.trans (congrArg some (by kernel_rfl))
 f338:=Tryz.func366.trans (congrArg some (by kernel_rfl))
 t0:=Tryz.underlying0
 a0:=Tryz.isAgg0
 z0:=Tryz.sizeOf0
 v0:=Tryz.zeroValue0
 t2:=Tryz.underlying2
 a2:=Tryz.isAgg2
 z2:=Tryz.sizeOf2
 v2:=Tryz.zeroValue2
 t3:=Tryz.underlying3
 a3:=Tryz.isAgg3
 z3:=Tryz.sizeOf3
 v3:=Tryz.zeroValue3
 t4:=Tryz.underlying4
 a4:=Tryz.isAgg4
 z4:=Tryz.sizeOf4
 v4:=Tryz.zeroValue4
 t5:=Tryz.underlying5
 a5:=Tryz.isAgg5
 z5:=Tryz.sizeOf5
 v5:=Tryz.zeroValue5
 t9:=Tryz.underlying9
 a9:=Tryz.isAgg9
 z9:=Tryz.sizeOf9
 v9:=Tryz.zeroValue9
 t20:=Tryz.underlying20
 a20:=Tryz.isAgg20
 z20:=Tryz.sizeOf20
 v20:=Tryz.zeroValue20
 t37:=Tryz.underlying221
 a37:=Tryz.isAgg221
 z37:=Tryz.sizeOf221
 v37:=Tryz.zeroValue221
 t46:=Tryz.underlying260
 a46:=Tryz.isAgg260
 z46:=Tryz.sizeOf260
 v46:=Tryz.zeroValue260
 t51:=Tryz.underlying322
 a51:=Tryz.isAgg322
 z51:=Tryz.sizeOf322
 v51:=Tryz.zeroValue322
 t53:=Tryz.underlying325
 a53:=Tryz.isAgg325
 z53:=Tryz.sizeOf325
 v53:=Tryz.zeroValue325
 t171:=Tryz.underlying330
 a171:=Tryz.isAgg330
 z171:=Tryz.sizeOf330
 v171:=Tryz.zeroValue330
 t173:=Tryz.underlying333
 a173:=Tryz.isAgg333
 z173:=Tryz.sizeOf333
 v173:=Tryz.zeroValue333
 t212:=Tryz.underlying383
 a212:=Tryz.isAgg383
 z212:=Tryz.sizeOf383
 v212:=Tryz.zeroValue383
 t213:=Tryz.underlying384
 a213:=Tryz.isAgg384
 z213:=Tryz.sizeOf384
 t232:=Tryz.underlying453
 a232:=Tryz.isAgg453
 z232:=Tryz.sizeOf453
 v232:=Tryz.zeroValue453
 t233:=Tryz.underlying454
 a233:=Tryz.isAgg454
 z233:=Tryz.sizeOf454
 v233:=Tryz.zeroValue454
 g17:=by kernel_rfl
 g18:=by kernel_rfl
 g19:=by kernel_rfl
 i0:=by kernel_rfl
 i2:=by kernel_rfl
 i3:=by kernel_rfl
 i4:=by kernel_rfl
 i5:=by kernel_rfl
 i9:=by kernel_rfl
 i20:=by kernel_rfl
 i37:=by kernel_rfl
 i46:=by kernel_rfl
 i51:=by kernel_rfl
 i53:=by kernel_rfl
 i171:=by kernel_rfl
 i173:=by kernel_rfl
 i212:=by kernel_rfl
 i232:=by kernel_rfl
 i233:=by kernel_rfl
 m17:=by kernel_rfl
 m18:=by kernel_rfl
 m19:=by kernel_rfl
def Tryz.lays172_ren:Go.Shelf.Ren:=⟨fun | 172=>190 | 244=>250 | 245=>251 | 247=>310 | 279=>311 | 280=>312 | 281=>313 | 282=>314 | 287=>362 | 316=>363 | 171=>84 | 205=>364 | 321=>395 | 322=>396 | 243=>151 | 246=>194 | 283=>252 | 284=>253 | 285=>254 | 286=>255 | 129=>316 | 317=>315 | 318=>317 | 319=>318 | 320=>319 | 337=>365 | 338=>366 | n=>n,fun | 9=>9 | 3=>3 | 75=>225 | 76=>226 | 4=>4 | 5=>5 | 167=>376 | 37=>221 | 0=>0 | 85=>377 | 2=>2 | 168=>379 | 53=>325 | 175=>419 | 46=>260 | 210=>422 | 127=>267 | 145=>452 | 143=>450 | 21=>21 | 171=>330 | 173=>333 | 212=>383 | 51=>322 | 20=>20 | 213=>384 | 232=>453 | 233=>454 | 80=>63 | n=>n,fun | 15=>2 | 16=>3 | 17=>0 | 18=>6 | 19=>7 | n=>n⟩
theorem Tryz.lays172:Go.Proofs.Lays.n172 Tryz.prog Tryz.lays172_ren where
 mixed:=by kernel_rfl
 f129:=Tryz.func316.trans (congrArg some (by kernel_rfl))
 f171:=Tryz.func84.trans (congrArg some (by kernel_rfl))
 f172:=Tryz.func190.trans (congrArg some (by kernel_rfl))
 f205:=Tryz.func364.trans (congrArg some (by kernel_rfl))
 f243:=Tryz.func151.trans (congrArg some (by kernel_rfl))
 f244:=Tryz.func250.trans (congrArg some (by kernel_rfl))
 f245:=Tryz.func251.trans (congrArg some (by kernel_rfl))
 f246:=Tryz.func194.trans (congrArg some (by kernel_rfl))
 f247:=Tryz.func310.trans (congrArg some (by kernel_rfl))
 f279:=Tryz.func311.trans (congrArg some (by kernel_rfl))
 f280:=Tryz.func312.trans (congrArg some (by kernel_rfl))
 f281:=Tryz.func313.trans (congrArg some (by kernel_rfl))
 f282:=Tryz.func314.trans (congrArg some (by kernel_rfl))
 f283:=Tryz.func252.trans (congrArg some (by kernel_rfl))
 f284:=Tryz.func253.trans (congrArg some (by kernel_rfl))
 f285:=Tryz.func254.trans (congrArg some (by kernel_rfl))
 f286:=Tryz.func255.trans (congrArg some (by kernel_rfl))
 f287:=Tryz.func362.trans (congrArg some (by kernel_rfl))
 f316:=Tryz.func363.trans (congrArg some (by kernel_rfl))
 f317:=Tryz.func315.trans (congrArg some (by kernel_rfl))
 f318:=Tryz.func317.trans (congrArg some (by kernel_rfl))
 f319:=Tryz.func318.trans (congrArg some (by kernel_rfl))
 f320:=Tryz.func319.trans (congrArg some (by kernel_rfl))
 f321:=Tryz.func395.trans (congrArg some (by kernel_rfl))
 f322:=Tryz.func396.trans (congrArg some (by kernel_rfl))
 f337:=Tryz.func365.trans (congrArg some (by kernel_rfl))
 f338:=Tryz.func366.trans (congrArg some (by kernel_rfl))
 t0:=Tryz.underlying0
 a0:=Tryz.isAgg0
 z0:=Tryz.sizeOf0
 v0:=Tryz.zeroValue0
 t2:=Tryz.underlying2
 a2:=Tryz.isAgg2
 z2:=Tryz.sizeOf2
 v2:=Tryz.zeroValue2
 t3:=Tryz.underlying3
 a3:=Tryz.isAgg3
 z3:=Tryz.sizeOf3
 v3:=Tryz.zeroValue3
 t4:=Tryz.underlying4
 a4:=Tryz.isAgg4
 z4:=Tryz.sizeOf4
 v4:=Tryz.zeroValue4
 t5:=Tryz.underlying5
 a5:=Tryz.isAgg5
 z5:=Tryz.sizeOf5
 v5:=Tryz.zeroValue5
 t9:=Tryz.underlying9
 a9:=Tryz.isAgg9
 z9:=Tryz.sizeOf9
 v9:=Tryz.zeroValue9
 t20:=Tryz.underlying20
 a20:=Tryz.isAgg20
 z20:=Tryz.sizeOf20
 v20:=Tryz.zeroValue20
 t21:=Tryz.underlying21
 a21:=Tryz.isAgg21
 z21:=Tryz.sizeOf21
 v21:=Tryz.zeroValue21
 t37:=Tryz.underlying221
 a37:=Tryz.isAgg221
 z37:=Tryz.sizeOf221
 v37:=Tryz.zeroValue221
 t46:=Tryz.underlying260
 a46:=Tryz.isAgg260
 z46:=Tryz.sizeOf260
 v46:=Tryz.zeroValue260
 t51:=Tryz.underlying322
 a51:=Tryz.isAgg322
 z51:=Tryz.sizeOf322
 v51:=Tryz.zeroValue322
 t53:=Tryz.underlying325
 a53:=Tryz.isAgg325
 z53:=Tryz.sizeOf325
 v53:=Tryz.zeroValue325
 t75:=Tryz.underlying225
 a75:=Tryz.isAgg225
 z75:=Tryz.sizeOf225
 v75:=Tryz.zeroValue225
 t76:=Tryz.underlying226
 a76:=Tryz.isAgg226
 z76:=Tryz.sizeOf226
 v76:=Tryz.zeroValue226
 t85:=Tryz.underlying377
 a85:=Tryz.isAgg377
 z85:=Tryz.sizeOf377
 v85:=Tryz.zeroValue377
 t127:=Tryz.underlying267
 a127:=Tryz.isAgg267
 z127:=Tryz.sizeOf267
 v127:=Tryz.zeroValue267
 t143:=Tryz.underlying450
 a143:=Tryz.isAgg450
 z143:=Tryz.sizeOf450
 v143:=Tryz.zeroValue450
 t145:=Tryz.underlying452
 a145:=Tryz.isAgg452
 z145:=Tryz.sizeOf452
 v145:=Tryz.zeroValue452
 t167:=Tryz.underlying376
 a167:=Tryz.isAgg376
 z167:=Tryz.sizeOf376
 v167:=Tryz.zeroValue376
 t168:=Tryz.underlying379
 a168:=Tryz.isAgg379
 z168:=Tryz.sizeOf379
 v168:=Tryz.zeroValue379
 t171:=Tryz.underlying330
 a171:=Tryz.isAgg330
 z171:=Tryz.sizeOf330
 v171:=Tryz.zeroValue330
 t173:=Tryz.underlying333
 a173:=Tryz.isAgg333
 z173:=Tryz.sizeOf333
 v173:=Tryz.zeroValue333
 t175:=Tryz.underlying419
 a175:=Tryz.isAgg419
 z175:=Tryz.sizeOf419
 v175:=Tryz.zeroValue419
 t210:=Tryz.underlying422
 a210:=Tryz.isAgg422
 z210:=Tryz.sizeOf422
 v210:=Tryz.zeroValue422
 t212:=Tryz.underlying383
 a212:=Tryz.isAgg383
 z212:=Tryz.sizeOf383
 v212:=Tryz.zeroValue383
 t213:=Tryz.underlying384
 a213:=Tryz.isAgg384
 z213:=Tryz.sizeOf384
 t232:=Tryz.underlying453
 a232:=Tryz.isAgg453
 z232:=Tryz.sizeOf453
 v232:=Tryz.zeroValue453
 t233:=Tryz.underlying454
 a233:=Tryz.isAgg454
 z233:=Tryz.sizeOf454
 v233:=Tryz.zeroValue454
 g15:=by kernel_rfl
 g16:=by kernel_rfl
 g17:=by kernel_rfl
 g18:=by kernel_rfl
 g19:=by kernel_rfl
def Tryz.lays146_ren:Go.Shelf.Ren:=⟨fun | 146=>139 | 221=>189 | 268=>247 | 138=>248 | 143=>249 | 195=>307 | 197=>308 | 218=>309 | 219=>258 | 260=>361 | 217=>320 | 225=>321 | 224=>322 | 267=>323 | 266=>367 | 314=>368 | n=>n,fun | 9=>9 | 31=>120 | 3=>3 | 4=>4 | 0=>0 | 105=>373 | 21=>21 | 5=>5 | 46=>260 | 119=>445 | 139=>448 | 138=>447 | 146=>323 | 51=>322 | n=>n,fun | 1=>1 | 3=>4 | 4=>5 | n=>n⟩
theorem Tryz.lays146:Go.Proofs.Lays.n146 Tryz.prog Tryz.lays146_ren where
 mixed:=by kernel_rfl
 f138:=Tryz.func248.trans (congrArg some (by kernel_rfl))
 f143:=Tryz.func249.trans (congrArg some (by kernel_rfl))
 f146:=Tryz.func139.trans (congrArg some (by kernel_rfl))
 f195:=Tryz.func307.trans (congrArg some (by kernel_rfl))
 f197:=Tryz.func308.trans (congrArg some (by kernel_rfl))
 f217:=Tryz.func320.trans (congrArg some (by kernel_rfl))
 f218:=Tryz.func309.trans (congrArg some (by kernel_rfl))
 f219:=Tryz.func258.trans (congrArg some (by kernel_rfl))
 f221:=Tryz.func189.trans (congrArg some (by kernel_rfl))
 f224:=Tryz.func322.trans (congrArg some (by kernel_rfl))
 f225:=Tryz.func321.trans (congrArg some (by kernel_rfl))
 f260:=Tryz.func361.trans (congrArg some (by kernel_rfl))
 f266:=Tryz.func367.trans (congrArg some (by kernel_rfl))
 f267:=Tryz.func323.trans (congrArg some (by kernel_rfl))
 f268:=Tryz.func247.trans (congrArg some (by kernel_rfl))
 f314:=Tryz.func368.trans (congrArg some (by kernel_rfl))
 t0:=Tryz.underlying0
 a0:=Tryz.isAgg0
 z0:=Tryz.sizeOf0
 v0:=Tryz.zeroValue0
 t3:=Tryz.underlying3
 a3:=Tryz.isAgg3
 z3:=Tryz.sizeOf3
 v3:=Tryz.zeroValue3
 t4:=Tryz.underlying4
 a4:=Tryz.isAgg4
 z4:=Tryz.sizeOf4
 v4:=Tryz.zeroValue4
 t5:=Tryz.underlying5
 a5:=Tryz.isAgg5
 z5:=Tryz.sizeOf5
 v5:=Tryz.zeroValue5
 t9:=Tryz.underlying9
 a9:=Tryz.isAgg9
 z9:=Tryz.sizeOf9
 v9:=Tryz.zeroValue9
 t21:=Tryz.underlying21
 a21:=Tryz.isAgg21
 z21:=Tryz.sizeOf21
 v21:=Tryz.zeroValue21
 t31:=Tryz.underlying120
 a31:=Tryz.isAgg120
 z31:=Tryz.sizeOf120
 v31:=Tryz.zeroValue120
 t46:=Tryz.underlying260
 a46:=Tryz.isAgg260
 z46:=Tryz.sizeOf260
 v46:=Tryz.zeroValue260
 t51:=Tryz.underlying322
 a51:=Tryz.isAgg322
 z51:=Tryz.sizeOf322
 v51:=Tryz.zeroValue322
 t105:=Tryz.underlying373
 a105:=Tryz.isAgg373
 z105:=Tryz.sizeOf373
 v105:=Tryz.zeroValue373
 t119:=Tryz.underlying445
 a119:=Tryz.isAgg445
 z119:=Tryz.sizeOf445
 t138:=Tryz.underlying447
 a138:=Tryz.isAgg447
 z138:=Tryz.sizeOf447
 v138:=Tryz.zeroValue447
 t139:=Tryz.underlying448
 a139:=Tryz.isAgg448
 z139:=Tryz.sizeOf448
 v139:=Tryz.zeroValue448
 t146:=Tryz.underlying323
 a146:=Tryz.isAgg323
 z146:=Tryz.sizeOf323
 v146:=Tryz.zeroValue323
 g1:=by kernel_rfl
 g3:=by kernel_rfl
 g4:=by kernel_rfl
def Tryz.lays145_ren:Go.Shelf.Ren:=⟨fun | 145=>155 | 220=>197 | 219=>258 | 217=>320 | 225=>321 | 224=>322 | 267=>323 | 266=>367 | 314=>368 | n=>n,fun | 9=>9 | 4=>4 | 59=>232 | 3=>3 | 5=>5 | 46=>260 | 146=>323 | 51=>322 | n=>n,fun | 1=>1 | n=>n⟩
theorem Tryz.lays145:Go.Proofs.Lays.n145 Tryz.prog Tryz.lays145_ren where
 mixed:=by kernel_rfl
 f145:=Tryz.func155.trans (congrArg some (by kernel_rfl))
 f217:=Tryz.func320.trans (congrArg some (by kernel_rfl))
 f219:=Tryz.func258.trans (congrArg some (by kernel_rfl))
 f220:=Tryz.func197.trans (congrArg some (by kernel_rfl))
 f224:=Tryz.func322.trans (congrArg some (by kernel_rfl))
 f225:=Tryz.func321.trans (congrArg some (by kernel_rfl))
 f266:=Tryz.func367.trans (congrArg some (by kernel_rfl))
 f267:=Tryz.func323.trans (congrArg some (by kernel_rfl))
 f314:=Tryz.func368.trans (congrArg some (by kernel_rfl))
 t3:=Tryz.underlying3
 a3:=Tryz.isAgg3
 z3:=Tryz.sizeOf3
 v3:=Tryz.zeroValue3
 t4:=Tryz.underlying4
 a4:=Tryz.isAgg4
 z4:=Tryz.sizeOf4
 v4:=Tryz.zeroValue4
 t5:=Tryz.underlying5
 a5:=Tryz.isAgg5
 z5:=Tryz.sizeOf5
 v5:=Tryz.zeroValue5
 t9:=Tryz.underlying9
 a9:=Tryz.isAgg9
 z9:=Tryz.sizeOf9
 v9:=Tryz.zeroValue9
 t46:=Tryz.underlying260
 a46:=Tryz.isAgg260
 z46:=Tryz.sizeOf260
 v46:=Tryz.zeroValue260
 t51:=Tryz.underlying322
 a51:=Tryz.isAgg322
 z51:=Tryz.sizeOf322
 v51:=Tryz.zeroValue322
 t59:=Tryz.underlying232
 a59:=Tryz.isAgg232
 z59:=Tryz.sizeOf232
 v59:=Tryz.zeroValue232
 t146:=Tryz.underlying323
 a146:=Tryz.isAgg323
 z146:=Tryz.sizeOf323
 v146:=Tryz.zeroValue323
 g1:=by kernel_rfl
def Tryz.lays99_ren:Go.Shelf.Ren:=⟨fun | 99=>143 | 206=>191 | n=>n,fun | 9=>9 | 4=>4 | 3=>3 | n=>n,fun | n=>n⟩
theorem Tryz.lays99:Go.Proofs.Lays.n99 Tryz.prog Tryz.lays99_ren where
 mixed:=by kernel_rfl
 f99:=Tryz.func143.trans (congrArg some (by kernel_rfl))
 f206:=Tryz.func191.trans (congrArg some (by kernel_rfl))
 t3:=Tryz.underlying3
 a3:=Tryz.isAgg3
 z3:=Tryz.sizeOf3
 v3:=Tryz.zeroValue3
 t4:=Tryz.underlying4
 a4:=Tryz.isAgg4
 z4:=Tryz.sizeOf4
 v4:=Tryz.zeroValue4
 t9:=Tryz.underlying9
 a9:=Tryz.isAgg9
 z9:=Tryz.sizeOf9
 v9:=Tryz.zeroValue9
def Tryz.lays156_ren:Go.Shelf.Ren:=⟨fun | 156=>85 | 165=>152 | 166=>153 | 169=>154 | 240=>195 | 241=>196 | 276=>256 | 277=>257 | n=>n,fun | 31=>120 | 9=>9 | 3=>3 | 4=>4 | 0=>0 | 20=>20 | 72=>223 | 76=>226 | 70=>220 | 37=>221 | 75=>225 | 127=>267 | 164=>335 | 5=>5 | 80=>63 | n=>n,fun | n=>n⟩
theorem Tryz.lays156:Go.Proofs.Lays.n156 Tryz.prog Tryz.lays156_ren where
 mixed:=by kernel_rfl
 f156:=Tryz.func85.trans (congrArg some (by kernel_rfl))
 f165:=Tryz.func152.trans (congrArg some (by kernel_rfl))
 f166:=Tryz.func153.trans (congrArg some (by kernel_rfl))
 f169:=Tryz.func154.trans (congrArg some (by kernel_rfl))
 f240:=Tryz.func195.trans (congrArg some (by kernel_rfl))
 f241:=Tryz.func196.trans (congrArg some (by kernel_rfl))
 f276:=Tryz.func256.trans (congrArg some (by kernel_rfl))
 f277:=Tryz.func257.trans (congrArg some (by kernel_rfl))
 t0:=Tryz.underlying0
 a0:=Tryz.isAgg0
 z0:=Tryz.sizeOf0
 v0:=Tryz.zeroValue0
 t3:=Tryz.underlying3
 a3:=Tryz.isAgg3
 z3:=Tryz.sizeOf3
 v3:=Tryz.zeroValue3
 t4:=Tryz.underlying4
 a4:=Tryz.isAgg4
 z4:=Tryz.sizeOf4
 v4:=Tryz.zeroValue4
 t9:=Tryz.underlying9
 a9:=Tryz.isAgg9
 z9:=Tryz.sizeOf9
 v9:=Tryz.zeroValue9
 t20:=Tryz.underlying20
 a20:=Tryz.isAgg20
 z20:=Tryz.sizeOf20
 v20:=Tryz.zeroValue20
 t31:=Tryz.underlying120
 a31:=Tryz.isAgg120
 z31:=Tryz.sizeOf120
 v31:=Tryz.zeroValue120
 t37:=Tryz.underlying221
 a37:=Tryz.isAgg221
 z37:=Tryz.sizeOf221
 v37:=Tryz.zeroValue221
 t70:=Tryz.underlying220
 a70:=Tryz.isAgg220
 z70:=Tryz.sizeOf220
 v70:=Tryz.zeroValue220
 t72:=Tryz.underlying223
 a72:=Tryz.isAgg223
 z72:=Tryz.sizeOf223
 v72:=Tryz.zeroValue223
 t75:=Tryz.underlying225
 a75:=Tryz.isAgg225
 z75:=Tryz.sizeOf225
 v75:=Tryz.zeroValue225
 t76:=Tryz.underlying226
 a76:=Tryz.isAgg226
 z76:=Tryz.sizeOf226
 v76:=Tryz.zeroValue226
 t127:=Tryz.underlying267
 a127:=Tryz.isAgg267
 z127:=Tryz.sizeOf267
 v127:=Tryz.zeroValue267
 t164:=Tryz.underlying335
 a164:=Tryz.isAgg335
 z164:=Tryz.sizeOf335
 v164:=Tryz.zeroValue335
structure Tabs (w:World):Prop where
 pow:Lib.TabIs Tryz.prog w "internal/strconv.uint64pow10" .u64 Lib.pow10Tab
 max:∃ m,w.cell? ⟨1,0,none⟩=some (.int .i64 m)
theorem pow_at:Tryz.prog.globalNamed "internal/strconv.uint64pow10"=some 0:=by kernel_rfl
theorem Tabs.keep {w w':World} (h:Tabs w) (h0:w'.heap[0]? = w.heap[0]?) (h1:w'.heap[1]? = w.heap[1]?):Tabs w':=by
 obtain ⟨hp,m,hm⟩:=h
 refine ⟨?_,m,by rw [cell_keep h1];exact hm⟩
 unfold Lib.TabIs World.var? at hp ⊢
 rw [pow_at] at hp ⊢
 simp only [Option.bind_some] at hp ⊢
 rw [h0]
 exact hp
theorem Tabs.two {w:World} (h:Tabs w):2≤w.heap.size:=by
 obtain ⟨_,m,hm⟩:=h
 have:=cell_lt hm
 omega
theorem Tabs.below {w w':World} (h:Tabs w) (hb:Below w.heap.size w w'):Tabs w' :=
 h.keep (hb.block 0 (by have:=h.two;omega)) (hb.block 1 (by have:=h.two;omega))
theorem Tryz.builder156:Builder.Extra Tryz.prog Tryz.lays156_ren where
 sizeBuilder:=by kernel_rfl
 liesBuilder:=by kernel_rfl
 t5:=Tryz.underlying5
 a5:=Tryz.isAgg5
 z5:=Tryz.sizeOf5
 v5:=Tryz.zeroValue5
 infoByte:=by kernel_rfl
 cellsByte:=by kernel_rfl
 sizeByte:=by kernel_rfl
 neB5:=by decide
theorem below_drewN (w:World) (k:Nat) (os:Array Obj):Below w.heap.size w (Sort.grow (w.drewN k) os):=⟨rfl,rfl,rfl,by simp [Sort.grow,World.drewN],fun j hj=>by
 show (w.heap ++ os)[j]? = _
 rw [Array.getElem?_append_left hj]⟩
theorem f84_any (w:World) (hT:Tabs w) (n:Int) (h0 : -9223372036854775808≤n) (h1:n≤9223372036854775807) :
 Calls Tryz.prog 84 #[.int .i64 n] w fun e w'=>e=.returned (.string ⟨(Lib.itoa n).toArray⟩)∧Below w.heap.size w w' :=
 (Any.strconv_Itoa Tryz.lays171 n h0 h1 w hT.pow).mono fun e w' ⟨he,k,os,hw⟩=>⟨he,by rw [hw];exact below_drewN w k os⟩
theorem f190_any (w:World) (n:Int) (s:ByteArray) (hs:s.data.toList=Lib.itoa n) (hl:(Lib.itoa n).length≤18) (ha:Lib.atoi (Lib.itoa n)=some n) :
 Calls Tryz.prog 190 #[.string s] w fun e w'=>e=.returned (.tuple #[.int .i64 n,.nilIface])∧Below w.heap.size w w':=by
 refine (Any.strconv_Atoi Tryz.lays172 s n (by rw [Lib.size_eq,hs];exact hl) (by rw [hs];exact ha) w).mono fun e w' ⟨he,t,hw⟩=>⟨he,?_⟩
 rw [hw]
 exact Go.Joins.below_bytesWorld w.heap.size w _ t (Nat.le_refl _)
theorem f139_any (w:World) (hT:Tabs w) (s:ByteArray) (c:UInt8) (hs:s.size<4294967281) :
 Calls Tryz.prog 139 #[.string s,.string ⟨#[c]⟩] w fun e w'=>∃ l:List ByteArray,l.map (·.data.toList)=Lib.split s.data.toList [c]∧e=.returned (.slice (some ⟨w.heap.size,0,none⟩) l.length l.length)∧w'=w.alloc (.cells (l.map Value.string).toArray 9):=by
 obtain ⟨m,hm⟩:=hT.max
 have h:=Any.strings_Split Tryz.lays146 (by kernel_rfl) s ⟨#[c]⟩ m w hs hm (Nat.le_refl 1)
 have e1:Tryz.lays146_ren.f 146=139:=rfl
 have e2:Tryz.lays146_ren.t 9=9:=rfl
 rw [e1,e2] at h
 refine h.mono ?_
 rintro e w' ⟨rfl,rfl⟩
 refine ⟨Lib.splitB ⟨#[c]⟩ 0 (Lib.countB s ⟨#[c]⟩) s,?_,?_,rfl⟩
 · rw [Lib.splitB_data];rfl
 · rw [Lib.splitB_all ⟨#[c]⟩ (Nat.le_refl 1) 0 _ s rfl]
theorem f143_any (w:World) (s p:ByteArray):Calls Tryz.prog 143 #[.string s,.string p] w fun e w'=>e=.returned (.bool (Lib.hasPrefix s.data.toList p.data.toList))∧w'=w :=
 Any.strings_HasPrefix Tryz.lays99 s p w
theorem f155_any (w:World) (hT:Tabs w) (s sep:ByteArray) (hs:s.size<4294967281) :
 Calls Tryz.prog 155 #[.string s,.string sep] w fun e w'=>e=.returned (.tuple #[.string ⟨(Lib.cut s.data.toList sep.data.toList).1.toArray⟩,.string ⟨(Lib.cut s.data.toList sep.data.toList).2.1.toArray⟩,.bool (Lib.cut s.data.toList sep.data.toList).2.2])∧Below w.heap.size w w':=by
 obtain ⟨m,hm⟩:=hT.max
 refine (Any.strings_Cut Tryz.lays145 s sep m w hs hm).mono fun e w' ⟨he,n,hw⟩=>⟨he,?_⟩
 have h:=below_drewN w n #[]
 rw [Sort.grow_empty] at h
 rw [hw];exact h
theorem f85_any (w:World) (bk o c:Nat) (xs:List ByteArray) (sep:ByteArray) (hcells:∀ (j:Nat) x,xs[j]? = some x→w.cell? ⟨bk,o+j,none⟩=some (.string x)) (hbk:bk<w.heap.size) (hN:xs.length≤140737488355328) (hcap:xs.length≤c)
 (hlen:(Lib.join (xs.map (·.data.toList)) sep.data.toList).length≤140737488355328) :
 Calls Tryz.prog 85 #[.slice (some ⟨bk,o,none⟩) xs.length c,.string sep] w fun e w'=>e=.returned (.string ⟨(Lib.join (xs.map (·.data.toList)) sep.data.toList).toArray⟩)∧Below w.heap.size w w' :=
 Any.strings_Join Tryz.lays156 Tryz.builder156 bk o c xs sep w hcells hbk hN hcap hlen
end Go.Proofs.YtimahogkcmmcnaaGreatDoor
namespace Go.Proofs.YtimahogkcmmcnaaGreatDoor
open Go.Lib
theorem index_skip {c:UInt8} (r:List UInt8):∀ {x:List UInt8},c ∉ x→index (x ++ c :: r) [c]=x.length
 | [],_=>by
   have hp:List.isPrefixOf [c] (c :: r)=true:=by simp [List.isPrefixOf]
   rw [List.nil_append,index,hp]
   rfl
 | b :: x,h=>by
   have h1:c≠b:=fun e=>h (by rw [e];exact List.mem_cons_self)
   have h2:=index_skip (c:=c) r (x:=x) (fun e=>h (List.mem_cons_of_mem _ e))
   have hp:List.isPrefixOf [c] (b :: (x ++ c :: r))=false:=by simp [List.isPrefixOf,h1]
   rw [List.cons_append,index,hp,h2]
   have:((x.length:Int) == -1)=false:=by simp
   simp only [this,Bool.false_eq_true,if_false,List.length_cons]
   omega
theorem split_last {c:UInt8} {x:List UInt8} (h:c ∉ x):split x [c]=[x]:=by
 unfold split
 rw [count_one,List.count_eq_zero.2 h]
 rfl
theorem split_cons {c:UInt8} {x:List UInt8} (r:List UInt8) (h:c ∉ x):split (x ++ c :: r) [c]=x :: split r [c]:=by
 unfold split
 have hc:count (x ++ c :: r) [c]=count r [c]+1:=by
  rw [count_one,count_one,List.count_append,List.count_eq_zero.2 h,List.count_cons_self];omega
 rw [hc,splitK,index_skip r h]
 have:((x.length:Int) == -1)=false:=by simp
 simp [this]
theorem join_cons2 (x y:List UInt8) (r:List (List UInt8)) (sep:List UInt8):join (x :: y :: r) sep=x ++ sep ++ join (y :: r) sep:=by
 rw [join_cons,join_cons]
 unfold joinTail
 simp
theorem split_join {c:UInt8}:∀ (x:List UInt8) (r:List (List UInt8)),(∀ y ∈ x :: r,c ∉ y)→split (join (x :: r) [c]) [c]=x :: r
 | x,[],h=>by rw [join_one];exact split_last (h x List.mem_cons_self)
 | x,y :: r,h=>by
   rw [join_cons2,List.append_assoc,List.singleton_append,split_cons _ (h x List.mem_cons_self),split_join y r (fun z hz=>h z (List.mem_cons_of_mem _ hz))]
def linesT:List (List UInt8)→List UInt8
 | []=>[]
 | x :: r=>x ++ 10 :: linesT r
theorem linesT_append (a b:List (List UInt8)):linesT (a ++ b)=linesT a ++ linesT b:=by
 induction a with
 | nil=>rfl
 | cons x a ih=>simp [linesT,ih]
theorem split_lines:∀ (l:List (List UInt8)),(∀ y ∈ l,(10:UInt8) ∉ y)→split (linesT l) [10]=l ++ [[]]
 | [],_=>rfl
 | x :: r,h=>by
   rw [linesT,split_cons _ (h x List.mem_cons_self),split_lines r (fun z hz=>h z (List.mem_cons_of_mem _ hz))]
   rfl
theorem cut_at {c:UInt8} {x:List UInt8} (r:List UInt8) (h:c ∉ x):cut (x ++ c :: r) [c]=(x,r,true):=by
 unfold cut
 rw [index_skip r h,if_pos (by omega)]
 simp
/-! ### numbers -/
theorem decFrom_snoc (b:UInt8) (d:Nat) (hd:digitVal b=some d):∀ (l:List UInt8) (acc n:Nat),decFrom acc l=some n→decFrom acc (l ++ [b])=some (n * 10+d)
 | [],acc,n,h=>by
   simp only [decFrom,Option.some.injEq] at h
   subst h
   simp [decFrom,hd]
 | x :: l,acc,n,h=>by
   simp only [decFrom] at h
   rw [List.cons_append]
   simp only [decFrom]
   split at h
   · exact decFrom_snoc b d hd l _ _ h
   · cases h
theorem digit_val {d:Nat} (h:d<10):digitVal (UInt8.ofNat (48+d))=some d:=by
 unfold digitVal
 have:(UInt8.ofNat (48+d)).toNat=48+d:=by simp;omega
 rw [this,if_pos (by omega)]
 congr 1
 omega
theorem decFrom_digits (u:Nat):decFrom 0 (decDigits u)=some u:=by
 induction u using Nat.strongRecOn with
 | ind u ih =>
   rw [decDigits]
   split
   · rename_i h
     rw [decFrom,digit_val h]
     simp [decFrom]
   · rename_i h
     have h1:=ih (u / 10) (by omega)
     rw [decFrom_snoc _ (u % 10) (digit_val (by omega)) _ _ _ h1]
     congr 1
     omega
theorem decDigits_mem (u:Nat):∀ b ∈ decDigits u,48≤b.toNat∧b.toNat≤57:=by
 induction u using Nat.strongRecOn with
 | ind u ih =>
   rw [decDigits]
   split
   · rename_i h
     intro b hb
     rw [List.mem_singleton] at hb
     subst hb
     simp;omega
   · rename_i h
     intro b hb
     rcases List.mem_append.1 hb with hb | hb
     · exact ih (u / 10) (by omega) b hb
     · rw [List.mem_singleton] at hb
       subst hb
       simp;omega
theorem decDigits_ne (u:Nat):decDigits u≠[]:=by
 have:=nDigits_pos u
 intro e
 rw [← decDigits_length,e] at this
 simp at this
theorem decNat_digits (u:Nat):decNat (decDigits u)=some u:=by
 unfold decNat
 rw [if_neg (by simp [decDigits_ne]),decFrom_digits]
theorem atoi_itoa (n:Int):atoi (itoa n)=some n:=by
 unfold itoa
 split
 · simp only [atoi,beq_self_eq_true,if_true,decNat_digits,Option.map_some]
   congr 1
   omega
 · obtain ⟨b,r,hb⟩:=List.exists_cons_of_ne_nil (decDigits_ne n.toNat)
   have hm:=decDigits_mem n.toNat b (by rw [hb];exact List.mem_cons_self)
   have h1:(b == 45)=false:=by
    cases e:(b == 45) with
    | false=>rfl
    | true=>rw [beq_iff_eq.1 e] at hm;simp at hm
   have h2:(b == 43)=false:=by
    cases e:(b == 43) with
    | false=>rfl
    | true=>rw [beq_iff_eq.1 e] at hm;simp at hm
   have h3:=decNat_digits n.toNat
   rw [hb] at h3 ⊢
   simp only [atoi,h1,h2,Bool.false_eq_true,if_false,h3,Option.map_some]
   congr 1
   omega
theorem itoa_mem (n:Int):∀ b ∈ itoa n,(48≤b.toNat∧b.toNat≤57)∨b=45:=by
 unfold itoa
 split
 · intro b hb
   rcases List.mem_cons.1 hb with hb | hb
   · exact .inr hb
   · exact .inl (decDigits_mem _ b hb)
 · exact fun b hb=>.inl (decDigits_mem _ b hb)
theorem itoa_no (n:Int) {c:UInt8} (h:c.toNat<45):c ∉ itoa n:=fun hc=>by
 rcases itoa_mem n c hc with h1 | h1
 · omega
 · subst h1;simp at h
theorem nDigits_le {u k:Nat} (h:u<10 ^ (k+1)):nDigits u≤k+1:=by
 induction k generalizing u with
 | zero=>rw [nDigits_small (by simpa using h)];omega
 | succ k ih =>
   by_cases hu:u<10
   · rw [nDigits_small hu];omega
   · rw [nDigits_big hu]
     have:=ih (u:=u / 10) (by rw [Nat.pow_succ] at h;omega)
     omega
theorem itoa_len {n:Int} (h0 : -10000000000000000≤n) (h1:n≤10000000000000000):(itoa n).length≤18:=by
 unfold itoa
 split
 · rw [List.length_cons,decDigits_length]
   have:=nDigits_le (u:=n.natAbs) (k:=16) (by omega)
   omega
 · rw [decDigits_length]
   have:=nDigits_le (u:=n.toNat) (k:=16) (by omega)
   omega
theorem hasPrefix_append (p r:List UInt8):hasPrefix (p ++ r) p=true:=by
 unfold hasPrefix
 rw [List.isPrefixOf_iff_prefix]
 exact List.prefix_append p r
end Go.Proofs.YtimahogkcmmcnaaGreatDoor
