/-
 The well, part 40: the reference puts events behind a split's. If the well lies in the world as the words say.
-/
import Derived.Test.YtimahogkcmmcnaaGreatDoorL12
import Derived.Test.YtimahogkcmmcnaaGreatDoorL14
import Derived.Deep.RegionHeld3
set_option linter.unusedSimpArgs false
set_option linter.unusedVariables false
namespace Go.Proofs.YtimahogkcmmcnaaGreatDoor
open Go.RowKit Go.Proofs.YtimahogkcmmcnaaGreatDoor.Cmps
def moreR (s:List Col) (m:WlM) (n:ByteArray) (l:List Evt):WlM×Int :=
 if rightB s l=false then (m,1) else
 if findI m.splits n<0 then (m,5) else
 match m.splits[(findI m.splits n).toNat]? with
 | none=>(m,5)
 | some x=>if x.sealed=true then (m,10) else if 400<allN m.splits+l.length then (m,4) else (moreM m (findI m.splits n).toNat x l,0)
theorem moreR_at {s:List Col} {m:WlM} {n:ByteArray} {l:List Evt} {k:Nat} (hr:rightB s l=true) (hk:k<m.splits.length) (h:findI m.splits n=k) :
 moreR s m n l=if m.splits[k].sealed=true then (m,10) else if 400<allN m.splits+l.length then (m,4) else (moreM m k m.splits[k] l,0):=by
 rw [moreR,hr,if_neg (by simp),h,if_neg (by omega)]
 simp [hk]
theorem step_append_S {P:Program} {w:World} {ops:Array Oper} {o:Oper} {a:Act} {K:Act→World→Prop} {Q:Exit→Act→World→Prop} {E:Prop} (hgd:o.guard=none) (s x:Operand) (t:TypeId)
 (ho:o.op=.call { callee:=.builtin .append,args:=#[s,x],argTypes:=#[t,t] })
 (e:TypeId) (i:TypeInfo) (z:Value) (size bytes:Nat) (ht:P.underlying t=some (.slice e)) (hi:P.info? e=some i) (hz:i.zero=some z)
 (hsize:i.size=size) (hby:i.bytes=bytes) (hzs:z.cells.size=size) (hsz:0<size)
 (v:Value) (n:Nat) (xs:List Value) (blk:Option Nat) (hs:a.eval s=v) (hown:SlOwn w e size v n xs blk)
 (xv:Value) (m:Nat) (news:List Value) (hx:a.eval x=xv) (hsrc:Src w size xv m news) (h1:∀ u ∈ news,u.oneCell'=true)
 (h63:n+m≤maxLen) (hbytes:(n+m) * bytes≤140737488355328)
 (h:∀ v' w' blk',SlOwn w' e size v' (n+m) (xs ++ news) blk'→w.grownBy w' blk→(blk'=blk∨blk'=some w.heap.size)→K (a.put o.dst v') w'):if Region.wanted o (yielded ops a.tmps)=true then Oper.wp P o a w K Q else E:=by
 have hw:Region.wanted o (yielded ops a.tmps)=true:=by simp [Region.wanted,hgd]
 rw [if_pos hw]
 exact wp_append_S s x t ho e i z size bytes ht hi hz hsize hby hzs hsz v n xs blk hs hown xv m news hx hsrc h1 h63 hbytes h
theorem of_step {P:Program} {w:World} {ops:Array Oper} {o:Oper} {a:Act} {K:Act→World→Prop} {Q:Exit→Act→World→Prop} (hgd:o.guard=none)
 (h:if Region.wanted o (yielded ops a.tmps)=true then Oper.wp P o a w K Q else True):Oper.wp P o a w K Q:=by
 have hw:Region.wanted o (yielded ops a.tmps)=true:=by simp [Region.wanted,hgd]
 rwa [if_pos hw] at h
theorem spsC_set' {ps:List (SpM×Value)} {k:Nat} (hk:k<ps.length) {j:Nat} (hj:j<6) {q:SpM×Value} {v:Value} (hx:spC q.1 q.2=(spC ps[k].1 ps[k].2).set j v):spsC (ps.set k q)=(spsC ps).set (k * 6+j) v:=by
 induction ps generalizing k with
 | nil=>simp at hk
 | cons p l ih =>
   cases k with
   | zero =>
     simp only [List.set_cons_zero,spsC,Nat.zero_mul,Nat.zero_add,List.getElem_cons_zero] at hx ⊢
     rw [hx,List.set_append_left _ _ (by rw [spC_len];exact hj)]
   | succ k =>
     simp only [List.set_cons_succ,spsC,List.getElem_cons_succ] at hx ⊢
     rw [ih (by simpa using hk) hx,List.set_append_right _ _ (by rw [spC_len];omega),spC_len]
     congr 2
     omega
theorem SplsOwn.setEv {w:World} {D:Nat→Prop} {g o c:Nat} {l:List SpM} (h:SplsOwn w D (.slice (some ⟨g,o,none⟩) l.length c) l (some g)) (hD:¬ D g) {k:Nat} (hk:k<l.length) {e:List Evt} {v:Value}
 (hv:EvtsAt w D v e):SplsOwn (w.setCell ⟨g,o+(k * 6+2),none⟩ v) D (.slice (some ⟨g,o,none⟩) l.length c) (l.set k { l[k] with evs:=e }) (some g):=by
 obtain ⟨ps,hps,ho,hr⟩:=h
 subst hps
 have hk':k<ps.length:=by simpa using hk
 have e1:(ps.map Prod.fst)[k]=ps[k].1:=by simp
 have hkeep:∀ b,D b→b<w.heap.size→(w.setCell ⟨g,o+(k * 6+2),none⟩ v).heap[b]? = w.heap[b]? := fun b hb _=>heap_set_ne _ (by rintro rfl;exact hD hb)
 refine ⟨ps.set k ({ (ps.map Prod.fst)[k] with evs:=e },v),by rw [List.map_set],?_,?_⟩
 · rw [spsC_set' hk' (j:=2) (by omega) (v:=v) (by simp only [e1];rfl)]
   have h1:=ho.setJ (j:=k * 6+2) (by rw [List.length_map];omega) v
   simpa using h1
 · intro p hp
   rcases List.mem_or_eq_of_mem_set hp with hp | rfl
   · exact (hr p hp).keep hkeep
   · exact hv.keep hkeep
theorem SplsOwn.evAt {w:World} {D:Nat→Prop} {g o c:Nat} {l:List SpM} {blk:Option Nat} (h:SplsOwn w D (.slice (some ⟨g,o,none⟩) l.length c) l blk) {k:Nat} (hk:k<l.length):∃ ev,EvtsAt w D ev l[k].evs∧w.cell? ⟨g,o+k * 6+2,none⟩=some ev:=by
 obtain ⟨ps,hps,ho,hr⟩:=h
 subst hps
 have hk':k<ps.length:=by simpa using hk
 refine ⟨ps[k].2,by simpa using hr _ (List.getElem_mem hk'),?_⟩
 have:=ho.cell (k * 6+2) ps[k].2 (by rw [spsC_at hk' (by omega)];rfl)
 rwa [← Nat.add_assoc] at this
section leaves
set_option maxHeartbeats 1000000
set_option maxRecDepth 10000
theorem f52_any (hm:Tryz.prog.follows .mixedOrders=true) (w:World) (D:Nat→Prop) (s:List Col) (m:WlM) (p:RS) (nm:ByteArray) (v:Value) (l:List Evt) (h:RefAt w D s m p) (hok:WOk m) (hl:EvtsAt w D v l) :
 Calls Tryz.prog 52 #[refV m p,.string nm,v] w (Steps w D s (moreR s m nm l)):=by
 have mixed:=hm
 have H:=Lib.hid h
 have H0:=Lib.hid (h.imp (D':=fun b=>D b∧b<w.heap.size) fun b hl hb=>⟨hb,hl⟩)
 have HL0:=Lib.hid (hl.imp (D':=fun b=>D b∧b<w.heap.size) fun b hl hb=>⟨hb,hl⟩)
 have HOK:=Lib.hid hok
 obtain ⟨sch,⟨sa,sc⟩,⟨ma,mc⟩,back⟩:=p
 obtain ⟨sha,shc,rfl⟩:∃ a c,sch=.slice a s.length c:=by obtain ⟨a,c,e,_⟩:=h.sch;exact ⟨a,c,e⟩
 obtain ⟨ba,bc,rfl⟩:∃ a c,back=.slice a m.late.length c:=by obtain ⟨a,c,e,_⟩:=h.back;exact ⟨a,c,e⟩
 obtain ⟨va,vc,rfl⟩:∃ a c,v=.slice a l.length c:=by obtain ⟨a,c,e,_⟩:=hl;exact ⟨a,c,e⟩
 have h50:=hok.splits
 have hN:=hok.all
 clear h hok hl
 have HB2:Hid _:=two45_fst w (.slice sha s.length shc) (.int .i64 m.bound) (.slice sa m.splits.length sc) (.slice ma m.marks.length mc) (.bool m.sealed) (.slice ba m.late.length bc) (.slice none 0 0) (.int .i64 0) (.slice none 0 0) (.slice none 0 0) (.bool false) (.slice none 0 0)
 have HR2:Hid _:=two45 w (.slice sha s.length shc) (.int .i64 m.bound) (.slice sa m.splits.length sc) (.slice ma m.marks.length mc) (.bool m.sealed) (.slice ba m.late.length bc) (.slice none 0 0) (.int .i64 0) (.slice none 0 0) (.slice none 0 0) (.bool false) (.slice none 0 0)
 have HW2:Hid _:=two45_below w (.slice sha s.length shc) (.int .i64 m.bound) (.slice sa m.splits.length sc) (.slice ma m.marks.length mc) (.bool m.sealed) (.slice ba m.late.length bc) (.slice none 0 0) (.int .i64 0) (.slice none 0 0) (.slice none 0 0) (.bool false) (.slice none 0 0)
 obtain ⟨W2,hW2⟩:∃ W2,((w.alloc (.cells #[.slice sha s.length shc,.int .i64 m.bound,.slice sa m.splits.length sc,.slice ma m.marks.length mc,.bool m.sealed,.slice ba m.late.length bc] 45)).alloc (.cells #[.slice none 0 0,.int .i64 0,.slice none 0 0,.slice none 0 0,.bool false,.slice none 0 0] 45))=W2:=⟨_,rfl⟩
 rw [hW2] at HB2 HR2 HW2
 have H132:=Lib.hid (f132_any hm W2 (fun b=>D b∧b<w.heap.size) (fun b=>D b∧b<w.heap.size) (.slice sha s.length shc) (.slice va l.length vc) s l (H0.out.sch.keep fun b _ hlt=>HW2.out.block b hlt) (HL0.out.below HW2.out))
 have HF:=fun (W:World) (hb:Below W2.heap.size W2 W)=>f88_any W (fun b=>D b∧b<w.heap.size) s m ⟨.slice sha s.length shc,(sa,sc),(ma,mc),.slice ba m.late.length bc⟩ nm ((H0.out.below HW2.out).below hb) HOK.out
 have HN:=fun (W:World) (hb:Below W2.heap.size W2 W)=>f90_any W (fun b=>D b∧b<w.heap.size) s m ⟨.slice sha s.length shc,(sa,sc),(ma,mc),.slice ba m.late.length bc⟩ ((H0.out.below HW2.out).below hb) HOK.out
 have HC0:=fun (W:World) (hb:Below W2.heap.size W2 W)=>f87_any W (fun b=>D b∧b<w.heap.size) s m ⟨.slice sha s.length shc,(sa,sc),(ma,mc),.slice ba m.late.length bc⟩ ((H0.out.below HW2.out).below hb) HOK.out
 simp only [refV] at HF HN HC0 ⊢
 have HF':=Lib.hid HF
 have HN':=Lib.hid HN
 have HC:=Lib.hid HC0
 have HSP:=Lib.hid (H0.out.spl.below HW2.out)
 have HK:Hid (∀ W,Below W2.heap.size W2 W→W.heap[w.heap.size]? = some (.cells #[.slice sha s.length shc,.int .i64 m.bound,.slice sa m.splits.length sc,.slice ma m.marks.length mc,.bool m.sealed,.slice ba m.late.length bc] 45 (0,0)) ∧
  W.heap[w.heap.size+1]? = some (.cells #[.slice none 0 0,.int .i64 0,.slice none 0 0,.slice none 0 0,.bool false,.slice none 0 0] 45 (0,0))∧Below w.heap.size w W) :=
  fun W hb=>⟨(hb.block _ (heap_lt HB2.out)).trans HB2.out,(hb.block _ (heap_lt HR2.out)).trans HR2.out,HW2.out.trans (hb.mono HW2.out.size)⟩
 have HE:Hid (∀ W:World,Below w.heap.size w W→W.heap[w.heap.size+1]? = some (.cells #[.slice none 0 0,.int .i64 0,.slice none 0 0,.slice none 0 0,.bool false,.slice none 0 0] 45 (0,0))→∀ er:Int,
  Steps w D s (m,er) (.returned (.tuple #[.agg #[.slice sha s.length shc,.int .i64 m.bound,.slice sa m.splits.length sc,.slice ma m.marks.length mc,.bool m.sealed,.slice ba m.late.length bc],.int .i64 er])) (fill45 W (w.heap.size+1) (.slice sha s.length shc) (.int .i64 m.bound) (.slice sa m.splits.length sc) (.slice ma m.marks.length mc) (.bool m.sealed) (.slice ba m.late.length bc))):=by
  intro W hb hR er
  have hbF:=fill_below hb (Nat.le_succ w.heap.size) (.slice sha s.length shc) (.int .i64 m.bound) (.slice sa m.splits.length sc) (.slice ma m.marks.length mc) (.bool m.sealed) (.slice ba m.late.length bc)
  exact ⟨⟨.slice sha s.length shc,(sa,sc),(ma,mc),.slice ba m.late.length bc⟩,rfl,(H.out.below hbF).mono fun b h=>.inl h,hbF⟩
 clear HF HN HC0
 obtain ⟨rb,hrb⟩:∃ b,rightB s l=b:=⟨_,rfl⟩
 rw [hrb] at H132
 obtain ⟨b20,b21,b22,b23,b24,b25,bf2⟩:=box45_cells HB2.out
 cases rb
 · rw [moreR,if_pos hrb]
   clear hrb
   go_enter Tryz.func52,Tryz.ntmps52
   go_wp2_with (first
    | (go_at_call 132;(try rw [hW2]);(with_reducible refine H132.out.mono ?_);rintro e w3 ⟨rfl,hb⟩
       obtain ⟨kB,kR,kW⟩:=HK.out w3 hb
       obtain ⟨b30,b31,b32,b33,b34,b35,bf3⟩:=box45_cells kB
       obtain ⟨r30,r31,r32,r33,r34,r35,rf3⟩:=box45_cells kR
       have HF3:=Lib.hid (HF'.out w3 hb);have HB3:=Lib.hid hb;have KR:=Lib.hid kR;have KW:=Lib.hid kW;clear hb kB kR kW))
   refine bodyPost_ret (ret45_2 rfl _ _ (w.heap.size+1) (box45_fill KR.out _ _ _ _ _ _) rfl) rfl ?_
   exact HE.out w3 KW.out KR.out 1
 · obtain ⟨hL,hT,hRW⟩:=right_facts hrb
   rcases idxI_lt (p:=fun x:SpM=>eqS x.name nm) (l:=m.splits) with hi | ⟨k,hlt,hi⟩
   · have hi':findI m.splits nm<0:=hi
     rw [moreR,hrb,if_neg (by simp),if_pos hi']
     generalize findI m.splits nm=fi at HF' hi'
     clear hi hrb
     go_enter Tryz.func52,Tryz.ntmps52
     go_wp2_with (first
      | (go_at_call 132;(try rw [hW2]);(with_reducible refine H132.out.mono ?_);rintro e w3 ⟨rfl,hb⟩
         obtain ⟨kB,kR,kW⟩:=HK.out w3 hb
         obtain ⟨b30,b31,b32,b33,b34,b35,bf3⟩:=box45_cells kB
         obtain ⟨r30,r31,r32,r33,r34,r35,rf3⟩:=box45_cells kR
         have HF3:=Lib.hid (HF'.out w3 hb);have HB3:=Lib.hid hb;have KR:=Lib.hid kR;have KW:=Lib.hid kW;clear hb kB kR kW)
      | (go_at_call 88;(with_reducible refine HF3.out.mono ?_);rintro e w4 ⟨rfl,hb⟩
         have HB4:=Lib.hid (below_then HB3.out hb)
         obtain ⟨kB,kR,kW⟩:=HK.out w4 HB4.out
         obtain ⟨b40,b41,b42,b43,b44,b45,bf4⟩:=box45_cells kB
         obtain ⟨r40,r41,r42,r43,r44,r45,rf4⟩:=box45_cells kR
         have KB4:=Lib.hid kB;have KR4:=Lib.hid kR;have KW4:=Lib.hid kW;have HN4:=Lib.hid (HN'.out w4 HB4.out);clear hb kB kR kW))
     refine bodyPost_ret (ret45_2 rfl _ _ (w.heap.size+1) (box45_fill KR4.out _ _ _ _ _ _) rfl) rfl ?_
     exact HE.out w4 KW4.out KR4.out 5
   · have hi':findI m.splits nm=k:=hi
     rw [moreR_at hrb hlt hi']
     rw [hi'] at HF'
     obtain ⟨b,hs⟩:∃ b,m.splits[k].sealed=b:=⟨_,rfl⟩
     have HS0:=Lib.hid hs
     have hwr:IntKind.i64.wrap ((allN m.splits:Int)+(l.length:Int))=(allN m.splits:Int)+(l.length:Int):=wrapI (by omega)
     clear hrb hi hi'
     rw [hs]
     cases b
     · rw [if_neg (by simp)]
       by_cases hA:400<allN m.splits+l.length
       · rw [if_pos hA]
         have gA:(400:Int)<(allN m.splits:Int)+(l.length:Int):=by omega
         go_enter Tryz.func52,Tryz.ntmps52
         go_wp2_with (first
          | (go_at_call 132;(try rw [hW2]);(with_reducible refine H132.out.mono ?_);rintro e w3 ⟨rfl,hb⟩
             obtain ⟨kB,kR,kW⟩:=HK.out w3 hb
             obtain ⟨b30,b31,b32,b33,b34,b35,bf3⟩:=box45_cells kB
             obtain ⟨r30,r31,r32,r33,r34,r35,rf3⟩:=box45_cells kR
             have HF3:=Lib.hid (HF'.out w3 hb);have HB3:=Lib.hid hb;have KR:=Lib.hid kR;have KW:=Lib.hid kW;clear hb kB kR kW)
          | (go_at_call 88;(with_reducible refine HF3.out.mono ?_);rintro e w4 ⟨rfl,hb⟩
             have HB4:=Lib.hid (below_then HB3.out hb)
             obtain ⟨kB,kR,kW⟩:=HK.out w4 HB4.out
             obtain ⟨g,o,e1,e2,rfl,hg,-,x0,x1,x2,x3,x4,x5⟩:=(HSP.out.below HB4.out).at hlt
             rw [hs] at x5
             obtain ⟨b40,b41,b42,b43,b44,b45,bf4⟩:=box45_cells kB
             obtain ⟨r40,r41,r42,r43,r44,r45,rf4⟩:=box45_cells kR
             have KB4:=Lib.hid kB;have KR4:=Lib.hid kR;have KW4:=Lib.hid kW;have HN4:=Lib.hid (HN'.out w4 HB4.out);clear hb kB kR kW)
          | (go_at_call 90;(with_reducible refine HN4.out.mono ?_);rintro e w5 ⟨rfl,hb⟩
             have HB5:=Lib.hid (below_then HB4.out hb)
             obtain ⟨kB,kR,kW⟩:=HK.out w5 HB5.out
             obtain ⟨b50,b51,b52,b53,b54,b55,bf5⟩:=box45_cells kB
             obtain ⟨r50,r51,r52,r53,r54,r55,rf5⟩:=box45_cells kR
             have HC5:=Lib.hid (HC.out w5 HB5.out);have KB5:=Lib.hid kB;have KR5:=Lib.hid kR;have KW5:=Lib.hid kW;clear hb kB kR kW))
         refine bodyPost_ret (ret45_2 rfl _ _ (w.heap.size+1) (box45_fill KR5.out _ _ _ _ _ _) rfl) rfl ?_
         exact HE.out w5 KW5.out KR5.out 4
       · rw [if_neg hA]
         have gA:¬ (400:Int)<(allN m.splits:Int)+(l.length:Int):=by omega
         have hm2:=List.getElem_mem hlt
         obtain ⟨i0,hi0,hz0,hz1,hz2⟩:=info_parts info30
         have hEL:m.splits[k].evs.length≤400:=by
          have h1:=allN_take hlt
          have h2:=allN_le m.splits (k+1)
          omega
         have hkl:(k:Int)<(m.splits.length:Int):=by omega
         have hk0:(0:Int)≤(k:Int):=by omega
         go_enter Tryz.func52,Tryz.ntmps52
         go_wp2_with (first
          | (go_at_call 132;(try rw [hW2]);(with_reducible refine H132.out.mono ?_);rintro e w3 ⟨rfl,hb⟩
             obtain ⟨kB,kR,kW⟩:=HK.out w3 hb
             obtain ⟨b30,b31,b32,b33,b34,b35,bf3⟩:=box45_cells kB
             obtain ⟨r30,r31,r32,r33,r34,r35,rf3⟩:=box45_cells kR
             have HF3:=Lib.hid (HF'.out w3 hb);have HB3:=Lib.hid hb;have KR:=Lib.hid kR;have KW:=Lib.hid kW;clear hb kB kR kW)
          | (go_at_call 88;(with_reducible refine HF3.out.mono ?_);rintro e w4 ⟨rfl,hb⟩
             have HB4:=Lib.hid (below_then HB3.out hb)
             obtain ⟨kB,kR,kW⟩:=HK.out w4 HB4.out
             obtain ⟨g,o,e1,e2,rfl,hg,-,x0,x1,x2,x3,x4,x5⟩:=(HSP.out.below HB4.out).at hlt
             rw [hs] at x5
             obtain ⟨b40,b41,b42,b43,b44,b45,bf4⟩:=box45_cells kB
             obtain ⟨r40,r41,r42,r43,r44,r45,rf4⟩:=box45_cells kR
             have KB4:=Lib.hid kB;have KR4:=Lib.hid kR;have KW4:=Lib.hid kW;have HN4:=Lib.hid (HN'.out w4 HB4.out);clear hb kB kR kW)
          | (go_at_call 90;(with_reducible refine HN4.out.mono ?_);rintro e w5 ⟨rfl,hb⟩
             have HB5:=Lib.hid (below_then HB4.out hb)
             obtain ⟨kB,kR,kW⟩:=HK.out w5 HB5.out
             obtain ⟨b50,b51,b52,b53,b54,b55,bf5⟩:=box45_cells kB
             obtain ⟨r50,r51,r52,r53,r54,r55,rf5⟩:=box45_cells kR
             have HC5:=Lib.hid (HC.out w5 HB5.out);have KB5:=Lib.hid kB;have KR5:=Lib.hid kR;have KW5:=Lib.hid kW;clear hb kB kR kW)
          | (go_at_call 87;(with_reducible refine HC5.out.mono ?_);rintro e w6 ⟨⟨sch',⟨sa',sc'⟩,⟨ma',mc'⟩,back'⟩,sb,mb,rfl,hro,hs,hm,hb⟩
             simp only [refV]
             obtain ⟨sha',shc',rfl⟩:∃ a c,sch'=.slice a s.length c:=by obtain ⟨a,c,e,_⟩:=hro.sch;exact ⟨a,c,e⟩
             obtain ⟨ba',bc',rfl⟩:∃ a c,back'=.slice a m.late.length c:=by obtain ⟨a,c,e,_⟩:=hro.back;exact ⟨a,c,e⟩
             obtain ⟨g',o',rfl,hsg,-⟩:=hro.splForm (by omega)
             have hB6:=(hb.block _ (heap_lt KB5.out)).trans KB5.out
             have hR6:=(hb.block _ (heap_lt KR5.out)).trans KR5.out
             have hz:=heap_lt KR5.out
             have hB7:=box45_fill hB6 (.slice sha' s.length shc') (.int .i64 m.bound) (.slice (some ⟨g',o',none⟩) m.splits.length sc') (.slice ma' m.marks.length mc') (.bool m.sealed) (.slice ba' m.late.length bc')
             have hR7:=(fill_ne (by omega:w.heap.size+1≠w.heap.size) (.slice sha' s.length shc') (.int .i64 m.bound) (.slice (some ⟨g',o',none⟩) m.splits.length sc') (.slice ma' m.marks.length mc') (.bool m.sealed) (.slice ba' m.late.length bc')).trans hR6
             have hro7:=hro.fillK (g:=w.heap.size) (fun h=>by have:=h.1.2;omega) (fun e=>by have:=hs _ e;omega) (fun e=>by have:=hm _ e;omega) (.slice sha' s.length shc') (.int .i64 m.bound) (.slice (some ⟨g',o',none⟩) m.splits.length sc') (.slice ma' m.marks.length mc') (.bool m.sealed) (.slice ba' m.late.length bc')
             have hb7:Below w.heap.size w (fill45 w6 w.heap.size (.slice sha' s.length shc') (.int .i64 m.bound) (.slice (some ⟨g',o',none⟩) m.splits.length sc') (.slice ma' m.marks.length mc') (.bool m.sealed) (.slice ba' m.late.length bc')):=fill_below (KW5.out.trans (hb.mono KW5.out.size)) (Nat.le_refl _) _ _ _ _ _ _
             have HB7:=Lib.hid hB7;have HR7:=Lib.hid hR7;have HRO7:=Lib.hid hro7;have HW7:=Lib.hid hb7;have HS:=Lib.hid hs;have HM:=Lib.hid hm;have HZ:=Lib.hid hz;have HSG:=Lib.hid hsg
             obtain ⟨b60,b61,b62,b63,b64,b65,bf6⟩:=box45_cells hB6
             clear hro hs hm hb hB6 hR6 hB7 hR7 hro7 hb7 hz hsg))
         obtain ⟨w7,hw7⟩:∃ W,fill45 w6 w.heap.size (.slice sha' s.length shc') (.int .i64 m.bound) (.slice (some ⟨g',o',none⟩) m.splits.length sc') (.slice ma' m.marks.length mc') (.bool m.sealed) (.slice ba' m.late.length bc')=W:=⟨_,rfl⟩
         have hw7':((((((w6).setCell ⟨w.heap.size,0,none⟩ (.slice sha' s.length shc')).setCell ⟨w.heap.size,1,none⟩ (.int .i64 m.bound)).setCell ⟨w.heap.size,2,none⟩ (.slice (some ⟨g',o',none⟩) m.splits.length sc')).setCell ⟨w.heap.size,3,none⟩ (.slice ma' m.marks.length mc')).setCell ⟨w.heap.size,4,none⟩ (.bool m.sealed)).setCell ⟨w.heap.size,5,none⟩ (.slice ba' m.late.length bc')=w7:=hw7
         (first | rw [hw7] at HB7 | rw [hw7'] at HB7)
         (first | rw [hw7] at HR7 | rw [hw7'] at HR7)
         (first | rw [hw7] at HRO7 | rw [hw7'] at HRO7)
         (first | rw [hw7] at HW7 | rw [hw7'] at HW7)
         rw [hw7']
         clear hw7 hw7' b60 b61 b62 b63 b64 b65 bf6 b50 b51 b52 b53 b54 b55 bf5 r50 r51 r52 r53 r54 r55 rf5 b40 b41 b42 b43 b44 b45 bf4 r40 r41 r42 r43 r44 r45 rf4 b30 b31 b32 b33 b34 b35 bf3 r30 r31 r32 r33 r34 r35 rf3 b20 b21 b22 b23 b24 b25 bf2 x0 x1 x2 x3 x4 x5
         obtain ⟨-,-,b72,-,-,-,-⟩:=box45_cells HB7.out
         have hsg':=HSG.out
         have hgs:=HS.out g' hsg'
         obtain ⟨ev',hev',y2⟩:=HRO7.out.spl.evAt hlt
         obtain ⟨e1',e2',rfl⟩:∃ a c,ev'=.slice a m.splits[k].evs.length c:=by obtain ⟨a,c,e,_⟩:=hev';exact ⟨a,c,e⟩
         have hfr:=HRO7.out.frozen
         have hg7:=cell_lt y2
         have HEV:=Lib.hid hev'
         have HL7:=Lib.hid (HL0.out.below HW7.out)
         have hb7a:Below w7.heap.size w7 (w7.alloc (.cells #[] 30)):=(Below.refl w7.heap.size w7).alloc (Nat.le_refl _) (.cells #[] 30)
         have hb7d:Below w7.heap.size w7 (w7.alloc (.cells #[] 30)).drew:=hb7a.drew
         obtain ⟨ps1,hp1,hs1,hr1⟩:=(hev'.below hb7d).parts
         have HOWN:Hid (SlOwn (w7.alloc (.cells #[] 30)).drew 30 2 (.slice (some ⟨w7.heap.size,0,none⟩) 0 0) 0 [] (some w7.heap.size)) :=
          ⟨by simp,.inr ⟨w7.heap.size,0,0,#[],rfl,rfl,heap_alloc_new w7 _,by omega,by simp [maxLen],by simp,by simp⟩⟩
         have HP1:=Lib.hid hp1
         have HS1:=Lib.hid hs1
         have HR1:=Lib.hid hr1
         have hBlt:=heap_lt HB7.out
         clear hev' hp1 hs1 hr1
         have HKK:Hid (∀ (W8:World) (blk8:Option Nat),((w7.alloc (.cells #[] 30)).drew).grownBy W8 (some w7.heap.size)→(blk8=some w7.heap.size∨blk8=some ((w7.alloc (.cells #[] 30)).drew).heap.size) →
          W8.cell? ⟨w.heap.size,2,none⟩=some (.slice (some ⟨g',o',none⟩) m.splits.length sc')∧W8.cell? ⟨g',o'+k * 6+2,none⟩=some (.slice e1' m.splits[k].evs.length e2')∧Below w7.heap.size w7 W8∧∀ b,blk8=some b→w7.heap.size≤b):=by
          intro W8 blk8 hg hat
          have hb8:Below w7.heap.size w7 W8:=hb7d.grown hg (by simp) (fun k hk=>by injection hk with hk;omega)
          refine ⟨by rw [hb8.cell (p:=⟨w.heap.size,2,none⟩) hBlt];exact b72,by rw [hb8.cell (p:=⟨g',o'+k * 6+2,none⟩) hg7];exact y2,hb8,fun b hb=>?_⟩
          rcases hat with e | e <;> rw [hb] at e <;> injection e with e
          · omega
          · simp at e;omega
         have HKL:Hid (∀ (W8 W9:World) (blk8 blk9:Option Nat),Below w7.heap.size w7 W8→(∀ b,blk8=some b→w7.heap.size≤b)→W8.grownBy W9 blk8→(blk9=blk8∨blk9=some W8.heap.size) →
          W9.cell? ⟨w.heap.size,2,none⟩=some (.slice (some ⟨g',o',none⟩) m.splits.length sc')∧W9.cell? ⟨g',o'+k * 6+2,none⟩=some (.slice e1' m.splits[k].evs.length e2')∧Below w7.heap.size w7 W9∧(∀ b,blk9=some b→w7.heap.size≤b)∧W9.frozen? ⟨g',o'+k * 6+2,none⟩=false):=by
          intro W8 W9 blk8 blk9 hb8 hn8 hg hat
          have hb9:Below w7.heap.size w7 W9:=hb8.grown hg hb8.size (fun k hk=>hn8 k hk)
          refine ⟨by rw [hb9.cell (p:=⟨w.heap.size,2,none⟩) hBlt];exact b72,by rw [hb9.cell (p:=⟨g',o'+k * 6+2,none⟩) hg7];exact y2,hb9,fun b hb=>?_,(HRO7.out.below hb9).frozen _⟩
          rcases hat with e | e
          · exact hn8 b (e ▸ hb)
          · rw [hb] at e;injection e with e
            have:=hb8.size
            omega
         have HCE:Hid ((w7.alloc (.cells #[] 30)).drew.cell? ⟨w.heap.size,2,none⟩=some (.slice (some ⟨g',o',none⟩) m.splits.length sc')):=by rw [hb7d.cell (p:=⟨w.heap.size,2,none⟩) hBlt];exact b72
         clear hb7a hb7d
         have hne1:w.heap.size≠g':=by have:=HZ.out;omega
         have hne2:¬ g'=w.heap.size:=by have:=HZ.out;omega
         have hCd:Hid (w7.drew.cell? ⟨w.heap.size,2,none⟩=some (.slice (some ⟨g',o',none⟩) m.splits.length sc')):=by rw [(Below.refl w7.heap.size w7).drew.cell (p:=⟨w.heap.size,2,none⟩) hBlt];exact b72
         have hC:=hCd.out
         refine wp_region_seq 16 (fun W=>W.cell? ⟨w.heap.size,2,none⟩=some (.slice (some ⟨g',o',none⟩) m.splits.length sc')) mixed (by kernel_rfl) (fun hg=>?_)
         refine seq_rd hg 0 hC (fun K hK=>?_)
         apply Exists.intro
         refine ⟨fun W hW=>?_,?_⟩
         · go_simp
           rfl
         go_simp
         refine hK _ ?_
         clear hK K
         refine seq_rd hg 1 hC (fun K hK=>?_)
         apply Exists.intro
         refine ⟨fun W hW=>?_,?_⟩
         · go_simp
           rfl
         go_simp
         refine hK _ ?_
         clear hK K
         refine seq_rd hg 2 hC (fun K hK=>?_)
         apply Exists.intro
         refine ⟨fun W hW=>?_,?_⟩
         · go_simp
           rfl
         go_simp
         refine hK _ ?_
         clear hK K
         refine seq_rd hg 4 hC (fun K hK=>?_)
         apply Exists.intro
         refine ⟨fun W hW=>?_,?_⟩
         · go_simp
           rfl
         go_simp
         refine hK _ ?_
         clear hK K
         refine seq_rd hg 5 hC (fun K hK=>?_)
         apply Exists.intro
         refine ⟨fun W hW=>?_,?_⟩
         · go_simp
           rfl
         go_simp
         refine hK _ ?_
         clear hK K
         refine seq_rd hg 6 hC (fun K hK=>?_)
         apply Exists.intro
         refine ⟨fun W hW=>?_,?_⟩
         · go_simp
           rfl
         go_simp
         refine hK _ ?_
         clear hK K
         refine seq_rd hg 7 hC (fun K hK=>?_)
         apply Exists.intro
         refine ⟨fun W hW=>?_,?_⟩
         · go_simp
           rfl
         go_simp
         refine hK _ ?_
         clear hK K
         refine seq_rd hg 8 hC (fun K hK=>?_)
         apply Exists.intro
         refine ⟨fun W hW=>?_,?_⟩
         · go_simp
           rfl
         go_simp
         refine hK _ ?_
         clear hK K
         refine seq_rd hg 11 hC (fun K hK=>?_)
         apply Exists.intro
         refine ⟨fun W hW=>?_,?_⟩
         · go_simp
           rfl
         go_simp
         refine hK _ ?_
         clear hK K
         refine seq_two 3 9 (by kernel_rfl) rfl rfl (by rfl) (by rfl) (fun K hK=>?_) (fun K hK=>?_)
         go_simp
         refine hK _ _ (by first | rfl | (go_simp;done)) HCE.out ?_
         clear hK K hC
         refine seq_on 9 (fun K hK=>?_)
         go_simp
         refine hK _ _ (by first | rfl | (go_simp;done)) HCE.out ?_
         clear hK K
         refine seq_on 10 (fun K hK=>?_)
         refine of_step (ops:=#[]) rfl (step_append_S rfl (.tmp 40) (.tmp 46) 24 rfl 30 i0 _ 2 32 Tryz.underlying24 hi0 hz0 hz1 hz2 rfl (by omega) (.slice (some ⟨w7.heap.size,0,none⟩) 0 0) 0 [] (some w7.heap.size) rfl HOWN.out (.slice e1' m.splits[k].evs.length e2') m.splits[k].evs.length (evC ps1) rfl HS1.out (evC_one HR1.out) (by simp only [maxLen];omega) (by omega) ?_)
         intro v8 w8 blk8 h1 h2 h3
         obtain ⟨z2,z3,zb,zn⟩:=HKK.out w8 blk8 h2 h3
         rw [Nat.zero_add] at h1
         obtain ⟨a8,c8,rfl⟩:=h1.form
         obtain ⟨ps2,hp2,hs2,hr2⟩:=(HL7.out.below zb).parts
         have H1:=Lib.hid h1;have ZB:=Lib.hid zb;have ZN:=Lib.hid zn;have HP2:=Lib.hid hp2;have HS2:=Lib.hid hs2;have HR2':=Lib.hid hr2
         clear h1 h2 h3 zb zn hp2 hs2 hr2
         go_simp
         refine hK _ _ (by first | rfl | (go_simp;done)) z2 ?_
         clear hK K z2 z3
         refine seq_on 12 (fun K hK=>?_)
         refine of_step (ops:=#[]) rfl (step_append_S rfl (.tmp 47) (.tmp 48) 24 rfl 30 i0 _ 2 32 Tryz.underlying24 hi0 hz0 hz1 hz2 rfl (by omega) (.slice a8 m.splits[k].evs.length c8) m.splits[k].evs.length ([] ++ evC ps1) blk8 rfl H1.out (.slice va l.length vc) l.length (evC ps2) rfl HS2.out (evC_one HR2'.out) (by simp only [maxLen];omega) (by omega) ?_)
         intro v9 w9 blk9 h1 h2 h3
         obtain ⟨q2,q3,qb,qn,qf⟩:=HKL.out w8 w9 blk8 blk9 ZB.out ZN.out h2 h3
         obtain ⟨a9,c9,rfl⟩:=h1.form
         have H9:=Lib.hid h1;have QB:=Lib.hid qb;have QN:=Lib.hid qn
         have q4:(w9.setCell ⟨g',o'+k * 6+2,none⟩ (.slice a9 (m.splits[k].evs.length+l.length) c9)).cell? ⟨w.heap.size,2,none⟩=some (.slice (some ⟨g',o',none⟩) m.splits.length sc'):=by rw [World.cell?_of_block (a:=⟨w.heap.size,2,none⟩) (heap_set_ne _ hne1)];exact q2
         clear h1 h2 h3 qb qn
         go_simp
         refine hK _ _ (by first | rfl | (go_simp;done)) q2 ?_
         clear hK K
         refine seq_rd hg 13 q2 (fun K hK=>?_)
         apply Exists.intro
         refine ⟨fun W hW=>?_,?_⟩
         · go_simp
           rfl
         go_simp
         refine hK _ ?_
         clear hK K
         refine seq_rd hg 14 q2 (fun K hK=>?_)
         apply Exists.intro
         refine ⟨fun W hW=>?_,?_⟩
         · go_simp
           rfl
         go_simp
         refine hK _ ?_
         clear hK K
         refine seq_on 15 (fun K hK=>?_)
         go_simp
         refine hK _ _ (by first | rfl | (go_simp;done)) q4 ?_
         clear hK K q2 q3 q4 qf
         refine seq_end (by kernel_rfl) ?_
         rotate_left
         go_simp
         refine hK _ _ (by first | rfl | (go_simp;done)) hC ?_
         clear hK K hC
         refine seq_on 3 (fun K hK=>?_)
         go_simp
         refine hK _ _ (by first | rfl | (go_simp;done)) HCE.out ?_
         clear hK K
         refine seq_on 10 (fun K hK=>?_)
         refine of_step (ops:=#[]) rfl (step_append_S rfl (.tmp 40) (.tmp 46) 24 rfl 30 i0 _ 2 32 Tryz.underlying24 hi0 hz0 hz1 hz2 rfl (by omega) (.slice (some ⟨w7.heap.size,0,none⟩) 0 0) 0 [] (some w7.heap.size) rfl HOWN.out (.slice e1' m.splits[k].evs.length e2') m.splits[k].evs.length (evC ps1) rfl HS1.out (evC_one HR1.out) (by simp only [maxLen];omega) (by omega) ?_)
         intro v8 w8 blk8 h1 h2 h3
         obtain ⟨z2,z3,zb,zn⟩:=HKK.out w8 blk8 h2 h3
         rw [Nat.zero_add] at h1
         obtain ⟨a8,c8,rfl⟩:=h1.form
         obtain ⟨ps2,hp2,hs2,hr2⟩:=(HL7.out.below zb).parts
         have H1:=Lib.hid h1;have ZB:=Lib.hid zb;have ZN:=Lib.hid zn;have HP2:=Lib.hid hp2;have HS2:=Lib.hid hs2;have HR2':=Lib.hid hr2
         clear h1 h2 h3 zb zn hp2 hs2 hr2
         go_simp
         refine hK _ _ (by first | rfl | (go_simp;done)) z2 ?_
         clear hK K z2 z3
         refine seq_on 12 (fun K hK=>?_)
         refine of_step (ops:=#[]) rfl (step_append_S rfl (.tmp 47) (.tmp 48) 24 rfl 30 i0 _ 2 32 Tryz.underlying24 hi0 hz0 hz1 hz2 rfl (by omega) (.slice a8 m.splits[k].evs.length c8) m.splits[k].evs.length ([] ++ evC ps1) blk8 rfl H1.out (.slice va l.length vc) l.length (evC ps2) rfl HS2.out (evC_one HR2'.out) (by simp only [maxLen];omega) (by omega) ?_)
         intro v9 w9 blk9 h1 h2 h3
         obtain ⟨q2,q3,qb,qn,qf⟩:=HKL.out w8 w9 blk8 blk9 ZB.out ZN.out h2 h3
         obtain ⟨a9,c9,rfl⟩:=h1.form
         have H9:=Lib.hid h1;have QB:=Lib.hid qb;have QN:=Lib.hid qn
         have q4:(w9.setCell ⟨g',o'+k * 6+2,none⟩ (.slice a9 (m.splits[k].evs.length+l.length) c9)).cell? ⟨w.heap.size,2,none⟩=some (.slice (some ⟨g',o',none⟩) m.splits.length sc'):=by rw [World.cell?_of_block (a:=⟨w.heap.size,2,none⟩) (heap_set_ne _ hne1)];exact q2
         clear h1 h2 h3 qb qn
         go_simp
         refine hK _ _ (by first | rfl | (go_simp;done)) q2 ?_
         clear hK K
         refine seq_rd hg 13 q2 (fun K hK=>?_)
         apply Exists.intro
         refine ⟨fun W hW=>?_,?_⟩
         · go_simp
           rfl
         go_simp
         refine hK _ ?_
         clear hK K
         refine seq_rd hg 14 q2 (fun K hK=>?_)
         apply Exists.intro
         refine ⟨fun W hW=>?_,?_⟩
         · go_simp
           rfl
         go_simp
         refine hK _ ?_
         clear hK K
         refine seq_on 15 (fun K hK=>?_)
         go_simp
         refine hK _ _ (by first | rfl | (go_simp;done)) q4 ?_
         clear hK K q2 q3 q4 qf
         refine seq_end (by kernel_rfl) ?_
         all_goals
          have hb9:=QB.out
          have hz7:=HW7.out.size
          have hBl:=heap_lt HB7.out
          have hRl:=heap_lt HR7.out
          have hB10:=(heap_set_ne (w:=w9) (g:=g') (j:=o'+k * 6+2) (.slice a9 (m.splits[k].evs.length+l.length) c9) hne1).trans ((hb9.block _ hBl).trans HB7.out)
          have hR10:=(heap_set_ne (w:=w9) (g:=g') (j:=o'+k * 6+2) (.slice a9 (m.splits[k].evs.length+l.length) c9) (by have:=HZ.out;omega:w.heap.size+1≠g')).trans ((hb9.block _ hRl).trans HR7.out)
          obtain ⟨s0,s1,s2,s3,s4,s5,sf⟩:=box45_cells hB10
          obtain ⟨t0,t1,t2,t3,t4,t5,tf⟩:=box45_cells hR10
          have HR10:=Lib.hid hR10
          clear hB10 hR10 hb9
          go_wp2_with fail
          refine bodyPost_ret (ret45_2 rfl _ _ (w.heap.size+1) (box45_fill HR10.out _ _ _ _ _ _) rfl) rfl ?_
          have hb9:=QB.out
          have hro9:=HRO7.out.below hb9
          have hD9:∀ b,((D b∧b<w.heap.size)∧b<w5.heap.size)→b<w7.heap.size:=fun b hb=>by have:=hb.1.2;omega
          have hsl:∀ b,sb=some b→b<w7.heap.size:=fun b hb=>by obtain ⟨ps,_,ho,_⟩:=HRO7.out.spl;exact ho.lt_of hb
          have hml:∀ b,mb=some b→b<w7.heap.size:=fun b hb=>HRO7.out.mks.lt_of hb
          have hev9:EvtsAt w9 (fun b=>((D b∧b<w.heap.size)∧b<w5.heap.size)∨blk9=some b) (.slice a9 (m.splits[k].evs.length+l.length) c9) (m.splits[k].evs ++ l):=by
           have hown:EvsOwn w9 (fun b=>(D b∧b<w.heap.size)∧b<w5.heap.size) (.slice a9 (m.splits[k].evs.length+l.length) c9) (m.splits[k].evs ++ l) blk9:=by
            refine ⟨ps1 ++ ps2,by rw [List.map_append,HP1.out,HP2.out],?_,fun p hp=>?_⟩
            · have h9:=H9.out
              rw [evC_app,List.length_append]
              simpa using h9
            · rcases List.mem_append.1 hp with hp | hp
              · exact (HR1.out p hp).keep fun b hb _=>(hb9.block b (hD9 b hb)).trans (Below.heap_alloc w7 _ b (hD9 b hb)).symm
              · exact ((HR2'.out p hp).keep fun b hb _=>(hb9.block b (by have:=hb.2;omega)).trans (ZB.out.block b (by have:=hb.2;omega)).symm).mono fun b hb=>⟨hb,by have h1:=hb.2;have h2:=HZ.out;omega⟩
           have h1:=hown.evts (by rw [List.length_append];omega)
           exact h1
          have hsp:SplsOwn w9 (fun b=>((D b∧b<w.heap.size)∧b<w5.heap.size)∨blk9=some b) (.slice (some ⟨g',o',none⟩) m.splits.length sc') m.splits (some g'):=by
           obtain ⟨ps,e,ho,hr⟩:=hro9.spl
           exact ⟨ps,e,by rw [← hsg'];exact ho,fun p hp=>(hr p hp).mono fun b hb=>.inl hb⟩
          have hgD:¬ (((D g'∧g'<w.heap.size)∧g'<w5.heap.size)∨blk9=some g'):=fun h=>by
           rcases h with h | h
           · have:=h.1.2;omega
           · have:=QN.out g' h;omega
          have hset:=hsp.setEv hgD hlt hev9
          rw [← Nat.add_assoc] at hset
          have hkD:∀ b,(((D b∧b<w.heap.size)∧b<w5.heap.size)∨blk9=some b)→b<w9.heap.size→(w9.setCell ⟨g',o'+k * 6+2,none⟩ (.slice a9 (m.splits[k].evs.length+l.length) c9)).heap[b]? = w9.heap[b]? := fun b hb _=>heap_set_ne _ (by rintro rfl;exact hgD hb)
          have hro10:RefO (w9.setCell ⟨g',o'+k * 6+2,none⟩ (.slice a9 (m.splits[k].evs.length+l.length) c9)) (fun b=>((D b∧b<w.heap.size)∧b<w5.heap.size)∨blk9=some b) s (moreM m k m.splits[k] l) ⟨.slice sha' s.length shc',(some ⟨g',o',none⟩,sc'),(ma',mc'),.slice ba' m.late.length bc'⟩ sb mb:=by
           refine ⟨(hro9.sch.mono fun b hb=>.inl hb).keep hkD,?_,hro9.mks.keep fun b hb=>heap_set_ne _ (by rintro rfl;exact hro9.ne b hsg' hb),(hro9.back.mono fun b hb=>.inl hb).keep hkD,?_,?_,hro9.ne⟩
           · rw [hsg']
             simpa [moreM,WlM.setS] using hset
           · intro b hb h
             rcases h with h | h
             · exact hro9.sD b hb h
             · have h1:=QN.out b h;have h2:=hsl b hb;omega
           · intro b hb h
             rcases h with h | h
             · exact hro9.mD b hb h
             · have h1:=QN.out b h;have h2:=hml b hb;omega
          have hb10:Below w.heap.size w (w9.setCell ⟨g',o'+k * 6+2,none⟩ (.slice a9 (m.splits[k].evs.length+l.length) c9)):=(HW7.out.trans (hb9.mono hz7)).setCell (p:=⟨g',o'+k * 6+2,none⟩) (by show w.heap.size≤g';have:=HZ.out;omega) _
          have hbF:=fill_below hb10 (Nat.le_succ w.heap.size) (.slice sha' s.length shc') (.int .i64 m.bound) (.slice (some ⟨g',o',none⟩) m.splits.length sc') (.slice ma' m.marks.length mc') (.bool m.sealed) (.slice ba' m.late.length bc')
          have hroF:=hro10.fillK (g:=w.heap.size+1) (fun h=>by
           rcases h with h | h
           · have:=h.1.2;omega
           · have:=QN.out _ h;omega) (fun e=>by have:=HS.out _ e;have:=HZ.out;omega) (fun e=>by have:=HM.out _ e;have:=HZ.out;omega) (.slice sha' s.length shc') (.int .i64 m.bound) (.slice (some ⟨g',o',none⟩) m.splits.length sc') (.slice ma' m.marks.length mc') (.bool m.sealed) (.slice ba' m.late.length bc')
          refine ⟨⟨.slice sha' s.length shc',(some ⟨g',o',none⟩,sc'),(ma',mc'),.slice ba' m.late.length bc'⟩,?_,hroF.ref.imp fun b hl hb=>?_,hbF⟩
          · simp [refV,moreM,WlM.setS]
          · rcases hb with (hb | hb) | hb | hb
            · exact .inl hb.1.1
            · exact .inr ⟨by have:=QN.out b hb;omega,hl⟩
            · exact .inr ⟨by have h1:=HS.out b hb;have h2:=HZ.out;omega,hl⟩
            · exact .inr ⟨by have h1:=HM.out b hb;have h2:=HZ.out;omega,hl⟩
     · rw [if_pos rfl]
       go_enter Tryz.func52,Tryz.ntmps52
       go_wp2_with (first
        | (go_at_call 132;(try rw [hW2]);(with_reducible refine H132.out.mono ?_);rintro e w3 ⟨rfl,hb⟩
           obtain ⟨kB,kR,kW⟩:=HK.out w3 hb
           obtain ⟨b30,b31,b32,b33,b34,b35,bf3⟩:=box45_cells kB
           obtain ⟨r30,r31,r32,r33,r34,r35,rf3⟩:=box45_cells kR
           have HF3:=Lib.hid (HF'.out w3 hb);have HB3:=Lib.hid hb;have KR:=Lib.hid kR;have KW:=Lib.hid kW;clear hb kB kR kW)
        | (go_at_call 88;(with_reducible refine HF3.out.mono ?_);rintro e w4 ⟨rfl,hb⟩
           have HB4:=Lib.hid (below_then HB3.out hb)
           obtain ⟨kB,kR,kW⟩:=HK.out w4 HB4.out
           obtain ⟨g,o,e1,e2,rfl,hg,-,x0,x1,x2,x3,x4,x5⟩:=(HSP.out.below HB4.out).at hlt
           rw [hs] at x5
           obtain ⟨b40,b41,b42,b43,b44,b45,bf4⟩:=box45_cells kB
           obtain ⟨r40,r41,r42,r43,r44,r45,rf4⟩:=box45_cells kR
           have KB4:=Lib.hid kB;have KR4:=Lib.hid kR;have KW4:=Lib.hid kW;have HN4:=Lib.hid (HN'.out w4 HB4.out);clear hb kB kR kW))
       refine bodyPost_ret (ret45_2 rfl _ _ (w.heap.size+1) (box45_fill KR4.out _ _ _ _ _ _) rfl) rfl ?_
       exact HE.out w4 KW4.out KR4.out 10
end leaves
end Go.Proofs.YtimahogkcmmcnaaGreatDoor
