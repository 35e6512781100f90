/-
 The well restored, part 11: the reference restores a well. If the well and what is given lie in the world as the words say.
-/
import Derived.Test.YtimahogkcmmcnaaGreatDoorL35
set_option linter.unusedSimpArgs false
set_option linter.unusedVariables false
namespace Go.Proofs.YtimahogkcmmcnaaGreatDoor
open Go.RowKit Go.Proofs.YtimahogkcmmcnaaGreatDoor.Cmps
abbrev zero45:Value:=.agg #[.slice none 0 0,.int .i64 0,.slice none 0 0,.slice none 0 0,.bool false,.slice none 0 0]
theorem post_hidK {P:Program} {c:Code} {Q:Exit→Act→World→Prop} {a:Act} {w:World} (h:∀ B:Exit→Act→World→Prop,Hid (∀ x a w,Q x a w→B x a w)→c.wp P B a w):c.wp P Q a w:=h Q (Lib.hid fun _ _ _ h=>h)
section leaves
set_option maxHeartbeats 40000000
set_option maxRecDepth 100000
theorem f29_any (f:SpM→GivM) (hm:Tryz.prog.follows .mixedOrders=true) (w:World) (D:Nat→Prop) (s:List Col) (m:WlM) (p:RS) (o:Int) (lv:Value) (l:List GivM) (ev:Nat→Value) (h:RefAt w D s m p) (hok:WOk m) (hvs:validSchema s=true)
 (hl:GivsAt w D lv l ev) (hgu:GUniq l) (hln:l.length=m.splits.length) (hnz:∀ x ∈ l,x.name.size≤16) (hsum:sumG l l.length≤1000) (hun:Uniq m) (hgv:Gives m l f) (hperm:∀ x ∈ m.splits,∃ j,∃ h:j<l.length,l[j].name=x.name) (hpern:∀ g ∈ l,∃ k,∃ h:k<m.splits.length,m.splits[k].name=g.name) (hfit:∀ x ∈ m.splits,x.read≤(gOf l x.name).evs.length) :
 Calls Tryz.prog 29 #[refV m p,.int .i64 m.bound,.int .i64 o,lv] w fun e w'=>Below w.heap.size w w'∧((restE s m o l≠0∧e=.returned (.tuple #[zero45,.int .i64 (restE s m o l)])) ∨
  (restE s m o l=0∧∃ no:Nat,o=no∧∃ p',e=.returned (.tuple #[refV (restM m no l) p',.int .i64 0])∧RefAt w' (fun b=>D b∨w.heap.size≤b) s (restM m no l) p')):=by
 have mixed:=hm
 have HMX:=Lib.hid hm
 have H:=Lib.hid (h.imp (D':=fun b=>D b∧b<w.heap.size) fun b hl hb=>⟨hb,hl⟩)
 have HOK:=Lib.hid hok
 have HGU:=Lib.hid hgu
 have HNZ:=Lib.hid hnz
 have HSUM:=Lib.hid hsum
 have hls:=hl
 obtain ⟨la,lc,rfl,hl⟩:=hl
 have HL:=Lib.hid hl
 have h50:=hok.splits
 have h16:=hok.hi
 have h1:=hok.lo
 have hbd:=hok.bound
 obtain ⟨sch,⟨sa,sc⟩,⟨ma,mc⟩,back⟩:=p
 obtain ⟨sha,shc,rfl⟩:∃ a c,sch=.slice a s.length c:=by obtain ⟨a,c,e,_⟩:=h.sch;exact ⟨a,c,e⟩
 obtain ⟨ba,bc,rfl⟩:∃ a c,back=.slice a m.late.length c:=by obtain ⟨a,c,e,_⟩:=h.back;exact ⟨a,c,e⟩
 rw [hln]
 have HBX:Hid _:=two45_fst w (.slice sha s.length shc) (.int .i64 m.bound) (.slice sa m.splits.length sc) (.slice ma m.marks.length mc) (.bool m.sealed) (.slice ba m.late.length bc) (.slice none 0 0) (.int .i64 0) (.slice none 0 0) (.slice none 0 0) (.bool false) (.slice none 0 0)
 have HRS:Hid _:=two45 w (.slice sha s.length shc) (.int .i64 m.bound) (.slice sa m.splits.length sc) (.slice ma m.marks.length mc) (.bool m.sealed) (.slice ba m.late.length bc) (.slice none 0 0) (.int .i64 0) (.slice none 0 0) (.slice none 0 0) (.bool false) (.slice none 0 0)
 have HW1:Hid _:=two45_below w (.slice sha s.length shc) (.int .i64 m.bound) (.slice sa m.splits.length sc) (.slice ma m.marks.length mc) (.bool m.sealed) (.slice ba m.late.length bc) (.slice none 0 0) (.int .i64 0) (.slice none 0 0) (.slice none 0 0) (.bool false) (.slice none 0 0)
 clear h hok hgu hnz hsum hl
 show Calls Tryz.prog 29 #[.agg #[.slice sha s.length shc,.int .i64 m.bound,.slice sa m.splits.length sc,.slice ma m.marks.length mc,.bool m.sealed,.slice ba m.late.length bc],.int .i64 m.bound,.int .i64 o,.slice la m.splits.length lc] w _
 go_enter Tryz.func29,Tryz.ntmps29
 refine post_hidK fun B HPOST=>?_
 go_wp2_with fail
 generalize (w.alloc (.cells #[.slice sha s.length shc,.int .i64 m.bound,.slice sa m.splits.length sc,.slice ma m.marks.length mc,.bool m.sealed,.slice ba m.late.length bc] 45)).alloc (.cells #[.slice none 0 0,.int .i64 0,.slice none 0 0,.slice none 0 0,.bool false,.slice none 0 0] 45)=w1 at HBX HRS HW1 ⊢
 have HB0:Hid (∀ W,Below w1.heap.size w1 W→W.heap[w.heap.size]? = some (.cells #[.slice sha s.length shc,.int .i64 m.bound,.slice sa m.splits.length sc,.slice ma m.marks.length mc,.bool m.sealed,.slice ba m.late.length bc] 45 (0,0))∧W.heap[w.heap.size+1]? = some (.cells #[.slice none 0 0,.int .i64 0,.slice none 0 0,.slice none 0 0,.bool false,.slice none 0 0] 45 (0,0))∧Below w.heap.size w W):=fun W hb =>
  ⟨(hb.block _ (heap_lt HBX.out)).trans HBX.out,(hb.block _ (heap_lt HRS.out)).trans HRS.out,HW1.out.trans (hb.mono HW1.out.size)⟩
 go_loopw [10] (fun i wr=>∃ k:Nat,k≤m.splits.length∧i=.int .i64 k∧Hid (∀ j (h:j<l.length),j<k→splitB s l[j].name l[j].evs=true)∧Hid (Below w1.heap.size w1 wr)) (fun i _=>m.splits.length - (intOf i).toNat)
 case atStart=>exact ⟨0,by omega,rfl,Lib.hid (by omega),Lib.hid (Below.refl _ _)⟩
 obtain ⟨k,hk,rfl,hok,hb⟩:=hrel
 by_cases hlt:k<m.splits.length
 · as_aux_lemma =>
   have hkn:(k:Int)<(m.splits.length:Int):=by omega
   have hk0:(0:Int)≤(k:Int):=by omega
   have hkl:k<l.length:=by omega
   obtain ⟨b,off,rfl,-,hxx⟩:=HL.out.resolve_left (fun e=>by rw [e] at hkl;simp at hkl)
   obtain ⟨y0,y1,y2,y3⟩:=hxx k hkl
   have hnk:=HNZ.out _ (List.getElem_mem hkl)
   obtain ⟨ea,ec,hev⟩:∃ a c,ev k=.slice a l[k].evs.length c:=by obtain ⟨a,c,e,_⟩:=y0;exact ⟨a,c,e⟩
   rw [hev] at y0 y3
   obtain ⟨x,hx⟩:∃ x,l[k]=x:=⟨_,rfl⟩
   rw [hx] at y0 y1 y2 y3 hnk
   have HX:=Lib.hid hx
   have HC4:Hid (∀ W,Below w1.heap.size w1 W→W.cell? ⟨w.heap.size,0,none⟩=some (.slice sha s.length shc)∧W.cell? ⟨b,off+k * 3,none⟩=some (.string x.src)∧W.cell? ⟨b,off+k * 3+1,none⟩=some (.string x.name)∧W.cell? ⟨b,off+k * 3+2,none⟩=some (.slice ea x.evs.length ec)):=fun W hw=>by
    obtain ⟨z1,z2,z3⟩:=HB0.out W hw
    exact ⟨cells_at z1 0,by rw [z3.cell (p:=⟨b,off+k * 3,none⟩) (cell_lt y1)];exact y1,by rw [z3.cell (p:=⟨b,off+k * 3+1,none⟩) (cell_lt y2)];exact y2,by rw [z3.cell (p:=⟨b,off+k * 3+2,none⟩) (cell_lt y3)];exact y3⟩
   have H51:Hid (∀ W,Below w1.heap.size w1 W→Calls Tryz.prog 51 #[.slice sha s.length shc,.agg #[.string x.src,.string x.name,.slice ea x.evs.length ec]] W fun e w'=>e=.returned (.bool (splitB s x.name x.evs))∧Below W.heap.size W w'):=fun W hw =>
    f51_any HMX.out W _ _ _ _ s x.src x.name x.evs (H.out.sch.below (HB0.out W hw).2.2) (y0.below (HB0.out W hw).2.2) (by omega)
   obtain ⟨sp,hsp⟩:∃ b,splitB s x.name x.evs=b:=⟨_,rfl⟩
   rw [hsp] at H51
   have HSP:=Lib.hid hsp
   clear hx hev hxx hsp y0 y1 y2 y3 hnk
   go_wp2_with fail
   have hbd:Below w1.heap.size w1 wr.drew:=hb.out.trans ((Below.refl _ _).drew.mono hb.out.size)
   refine wp_region_float 6 2 (fun W=>Below w1.heap.size w1 W) mixed (by kernel_rfl) (hbd) ?_
   simp only [List.take_succ_cons,List.take_zero,List.drop_succ_cons,List.drop_zero]
   repeat (
    refine wpFloat_ex (fun K hK=>?_)
    apply Exists.intro
    refine ⟨fun W hW=>?_,?_⟩
    · obtain ⟨k1,k2,k3,k4⟩:=HC4.out W hW
      clear hW
      go_simp
      rfl
    go_simp
    refine hK _ ?_
    clear hK K)
   refine wpFloat_nil ?_
   refine wpChain_step (fun K hK=>?_)
   go_simp
   go_at_call 51
   refine (H51.out _ hbd).mono ?_
   rintro e w2 ⟨rfl,hb2⟩
   have HB2:Hid (Below w1.heap.size w1 w2):=hbd.trans (hb2.mono hbd.size)
   refine hK _ _ rfl (fun _=>HB2.out) ?_
   clear hK K
   refine wpChain_step (fun K hK=>?_)
   go_simp
   refine hK _ _ rfl (fun _=>HB2.out) ?_
   clear hK K
   refine wpChain_nil ?_
   clear hbd
   obtain ⟨z1,z2,z3⟩:=HB0.out w2 HB2.out
   obtain ⟨b10,b11,b12,b13,b14,b15,bf1⟩:=box45_cells z2
   cases sp
   · as_aux_lemma =>
     have hr:restE s m o l=1:=by
      unfold restE
      rw [if_pos]
      rw [List.all_eq_false]
      refine ⟨l[k],List.getElem_mem hkl,?_⟩
      rw [HX.out,HSP.out]
      simp
     have HRE:=Lib.hid hr
     have HZ3:=Lib.hid z3;have HZ2:=Lib.hid z2
     clear hr z1 z3 z2
     go_wp2_with fail
     refine HPOST.out _ _ _ (bodyPost_ret (ret45_2 rfl _ _ (w.heap.size+1) (box45_fill HZ2.out _ _ _ _ _ _) rfl) rfl ?_)
     have hbe:=fill_below (HZ3.out) (Nat.le_succ w.heap.size) (.slice none 0 0) (.int .i64 0) (.slice none 0 0) (.slice none 0 0) (.bool false) (.slice none 0 0)
     exact ⟨hbe,.inl ⟨by rw [HRE.out];decide,by rw [HRE.out];rfl⟩⟩
   · clear z1 z2 z3 b10 b11 b12 b13 b14 b15 bf1
     go_wp2_with fail
     go_roundw
     case rel =>
      refine ⟨k+1,by omega,by go_num,Lib.hid fun j hj hjk=>?_,HB2⟩
      by_cases e:j=k
      · subst e;rw [HX.out];exact HSP.out
      · exact hok.out j hj (by omega)
     case measure=>simp [intOf];omega
 · as_aux_lemma =>
   have hkn:k=m.splits.length:=by omega
   subst hkn
   have hx0:¬ (m.splits.length:Int)<(m.splits.length:Int):=by omega
   have hall:l.all (fun g=>splitB s g.name g.evs)=true:=by
    rw [List.all_eq_true]
    intro x hx
    obtain ⟨i,hi,rfl⟩:=List.mem_iff_getElem.1 hx
    exact hok.out i hi (by omega)
   have HALL:=Lib.hid hall
   have hd0:¬ m.bound<0:=by omega
   have hd1:¬ 1000000000<m.bound:=by omega
   obtain ⟨z1,z2,z3⟩:=HB0.out wr hb.out
   obtain ⟨w1a,hw1a⟩:∃ W:World,W=wr:=⟨_,rfl⟩
   subst hw1a
   by_cases hor:o<1∨16<o
   · as_aux_lemma =>
     have hr:restE s m o l=7:=by
      have hn:newE s m.bound o=7:=by
       unfold newE
       rw [hvs,if_neg (by simp),if_pos (by omega)]
      unfold restE
      rw [if_neg (by rw [hall];simp),hn,if_pos (by decide)]
     have HRE:=Lib.hid hr
     have HZ3:=Lib.hid z3;have HZ2:=Lib.hid z2
     obtain ⟨b10,b11,b12,b13,b14,b15,bf1⟩:=box45_cells z2
     clear hr z1 z3 z2 hall
     by_cases ho1:o<1
     · clear hor
       go_wp2_with fail
       refine HPOST.out _ _ _ (bodyPost_ret (ret45_2 rfl _ _ (w.heap.size+1) (box45_fill HZ2.out _ _ _ _ _ _) rfl) rfl ?_)
       have hbe:=fill_below (HZ3.out) (Nat.le_succ w.heap.size) (.slice none 0 0) (.int .i64 0) (.slice none 0 0) (.slice none 0 0) (.bool false) (.slice none 0 0)
       exact ⟨hbe,.inl ⟨by rw [HRE.out];decide,by rw [HRE.out];rfl⟩⟩
     · have ho2:16<o:=by omega
       clear hor
       go_wp2_with fail
       refine HPOST.out _ _ _ (bodyPost_ret (ret45_2 rfl _ _ (w.heap.size+1) (box45_fill HZ2.out _ _ _ _ _ _) rfl) rfl ?_)
       have hbe:=fill_below (HZ3.out) (Nat.le_succ w.heap.size) (.slice none 0 0) (.int .i64 0) (.slice none 0 0) (.slice none 0 0) (.bool false) (.slice none 0 0)
       exact ⟨hbe,.inl ⟨by rw [HRE.out];decide,by rw [HRE.out];rfl⟩⟩
   · as_aux_lemma =>
     obtain ⟨no,rfl⟩:∃ no:Nat,o=no:=⟨o.toNat,by omega⟩
     have ho1:¬ (no:Int)<1:=by omega
     have ho2:¬ (16:Int)<(no:Int):=by omega
     have hno1:1≤no:=by omega
     have hno2:no≤16:=by omega
     obtain ⟨a0,a1,a2,a3,a4,a5,af⟩:=box45_cells z1
     have HC:=Lib.hid (f87_any w1a (fun b=>D b∧b<w.heap.size) s m ⟨.slice sha s.length shc,(sa,sc),(ma,mc),.slice ba m.late.length bc⟩ (H.out.below z3) HOK.out)
     simp only [refV] at HC
     clear z1 z2 hall hor
     go_wp2_with (go_at_call 87;(with_reducible refine HC.out.mono ?_);rintro e w2 ⟨⟨sch',⟨sa',sc'⟩,⟨ma',mc'⟩,back'⟩,sb,mb,rfl,hro,hs,hmb,hb2⟩
                  simp only [refV]
                  obtain ⟨sha',shc',rfl⟩:∃ a c,sch'=.slice a s.length c:=by obtain ⟨a,c,e,_⟩:=hro.sch;exact ⟨a,c,e⟩
                  obtain ⟨ba',bc',rfl⟩:∃ a c,back'=.slice a m.late.length c:=by obtain ⟨a,c,e,_⟩:=hro.back;exact ⟨a,c,e⟩
                  have HRO:=Lib.hid hro;have HSB:=Lib.hid hs;have HMB:=Lib.hid hmb;have HB2:=Lib.hid hb2
                  obtain ⟨y1,y2,y3⟩:=HB0.out w2 (hb.out.trans (hb2.mono hb.out.size))
                  have hxe2:=cells_at y1 2
                  have hbl:=heap_lt y1
                  clear y1 y2 y3 hro hs hmb hb2)
     have HB1:Hid (∀ W,Below w1a.heap.size w1a W→W.heap[w.heap.size]? = some (.cells #[.slice sha s.length shc,.int .i64 m.bound,.slice sa m.splits.length sc,.slice ma m.marks.length mc,.bool m.sealed,.slice ba m.late.length bc] 45 (0,0))∧W.heap[w.heap.size+1]? = some (.cells #[.slice none 0 0,.int .i64 0,.slice none 0 0,.slice none 0 0,.bool false,.slice none 0 0] 45 (0,0))∧Below w.heap.size w W):=fun W h=>HB0.out W (hb.out.trans (h.mono hb.out.size))
     have hzw:w.heap.size≤w1a.heap.size:=(HB0.out w1a hb.out).2.2.size
     have hz2:=HB2.out.size
     have hsl:∀ b,sb=some b→b<w2.heap.size:=fun b e=>by obtain ⟨_,_,q,_⟩:=HRO.out.spl;exact q.lt_of e
     have hm0:RMid w1a (w2.alloc (.cells #[.slice sha' s.length shc',.int .i64 m.bound,.slice sa' m.splits.length sc',.slice ma' m.marks.length mc',.bool m.sealed,.slice none 0 0] 45)) (fun b=>D b∧b<w.heap.size) s m w2.heap.size (.slice sha' s.length shc') sa' sc' sb (.slice ma' m.marks.length mc') mb m.splits m.marks:=by
      have hk:∀ b,b<w2.heap.size→(w2.alloc (.cells #[.slice sha' s.length shc',.int .i64 m.bound,.slice sa' m.splits.length sc',.slice ma' m.marks.length mc',.bool m.sealed,.slice none 0 0] 45)).heap[b]? = w2.heap[b]? := fun b hb=>Below.heap_alloc _ _ _ hb
      refine ⟨heap_alloc_new _ _,(HRO.out.sch.keep fun b _ hl=>hk b hl).mono fun b hb=>hb.1,?_,HRO.out.mks.keep fun b e=>hk b (HRO.out.mks.lt_of e),fun b hb=>Nat.lt_of_lt_of_le hb.2 hzw,hz2,fun b e=>⟨HSB.out b e,by have:=hsl b e;omega⟩,fun b e=>⟨HMB.out b e,by have:=HRO.out.mks.lt_of e;omega,fun e2=>HRO.out.ne b e2 e⟩,HB2.out.alloc hz2 _⟩
      obtain ⟨ps,e1,e2,e3⟩:=HRO.out.spl.keep (w':=w2.alloc (.cells #[.slice sha' s.length shc',.int .i64 m.bound,.slice sa' m.splits.length sc',.slice ma' m.marks.length mc',.bool m.sealed,.slice none 0 0] 45)) (fun b _ hl=>hk b hl)
      exact ⟨ps,e1,e2,fun p hp=>(e3 p hp).mono fun b hb=>hb.1⟩
     generalize w2.heap.size=ob at hm0 ⊢
     generalize w2.alloc (.cells #[.slice sha' s.length shc',.int .i64 m.bound,.slice sa' m.splits.length sc',.slice ma' m.marks.length mc',.bool m.sealed,.slice none 0 0] 45)=w3 at hm0 ⊢
     rw [← evX_zero l m.splits] at hm0
     have HM0:=Lib.hid hm0
     clear hm0 hsl hz2 hxe2 hbl HSB HMB a0 a1 a2 a3 a4 a5 af
     have hxl:∀ k,(m.splits.map (evX l k)).length=m.splits.length:=fun k=>by simp
     have HXL:=Lib.hid hxl
     clear hxl
     go_loopw [12] (fun i wr=>∃ k:Nat,k≤m.splits.length∧i=.int .i64 k∧Hid (∀ j (h:j<l.length),j<k→∀ q (hq:q<m.splits.length),m.splits[q].name=l[j].name→bigX l m.splits[q]=false)∧Hid (RMid w1a wr (fun b=>D b∧b<w.heap.size) s m ob (.slice sha' s.length shc') sa' sc' sb (.slice ma' m.marks.length mc') mb (m.splits.map (evX l k)) m.marks)) (fun i _=>m.splits.length - (intOf i).toNat)
     case atStart=>exact ⟨0,by omega,rfl,Lib.hid (by omega),HM0⟩
     obtain ⟨k,hk,rfl,HNB,HM⟩:=hrel
     by_cases hlt:k<m.splits.length
     · as_aux_lemma =>
       have hkn:(k:Int)<(m.splits.length:Int):=by omega
       have hk0:(0:Int)≤(k:Int):=by omega
       have hkl:k<l.length:=by omega
       obtain ⟨b,off,rfl,hDb,hxx⟩:=HL.out.resolve_left (fun e=>by rw [e] at hkl;simp at hkl)
       obtain ⟨y0,y1,y2,y3⟩:=hxx k hkl
       obtain ⟨ea,ec,hev⟩:∃ a c,ev k=.slice a l[k].evs.length c:=by obtain ⟨a,c,e,_⟩:=y0;exact ⟨a,c,e⟩
       rw [hev] at y0 y3
       obtain ⟨kk,hkk,hnm⟩:=hpern _ (List.getElem_mem hkl)
       have hfi:findI m.splits l[k].name=(kk:Int):=idxI_hit hkk (eqS_true.mpr hnm) fun j hj hjk=>by
        cases hq:eqS m.splits[j].name l[k].name with
        | false=>rfl
        | true=>have:=hun j kk hj hkk ((eqS_true.mp hq).trans hnm.symm);omega
       have hgo:gOf l m.splits[kk].name=l[k]:=by rw [hnm];exact gOf_at HGU.out hkl
       have hft:=hfit _ (List.getElem_mem hkk)
       rw [hgo] at hft
       have hnel:∀ q (hq:q<l.length),q<k→eqS l[q].name l[k].name=false:=fun q hq hqk=>by
        cases hq2:eqS l[q].name l[k].name with
        | false=>rfl
        | true=>have:=HGU.out q k hq hkl (eqS_true.mp hq2);omega
       have hbig:bigX l m.splits[kk]=(m.splits[kk].done && !(l[k].evs.length == m.splits[kk].read)):=by unfold bigX;rw [hgo]
       have HXX:Hid (∀ W,Below w.heap.size w W→∀ q (hq:q<l.length),W.cell? ⟨b,off+q * 3+1,none⟩=some (.string l[q].name)):=fun W hw q hq=>by
        have h:=(hxx q hq).2.2.1
        rw [hw.cell (p:=⟨b,off+q * 3+1,none⟩) (cell_lt h)]
        exact h
       obtain ⟨sb1,so1,e1,e2,hsa,-,-,s0,s1,s2,s3,s4,s5⟩:=H.out.spl.at hkk
       dsimp only at hsa
       subst hsa
       obtain ⟨x,hx⟩:∃ x,l[k]=x:=⟨_,rfl⟩
       rw [hx] at y0 y3 hfi hft hbig hnm
       have HX:=Lib.hid hx;have HFI:=Lib.hid hfi;have HNEL:=Lib.hid hnel;have HBIG:=Lib.hid hbig;have HY0:=Lib.hid y0;have HV3:=Lib.hid y3;have HNM:=Lib.hid hnm
       have HC15:Hid (∀ W,Below wr.heap.size wr W→W.cell? ⟨w.heap.size,0,none⟩=some (.slice sha s.length shc)∧W.cell? ⟨w.heap.size,1,none⟩=some (.int .i64 m.bound)∧W.cell? ⟨w.heap.size,2,none⟩=some (.slice (some ⟨sb1,so1,none⟩) m.splits.length sc)∧W.cell? ⟨w.heap.size,3,none⟩=some (.slice ma m.marks.length mc)∧W.cell? ⟨w.heap.size,4,none⟩=some (.bool m.sealed)∧W.cell? ⟨w.heap.size,5,none⟩=some (.slice ba m.late.length bc)∧W.cell? ⟨b,off+k * 3+1,none⟩=some (.string x.name)∧Below w.heap.size w W):=fun W hw=>by
        obtain ⟨z1,z2,z3⟩:=HB1.out W (HM.out.below.trans (hw.mono HM.out.below.size))
        have h:=HXX.out W z3 k hkl
        rw [HX.out] at h
        exact ⟨cells_at z1 0,cells_at z1 1,cells_at z1 2,cells_at z1 3,cells_at z1 4,cells_at z1 5,h,z3⟩
       have HC16:Hid (∀ W,Below wr.heap.size wr W→W.cell? ⟨w.heap.size,2,none⟩=some (.slice (some ⟨sb1,so1,none⟩) m.splits.length sc)∧W.cell? ⟨b,off+k * 3+2,none⟩=some (.slice ea x.evs.length ec)∧W.cell? ⟨sb1,so1+kk * 6,none⟩=some (.string m.splits[kk].name)∧W.cell? ⟨sb1,so1+kk * 6+1,none⟩=some (.int .i64 m.splits[kk].owner)∧W.cell? ⟨sb1,so1+kk * 6+2,none⟩=some (.slice e1 m.splits[kk].evs.length e2)∧W.cell? ⟨sb1,so1+kk * 6+3,none⟩=some (.int .i64 m.splits[kk].read)∧W.cell? ⟨sb1,so1+kk * 6+4,none⟩=some (.int .i64 m.splits[kk].gauge)∧W.cell? ⟨sb1,so1+kk * 6+5,none⟩=some (.bool m.splits[kk].sealed)):=fun W hw=>by
        obtain ⟨-,-,z2,-,-,-,-,z3⟩:=HC15.out W hw
        have kc:∀ {c i v},w.cell? ⟨c,i,none⟩=some v→W.cell? ⟨c,i,none⟩=some v:=fun {c i v} h=>by rw [z3.cell (p:=⟨c,i,none⟩) (cell_lt h)];exact h
        exact ⟨z2,kc y3,kc s0,kc s1,kc s2,kc s3,kc s4,kc s5⟩
       have H88:Hid (∀ W,Below wr.heap.size wr W→Calls Tryz.prog 88 #[.agg #[.slice sha s.length shc,.int .i64 m.bound,.slice (some ⟨sb1,so1,none⟩) m.splits.length sc,.slice ma m.marks.length mc,.bool m.sealed,.slice ba m.late.length bc],.string x.name] W fun e w'=>e=.returned (.int .i64 kk)∧Below W.heap.size W w'):=fun W hw=>by
        have h:=f88_any W _ s m _ x.name (H.out.below (HC15.out W hw).2.2.2.2.2.2.2) HOK.out
        rw [HFI.out] at h
        exact h
       clear y0 y1 y2 y3 s0 s1 s2 s3 s4 s5 hev hxx hx hfi hnel hbig hgo hnm
       go_wp2_with fail
       have hbd:Below wr.heap.size wr wr.drew:=(Below.refl _ _).drew
       refine wp_region_float 6 1 (fun W=>Below wr.heap.size wr W) mixed (by kernel_rfl) (hbd) ?_
       simp only [List.take_succ_cons,List.take_zero,List.drop_succ_cons,List.drop_zero]
       repeat (
        refine wpFloat_ex (fun K hK=>?_)
        apply Exists.intro
        refine ⟨fun W hW=>?_,?_⟩
        · obtain ⟨k1,k2,k3,k4,k5,k6,k7,-⟩:=HC15.out W hW
          clear hW
          go_simp
          rfl
        go_simp
        refine hK _ ?_
        clear hK K)
       refine wpFloat_nil ?_
       refine wpChain_step (fun K hK=>?_)
       go_simp
       go_at_call 88
       refine (H88.out _ hbd).mono ?_
       rintro e w4 ⟨rfl,hb4⟩
       have HB4:Hid (Below wr.heap.size wr w4):=hbd.trans (hb4.mono hbd.size)
       refine hK _ _ rfl (fun _=>HB4.out) ?_
       clear hK K
       refine wpChain_step (fun K hK=>?_)
       go_simp
       refine hK _ _ rfl (fun h=>by omega) ?_
       clear hK K
       refine wpChain_nil ?_
       clear hbd
       have hkk0:¬ (kk:Int)<0:=by omega
       have hkk1:(kk:Int)<(m.splits.length:Int):=by omega
       have hkk2:(0:Int)≤(kk:Int):=by omega
       have hlr:¬ (x.evs.length:Int)<(m.splits[kk].read:Int):=by omega
       have H89:=Lib.hid (fun W=>f89_any m.splits[kk] e1 e2 W)
       obtain ⟨y,hy⟩:∃ y,m.splits[kk]=y:=⟨_,rfl⟩
       rw [hy] at HC16 H89 HBIG hlr hft
       have HY:=Lib.hid hy
       clear hy
       obtain ⟨dn,hdn⟩:∃ b,y.done=b:=⟨_,rfl⟩
       rw [hdn] at H89 HBIG
       clear hdn
       go_wp2_with fail
       have hC:Below wr.heap.size wr w4.drew:=HB4.out.trans ((Below.refl _ _).drew.mono HB4.out.size)
       by_cases hB:dn=true∧y.read<x.evs.length
       · as_aux_lemma =>
         obtain ⟨rfl,hgt⟩:=hB
         have hgi:(y.read:Int)<(x.evs.length:Int):=by omega
         have hr:restE s m no l=9:=by
          have hn:newE s m.bound no=0:=by
           unfold newE
           rw [hvs,if_neg (by simp),if_neg (by omega)]
          have hbg:bigB m l=true:=by
           unfold bigB
           rw [List.any_eq_true]
           refine ⟨m.splits[kk],List.getElem_mem hkk,?_⟩
           rw [HY.out,HBIG.out]
           simp
           omega
          unfold restE
          rw [if_neg (by rw [HALL.out];simp),hn,if_neg (by simp),if_pos hbg]
         have HRE:=Lib.hid hr
         clear hr hgt
         refine wp_region_ord [0,1,2,3,4,5,6,7,8,9,10,11,12,13,14,15,16,17,18,19,20,21,22,23,24,25,26,27,28,29,30,31,32,33,34,35,36,37,38,39] (fun W=>Below wr.heap.size wr W) mixed (by kernel_rfl) (fun hg=>?_)
         revert hC
         generalize w4.drew=wd
         intro hC
         iterate 3 (refine ord_rd hg hC (fun K hK=>?_);apply Exists.intro;refine ⟨fun W hW=>?_,?_⟩;(· go_simp;rfl);go_simp;refine hK _ ?_;clear hK K)
         iterate 13 (refine ord_rd hg hC (fun K hK=>?_);apply Exists.intro;refine ⟨fun W hW=>?_,?_⟩;(· obtain ⟨v0,v1,v2,v3,v4,v5,v6,v7⟩:=HC16.out W hW;go_simp;rfl);go_simp;refine hK _ ?_;clear hK K)
         iterate 2 (refine ord_read hg rfl (by kernel_rfl) (by first | rfl | (simp [Region.wanted,yielded,hft];done)) hC (fun K hK=>?_);apply Exists.intro;refine ⟨fun W hW=>?_,?_⟩;(· go_simp;rfl);go_simp;refine hK _ ?_;clear hK K)
         iterate 5 (refine ord_read hg rfl (by kernel_rfl) (by first | rfl | (simp [Region.wanted,yielded,hft];done)) hC (fun K hK=>?_);apply Exists.intro;refine ⟨fun W hW=>?_,?_⟩;(· obtain ⟨v0,v1,v2,v3,v4,v5,v6,v7⟩:=HC16.out W hW;go_simp;rfl);go_simp;refine hK _ ?_;clear hK K)
         refine ord_one (by kernel_rfl) rfl (by first | rfl | (simp [Region.wanted,yielded,hft];done)) (fun K hK=>?_)
         go_simp
         go_at_call 89
         refine (H89.out _).mono ?_
         rintro e w5 ⟨rfl,hb5⟩
         have hC5:Below wr.heap.size wr w5:=hC.trans (hb5.mono hC.size)
         refine hK _ _ rfl hC5 ?_
         clear hK K hb5 hC
         have hC:=hC5
         clear hC5
         (refine ord_read hg rfl (by kernel_rfl) (by first | rfl | (simp [Region.wanted,yielded,hft];done)) hC (fun K hK=>?_);apply Exists.intro;refine ⟨fun W hW=>?_,?_⟩;(· go_simp;rfl);go_simp;refine hK _ ?_;clear hK K)
         iterate 13 (refine ord_rd hg hC (fun K hK=>?_);apply Exists.intro;refine ⟨fun W hW=>?_,?_⟩;(· obtain ⟨v0,v1,v2,v3,v4,v5,v6,v7⟩:=HC16.out W hW;go_simp;rfl);go_simp;refine hK _ ?_;clear hK K)
         iterate 2 (refine ord_read hg rfl (by kernel_rfl) (by first | rfl | (simp [Region.wanted,yielded,hft];done)) hC (fun K hK=>?_);apply Exists.intro;refine ⟨fun W hW=>?_,?_⟩;(· go_simp;rfl);go_simp;refine hK _ ?_;clear hK K)
         refine ord_end (by kernel_rfl) ?_
         have hd1:decide (x.evs.length<y.read)=false:=by simp;omega
         have hd2:decide ((kk:Int)<0)=false:=by simp
         simp only [hd1,hd2,Bool.or_false,Bool.false_or]
         clear hd1 hd2
         have hwb:=HM.out.below.trans (hC.mono HM.out.below.size)
         obtain ⟨z1,z2,z3⟩:=HB1.out _ hwb
         obtain ⟨b10,b11,b12,b13,b14,b15,bf1⟩:=box45_cells z2
         have HZ3:=Lib.hid z3;have HZ2:=Lib.hid z2
         clear z1 z2 z3 hC hwb
         go_wp2_with fail
         refine HPOST.out _ _ _ (bodyPost_ret (ret45_2 rfl _ _ (w.heap.size+1) (box45_fill HZ2.out _ _ _ _ _ _) rfl) rfl ?_)
         have hbe:=fill_below (HZ3.out) (Nat.le_succ w.heap.size) (.slice none 0 0) (.int .i64 0) (.slice none 0 0) (.slice none 0 0) (.bool false) (.slice none 0 0)
         exact ⟨hbe,.inl ⟨by rw [HRE.out];decide,by rw [HRE.out];rfl⟩⟩
       · as_aux_lemma =>
         have hnb:bigX l m.splits[kk]=false:=by
          rw [HY.out,HBIG.out]
          cases dn with
          | false=>rfl
          | true=>simp;have:¬ y.read<x.evs.length:=fun h=>hB ⟨rfl,h⟩;omega
         have HNB2:=Lib.hid hnb
         have hgi:dn=true→¬ (y.read:Int)<(x.evs.length:Int):=fun e h=>hB ⟨e,by omega⟩
         clear hnb hB
         cases dn
         case' false =>
          clear hgi
          refine wp_region_ord [0,1,2,3,4,5,6,7,8,9,10,11,12,13,14,15,16,17,18,19,20,21,22,23,24,25,26,27,28,29,30,31,32,33,34,35,36,37,38,39] (fun W=>Below wr.heap.size wr W) mixed (by kernel_rfl) (fun hg=>?_)
          revert hC
          generalize w4.drew=wd
          intro hC
          iterate 3 (refine ord_rd hg hC (fun K hK=>?_);apply Exists.intro;refine ⟨fun W hW=>?_,?_⟩;(· go_simp;rfl);go_simp;refine hK _ ?_;clear hK K)
          iterate 13 (refine ord_rd hg hC (fun K hK=>?_);apply Exists.intro;refine ⟨fun W hW=>?_,?_⟩;(· obtain ⟨v0,v1,v2,v3,v4,v5,v6,v7⟩:=HC16.out W hW;go_simp;rfl);go_simp;refine hK _ ?_;clear hK K)
          iterate 2 (refine ord_read hg rfl (by kernel_rfl) (by first | rfl | (simp [Region.wanted,yielded,hft];done)) hC (fun K hK=>?_);apply Exists.intro;refine ⟨fun W hW=>?_,?_⟩;(· go_simp;rfl);go_simp;refine hK _ ?_;clear hK K)
          iterate 5 (refine ord_read hg rfl (by kernel_rfl) (by first | rfl | (simp [Region.wanted,yielded,hft];done)) hC (fun K hK=>?_);apply Exists.intro;refine ⟨fun W hW=>?_,?_⟩;(· obtain ⟨v0,v1,v2,v3,v4,v5,v6,v7⟩:=HC16.out W hW;go_simp;rfl);go_simp;refine hK _ ?_;clear hK K)
          refine ord_one (by kernel_rfl) rfl (by first | rfl | (simp [Region.wanted,yielded,hft];done)) (fun K hK=>?_)
          go_simp
          go_at_call 89
          refine (H89.out _).mono ?_
          rintro e w5 ⟨rfl,hb5⟩
          have hC5:Below wr.heap.size wr w5:=hC.trans (hb5.mono hC.size)
          refine hK _ _ rfl hC5 ?_
          clear hK K hb5 hC
          have hC:=hC5
          clear hC5
          (refine ord_read hg rfl (by kernel_rfl) (by first | rfl | (simp [Region.wanted,yielded,hft];done)) hC (fun K hK=>?_);apply Exists.intro;refine ⟨fun W hW=>?_,?_⟩;(· go_simp;rfl);go_simp;refine hK _ ?_;clear hK K)
          iterate 13 (refine ord_pass hg rfl (by kernel_rfl) (by simp [Region.wanted,yielded]) hC (fun K hK=>?_);go_simp;refine hK _ ?_;clear hK K)
          iterate 2 (refine ord_read hg rfl (by kernel_rfl) (by first | rfl | (simp [Region.wanted,yielded,hft];done)) hC (fun K hK=>?_);apply Exists.intro;refine ⟨fun W hW=>?_,?_⟩;(· go_simp;rfl);go_simp;refine hK _ ?_;clear hK K)
          refine ord_end (by kernel_rfl) ?_
          have hd1:decide (x.evs.length<y.read)=false:=by simp;omega
          have hd2:decide ((kk:Int)<0)=false:=by simp
          simp only [hd1,hd2,Bool.or_false,Bool.false_or]
          clear hd1 hd2
         case' true =>
          have hgi:=hgi rfl
          refine wp_region_ord [0,1,2,3,4,5,6,7,8,9,10,11,12,13,14,15,16,17,18,19,20,21,22,23,24,25,26,27,28,29,30,31,32,33,34,35,36,37,38,39] (fun W=>Below wr.heap.size wr W) mixed (by kernel_rfl) (fun hg=>?_)
          revert hC
          generalize w4.drew=wd
          intro hC
          iterate 3 (refine ord_rd hg hC (fun K hK=>?_);apply Exists.intro;refine ⟨fun W hW=>?_,?_⟩;(· go_simp;rfl);go_simp;refine hK _ ?_;clear hK K)
          iterate 13 (refine ord_rd hg hC (fun K hK=>?_);apply Exists.intro;refine ⟨fun W hW=>?_,?_⟩;(· obtain ⟨v0,v1,v2,v3,v4,v5,v6,v7⟩:=HC16.out W hW;go_simp;rfl);go_simp;refine hK _ ?_;clear hK K)
          iterate 2 (refine ord_read hg rfl (by kernel_rfl) (by first | rfl | (simp [Region.wanted,yielded,hft];done)) hC (fun K hK=>?_);apply Exists.intro;refine ⟨fun W hW=>?_,?_⟩;(· go_simp;rfl);go_simp;refine hK _ ?_;clear hK K)
          iterate 5 (refine ord_read hg rfl (by kernel_rfl) (by first | rfl | (simp [Region.wanted,yielded,hft];done)) hC (fun K hK=>?_);apply Exists.intro;refine ⟨fun W hW=>?_,?_⟩;(· obtain ⟨v0,v1,v2,v3,v4,v5,v6,v7⟩:=HC16.out W hW;go_simp;rfl);go_simp;refine hK _ ?_;clear hK K)
          refine ord_one (by kernel_rfl) rfl (by first | rfl | (simp [Region.wanted,yielded,hft];done)) (fun K hK=>?_)
          go_simp
          go_at_call 89
          refine (H89.out _).mono ?_
          rintro e w5 ⟨rfl,hb5⟩
          have hC5:Below wr.heap.size wr w5:=hC.trans (hb5.mono hC.size)
          refine hK _ _ rfl hC5 ?_
          clear hK K hb5 hC
          have hC:=hC5
          clear hC5
          (refine ord_read hg rfl (by kernel_rfl) (by first | rfl | (simp [Region.wanted,yielded,hft];done)) hC (fun K hK=>?_);apply Exists.intro;refine ⟨fun W hW=>?_,?_⟩;(· go_simp;rfl);go_simp;refine hK _ ?_;clear hK K)
          iterate 13 (refine ord_rd hg hC (fun K hK=>?_);apply Exists.intro;refine ⟨fun W hW=>?_,?_⟩;(· obtain ⟨v0,v1,v2,v3,v4,v5,v6,v7⟩:=HC16.out W hW;go_simp;rfl);go_simp;refine hK _ ?_;clear hK K)
          iterate 2 (refine ord_read hg rfl (by kernel_rfl) (by first | rfl | (simp [Region.wanted,yielded,hft];done)) hC (fun K hK=>?_);apply Exists.intro;refine ⟨fun W hW=>?_,?_⟩;(· go_simp;rfl);go_simp;refine hK _ ?_;clear hK K)
          refine ord_end (by kernel_rfl) ?_
          have hd1:decide (x.evs.length<y.read)=false:=by simp;omega
          have hd2:decide ((kk:Int)<0)=false:=by simp
          have hd3:decide (y.read<x.evs.length)=false:=by simp;omega
          simp only [hd1,hd2,hd3,Bool.or_false,Bool.false_or]
          clear hd1 hd2 hd3 hgi
         all_goals
          have HM5:=Lib.hid (HM.out.keep hC)
          clear hC
          go_wp2_with fail
          clear hft hlr
          obtain ⟨w4a,hw4a⟩:∃ W:World,W=wr:=⟨_,rfl⟩
          subst hw4a
          go_loopw [14] (fun i wq=>∃ q:Nat,q≤k∧i=.int .i64 q∧Hid (Below w5.heap.size w5 wq)) (fun i _=>k - (intOf i).toNat)
          case atStart=>exact ⟨0,by omega,rfl,Lib.hid (Below.refl _ _)⟩
          obtain ⟨q,hq,rfl,hbq⟩:=hrel
          have HM6:=Lib.hid (HM5.out.keep hbq.out)
          have HXN:Hid (∀ W,Below wr.heap.size wr W→∀ q (hq:q<l.length),W.cell? ⟨b,off+q * 3+1,none⟩=some (.string l[q].name)):=fun W hw=>HXX.out W (HB1.out W (HM6.out.below.trans (hw.mono HM6.out.below.size))).2.2
          by_cases hlq:q<k
          · as_aux_lemma =>
            have hqk:(q:Int)<(k:Int):=by omega
            have hq0:(0:Int)≤(q:Int):=by omega
            have hqn:(q:Int)<(m.splits.length:Int):=by omega
            have hql:q<l.length:=by omega
            have hne:(l[q].name.toList == x.name.toList)=false:=by rw [← HX.out];exact HNEL.out q hql hlq
            have HC21:Hid (∀ W,Below wr.heap.size wr W→W.cell? ⟨b,off+q * 3+1,none⟩=some (.string l[q].name)∧W.cell? ⟨b,off+k * 3+1,none⟩=some (.string x.name)):=fun W hw=>⟨HXN.out W hw q hql,by rw [← HX.out];exact HXN.out W hw k hkl⟩
            generalize l[q].name=nq at hne HC21
            go_wp2_with fail
            refine wp_region_float 11 0 (fun W=>Below wr.heap.size wr W) mixed (by kernel_rfl) ((Below.refl _ _).drew) ?_
            simp only [List.take_succ_cons,List.take_zero,List.drop_succ_cons,List.drop_zero]
            repeat (
             refine wpFloat_ex (fun K hK=>?_)
             apply Exists.intro
             refine ⟨fun W hW=>?_,?_⟩
             · obtain ⟨k1,k2⟩:=HC21.out W hW
               clear hW
               go_simp
               rfl
             go_simp
             refine hK _ ?_
             clear hK K)
            refine wpFloat_nil ?_
            refine wpChain_nil ?_
            have HBQ:Hid (Below w5.heap.size w5 wr.drew):=hbq.out.trans ((Below.refl _ _).drew.mono hbq.out.size)
            go_wp2_with fail
            go_roundw
            case rel=>exact ⟨q+1,by omega,by go_num,HBQ⟩
            case measure=>simp [intOf];omega
          · as_aux_lemma =>
            have hqe:q=k:=by omega
            subst hqe
            have hx3:¬ (q:Int)<(q:Int):=by omega
            have hml:=HXL.out q
            have hms:=HM6.out.spl
            have hmo:=HM6.out.out
            rw [hml] at hmo
            obtain ⟨ps,hps,hpo,hpr⟩:=hms
            obtain ⟨g,o,rfl⟩:=hpo.some_of (by rw [hml];omega)
            have hpf:=hpo.frozen
            have hsc:=hpo.room
            obtain ⟨ov,-,wco⟩:=HM6.out.spl.evAt (k:=kk) (by rw [hml];exact hkk)
            have wfo:wr.frozen? ⟨g,o+kk * 6+2,none⟩=false:=by rw [Nat.add_assoc];exact hpf _
            have HO2:Hid (∀ W,Below wr.heap.size wr W→W.cell? ⟨ob,2,none⟩=some (.slice (some ⟨g,o,none⟩) m.splits.length sc')∧W.cell? ⟨b,off+q * 3+2,none⟩=some (.slice ea x.evs.length ec)):=fun W hw=>by
             have hbw:=(HB1.out W (HM6.out.below.trans (hw.mono HM6.out.below.size))).2.2
             have h:=HV3.out
             exact ⟨cells_at ((hw.block _ (heap_lt hmo)).trans hmo) 2,by rw [hbw.cell (p:=⟨b,off+q * 3+2,none⟩) (cell_lt h)];exact h⟩
            clear hps hpo hpr hpf hmo hml
            go_wp2_with fail
            refine wp_region_float 8 0 (fun W=>Below wr.heap.size wr W) mixed (by kernel_rfl) ((Below.refl _ _).drew) ?_
            simp only [List.take_succ_cons,List.take_zero,List.drop_succ_cons,List.drop_zero]
            repeat (
             refine wpFloat_ex (fun K hK=>?_)
             apply Exists.intro
             refine ⟨fun W hW=>?_,?_⟩
             · obtain ⟨k1,k2⟩:=HO2.out W hW
               clear hW
               go_simp
               rfl
             go_simp
             refine hK _ ?_
             clear hK K)
            refine wpFloat_nil ?_
            iterate 3 (
             refine wpChain_step (fun K hK=>?_)
             go_simp
             refine hK _ _ rfl (fun h=>by omega) ?_
             clear hK K)
            refine wpChain_nil ?_
            have hge:EvtsAt wr (fun b=>D b∧b<w.heap.size) (.slice ea x.evs.length ec) x.evs:=(HY0.out.imp (D':=fun b=>D b∧b<w.heap.size) fun b hb hd=>⟨hd,hb⟩).below (HB1.out _ HM6.out.below).2.2
            have hnw:=(HM6.out.setEv (k:=kk) (by rw [HXL.out];exact hkk) hge).keep ((Below.refl _ _).drew)
            have hnme:m.splits[kk].name=l[q].name:=by rw [HX.out];exact HNM.out
            rw [← HX.out,evX_set HGU.out hun hkl hkk hnme] at hnw
            rw [HX.out] at hnw
            have HNW:=Lib.hid hnw
            have HNB3:Hid (∀ j (h:j<l.length),j<q+1→∀ q (hq:q<m.splits.length),m.splits[q].name=l[j].name→bigX l m.splits[q]=false):=Lib.hid fun j hj hjq q2 hq2 he=>by
             by_cases e:j=q
             · subst e
               have:=hun q2 kk hq2 hkk (he.trans hnme.symm)
               subst this
               exact HNB2.out
             · exact HNB.out j hj (by omega) q2 hq2 he
            clear hnw hge hnme
            generalize (wr.setCell ⟨g,o+kk * 6+2,none⟩ (.slice ea x.evs.length ec)).drew=w9 at HNW ⊢
            go_wp2_with fail
            go_roundw
            case rel=>exact ⟨q+1,by omega,by go_num,HNB3,HNW⟩
            case measure=>simp [intOf];omega
     · as_aux_lemma =>
       have hkn:k=m.splits.length:=by omega
       subst hkn
       have hx2:¬ (m.splits.length:Int)<(m.splits.length:Int):=by omega
       have hbg:bigB m l=false:=by
        unfold bigB
        rw [List.any_eq_false]
        intro x hx
        obtain ⟨q,hq,rfl⟩:=List.mem_iff_getElem.1 hx
        obtain ⟨j,hj,e⟩:=hperm _ hx
        rw [HNB.out j hj (by omega) q hq e.symm]
        simp
       have hm2:=HM.out
       have hae:=evX_all (l:=l) hperm
       rw [hln] at hae
       rw [hae] at hm2
       have HM2:=Lib.hid hm2
       have hsum:allN (m.splits.map (evF l))=sumG l m.splits.length:=by
        rw [← hln,← hgv.sum hun]
        unfold allN
        rw [List.map_map]
        rfl
       have hml:(m.splits.map (evF l)).length=m.splits.length:=by simp
       have hso:=hm2.out
       rw [hml] at hso
       obtain ⟨c0,c1,c2,c3,c4,c5,cf⟩:=box45_cells hso
       have hS1:=HSUM.out
       rw [hln] at hS1
       have h90:=f90_big wr _ s _ _ hm2.ref (by rw [hml];exact h50) (by show allN (m.splits.map (evF l))≤1000;omega)
       simp only [refV,hml,hsum] at h90
       have H90:=Lib.hid h90
       have HRE4:Hid (restE s m no l=if 400<sumG l m.splits.length then 4 else 0):=by
        have hn:newE s m.bound no=0:=by
         unfold newE
         rw [hvs,if_neg (by simp),if_neg (by omega)]
        show restE s m no l=_
        unfold restE
        rw [if_neg (by rw [HALL.out];simp),hn,if_neg (by simp),if_neg (by rw [hbg];simp),hln]
       have HK10:Hid (∀ W,Below wr.heap.size wr W→W.heap[w.heap.size]? = some (.cells #[.slice sha s.length shc,.int .i64 m.bound,.slice sa m.splits.length sc,.slice ma m.marks.length mc,.bool m.sealed,.slice ba m.late.length bc] 45 (0,0))∧W.heap[w.heap.size+1]? = some (.cells #[.slice none 0 0,.int .i64 0,.slice none 0 0,.slice none 0 0,.bool false,.slice none 0 0] 45 (0,0))∧Below w.heap.size w W∧RMid w1a W (fun b=>D b∧b<w.heap.size) s m ob (.slice sha' s.length shc') sa' sc' sb (.slice ma' m.marks.length mc') mb (m.splits.map (evF l)) m.marks):=fun W hw=>by
        obtain ⟨z1,z2,z3⟩:=HB1.out W (HM.out.below.trans (hw.mono HM.out.below.size))
        exact ⟨z1,z2,z3,HM2.out.keep hw⟩
       clear hbg hm2 hae hsum hso h90
       by_cases h4:400<sumG l m.splits.length
       · as_aux_lemma =>
         have h4i:(400:Int)<(sumG l m.splits.length:Int):=by omega
         have hr:restE s m no l=4:=by rw [HRE4.out,if_pos h4]
         have HRE:=Lib.hid hr
         clear hr h4
         go_wp2_with (go_at_call 90;refine H90.out.mono ?_;rintro e w10 ⟨rfl,hb10⟩;obtain ⟨-,z2,z3,-⟩:=HK10.out w10 hb10;obtain ⟨b10,b11,b12,b13,b14,b15,bf1⟩:=box45_cells z2;have HZ2:=Lib.hid z2;have HZ3:=Lib.hid z3;clear z2 z3 hb10)
         refine HPOST.out _ _ _ (bodyPost_ret (ret45_2 rfl _ _ (w.heap.size+1) (box45_fill HZ2.out _ _ _ _ _ _) rfl) rfl ?_)
         have hbe:=fill_below (HZ3.out) (Nat.le_succ w.heap.size) (.slice none 0 0) (.int .i64 0) (.slice none 0 0) (.slice none 0 0) (.bool false) (.slice none 0 0)
         exact ⟨hbe,.inl ⟨by rw [HRE.out];decide,by rw [HRE.out];rfl⟩⟩
       · as_aux_lemma =>
         have h4i:¬ (400:Int)<(sumG l m.splits.length:Int):=by omega
         have hr:restE s m no l=0:=by rw [HRE4.out,if_neg h4]
         have HRE:=Lib.hid hr
         clear hr h4
         by_cases hse:no=m.marks.length
         · as_aux_lemma =>
           have hsi:((no:Int) == (m.marks.length:Int))=true:=by simp;omega
           have HSE:=Lib.hid hse
           clear hse
           go_wp2_with (go_at_call 90;refine H90.out.mono ?_;rintro e w10 ⟨rfl,hb10⟩;obtain ⟨z1,z2,z3,z4⟩:=HK10.out w10 hb10;obtain ⟨b10,b11,b12,b13,b14,b15,bf1⟩:=box45_cells z2;obtain ⟨d10,d11,d12,d13,d14,d15,df1⟩:=box45_cells z1;have hso:=z4.out;rw [hml] at hso;obtain ⟨g10,g11,g12,g13,g14,g15,gf1⟩:=box45_cells hso;have HZ2:=Lib.hid z2;have HZ3:=Lib.hid z3;have HZ4:=Lib.hid z4;clear z1 z2 z3 z4 hb10 hso)
           refine HPOST.out _ _ _ (bodyPost_ret (ret45_2 rfl _ _ (w.heap.size+1) (box45_fill HZ2.out _ _ _ _ _ _) rfl) rfl ?_)
           have hbe:=fill_below HZ3.out (Nat.le_succ w.heap.size) (.slice sha' s.length shc') (.int .i64 m.bound) (.slice sa' m.splits.length sc') (.slice ma' m.marks.length mc') (.bool m.sealed) (.slice none 0 0)
           have hz10:=HZ4.out.below.size
           have hz11:w.heap.size+2≤w1a.heap.size:=by have:=heap_lt (HB0.out w1a hb.out).2.1;omega
           refine ⟨hbe,.inr ⟨HRE.out,no,rfl,⟨.slice sha' s.length shc',(sa',sc'),(ma',mc'),.slice none 0 0⟩,?_,?_⟩⟩
           · rw [HSE.out,restM_same]
             simp only [refV,hml]
             rfl
           · rw [HSE.out,restM_same]
             refine (HZ4.out.ref.keep fun b hb hl=>fill_ne ?_ _ _ _ _ _ _).mono fun b hb=>?_
             · rcases hb with hb | hb <;> omega
             · rcases hb with hb | hb
               · exact .inl hb.1
               · exact .inr (by omega)
         · as_aux_lemma =>
           have hsi:((no:Int) == (m.marks.length:Int))=false:=by simp;omega
           obtain ⟨mg,mo,hma,-,-⟩:=H.out.mks.at (k:=0) (by exact h1)
           dsimp only at hma
           subst hma
           have HMC:Hid (∀ W,Below w1a.heap.size w1a W→∀ i (h:i<m.marks.length),W.cell? ⟨mg,mo+i,none⟩=some (.int .i64 m.marks[i])):=fun W hw i hi=>by
            obtain ⟨b',o',e,_,hc⟩:=H.out.mks.at hi
            injection e with e
            injection e with e1 e2
            subst e1 e2
            rw [(HB1.out W hw).2.2.cell (p:=⟨mg,mo+i,none⟩) (cell_lt hc)]
            exact hc
           obtain ⟨Y0,hY0⟩:∃ y,m.marks[0]'(by omega)=y:=⟨_,rfl⟩
           have hmk1:minK m.marks 1=Y0:=by
            show min (m.marks.getD 0 0) (m.marks.getD 0 0)=Y0
            rw [← hY0]
            simp [List.getD,List.getElem?_eq_getElem (show 0<m.marks.length by omega)]
           have HMK1:=Lib.hid hmk1
           have hm0:(0:Int)<(m.marks.length:Int):=by omega
           have HSI:=Lib.hid hsi
           clear hmk1
           go_wp2_with (go_at_call 90;refine H90.out.mono ?_;rintro e w10 ⟨rfl,hb10⟩;obtain ⟨z1,z2,z3,z4⟩:=HK10.out w10 hb10;have d12:=cells_at z1 3;have d13:=HMC.out w10 z4.below 0 (by omega);rw [hY0,Nat.add_zero] at d13;have HZ1:=Lib.hid z1;have HZ2:=Lib.hid z2;have HZ3:=Lib.hid z3;have HZ4:=Lib.hid z4;clear z1 z2 z3 z4 hb10)
           go_loopw [15,16] (fun v i wr=>∃ k:Nat,1≤k∧k≤m.marks.length∧v=.int .i64 (minK m.marks k)∧i=.int .i64 k∧w10=wr) (fun _ i _=>m.marks.length - (intOf i).toNat)
           case atStart=>exact ⟨1,by omega,by omega,by rw [HMK1.out],rfl,rfl⟩
           obtain ⟨k,hk1,hk,rfl,rfl,rfl⟩:=hrel
           by_cases hlt:k<m.marks.length
           · as_aux_lemma =>
             have hx:=HMC.out w10 HZ4.out.below k hlt
             have hkn:(k:Int)<(m.marks.length:Int):=by omega
             have hk0:(0:Int)≤(k:Int):=by omega
             have hS:minK m.marks (k+1)=min (minK m.marks k) m.marks[k]:=by
              show min _ (m.marks.getD k 0)=_
              simp [List.getD,List.getElem?_eq_getElem hlt]
             have HS:=Lib.hid hS
             clear hS
             generalize minK m.marks k=A at HS
             generalize m.marks[k]=B at hx HS
             by_cases hlq:B<A
             · as_aux_lemma =>
               go_wp2_with fail
               go_roundw
               case rel=>exact ⟨k+1,by omega,by omega,by rw [HS.out];congr 1;omega,by go_num,trivial⟩
               case measure=>simp [intOf];omega
             · as_aux_lemma =>
               go_wp2_with fail
               go_roundw
               case rel=>exact ⟨k+1,by omega,by omega,by rw [HS.out];congr 1;omega,by go_num,trivial⟩
               case measure=>simp [intOf];omega
           · as_aux_lemma =>
             have hkn:k=m.marks.length:=by omega
             subst hkn
             have hx4:¬ (m.marks.length:Int)<(m.marks.length:Int):=by omega
             obtain ⟨LS,hLS⟩:∃ x,minK m.marks m.marks.length=x:=⟨_,rfl⟩
             rw [hLS]
             have HLS:=Lib.hid hLS
             have hno:=HZ4.out.noMk
             have hob:=cells_at HZ4.out.out 3
             have hof:w10.frozen? ⟨ob,3,none⟩=false:=by simp [World.frozen?,HZ4.out.out]
             have hol:=heap_lt HZ4.out.out
             have HNO:=Lib.hid hno
             clear hno hLS
             go_wp2_with fail
             clear hob hof hol
             generalize w10.setCell ⟨ob,3,none⟩ (.slice none 0 0)=w11 at HNO ⊢
             obtain ⟨i3,hi3,hz30,hz31,hz32⟩:=info_parts info3
             go_loopw [17] (fun i wr=>∃ (k:Nat) (mv:Value) (mb:Option Nat),k≤no∧i=.int .i64 k∧Hid (RMid w1a wr (fun b=>D b∧b<w.heap.size) s m ob (.slice sha' s.length shc') sa' sc' sb mv mb (m.splits.map (evF l)) (List.replicate k 1000000000001))) (fun i _=>no - (intOf i).toNat)
             case atStart=>exact ⟨0,_,_,by omega,rfl,HNO⟩
             obtain ⟨k,mv,mb5,hk,rfl,HM5⟩:=hrel
             have hrl:(List.replicate k (1000000000001:Int)).length=k:=by simp
             have hmo:=HM5.out.mks
             rw [hrl] at hmo
             obtain ⟨va,vc,rfl⟩:=hmo.form
             have hoo:=HM5.out.out
             by_cases hlt:k<no
             · as_aux_lemma =>
               have hkn:(k:Int)<(no:Int):=by omega
               have c3:=cells_at hoo 3
               have cf:=(box45_cells hoo).2.2.2.2.2.2 3
               have hol:=heap_lt hoo
               have howna:SlOwn (wr.alloc (.cells #[.int .i64 1000000000001] 3)) 3 1 (.slice va k vc) k ((List.replicate k (1000000000001:Int)).map (Value.int .i64)) mb5:=hmo.keep fun b e=>Below.heap_alloc _ _ _ (hmo.lt_of e)
               have hsrc:Src (wr.alloc (.cells #[.int .i64 1000000000001] 3)) 1 (.slice (some ⟨wr.heap.size,0,none⟩) 1 1) 1 [.int .i64 1000000000001] :=
                SlOwn.src (e:=3) (blk:=some wr.heap.size) ⟨rfl,.inr ⟨_,0,1,_,rfl,rfl,World.alloc_heap_new wr _,Nat.le_refl _,by simp [maxLen],by simp,rfl⟩⟩
               have HOWNA:=Lib.hid howna;have HSRC:=Lib.hid hsrc;have HOO:=Lib.hid hoo
               clear howna hsrc hmo hoo hrl
               go_wp2_with (at_builtin
                            refine wpList_append_S rfl (.tmp 185) (.tmp 186) 31 rfl 3 i3 _ 1 8 Tryz.underlying31 hi3 hz30 hz31 hz32 rfl (by omega) (.slice va k vc) k ((List.replicate k (1000000000001:Int)).map (Value.int .i64)) mb5 rfl HOWNA.out (.slice (some ⟨wr.heap.size,0,none⟩) 1 1) 1 [.int .i64 1000000000001] rfl HSRC.out (fun u hu=>by rw [List.mem_singleton] at hu;subst hu;rfl) (by simp only [maxLen];omega) (by omega) ?_
                            intro v5 w5 mb' h1 h2 h3
                            have hoc:=(h2.block ob (by simp;omega) (fun e=>(HM5.out.hmb ob e.symm).2.1 rfl)).trans (alloc_keep (ob:=.cells #[.int .i64 1000000000001] 3) HOO.out)
                            have c35:=cells_at hoc 3
                            have cf5:=(box45_cells hoc).2.2.2.2.2.2 3
                            have HNX:=Lib.hid (HM5.out.addMk (by simpa using h1) h2 h3)
                            obtain ⟨a5,c5,rfl⟩:=h1.form
                            clear h1 h2 h3 hoc)
               rw [← List.replicate_succ'] at HNX
               go_roundw
               case rel=>exact ⟨k+1,_,_,by omega,by go_num,HNX⟩
               case measure=>simp [intOf];omega
             · as_aux_lemma =>
               have hkn:no=k:=by omega
               subst hkn
               have hx5:¬ (no:Int)<(no:Int):=by omega
               obtain ⟨g2,o2,rfl⟩:=hmo.some_of (by omega)
               have hm6:=HM5.out
               rw [show List.replicate no (1000000000001:Int)=mkK false no l m.splits m.marks 0 from rfl,← ownK_zero (no:=no)] at hm6
               have HM6:=Lib.hid hm6
               have hlo:∀ k,k≤m.splits.length→(ownK no l m.splits k).length=m.splits.length:=fun k hk=>ownK_len hk
               have HLO:=Lib.hid hlo
               have hlm:∀ k,k≤m.splits.length→(mkK false no l m.splits m.marks k).length=no:=fun k hk=>mkK_len hk
               have HLM:=Lib.hid hlm
               clear hm6 hmo hoo hrl hlo hlm
               go_wp2_with fail
               go_loopw [18] (fun i wr=>∃ k:Nat,k≤m.splits.length∧i=.int .i64 k∧Hid (RMid w1a wr (fun b=>D b∧b<w.heap.size) s m ob (.slice sha' s.length shc') sa' sc' sb (.slice (some ⟨g2,o2,none⟩) no vc) mb5 (ownK no l m.splits k) (mkK false no l m.splits m.marks k))) (fun i _=>m.splits.length - (intOf i).toNat)
               case atStart=>exact ⟨0,by omega,rfl,HM6⟩
               obtain ⟨k,hk,rfl,HM⟩:=hrel
               have hoo:=HM.out.out
               rw [HLO.out k hk] at hoo
               have ol:=heap_lt hoo
               have c2:=cells_at hoo 2
               by_cases hlt:k<m.splits.length
               · as_aux_lemma =>
                 have hkn:(k:Int)<(m.splits.length:Int):=by omega
                 have hk0:(0:Int)≤(k:Int):=by omega
                 have hms:=HM.out.spls
                 have hpo:=HM.out.spl
                 obtain ⟨ps,hps,hpo,hpr⟩:=hpo
                 obtain ⟨g,o,rfl⟩:=hpo.some_of (by rw [HLO.out k hk];omega)
                 have hroom:=hpo.room
                 rw [HLO.out k hk] at hroom
                 have hfz:=hpo.frozen
                 have htk:=hms.take (i:=k) (by rw [HLO.out k hk];omega)
                 rw [ownK_take (by omega)] at htk
                 have hrl:(resK false no l m.splits k).length=k:=resK_len (by omega)
                 have h91:=f91_any wr _ _ _ _ no htk (resK_owner hno1 (by omega)) hno1 hno2 (by rw [hrl];omega)
                 rw [hrl] at h91
                 have how:fewN (resK false no l m.splits k) (no - 1)<no:=by have:=fewN_le (resK false no l m.splits k) (no - 1);omega
                 obtain ⟨r,hr⟩:∃ r,fewN (resK false no l m.splits k) (no - 1)=r:=⟨_,rfl⟩
                 rw [hr] at h91 how
                 have H91:=Lib.hid h91;have HR:=Lib.hid hr
                 have hk2:k≤sc':=by omega
                 have hkc:(k:Int)≤(sc':Int):=by omega
                 have hir:(r:Int)<(no:Int):=by omega
                 have hir0:(0:Int)≤(r:Int):=by omega
                 obtain ⟨sb1,so1,e1,e2,hsa,-,-,-,s1,-⟩:=H.out.spl.at hlt
                 dsimp only at hsa
                 subst hsa
                 have hoc:=HOK.out.owner _ (List.getElem_mem hlt)
                 have hown0:(0:Int)≤(m.splits[k].owner:Int):=by omega
                 have hown1:(m.splits[k].owner:Int)<(m.marks.length:Int):=by omega
                 obtain ⟨A,hA⟩:∃ A,(mkK false no l m.splits m.marks k).getD r 0=A:=⟨_,rfl⟩
                 obtain ⟨B,hB⟩:∃ B,m.marks.getD m.splits[k].owner 0=B:=⟨_,rfl⟩
                 have hBe:m.marks[m.splits[k].owner]=B:=by rw [← hB];simp [List.getD,hoc]
                 have hmk:mkK false no l m.splits m.marks (k+1)=(mkK false no l m.splits m.marks k).set r (min A B):=by
                  rw [mkK_succ hlt,show ownX false no (resK false no l m.splits k) m.splits[k]=r from hr,hA,hB]
                 have HMKS:=Lib.hid hmk;have HA:=Lib.hid hA;have HBE:=Lib.hid hBe
                 have HS1:=Lib.hid s1
                 clear hms hps hpo hpr htk h91 hr s1 hA hB hBe hmk hrl hk2
                 go_wp2_with (go_at_call 91;refine H91.out.mono ?_;rintro e w12 ⟨rfl,hb12⟩;have HB12:=Lib.hid hb12;clear hb12)
                 have HC43:Hid (∀ W,Below w12.heap.size w12 W→W.cell? ⟨w.heap.size,3,none⟩=some (.slice (some ⟨mg,mo,none⟩) m.marks.length mc)∧W.cell? ⟨w.heap.size,2,none⟩=some (.slice (some ⟨sb1,so1,none⟩) m.splits.length sc)∧W.cell? ⟨sb1,so1+k * 6+1,none⟩=some (.int .i64 m.splits[k].owner)∧W.cell? ⟨mg,mo+m.splits[k].owner,none⟩=some (.int .i64 B)):=fun W hw=>by
                  have hbw:=HM.out.below.trans ((HB12.out.trans (hw.mono HB12.out.size)).mono HM.out.below.size)
                  obtain ⟨z1,z2,z3⟩:=HB1.out W hbw
                  have h:=HMC.out W hbw _ hoc
                  rw [HBE.out] at h
                  exact ⟨cells_at z1 3,cells_at z1 2,by rw [z3.cell (p:=⟨sb1,so1+k * 6+1,none⟩) (cell_lt HS1.out)];exact HS1.out,h⟩
                 refine wp_region_float 11 0 (fun W=>Below w12.heap.size w12 W) mixed (by kernel_rfl) ((Below.refl _ _).drew) ?_
                 simp only [List.take_succ_cons,List.take_zero,List.drop_succ_cons,List.drop_zero]
                 repeat (
                  refine wpFloat_ex (fun K hK=>?_)
                  apply Exists.intro
                  refine ⟨fun W hW=>?_,?_⟩
                  · obtain ⟨k1,k2,k3,k4⟩:=HC43.out W hW
                    clear hW
                    go_simp
                    rfl
                  go_simp
                  refine hK _ ?_
                  clear hK K)
                 refine wpFloat_nil ?_
                 refine wpChain_nil ?_
                 have hm13:=HM.out.keep (HB12.out.trans ((Below.refl _ _).drew.mono HB12.out.size))
                 generalize w12.drew=w13 at hm13 ⊢
                 have ho13:=hm13.out
                 rw [HLO.out k hk] at ho13
                 have f3:=cells_at ho13 3
                 have f2:=cells_at ho13 2
                 have hmc:=hm13.mks
                 rw [HLM.out k hk] at hmc
                 have f4:w13.cell? ⟨g2,o2+r,none⟩=some (.int .i64 A):=by
                  rw [hmc.cell r (.int .i64 A) (by rw [List.getElem?_map,List.getElem?_eq_getElem (by rw [HLM.out k hk];exact how),← HA.out];simp [List.getD,HLM.out k hk,how])]
                 have hf4:=hmc.frozen (o2+r)
                 have hps:=hm13.spl
                 obtain ⟨ov,wco,-,wfo⟩:∃ v,w13.cell? ⟨g,o+k * 6+1,none⟩=some v∧True∧w13.frozen? ⟨g,o+k * 6+1,none⟩=false:=by
                  have hh:=hps.spls.at' (k:=k) (by rw [HLO.out k hk];exact hlt)
                  obtain ⟨_,_,_,_,_,q1,-⟩:=hh
                  obtain ⟨_,_,q,_⟩:=hps
                  exact ⟨_,q1,trivial,by rw [Nat.add_assoc];exact q.frozen _⟩
                 have hgg:g2≠g:=by
                  obtain ⟨_,_,q,_⟩:=hps
                  have h1:=own_blk q
                  have h2:=own_blk hmc
                  exact fun e=>(hm13.hmb _ h2).2.2 (e ▸ h1)
                 have hgo2:g2≠ob∧g≠ob:=by
                  obtain ⟨_,_,q,_⟩:=hps
                  exact ⟨(hm13.hmb _ (own_blk hmc)).2.1,(hm13.hsb _ (own_blk q)).2⟩
                 have H13:=Lib.hid hm13
                 clear hm13 ho13 hmc hps hoo c2 hfz
                 by_cases hlq:B<A
                 · as_aux_lemma =>
                   have hmn:min A B=B:=by omega
                   have h14:=H13.out.setMkN (HLM.out k hk) how B
                   have wf2:(w13.setCell ⟨g2,o2+r,none⟩ (.int .i64 B)).frozen? ⟨g,o+k * 6+1,none⟩=false:=by simpa [World.frozen?,heap_set_ne (w:=w13) (g:=g2) (j:=o2+r) (.int .i64 B) (Ne.symm hgg)] using wfo
                   have h15:=h14.setOwn (k:=k) (by rw [HLO.out k hk];exact hlt) r
                   have hos:=ownK_set (no:=no) (l:=l) hlt
                   rw [HR.out] at hos
                   rw [hos,← hmn,← HMKS.out] at h15
                   rw [hmn] at h15
                   have HNX:=Lib.hid h15
                   have hgl:=cell_lt f4
                   have hgl2:=cell_lt wco
                   have wco2:(w13.setCell ⟨g2,o2+r,none⟩ (.int .i64 B)).cell? ⟨g,o+k * 6+1,none⟩=some ov:=by rw [cell_keep (heap_set_ne _ (Ne.symm hgg))];exact wco
                   have f22:(w13.setCell ⟨g2,o2+r,none⟩ (.int .i64 B)).cell? ⟨ob,2,none⟩=some (.slice (some ⟨g,o,none⟩) m.splits.length sc'):=by rw [cell_keep (heap_set_ne _ (Ne.symm hgo2.1))];exact f2
                   clear h15 hos h14
                   go_wp2_with fail
                   clear f2 f3 f4 hf4 wco wfo wf2 wco2 f22
                   go_roundw
                   case rel=>exact ⟨k+1,by omega,by go_num,HNX⟩
                   case measure=>simp [intOf];omega
                 · as_aux_lemma =>
                   have hmn:min A B=A:=by omega
                   have h15:=H13.out.setOwn (k:=k) (by rw [HLO.out k hk];exact hlt) r
                   have hos:=ownK_set (no:=no) (l:=l) hlt
                   rw [HR.out] at hos
                   have hmm:mkK false no l m.splits m.marks (k+1)=mkK false no l m.splits m.marks k:=by
                    rw [HMKS.out,hmn]
                    exact set_same (by rw [HLM.out k hk];exact how) HA.out
                   rw [hos,← hmm] at h15
                   have HNX:=Lib.hid h15
                   clear h15 hos hmm
                   go_wp2_with fail
                   go_roundw
                   case rel=>exact ⟨k+1,by omega,by go_num,HNX⟩
                   case measure=>simp [intOf];omega
               · as_aux_lemma =>
                 have hkn:k=m.splits.length:=by omega
                 subst hkn
                 have hx6:¬ (m.splits.length:Int)<(m.splits.length:Int):=by omega
                 have hm7:=HM.out
                 rw [ownK_end,show mkK false no l m.splits m.marks m.splits.length=finR no l m 0 by unfold finR;simp] at hm7
                 have HM7:=Lib.hid hm7
                 have hrl:(resK false no l m.splits m.splits.length).length=m.splits.length:=resK_len (Nat.le_refl _)
                 have HRL:=Lib.hid hrl
                 clear hm7 hrl
                 go_wp2_with fail
                 clear hoo ol c2
                 go_loopw [21] (fun i wr=>∃ r:Nat,r≤no∧i=.int .i64 r∧Hid (RMid w1a wr (fun b=>D b∧b<w.heap.size) s m ob (.slice sha' s.length shc') sa' sc' sb (.slice (some ⟨g2,o2,none⟩) no vc) mb5 (resK false no l m.splits m.splits.length) (finR no l m r))) (fun i _=>no - (intOf i).toNat)
                 case atStart=>exact ⟨0,by omega,rfl,HM7⟩
                 obtain ⟨r,hr,rfl,HM⟩:=hrel
                 have hoo:=HM.out.out
                 rw [HRL.out] at hoo
                 obtain ⟨c0,c1,c2,c3,c4,c5,cf⟩:=box45_cells hoo
                 have ol:=heap_lt hoo
                 by_cases hlt:r<no
                 · as_aux_lemma =>
                   have hrn:(r:Int)<(no:Int):=by omega
                   have hr0:(0:Int)≤(r:Int):=by omega
                   obtain ⟨w20,hw20⟩:∃ W:World,W=wr:=⟨_,rfl⟩
                   subst hw20
                   have hsx:=HM.out.spls
                   have HSX:=Lib.hid hsx
                   clear hsx
                   go_wp2_with fail
                   go_loopw [22,23] (fun h j wr=>∃ q:Nat,q≤m.splits.length∧j=.int .i64 q∧h=.bool (((resK false no l m.splits m.splits.length).take q).any fun x=>(x.owner:Int) == (r:Int))∧w20=wr) (fun _ j _=>m.splits.length - (intOf j).toNat)
                   case atStart=>exact ⟨0,by omega,rfl,rfl,rfl⟩
                   obtain ⟨q,hq,rfl,rfl,rfl⟩:=hrel
                   by_cases hlq:q<m.splits.length
                   · as_aux_lemma =>
                     have hql:q<(resK false no l m.splits m.splits.length).length:=by rw [HRL.out];exact hlq
                     obtain ⟨b3,o3,e1,e2,hsa,-,-,-,s1,-⟩:=HSX.out.at hql
                     subst hsa
                     have hqn:(q:Int)<(m.splits.length:Int):=by omega
                     have hq0:(0:Int)≤(q:Int):=by omega
                     have hS:((resK false no l m.splits m.splits.length).take (q+1)).any (fun x=>(x.owner:Int) == (r:Int))=(((resK false no l m.splits m.splits.length).take q).any (fun x=>(x.owner:Int) == (r:Int)) || (((resK false no l m.splits m.splits.length)[q].owner:Int) == (r:Int))):=by
                      rw [← List.take_append_getElem hql,List.any_append]
                      simp
                     have HS:=Lib.hid hS
                     clear hS
                     generalize ((resK false no l m.splits m.splits.length).take q).any (fun x=>(x.owner:Int) == (r:Int))=A at HS
                     generalize (resK false no l m.splits m.splits.length)[q].owner=O at s1 HS
                     cases A
                     · as_aux_lemma =>
                       go_wp2_with fail
                       go_roundw
                       case rel=>exact ⟨q+1,by omega,by go_num,by rw [HS.out];simp,trivial⟩
                       case measure=>simp [intOf];omega
                     · as_aux_lemma =>
                       go_wp2_with fail
                       go_roundw
                       case rel=>exact ⟨q+1,by omega,by go_num,by rw [HS.out];simp,trivial⟩
                       case measure=>simp [intOf];omega
                   · as_aux_lemma =>
                     have hqe:q=m.splits.length:=by omega
                     subst hqe
                     have hx8:¬ (m.splits.length:Int)<(m.splits.length:Int):=by omega
                     rw [show (resK false no l m.splits m.splits.length).take m.splits.length=resK false no l m.splits m.splits.length from List.take_of_length_le (by rw [HRL.out];exact Nat.le_refl _)]
                     have hca:=countN_any (resK false no l m.splits m.splits.length) (r:Int)
                     have hfl:(finR no l m r).length=no:=finR_len (by omega)
                     have hmc:=HM.out.mks
                     rw [hfl] at hmc
                     have f4:w20.cell? ⟨g2,o2+r,none⟩=some (.int .i64 ((finR no l m r).getD r 0)):=by
                      rw [hmc.cell r (.int .i64 ((finR no l m r).getD r 0)) (by rw [List.getElem?_map,List.getElem?_eq_getElem (by omega)];simp [List.getD,hfl,hlt])]
                     have hf4:=hmc.frozen (o2+r)
                     have hgo2:g2≠ob:=(HM.out.hmb _ (own_blk hmc)).2.1
                     have hgl:=cell_lt f4
                     have HFL:=Lib.hid hfl
                     have HLS2:=HLS.out
                     obtain ⟨an,han⟩:∃ b,((resK false no l m.splits m.splits.length).any fun x=>(x.owner:Int) == (r:Int))=b:=⟨_,rfl⟩
                     rw [han] at hca ⊢
                     cases an
                     · as_aux_lemma =>
                       have hc0:countN (resK false no l m.splits m.splits.length) (r:Int)=0:=by simpa using hca
                       obtain ⟨sl,hsl⟩:∃ b,m.sealed=b:=⟨_,rfl⟩
                       have HSL:=Lib.hid hsl
                       rw [hsl] at c4
                       have hset1:=HM.out.setMkN hfl hlt LS
                       have HC0:=Lib.hid hc0
                       have c4s:(w20.setCell ⟨g2,o2+r,none⟩ (.int .i64 LS)).cell? ⟨ob,4,none⟩=some (.bool sl):=by rw [cell_keep (heap_set_ne _ (Ne.symm hgo2))];exact c4
                       clear hca hc0 hmc han hfl hsl
                       cases sl
                       · as_aux_lemma =>
                         have hfk:finK false no l m r=LS:=by
                          unfold finK
                          rw [if_neg (by simp),if_pos ⟨HC0.out,HSL.out⟩]
                          exact HLS2
                         rw [← hfk,finR_set hlt] at hset1
                         rw [hfk] at hset1
                         have HNX:=Lib.hid hset1
                         clear hset1 hfk HLS2
                         go_wp2_with fail
                         go_roundw
                         case rel=>exact ⟨r+1,by omega,by go_num,HNX⟩
                         case measure=>simp [intOf];omega
                       · as_aux_lemma =>
                         have hset2:=hset1.setMkN (by rw [List.length_set];exact HFL.out) hlt 1000000000001
                         have hfk:finK false no l m r=1000000000001:=by
                          unfold finK
                          rw [if_neg (by simp),if_neg (by rw [HSL.out];simp)]
                          exact mkK_none hlt (Nat.le_refl _) HC0.out
                         rw [List.set_set,← hfk,finR_set hlt] at hset2
                         rw [hfk] at hset2
                         have HNX:=Lib.hid hset2
                         have c3s:(w20.setCell ⟨g2,o2+r,none⟩ (.int .i64 LS)).cell? ⟨ob,3,none⟩=some (.slice (some ⟨g2,o2,none⟩) no vc):=by rw [cell_keep (heap_set_ne _ (Ne.symm hgo2))];exact c3
                         have hf4s:(w20.setCell ⟨g2,o2+r,none⟩ (.int .i64 LS)).frozen? ⟨g2,o2+r,none⟩=false:=by
                          have hq:=hset1.mks
                          rw [List.length_set,HFL.out] at hq
                          exact hq.frozen (o2+r)
                         clear hset1 hset2 hfk HLS2
                         go_wp2_with fail
                         go_roundw
                         case rel=>exact ⟨r+1,by omega,by go_num,HNX⟩
                         case measure=>simp [intOf];omega
                     · as_aux_lemma =>
                       have hc0:countN (resK false no l m.splits m.splits.length) (r:Int)≠0:=by intro e;rw [e] at hca;simp at hca
                       have hnx:=HM.out
                       rw [finR_same hlt (by unfold finK;rw [if_neg (by simp),if_neg (fun h=>hc0 h.1)])] at hnx
                       have HNX:=Lib.hid hnx
                       clear hnx hc0 hca han
                       go_wp2_with fail
                       go_roundw
                       case rel=>exact ⟨r+1,by omega,by go_num,HNX⟩
                       case measure=>simp [intOf];omega
                 · as_aux_lemma =>
                   have hre:no=r:=by omega
                   subst hre
                   have hx9:¬ (no:Int)<(no:Int):=by omega
                   obtain ⟨z1,z2,z3⟩:=HB1.out wr HM.out.below
                   obtain ⟨b10,b11,b12,b13,b14,b15,bf1⟩:=box45_cells z2
                   have HZ2:=Lib.hid z2;have HZ3:=Lib.hid z3;have HM9:=Lib.hid HM.out
                   clear z1 z2 z3
                   go_wp2_with fail
                   refine HPOST.out _ _ _ (bodyPost_ret (ret45_2 rfl _ _ (w.heap.size+1) (box45_fill HZ2.out _ _ _ _ _ _) rfl) rfl ?_)
                   have hbe:=fill_below HZ3.out (Nat.le_succ w.heap.size) (.slice sha' s.length shc') (.int .i64 m.bound) (.slice sa' m.splits.length sc') (.slice (some ⟨g2,o2,none⟩) no vc) (.bool m.sealed) (.slice none 0 0)
                   have hz10:=HM9.out.below.size
                   have hz11:w.heap.size+2≤w1a.heap.size:=by have:=heap_lt (HB0.out w1a hb.out).2.1;omega
                   have hsne:no≠m.marks.length:=by have:=HSI.out;simp at this;omega
                   have hfl:(finR no l m no).length=no:=finR_len (Nat.le_refl _)
                   have hrf:=HM9.out
                   rw [show (Value.slice (some ⟨g2,o2,none⟩) no vc)=.slice (some ⟨g2,o2,none⟩) (finR no l m no).length vc by rw [hfl]] at hrf
                   have hrf2:=hrf.ref
                   rw [finR_end] at hrf2
                   refine ⟨hbe,.inr ⟨HRE.out,no,rfl,⟨.slice sha' s.length shc',(sa',sc'),(some ⟨g2,o2,none⟩,vc),.slice none 0 0⟩,?_,?_⟩⟩
                   · rw [restM_other hsne]
                     simp only [refV,HRL.out,List.length_map,List.length_range]
                     rfl
                   · rw [restM_other hsne]
                     refine (hrf2.keep fun b hb hl=>fill_ne ?_ _ _ _ _ _ _).mono fun b hb=>?_
                     · rcases hb with hb | hb <;> omega
                     · rcases hb with hb | hb
                       · exact .inl hb.1
                       · exact .inr (by omega)
end leaves
end Go.Proofs.YtimahogkcmmcnaaGreatDoor
