/-
 The newest of each key by the reference: what its newest answers. If the changes and the key lie in the world as the words say.
-/
import Derived.Test.YtjhknhgkjfabaaaGreatDoorU23
set_option linter.unusedSimpArgs false
set_option linter.unusedVariables false
namespace Go.Proofs.YtjhknhgkjfabaaaGreatDoor
open Go.RowKit Go.Proofs.YtjhknhgkjfabaaaGreatDoor.Cmps Go.Shelf
theorem newF_succ {l m:List Chg} {cols:List Int} {k:Nat} (hk:k<l.length):(l.take (k+1)).foldl (newStep cols m) []=newStep cols m ((l.take k).foldl (newStep cols m) []) l[k]:=by
 rw [List.take_succ_eq_append_getElem hk,List.foldl_append];rfl
theorem newF_len (cols:List Int) (m:List Chg):∀ (l:List Chg) (out:List Itm),(l.foldl (newStep cols m) out).length≤out.length+l.length
 | [],out=>by simp
 | c :: t,out=>by
   rw [List.foldl_cons]
   have h1:=newF_len cols m t (newStep cols m out c)
   have h2:(newStep cols m out c).length≤out.length+1:=by
    unfold newStep
    have h3:∀ l:List Itm,(insR c.r 1 l).length=l.length+1:=by
     intro l
     induction l with
     | nil=>rfl
     | cons x t ih=>unfold insR;split <;> simp [ih]
    split
    · rw [h3];exact Nat.le_refl _
    · omega
   simp only [List.length_cons]
   omega
theorem newF_mem (cols:List Int) (m:List Chg):∀ (l:List Chg) (out:List Itm) (x:Itm),x ∈ l.foldl (newStep cols m) out→x ∈ out∨∃ c ∈ l,x=⟨c.r,1⟩
 | [],out,x,h=>.inl h
 | c :: t,out,x,h=>by
   rw [List.foldl_cons] at h
   rcases newF_mem cols m t _ x h with h | ⟨d,hd,e⟩
   · unfold newStep at h
     split at h
     · rcases (insR_mem _ _ _ _).1 h with e | h
       · exact .inr ⟨c,List.mem_cons_self,e⟩
       · exact .inl h
     · exact .inl h
   · exact .inr ⟨d,List.mem_cons_of_mem _ hd,e⟩
theorem all_succ {l:List Chg} {j:Nat} (hj:j<l.length) (p:Chg→Bool):(l.take (j+1)).all p=((l.take j).all p && p l[j]):=by
 rw [List.take_succ_eq_append_getElem hj,List.all_append];simp
theorem TwoAt.at {W:World} {b1 o1 b2 o2:Nat} {a b:Chg} {r1 r2:Value} (h:TwoAt W b1 o1 b2 o2 a b r1 r2):(W.cell? ⟨b1,o1,none⟩=some (.int .i64 a.t)∧W.cell? ⟨b1,o1+1,none⟩=some r1)∧W.cell? ⟨b2,o2,none⟩=some (.int .i64 b.t)∧W.cell? ⟨b2,o2+1,none⟩=some r2:=⟨⟨h.1.1,h.1.2.1⟩,h.2.1,h.2.2.1⟩
section leaves
set_option maxHeartbeats 1000000
set_option maxRecDepth 10000
theorem f31_any (hm:Tryz.prog.follows .mixedOrders=true) (w:World) (v cv:Value) (l:List Chg) (cols:List Int) (D:Nat→Prop) (h:ChgsAt w D v l) (hc:NumsAt w cv cols) (hl:l.length≤60) (hkl:cols.length≤100) (hv:∀ c ∈ l,validChg c=true) (hok:∀ c ∈ l,∀ i ∈ cols,okCol c.r i=true) :
 Calls Tryz.prog 31 #[v,cv] w fun e w'=>(∃ v',e=.returned v'∧BagAt w' (fun b=>w.heap.size≤b) v' (newR cols l))∧Below w.heap.size w w':=by
 have mixed:=hm
 have HC0:=Lib.hid h
 have HV:=Lib.hid hv
 have HOK:=Lib.hid hok
 have HN:=Lib.hid (fun W (hb:Below w.heap.size w W)=>hc.below hb)
 have HKL:=Lib.hid hkl
 obtain ⟨ta,tc,rfl,-,-⟩:=id h
 obtain ⟨ca,cc,rfl,-,-⟩:=id hc
 have H52:Hid (∀ W (rv:Value) (c:Chg),Below w.heap.size w W→c ∈ l→RowAt W D rv c.r→Calls Tryz.prog 52 #[rv,.slice ca cols.length cc] W fun e w'=>(∃ v,e=.returned v∧RowAt w' (fun b=>W.heap.size≤b) v (picks c.r cols))∧Below W.heap.size W w') :=
  Lib.hid (fun W rv c hb hcm hr=>f52_any W rv _ c.r cols D hr (HN.out W hb) HKL.out (HOK.out c hcm))
 clear h hc hv hok hkl
 go_enter Tryz.func31,Tryz.ntmps31
 go_wp2
 go_loopw [5,6] (fun s5 s6 wr=>∃ (k:Nat),s6=.int .i64 k∧k≤l.length∧Hid (BagAt wr (fun b=>w.heap.size≤b) s5 ((l.take k).foldl (newStep cols l) []))∧Hid (Below w.heap.size w wr)) (fun _ i _=>l.length - (intOf i).toNat)
 case atStart=>exact ⟨0,rfl,by omega,Lib.hid ⟨none,0,rfl,by simp,.inl rfl⟩,Lib.hid (Below.refl _ _)⟩
 case round =>
  obtain ⟨k,rfl,hk,HBG,HB⟩:=hrel
  obtain ⟨ga,gc,rfl,-,-⟩:=id HBG.out
  obtain ⟨wo,rfl⟩:∃ W,W=wr:=⟨_,rfl⟩
  by_cases hlt:k<l.length
  · go_wp2
    go_loopw [7,8] (fun s7 s8 wx=>∃ (j:Nat) (nb:Bool),s8=.int .i64 j∧j≤l.length∧s7=.bool nb∧Hid (nb=(l.take j).all fun d => !olderB cols l[k] d)∧Hid (Below wo.heap.size wo wx)) (fun _ i _=>l.length - (intOf i).toNat)
    case atStart=>exact ⟨0,true,rfl,by omega,rfl,Lib.hid (by simp),Lib.hid (Below.refl _ _)⟩
    case round =>
     obtain ⟨j,nb,rfl,hj,rfl,HNB,HB2⟩:=hrel
     have hbx:Below w.heap.size w wr:=HB.out.trans (HB2.out.mono HB.out.size)
     have HBX:=Lib.hid hbx
     by_cases hlj:j<l.length
     · obtain ⟨bL,oL,xv,rfl,⟨x0,x1,x2⟩,hxr⟩:=HC0.out.at hlt
       obtain ⟨bL',oL',yv,he,⟨y0,y1,y2⟩,hyr⟩:=HC0.out.at hlj
       injection he with he
       injection he with he1 he2 _
       subst he1 he2
       have hbl:=cell_lt x0
       have hxm:l[k] ∈ l:=List.getElem_mem hlt
       have hym:l[j] ∈ l:=List.getElem_mem hlj
       obtain ⟨x,hx⟩:∃ x,x=l[k]:=⟨_,rfl⟩
       obtain ⟨y,hy⟩:∃ y,y=l[j]:=⟨_,rfl⟩
       have HSU:=Lib.hid (all_succ hlj fun d => !olderB cols l[k] d)
       rw [← hx] at x0 x2 hxr hxm HSU
       rw [← hy] at y0 y2 hyr hym HSU
       rw [← hx] at HNB
       have HXK:=Lib.hid hx
       have HX:Hid (∀ W,Below w.heap.size w W→TwoAt W bL (oL+k * 3) bL (oL+j * 3) x y xv yv∧RowAt W D xv x.r∧RowAt W D yv y.r):=Lib.hid (fun W hb =>
        ⟨⟨⟨(hb.cell (p:=⟨bL,_,none⟩) hbl).trans x0,(hb.cell (p:=⟨bL,_,none⟩) hbl).trans x1,(hb.cell (p:=⟨bL,_,none⟩) hbl).trans x2⟩,(hb.cell (p:=⟨bL,_,none⟩) hbl).trans y0,(hb.cell (p:=⟨bL,_,none⟩) hbl).trans y1,(hb.cell (p:=⟨bL,_,none⟩) hbl).trans y2⟩,hxr.below hb,hyr.below hb⟩)
       have HXM:=Lib.hid hxm
       have HYM:=Lib.hid hym
       obtain ⟨q,hq⟩:∃ q,q=cmpRow (picks x.r cols) (picks y.r cols):=⟨_,rfl⟩
       obtain ⟨q2,hq2⟩:∃ q,q=cmpRow y.r x.r:=⟨_,rfl⟩
       have HQ:=Lib.hid hq
       have HQ2:=Lib.hid hq2
       obtain ⟨xa,xc,rfl,-,-⟩:=id hxr
       obtain ⟨ya,yc,rfl,-,-⟩:=id hyr
       have H51:Hid (∀ W,Below w.heap.size w W→Calls Tryz.prog 51 #[.slice ya y.r.length yc,.slice xa x.r.length xc] W fun e w'=>e=.returned (.int .i64 q2)∧Grew W w'):=Lib.hid (fun W hb=>by
        rw [hq2];exact f51_any hm W _ _ _ _ D D (HX.out W hb).2.2 (HX.out W hb).2.1)
       obtain ⟨xt,xr,xn⟩:=x
       obtain ⟨yt,yr,yn⟩:=y
       simp only at HQ HQ2 H51
       clear hq hq2 hx hy x0 x1 x2 y0 y1 y2 hxr hyr hxm hym
       have hBd:Below wr.heap.size wr wr.drew:=(Below.refl _ _).drew
       have hbd:Below w.heap.size w wr.drew:=hbx.trans (hBd.mono hbx.size)
       have hC:=(HX.out _ hbd).1
       have H52x:=Lib.hid (H52.out wr.drew _ _ hbd HXM.out (HX.out _ hbd).2.1)
       have HBD:=Lib.hid hbd
       clear hBd hbd hbx hbl
       go_wp2
       refine wp_region_ord [0,1,2,3,4,5,7,8,9,10,11,12,6,13,14,15,16,17,18,19,20,21,22,23,24,25,26,27,28,29,30,31,32,33,34,35,36,37,38,39,40,41,42,43,44,45,46,47,48,49,50,51,52,53,54,55] (fun W=>TwoAt W bL (oL+k * 3) bL (oL+j * 3) ⟨xt,xr,xn⟩ ⟨yt,yr,yn⟩ (.slice xa xr.length xc) (.slice ya yr.length yc)) mixed (by kernel_rfl) (fun hg=>?_)
       iterate 12 (
        refine ord_rd hg hC (fun K hK=>?_)
        apply Exists.intro
        refine ⟨fun W hW=>?_,?_⟩
        · obtain ⟨⟨z0,z1⟩,t0,t1⟩:=hW.at
          go_simp
          first | rfl | (rw [if_pos hlt];rfl) | (rw [if_pos hlj];rfl) | trace_state
        go_simp
        refine hK _ ?_
        clear hK K)
       refine ord_on (fun K hK=>?_)
       go_wp2_with (go_at_call 52;with_reducible refine H52x.out.mono ?_;rintro e w1 ⟨⟨p1,rfl,hp1⟩,hb1⟩)
       obtain ⟨a1,c1,rfl,-,-⟩:=id hp1
       have HP1:=Lib.hid hp1
       have HB1:=Lib.hid (HBD.out.trans (hb1.mono HBD.out.size))
       have hC1:=(HX.out _ HB1.out).1
       have H52y:=Lib.hid (H52.out w1 _ _ HB1.out HYM.out (HX.out _ HB1.out).2.2)
       clear hp1
       refine hK _ _ rfl hC1 ?_
       clear hK K
       refine ord_on (fun K hK=>?_)
       go_wp2_with (go_at_call 52;with_reducible refine H52y.out.mono ?_;rintro e w2 ⟨⟨p2,rfl,hp2⟩,hb2⟩)
       obtain ⟨a2,c2,rfl,-,-⟩:=id hp2
       have HB3:=Lib.hid (HB1.out.trans (hb2.mono HB1.out.size))
       have hC2:=(HX.out _ HB3.out).1
       have H51p:Hid (Calls Tryz.prog 51 #[.slice a1 (picks xr cols).length c1,.slice a2 (picks yr cols).length c2] w2 fun e w'=>e=.returned (.int .i64 q)∧Grew w2 w'):=Lib.hid (by
        rw [HQ.out];exact f51_any hm w2 _ _ _ _ _ _ (HP1.out.below hb2) hp2)
       have HB2':=Lib.hid (HB2.out.trans (((Below.refl wr.heap.size wr).drew.trans (hb1.trans (hb2.mono hb1.size))).mono HB2.out.size))
       clear hp2 hb1 hb2
       refine hK _ _ rfl hC2 ?_
       clear hK K
       refine ord_on (fun K hK=>?_)
       go_wp2_with (go_at_call 51;with_reducible refine H51p.out.mono ?_;rintro e w3 ⟨rfl,hg3⟩)
       have HB4:=Lib.hid (HB3.out.trans (hg3.below.mono HB3.out.size))
       have HBW:=Lib.hid (HB2'.out.trans (hg3.below.mono HB2'.out.size))
       have hC3:=(HX.out _ HB4.out).1
       have H51q:=Lib.hid (H51.out _ HB4.out)
       clear hg3
       refine hK _ _ rfl hC3 ?_
       clear hK K
       by_cases hq0:q=0
       · have e1:(q == 0)=true:=by simpa using hq0
         by_cases hgt:yt > xt
         · have e2:decide (yt > xt)=true:=decide_eq_true hgt
           have hgt':xt<yt:=hgt
           iterate 14 (
            refine ord_rd hg hC3 (fun K hK=>?_)
            apply Exists.intro
            refine ⟨fun W hW=>?_,?_⟩
            · obtain ⟨⟨z0,z1⟩,t0,t1⟩:=hW.at
              go_simp
              first | rfl | (rw [if_pos hlt];rfl) | (rw [if_pos hlj];rfl) | trace_state
            go_simp
            refine hK _ ?_
            clear hK K)
           iterate 25 (
            refine ord_ps hg hC3 (fun K hK=>?_)
            go_simp
            refine hK _ ?_
            clear hK K)
           iterate 2 (
            refine ord_rd hg hC3 (fun K hK=>?_)
            apply Exists.intro
            refine ⟨fun W hW=>?_,?_⟩
            · obtain ⟨⟨z0,z1⟩,t0,t1⟩:=hW.at
              go_simp
              first | rfl | (rw [if_pos hlt];rfl) | (rw [if_pos hlj];rfl) | trace_state
            go_simp
            refine hK _ ?_
            clear hK K)
           refine ord_end (by kernel_rfl) ?_
           go_wp2
           refine ⟨⟨j+1,false,by go_num,by omega,rfl,?_,HBW⟩,by simp [intOf];omega⟩
           show Hid _
           rw [← HXK.out]
           refine Lib.hid ?_
           rw [HSU.out,← HNB.out]
           have:olderB cols ⟨xt,xr,xn⟩ ⟨yt,yr,yn⟩=true:=by simp [olderB,← HQ.out,hq0,hgt']
           rw [this];simp
         · have e2:decide (yt > xt)=false:=decide_eq_false hgt
           by_cases hte:yt=xt
           · have e3:(yt == xt)=true:=by simpa using hte
             iterate 36 (
              refine ord_rd hg hC3 (fun K hK=>?_)
              apply Exists.intro
              refine ⟨fun W hW=>?_,?_⟩
              · obtain ⟨⟨z0,z1⟩,t0,t1⟩:=hW.at
                go_simp
                first | rfl | (rw [if_pos hlt];rfl) | (rw [if_pos hlj];rfl) | trace_state
              go_simp
              refine hK _ ?_
              clear hK K)
             refine ord_on (fun K hK=>?_)
             go_wp2_with (go_at_call 51;with_reducible refine H51q.out.mono ?_;rintro e w5 ⟨rfl,hg5⟩)
             have HB5:=Lib.hid (HB4.out.trans (hg5.below.mono HB4.out.size))
             have HBW5:=Lib.hid (HBW.out.trans (hg5.below.mono HBW.out.size))
             have hC5:=(HX.out _ HB5.out).1
             clear hg5
             refine hK _ _ rfl hC5 ?_
             clear hK K
             by_cases hg2:q2 > 0
             · have e4:decide (q2 > 0)=true:=decide_eq_true hg2
               iterate 4 (
                refine ord_rd hg hC5 (fun K hK=>?_)
                apply Exists.intro
                refine ⟨fun W hW=>?_,?_⟩
                · obtain ⟨⟨z0,z1⟩,t0,t1⟩:=hW.at
                  go_simp
                  first | rfl | (rw [if_pos hlt];rfl) | (rw [if_pos hlj];rfl) | trace_state
                go_simp
                refine hK _ ?_
                clear hK K)
               refine ord_end (by kernel_rfl) ?_
               go_wp2
               refine ⟨⟨j+1,false,by go_num,by omega,rfl,?_,HBW5⟩,by simp [intOf];omega⟩
               show Hid _
               rw [← HXK.out]
               refine Lib.hid ?_
               rw [HSU.out,← HNB.out]
               have:olderB cols ⟨xt,xr,xn⟩ ⟨yt,yr,yn⟩=true:=by simp [olderB,← HQ.out,← HQ2.out,hq0,hte,hg2]
               rw [this];simp
             · have e4:decide (q2 > 0)=false:=decide_eq_false hg2
               iterate 4 (
                refine ord_rd hg hC5 (fun K hK=>?_)
                apply Exists.intro
                refine ⟨fun W hW=>?_,?_⟩
                · obtain ⟨⟨z0,z1⟩,t0,t1⟩:=hW.at
                  go_simp
                  first | rfl | (rw [if_pos hlt];rfl) | (rw [if_pos hlj];rfl) | trace_state
                go_simp
                refine hK _ ?_
                clear hK K)
               refine ord_end (by kernel_rfl) ?_
               go_wp2
               refine ⟨⟨j+1,nb,by go_num,by omega,rfl,?_,HBW5⟩,by simp [intOf];omega⟩
               show Hid _
               rw [← HXK.out]
               refine Lib.hid ?_
               rw [HSU.out,← HNB.out]
               have:olderB cols ⟨xt,xr,xn⟩ ⟨yt,yr,yn⟩=false:=by simp [olderB,← HQ2.out,hte];intro _;omega
               rw [this];simp
           · have e3:(yt == xt)=false:=by simpa using hte
             iterate 26 (
              refine ord_rd hg hC3 (fun K hK=>?_)
              apply Exists.intro
              refine ⟨fun W hW=>?_,?_⟩
              · obtain ⟨⟨z0,z1⟩,t0,t1⟩:=hW.at
                go_simp
                first | rfl | (rw [if_pos hlt];rfl) | (rw [if_pos hlj];rfl) | trace_state
              go_simp
              refine hK _ ?_
              clear hK K)
             iterate 12 (
              refine ord_ps hg hC3 (fun K hK=>?_)
              go_simp
              refine hK _ ?_
              clear hK K)
             iterate 3 (
              refine ord_rd hg hC3 (fun K hK=>?_)
              apply Exists.intro
              refine ⟨fun W hW=>?_,?_⟩
              · obtain ⟨⟨z0,z1⟩,t0,t1⟩:=hW.at
                go_simp
                first | rfl | (rw [if_pos hlt];rfl) | (rw [if_pos hlj];rfl) | trace_state
              go_simp
              refine hK _ ?_
              clear hK K)
             refine ord_end (by kernel_rfl) ?_
             go_wp2
             refine ⟨⟨j+1,nb,by go_num,by omega,rfl,?_,HBW⟩,by simp [intOf];omega⟩
             show Hid _
             rw [← HXK.out]
             refine Lib.hid ?_
             rw [HSU.out,← HNB.out]
             have:olderB cols ⟨xt,xr,xn⟩ ⟨yt,yr,yn⟩=false:=by simp [olderB,hte];intro _;omega
             rw [this];simp
       · have e1:(q == 0)=false:=by simpa using hq0
         iterate 2 (
          refine ord_rd hg hC3 (fun K hK=>?_)
          apply Exists.intro
          refine ⟨fun W hW=>?_,?_⟩
          · obtain ⟨⟨z0,z1⟩,t0,t1⟩:=hW.at
            go_simp
            first | rfl | (rw [if_pos hlt];rfl) | (rw [if_pos hlj];rfl) | trace_state
          go_simp
          refine hK _ ?_
          clear hK K)
         iterate 38 (
          refine ord_ps hg hC3 (fun K hK=>?_)
          go_simp
          refine hK _ ?_
          clear hK K)
         iterate 1 (
          refine ord_rd hg hC3 (fun K hK=>?_)
          apply Exists.intro
          refine ⟨fun W hW=>?_,?_⟩
          · obtain ⟨⟨z0,z1⟩,t0,t1⟩:=hW.at
            go_simp
            first | rfl | (rw [if_pos hlt];rfl) | (rw [if_pos hlj];rfl) | trace_state
          go_simp
          refine hK _ ?_
          clear hK K)
         refine ord_end (by kernel_rfl) ?_
         go_wp2
         refine ⟨⟨j+1,nb,by go_num,by omega,rfl,?_,HBW⟩,by simp [intOf];omega⟩
         show Hid _
         rw [← HXK.out]
         refine Lib.hid ?_
         rw [HSU.out,← HNB.out]
         have:olderB cols ⟨xt,xr,xn⟩ ⟨yt,yr,yn⟩=false:=by simp [olderB,← HQ.out,hq0]
         rw [this];simp
     · have hjl:j=l.length:=by omega
       have hnw:nb=isNew cols l l[k]:=by
        have:=HNB.out
        rw [hjl,List.take_length] at this
        exact this
       obtain ⟨bL,oL,xv,rfl,⟨x0,x1,x2⟩,hxr⟩:=HC0.out.at hlt
       have hbl:=cell_lt x0
       obtain ⟨x,hx⟩:∃ x,x=l[k]:=⟨_,rfl⟩
       have hxm:x ∈ l:=by rw [hx];exact List.getElem_mem hlt
       have hxv:=HV.out x hxm
       have HSU:=Lib.hid (newF_succ (l:=l) (m:=l) (cols:=cols) hlt)
       rw [← hx] at x0 x2 hxr hnw HSU
       obtain ⟨out,hout⟩:∃ out,out=(l.take k).foldl (newStep cols l) []:=⟨_,rfl⟩
       have hol:out.length≤60:=by
        have:=newF_len cols l (l.take k) []
        rw [← hout,List.length_take] at this
        simp only [List.length_nil] at this
        omega
       have hom:∀ z ∈ out,∃ c ∈ l,z=⟨c.r,1⟩:=fun z hz=>by
        rw [hout] at hz
        rcases newF_mem cols l _ _ z hz with h | ⟨c,hc,e⟩
        · cases h
        · exact ⟨c,List.mem_of_mem_take hc,e⟩
       have HOM:=Lib.hid hom
       rw [← hout] at HBG HSU ⊢
       have HBGX:=Lib.hid (HBG.out.below HB2.out)
       have HX:Hid (∀ W,Below w.heap.size w W→W.cell? ⟨bL,oL+k * 3+1,none⟩=some xv∧RowAt W D xv x.r):=Lib.hid (fun W hb=>⟨(hb.cell (p:=⟨bL,_,none⟩) hbl).trans x1,hxr.below hb⟩)
       obtain ⟨xa,xc,rfl,-,-⟩:=id hxr
       obtain ⟨c1,hxw⟩:=HX.out _ hbx
       have hx8:x.r.length≤1000:=by
        simp [validChg,validRow] at hxv
        omega
       obtain ⟨nn,hnn⟩:∃ nn,nn=nOf out x.r:=⟨_,rfl⟩
       have H53:Hid (Calls Tryz.prog 53 #[.slice ga out.length gc,.slice xa x.r.length xc] wr fun e w'=>e=.returned (.int .i64 nn)∧Below wr.heap.size wr w'):=Lib.hid (by
        rw [hnn];exact f53_any hm wr _ _ _ _ _ D HBGX.out hxw)
       have HNN:=Lib.hid hnn
       have HNW:=Lib.hid hnw
       obtain ⟨xt,xr,xn⟩:=x
       simp only at HX H53 HNN hx8 hxw
       have HX8:=Lib.hid hx8
       clear hnn hjl hout hx x0 x1 x2 hxr hbl hxm hxv hnw hxw hom hx8 HNB
       cases nb
       · go_wp2_with fail
         refine ⟨⟨k+1,by go_num,by omega,?_,HBX⟩,by simp [intOf];omega⟩
         rw [HSU.out]
         have:newStep cols l out ⟨xt,xr,xn⟩=out:=by simp [newStep,← HNW.out]
         rw [this];exact HBGX
       · by_cases hn0:nn=0
         · subst hn0
           go_wp2_with (first
            | (go_at_call 53;with_reducible refine H53.out.mono ?_;rintro e w5 ⟨rfl,hb5⟩
               have HB5:=Lib.hid (HBX.out.trans (hb5.mono HBX.out.size))
               have HBG5:=Lib.hid (HBGX.out.below hb5)
               obtain ⟨c1,hxw⟩:=HX.out _ HB5.out
               have hone:∀ z ∈ out,z.n=1:=fun z hz=>by
                obtain ⟨c,hc,e⟩:=HOM.out z hz
                rw [e]
               have hne:∀ z ∈ out,cmpRow xr z.r≠0:=fun z hz e=>by
                have h1:=(nOf_none (r:=xr) hone).1 HNN.out.symm z hz
                have h2:=cmpRow_3.swap xr z.r
                omega
               have h8:∀ z ∈ out,z.r.length≤1000:=fun z hz=>by
                obtain ⟨c,hc,e⟩:=HOM.out z hz
                have:=HV.out c hc
                simp [validChg,validRow] at this
                rw [e]
                show c.r.length≤1000
                omega
               have H54:=Lib.hid (f54_any hm w5 _ _ out xr _ D HBG5.out hxw (by omega) HX8.out h8 hne)
               clear hb5 hxw hone hne h8)
            | (go_at_call 54;with_reducible refine H54.out.mono ?_;rintro e w6 ⟨⟨v6,rfl,hbg⟩,hb6⟩
               obtain ⟨a6,c6,rfl,-,-⟩:=id hbg
               have HBG6:=Lib.hid (hbg.mono (D':=fun b=>w.heap.size≤b) fun b hb=>Nat.le_trans HB5.out.size hb)
               have HB6:=Lib.hid (HB5.out.trans (hb6.mono HB5.out.size))
               clear hbg hb6))
           refine ⟨⟨k+1,by go_num,by omega,?_,HB6⟩,by simp [intOf];omega⟩
           rw [HSU.out]
           have:newStep cols l out ⟨xt,xr,xn⟩=insR xr 1 out:=by simp [newStep,← HNW.out,← HNN.out]
           rw [this];exact HBG6
         · have hn1:(nn == 0)=false:=by simpa using hn0
           go_wp2_with (go_at_call 53;with_reducible refine H53.out.mono ?_;rintro e w5 ⟨rfl,hb5⟩
                        have HB5:=Lib.hid (HBX.out.trans (hb5.mono HBX.out.size))
                        have HBG5:=Lib.hid (HBGX.out.below hb5)
                        clear hb5)
           refine ⟨⟨k+1,by go_num,by omega,?_,HB5⟩,by simp [intOf];omega⟩
           rw [HSU.out]
           have:newStep cols l out ⟨xt,xr,xn⟩=out:=by simp [newStep,← HNW.out,← HNN.out,hn0]
           rw [this];exact HBG5
  · have hkl:k=l.length:=by omega
    have HF:Hid (BagAt wo (fun b=>w.heap.size≤b) (.slice ga ((l.take k).foldl (newStep cols l) []).length gc) (newR cols l)):=by
     have:=HBG.out
     rw [hkl,List.take_length] at this
     rw [hkl,List.take_length]
     exact Lib.hid this
    clear hkl
    go_wp2
    go_ret
    exact ⟨⟨_,rfl,HF.out⟩,HB.out⟩
end leaves
end Go.Proofs.YtjhknhgkjfabaaaGreatDoor
