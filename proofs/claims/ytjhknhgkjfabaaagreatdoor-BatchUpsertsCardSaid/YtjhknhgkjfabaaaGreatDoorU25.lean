/-
 Changes upserted by the reference: the walk of its Upsert. If the changes and the key lie in the world as the words say.
-/
import Derived.Test.YtjhknhgkjfabaaaGreatDoorU24
import Derived.ProofKit
import Derived.Deep.Strs
import Derived.Deep.Slices
import Derived.Lib.SmallJoins
set_option linter.unusedSimpArgs false
set_option linter.unusedVariables false
namespace Go.Proofs.YtjhknhgkjfabaaaGreatDoor
open Go.RowKit Go.Proofs.YtjhknhgkjfabaaaGreatDoor.Cmps Go.Shelf
def KeyAt (W:World) (b o:Nat) (c:Int) (b2 o2:Nat) (r:Value):Prop:=W.cell? ⟨b,o,none⟩=some (.int .i64 c)∧W.cell? ⟨b2,o2,none⟩=some r
theorem key_none {l:List Chg} {c:Chg} (hc:c ∈ l) {cols:List Int} {i:Int} (hi:i ∈ cols) (h:okCol c.r i=false):∃ c ∈ l,keyP c.r cols=none:=by
 refine ⟨c,hc,?_⟩
 cases hk:keyP c.r cols with
 | none=>rfl
 | some k =>
   have:=(keyP_some hk).1 i hi
   rw [h] at this;cases this
theorem key_all {l:List Chg} {cols:List Int} (h:∀ i ∈ cols,∀ c ∈ l,okCol c.r i=true):¬ ∃ c ∈ l,keyP c.r cols=none:=by
 rintro ⟨c,hc,hk⟩
 have:∀ (cols:List Int) (acc:List UInt8),(∀ i ∈ cols,okCol c.r i=true)→cols.foldl (keyStep c.r) (some acc)≠none:=by
  intro cols
  induction cols with
  | nil=>intro acc _ h;cases h
  | cons i t ih =>
    intro acc ht hn
    rw [List.foldl_cons] at hn
    have e:keyStep c.r (some acc) i=some (acc ++ (textV (valAt c.r i) ++ [44])):=by simp [keyStep,ht i List.mem_cons_self]
    rw [e] at hn
    exact ih _ (fun j hj=>ht j (List.mem_cons_of_mem _ hj)) hn
 exact this cols [] (fun i hi=>h i hi c hc) hk
section leaves
set_option maxHeartbeats 1000000
set_option maxRecDepth 10000
theorem f7_any (hm:Tryz.prog.follows .mixedOrders=true) (w:World) (v cv:Value) (l:List Chg) (cols:List Int) (D:Nat→Prop) (h:ChgsAt w D v l) (hc:NumsAt w cv cols) (hl:l.length≤60) (hkl:cols.length≤100) :
 Calls Tryz.prog 7 #[v,cv] w fun e w'=>(∃ v',e=.returned (.tuple #[v',.int .i64 (upsErr cols l)])∧(upsErr cols l≠0→v'=.slice none 0 0)∧(upsErr cols l=0→BagAt w' (fun b=>w.heap.size≤b) v' (newR cols l)))∧Below w.heap.size w w':=by
 have mixed:=hm
 have H29:=Lib.hid (f29_any w v l D h)
 have HC0:=Lib.hid h
 have HN0:=Lib.hid hc
 have HKL:=Lib.hid hkl
 obtain ⟨ta,tc,rfl,-,-⟩:=id h
 obtain ⟨ca,cc,rfl,-,-⟩:=id hc
 clear h hc hkl
 cases hval:validChgs l with
 | false =>
   have hu:upsErr cols l=1:=by simp [upsErr,hval]
   rw [hu]
   rw [hval] at H29
   go_enter Tryz.func7,Tryz.ntmps7
   go_wp2_with (go_at_call 29;with_reducible refine H29.out.mono ?_;rintro e w1 ⟨rfl,hb1⟩)
   go_ret2
   exact ⟨⟨_,rfl,fun _=>rfl,fun h=>absurd h (by omega)⟩,hb1⟩
 | true =>
   rw [hval] at H29
   have hok:∀ c ∈ l,validChg c=true:=fun c hc=>by
    unfold validChgs at hval
    rw [Bool.and_eq_true,List.all_eq_true] at hval
    exact hval.2 c hc
   have HOK:=Lib.hid hok
   have HV:=Lib.hid hval
   clear hok hval
   go_enter Tryz.func7,Tryz.ntmps7
   go_wp2_with (go_at_call 29;with_reducible refine H29.out.mono ?_;rintro e w1 ⟨rfl,hb1⟩;have HB1:=Lib.hid hb1;clear hb1)
   go_loopw [6] (fun s6 wr=>∃ (k:Nat),s6=.int .i64 k∧k≤l.length∧Hid (∀ j (h:j<l.length),j<k→¬ l[j].n<0)∧Hid (Below w.heap.size w wr)) (fun i _=>l.length - (intOf i).toNat)
   case atStart=>exact ⟨0,rfl,by omega,Lib.hid (fun j _ h=>(by omega)),HB1⟩
   case round =>
    obtain ⟨k,rfl,hk,HP,HB⟩:=hrel
    by_cases hlt:k<l.length
    · obtain ⟨bL,oL,xv,rfl,⟨x0,x1,x2⟩,hxr⟩:=HC0.out.at hlt
      have hbl:=cell_lt x0
      rw [← HB.out.cell (p:=⟨bL,_,none⟩) hbl] at x2
      clear hxr hbl x0 x1
      by_cases hneg:l[k].n<0
      · have hu:upsErr cols l=1:=by
         have:l.any (fun c=>decide (c.n<0))=true:=List.any_eq_true.2 ⟨l[k],List.getElem_mem hlt,by simpa using hneg⟩
         simp [upsErr,this]
        have HUE:=Lib.hid hu
        clear hu
        go_wp2
        go_ret2
        exact ⟨⟨_,by rw [HUE.out];rfl,fun _=>rfl,fun h=>absurd h (by rw [HUE.out];omega)⟩,HB.out⟩
      · go_wp2
        refine ⟨⟨k+1,by go_num,by omega,?_,HB⟩,by simp [intOf];omega⟩
        refine Lib.hid (fun j hj hjk=>?_)
        by_cases e:j=k
        · subst e;exact hneg
        · exact HP.out j hj (by omega)
    · have hneg:l.any (fun c=>decide (c.n<0))=false:=by
       rw [List.any_eq_false]
       intro c hc
       obtain ⟨i,hi,rfl⟩:=List.mem_iff_getElem.1 hc
       simpa using HP.out i hi (by omega)
      have HU:Hid (upsErr cols l=if (∃ c ∈ l,keyP c.r cols=none)∨cols.any badCol=true then 7 else 0):=Lib.hid (by
       unfold upsErr
       rw [if_neg (by simp [HV.out,hneg])])
      clear hneg
      go_wp2
      obtain ⟨wo,rfl⟩:∃ W,W=wr:=⟨_,rfl⟩
      go_loopw [7] (fun s7 wx=>∃ (i:Nat),s7=.int .i64 i∧i≤cols.length∧Hid (∀ j (h:j<cols.length),j<i→badCol cols[j]=false∧∀ c ∈ l,okCol c.r cols[j]=true)∧Hid (Below w.heap.size w wx)) (fun i _=>cols.length - (intOf i).toNat)
      case atStart=>exact ⟨0,rfl,by omega,Lib.hid (fun j _ h=>(by omega)),HB⟩
      case round =>
       obtain ⟨i,rfl,hi,HQ,HB2⟩:=hrel
       have hib:i<1000:=by have:=HKL.out;omega
       by_cases hli:i<cols.length
       · obtain ⟨bC,oC,rfl,y0⟩:=HN0.out.at hli
         have hbC:=cell_lt y0
         have HK:Hid (∀ W,Below w.heap.size w W→W.cell? ⟨bC,oC+i,none⟩=some (.int .i64 cols[i])):=Lib.hid (fun W hb=>(hb.cell (p:=⟨bC,_,none⟩) hbC).trans y0)
         have hcell:=HK.out wr HB2.out
         obtain ⟨c,hcc⟩:∃ c,c=cols[i]:=⟨_,rfl⟩
         have HCC:=Lib.hid hcc
         rw [← hcc] at hcell HK
         have hcm:c ∈ cols:=by rw [hcc];exact List.getElem_mem hli
         have HCM:=Lib.hid hcm
         clear hbC y0 hcc hcm
         have H30:=Lib.hid (f30_any c 0 7 wr)
         cases hwi:withinB c 0 7 with
         | false =>
           have hu:upsErr cols l=7:=by
            rw [HU.out,if_pos (.inr (List.any_eq_true.2 ⟨c,HCM.out,by simp [badCol,hwi]⟩))]
           have HUE:=Lib.hid hu
           rw [hwi] at H30
           clear hu hwi
           go_wp2_with (go_at_call 30;with_reducible refine H30.out.mono ?_;rintro e w3 ⟨rfl,rfl⟩)
           go_ret2
           exact ⟨⟨_,by rw [HUE.out];rfl,fun _=>rfl,fun h=>absurd h (by rw [HUE.out];omega)⟩,HB2.out⟩
         | true =>
           have hc0:0≤c∧c≤7:=by simpa [withinB] using hwi
           have HWI:=Lib.hid hwi
           rw [hwi] at H30
           clear hwi
           go_wp2_with (go_at_call 30;with_reducible refine H30.out.mono ?_;rintro e w3 ⟨rfl,rfl⟩)
           obtain ⟨wi,rfl⟩:∃ W,W=wr:=⟨_,rfl⟩
           go_loopw [8] (fun s8 wx=>∃ (j:Nat),s8=.int .i64 j∧j≤l.length∧Hid (∀ q (h:q<l.length),q<j→okCol l[q].r c=true)∧Hid (Below w.heap.size w wx)) (fun i _=>l.length - (intOf i).toNat)
           case atStart=>exact ⟨0,rfl,by omega,Lib.hid (fun j _ h=>(by omega)),HB2⟩
           case round =>
            obtain ⟨j,rfl,hj,HR,HB3⟩:=hrel
            by_cases hlj:j<l.length
            · obtain ⟨bL,oL,xv,rfl,⟨x0,x1,x2⟩,hxr⟩:=HC0.out.at hlj
              have hbl:=cell_lt x0
              rw [← HB3.out.cell (p:=⟨bL,_,none⟩) hbl] at x1
              obtain ⟨x,hx⟩:∃ x,x=l[j]:=⟨_,rfl⟩
              have HX:=Lib.hid hx
              rw [← hx] at hxr
              have hxm:x ∈ l:=by rw [hx];exact List.getElem_mem hlj
              have HXM:=Lib.hid hxm
              obtain ⟨xt,xr,xn⟩:=x
              simp only at hxr
              obtain ⟨xa,xc,rfl,-,-⟩:=hxr
              have hkc:=HK.out wr HB3.out
              have hC:KeyAt wr.drew bC (oC+i) c bL (oL+j * 3+1) (.slice xa xr.length xc):=⟨hkc,x1⟩
              have hci:c<(xr.length:Int)∨¬ c<(xr.length:Int):=by omega
              clear hx hxm x0 x1 x2 hbl hkc
              go_wp2
              refine wp_region_ord [0,1,2,3,4,5,6,7,8,9,10] (fun W=>KeyAt W bC (oC+i) c bL (oL+j * 3+1) (.slice xa xr.length xc)) mixed (by kernel_rfl) (fun hg=>?_)
              iterate 11 (
               refine ord_rd hg hC (fun K hK=>?_)
               apply Exists.intro
               refine ⟨fun W hW=>?_,?_⟩
               · obtain ⟨z0,z1⟩:=hW
                 go_simp
                 first | rfl | (rw [if_pos hli];rfl) | (rw [if_pos hlj];rfl) | trace_state
               go_simp
               refine hK _ ?_
               clear hK K)
              refine ord_end (by kernel_rfl) ?_
              rcases hci with hci | hci
              · have e1:decide (c ≥ (xr.length:Int))=false:=by simp;omega
                have hge:¬ (xr.length:Int)≤c:=by omega
                go_wp2
                refine ⟨⟨j+1,by go_num,by omega,?_,Lib.hid HB3.out.drew⟩,by simp [intOf];omega⟩
                refine Lib.hid (fun q hq hqj=>?_)
                by_cases e:q=j
                · subst e
                  rw [← HX.out]
                  simp [okCol,withinB];omega
                · exact HR.out q hq (by omega)
              · have e1:decide (c ≥ (xr.length:Int))=true:=by simp;omega
                have hge:(xr.length:Int)≤c:=by omega
                have hu:upsErr cols l=7:=by
                 rw [HU.out,if_pos (.inl (key_none HXM.out HCM.out (by simp [okCol,withinB];omega)))]
                have HUE:=Lib.hid hu
                clear hu
                go_wp2
                go_ret2
                exact ⟨⟨_,by rw [HUE.out];rfl,fun _=>rfl,fun h=>absurd h (by rw [HUE.out];omega)⟩,HB3.out.drew⟩
            · go_wp2
              refine ⟨⟨i+1,by go_num,by omega,?_,HB3⟩,by simp [intOf];omega⟩
              refine Lib.hid (fun q hq hqi=>?_)
              by_cases e:q=i
              · subst e
                rw [← HCC.out]
                refine ⟨by simp [badCol,HWI.out],fun d hd=>?_⟩
                obtain ⟨z,hz,rfl⟩:=List.mem_iff_getElem.1 hd
                exact HR.out z hz (by omega)
              · exact HQ.out q hq (by omega)
       · have hall:∀ i ∈ cols,badCol i=false∧∀ c ∈ l,okCol c.r i=true:=fun i hi=>by
          obtain ⟨z,hz,rfl⟩:=List.mem_iff_getElem.1 hi
          exact HQ.out z hz (by omega)
         have hu:upsErr cols l=0:=by
          rw [HU.out,if_neg]
          rintro (hh | hh)
          · exact key_all (fun i hi=>(hall i hi).2) hh
          · obtain ⟨i,hi,hb⟩:=List.any_eq_true.1 hh
            rw [(hall i hi).1] at hb;cases hb
         have HUE:=Lib.hid hu
         have H31:=Lib.hid (f31_any hm wr _ _ l cols D (HC0.out.below HB2.out) (HN0.out.below HB2.out) hl HKL.out HOK.out (fun c hc i hi=>(hall i hi).2 c hc))
         clear hall hu
         go_wp2_with (go_at_call 31;with_reducible refine H31.out.mono ?_;rintro e w3 ⟨⟨v3,rfl,hbg⟩,hb3⟩
                      have HBG:=Lib.hid hbg
                      have HB3:=Lib.hid hb3
                      obtain ⟨a3,c3,rfl,-,-⟩:=id hbg
                      clear hbg hb3)
         go_ret2
         exact ⟨⟨_,by rw [HUE.out];rfl,fun h=>absurd HUE.out h,fun _=>HBG.out.mono fun b hb=>Nat.le_trans HB2.out.size hb⟩,HB2.out.trans (HB3.out.mono HB2.out.size)⟩
end leaves
def TwoI (w:World) (b1 o1 b2 o2:Nat) (n:Int) (p q:Value):Prop :=
 (w.cell? ⟨b1,o1,none⟩=some p∧w.cell? ⟨b1,o1+1,none⟩=some (.int .i64 n))∧(w.cell? ⟨b2,o2,none⟩=some q∧w.cell? ⟨b2,o2+1,none⟩=some (.int .i64 n))
section leaves
set_option maxHeartbeats 1000000
set_option maxRecDepth 10000
theorem f8_same (hm:Tryz.prog.follows .mixedOrders=true) (w:World) (r1 r2:Value) (l:List Itm) (D1 D2:Nat→Prop) (h1:BagAt w D1 r1 l) (h2:BagAt w D2 r2 l) :
 Calls Tryz.prog 8 #[r1,r2] w fun e w'=>e=.returned (.bool true)∧Below w.heap.size w w':=by
 have mixed:=hm
 have H1:=Lib.hid h1
 have H2:=Lib.hid h2
 obtain ⟨p1,cap1,rfl,hl,-⟩:=id h1
 obtain ⟨p2,cap2,rfl,-,-⟩:=id h2
 clear h1 h2
 go_enter Tryz.func8,Tryz.ntmps8
 go_wp2
 go_loopw [5] (fun i wr=>∃ k:Nat,i=.int .i64 k∧k≤l.length∧Hid (Below w.heap.size w wr)) (fun i _=>l.length - (intOf i).toNat)
 case atStart=>exact ⟨0,rfl,by omega,Lib.hid (Below.refl _ _)⟩
 case round =>
  obtain ⟨k,rfl,hk,HB⟩:=hrel
  by_cases hlt:k<l.length
  · obtain ⟨b1,o1,v1,rfl,⟨x0,x1⟩,hr1⟩:=H1.out.at hlt
    obtain ⟨b2,o2,v2,rfl,⟨y0,y1⟩,hr2⟩:=H2.out.at hlt
    have hb1:=cell_lt x0
    have hb2:=cell_lt y0
    obtain ⟨x,hx⟩:∃ x,x=l[k]:=⟨_,rfl⟩
    rw [← hx] at x1 y1 hr1 hr2
    obtain ⟨xr,xn⟩:=x
    simp only at x1 y1 hr1 hr2
    have HX:Hid (∀ W,Below w.heap.size w W→TwoI W b1 (o1+k * 2) b2 (o2+k * 2) xn v1 v2):=Lib.hid (fun W hb =>
     ⟨⟨(hb.cell (p:=⟨b1,_,none⟩) hb1).trans x0,(hb.cell (p:=⟨b1,_,none⟩) hb1).trans x1⟩,(hb.cell (p:=⟨b2,_,none⟩) hb2).trans y0,(hb.cell (p:=⟨b2,_,none⟩) hb2).trans y1⟩)
    have HBd:=Lib.hid HB.out.drew
    obtain ⟨ra,rc,rfl,-,-⟩:=id hr1
    obtain ⟨sa,sc,rfl,-,-⟩:=id hr2
    have H32:=Lib.hid (f32_any hm wr.drew _ _ xr xr D1 D2 (hr1.below HBd.out) (hr2.below HBd.out))
    rw [decide_eq_true rfl] at H32
    have hC:=HX.out _ HBd.out
    clear hx x0 x1 y0 y1 hr1 hr2 hb1 hb2
    go_wp2
    refine wp_region_ord [0,1,2,3,4,5,6,7,8,9,10,11,12,13,14,15,16,17,18,19,20,21,22,23,24] (fun W=>TwoI W b1 (o1+k * 2) b2 (o2+k * 2) xn (.slice ra xr.length rc) (.slice sa xr.length sc)) mixed (by kernel_rfl) (fun hg=>?_)
    iterate 22 (
     refine ord_rd hg hC (fun K hK=>?_)
     apply Exists.intro
     refine ⟨fun W hW=>?_,?_⟩
     · obtain ⟨⟨z0,z1⟩,t0,t1⟩:=hW
       go_simp
       first | rfl | (rw [if_pos hlt];rfl) | trace_state
     go_simp
     refine hK _ ?_
     clear hK K)
    refine ord_on (fun K hK=>?_)
    go_wp2_with (go_at_call 32;refine H32.out.mono ?_;rintro e w' ⟨rfl,hb1⟩)
    have HB2:=Lib.hid (HBd.out.trans (hb1.mono HBd.out.size))
    have hC':=HX.out _ HB2.out
    clear hb1
    refine hK _ _ rfl hC' ?_
    clear hK K
    iterate 2 (
     refine ord_rd hg hC' (fun K hK=>?_)
     apply Exists.intro
     refine ⟨fun W hW=>?_,?_⟩
     · go_simp
       first | rfl | trace_state
     go_simp
     refine hK _ ?_
     clear hK K)
    refine ord_end (by kernel_rfl) ?_
    go_wp2
    exact ⟨⟨k+1,by go_num,by omega,HB2⟩,by simp [intOf];omega⟩
  · go_wp2
    go_ret
    exact ⟨rfl,HB.out⟩
end leaves
theorem times_form (l:List Chg):∃ a b c:Int,(if validChgs l=false then #[Value.int .i64 0,.int .i64 0,.int .i64 1] else if l=[] then #[.int .i64 0,.int .i64 0,.int .i64 8] else #[.int .i64 (leastT l (l.headD ⟨0,[],0⟩).t),.int .i64 (mostT l (l.headD ⟨0,[],0⟩).t),.int .i64 0])=#[.int .i64 a,.int .i64 b,.int .i64 c]:=by
 by_cases h:validChgs l=false
 · exact ⟨_,_,_,by rw [if_pos h]⟩
 · by_cases h2:l=[]
   · exact ⟨_,_,_,by rw [if_neg h,if_pos h2]⟩
   · exact ⟨_,_,_,by rw [if_neg h,if_neg h2]⟩
theorem sort_same {l l':List Chg} (h:validChgs l=true→l'.Perm l∧l'.Pairwise (fun a b=>cmpChg a b≤0)):sortF (validChgs l) ((gathA l').filter keepB)=sortF (validChgs l) (summed l):=by
 cases hv:validChgs l with
 | false=>rfl
 | true =>
   obtain ⟨h1,h2⟩:=h hv
   have hok:∀ c ∈ l,okC c:=fun c hc=>okC_of ((valid_all hv).2 c hc)
   rw [gathered_same hok h1 h2]
theorem bag_nil (w:World) (D:Nat→Prop):BagAt w D (.slice none 0 0) []:=⟨none,0,rfl,by simp,.inl rfl⟩
section leaves
set_option maxHeartbeats 1000000
set_option maxRecDepth 10000
theorem f3_of (hm:Tryz.prog.follows .mixedOrders=true) (h5:∀ w,Calls Tryz.prog 5 #[] w fun e w'=>e=.returned (.bool true)∧Below w.heap.size w w')
 (w:World) (v cv:Value) (l:List Chg) (cols:List Int) (D:Nat→Prop) (h:ChgsAt w D v l) (hc:NumsAt w cv cols) (ht:TabsU w) (hcap:RowsCap w v) (hD:∀ b,D b→b<w.heap.size) :
 Calls Tryz.prog 3 #[v,cv] w fun e w'=>e=.returned (.bool true)∧Below w.heap.size w w':=by
 have H4:=Lib.hid (f4_any w v l D h)
 have H5:=Lib.hid h5
 have HC:=Lib.hid (fun W (hb:Below w.heap.size w W)=>h.below hb)
 have HN:=Lib.hid (fun W (hb:Below w.heap.size w W)=>hc.below hb)
 have HT:=Lib.hid (fun W (hb:Below w.heap.size w W)=>ht.below hb)
 have HD:=Lib.hid hD
 have HCP:Hid (∀ W,Below w.heap.size w W→RowsCap W v):=Lib.hid (fun W hb=>by
  obtain ⟨a,cap,rfl,hl,hx⟩:=h
  intro b off n c hv i hi a' m cap' hcell
  have hv':=hv
  injection hv' with ha hn _
  subst hn
  rcases hx with rfl | ⟨b2,off2,he,_,rs,hcs⟩
  · simp at hi
  · rw [ha] at he
    injection he with he
    injection he with he1 he2 _
    subst he1 he2
    have hlt:=cell_lt (hcs i hi).1
    rw [hb.cell (p:=⟨b,_,none⟩) hlt] at hcell
    exact hcap b off _ c hv i hi a' m cap' hcell)
 obtain ⟨ta,tc,rfl,-,-⟩:=id h
 obtain ⟨ca,cc,rfl,hcl,-⟩:=id hc
 clear h hc ht hD hcap h5
 obtain ⟨x,hx⟩:∃ x:Bool,True:=⟨true,trivial⟩
 clear hx x
 by_cases hk:cols.length≤100
 · have hkz:¬ (100:Int)<(cols.length:Int):=by omega
   obtain ⟨L,hL⟩:∃ L,L=if upsErr cols l=0 then newR cols l else []:=⟨_,rfl⟩
   obtain ⟨ue,hue⟩:∃ ue,ue=upsErr cols l:=⟨_,rfl⟩
   have hbg:∀ {W w':World} {v':Value},(upsErr cols l≠0→v'=.slice none 0 0)→(upsErr cols l=0→BagAt w' (fun b=>W.heap.size≤b) v' (newR cols l))→BagAt w' (fun b=>W.heap.size≤b) v' L:=fun {W w' v'} h1 h2=>by
    rw [hL]
    by_cases h:upsErr cols l=0
    · rw [if_pos h];exact h2 h
    · rw [if_neg h,h1 h];exact bag_nil _ _
   have H6:Hid (∀ W,Below w.heap.size w W→l.length≤60→Calls Tryz.prog 6 #[.slice ta l.length tc,.slice ca cols.length cc] W fun e w'=>(∃ v',e=.returned (.tuple #[v',.int .i64 ue])∧BagAt w' (fun b=>W.heap.size≤b) v' L)∧Below W.heap.size W w'):=Lib.hid (fun W hb h60=>by
    refine (f6_any hm W _ _ l cols D (HC.out W hb) (HN.out W hb) h60 hk (HT.out W hb) (HCP.out W hb) (fun b hb'=>Nat.lt_of_lt_of_le (HD.out b hb') hb.size)).mono ?_
    rintro e w' ⟨⟨v',he,h1,h2⟩,hb'⟩
    rw [hue]
    exact ⟨⟨v',he,hbg h1 h2⟩,hb'⟩)
   have H7:Hid (∀ W,Below w.heap.size w W→l.length≤60→Calls Tryz.prog 7 #[.slice ta l.length tc,.slice ca cols.length cc] W fun e w'=>(∃ v',e=.returned (.tuple #[v',.int .i64 ue])∧BagAt w' (fun b=>W.heap.size≤b) v' L)∧Below W.heap.size W w'):=Lib.hid (fun W hb h60=>by
    refine (f7_any hm W _ _ l cols D (HC.out W hb) (HN.out W hb) h60 hk).mono ?_
    rintro e w' ⟨⟨v',he,h1,h2⟩,hb'⟩
    rw [hue]
    exact ⟨⟨v',he,hbg h1 h2⟩,hb'⟩)
   clear hbg hL hue
   obtain ⟨ta1,ta2,ta3,htf⟩:=times_form l
   have H9:Hid (∀ W,Below w.heap.size w W→Calls Tryz.prog 9 #[.slice ta l.length tc] W fun e w'=>e=.returned (.tuple #[.int .i64 ta1,.int .i64 ta2,.int .i64 ta3])∧Below W.heap.size W w'):=Lib.hid (fun W hb=>by
    have:=f9_any hm W _ l D (HC.out W hb)
    rw [htf] at this;exact this)
   have H10:Hid (∀ W,Below w.heap.size w W→Calls Tryz.prog 10 #[.slice ta l.length tc] W fun e w'=>e=.returned (.tuple #[.int .i64 ta1,.int .i64 ta2,.int .i64 ta3])∧Below W.heap.size W w'):=Lib.hid (fun W hb=>by
    have:=f10_any hm W _ l D (HC.out W hb)
    rw [htf] at this;exact this)
   clear htf
   obtain ⟨so,hso⟩:∃ so,so=sortF (validChgs l) (summed l):=⟨_,rfl⟩
   have H11:Hid (∀ W,Below w.heap.size w W→Calls Tryz.prog 11 #[.slice ta l.length tc] W fun e w'=>(∃ rv,e=.returned (.tuple #[rv,.int .i64 so.2])∧ChgsAt w' (fun b=>W.heap.size≤b) rv so.1)∧Below W.heap.size W w'):=Lib.hid (fun W hb=>by
    refine (f11_any hm W _ l D (HC.out W hb) (fun b hb'=>Nat.lt_of_lt_of_le (HD.out b hb') hb.size)).mono ?_
    rintro e w' ⟨⟨rv,l',he,hch,hpp⟩,hb'⟩
    rw [sort_same hpp,← hso] at he hch
    exact ⟨⟨rv,he,hch⟩,hb'⟩)
   have H12:Hid (∀ W,Below w.heap.size w W→Calls Tryz.prog 12 #[.slice ta l.length tc] W fun e w'=>(∃ rv,e=.returned (.tuple #[rv,.int .i64 so.2])∧ChgsAt w' (fun b=>W.heap.size≤b) rv so.1)∧Below W.heap.size W w'):=Lib.hid (fun W hb=>by
    rw [hso]
    exact f12_any hm W _ l D (HC.out W hb) (fun b hb'=>Nat.lt_of_lt_of_le (HD.out b hb') hb.size))
   obtain ⟨sl,se⟩:=so
   simp only at H11 H12
   clear hso
   go_enter Tryz.func3,Tryz.ntmps3
   go_wp2_with (first
    | (go_at_call 4;with_reducible refine H4.out.mono ?_;rintro e w1 ⟨⟨x,rfl,hx⟩,hb1⟩
       have HB1:=Lib.hid hb1
       have HX:=Lib.hid hx
       clear hb1 hx
       cases x)
    | (go_at_call 5;with_reducible refine (H5.out _).mono ?_;rintro e w2 ⟨rfl,hb2⟩
       have HB2:=Lib.hid (HB1.out.trans (hb2.mono HB1.out.size))
       clear hb2)
    | (go_at_call 6;with_reducible refine (H6.out _ HB1.out (by simpa using HX.out)).mono ?_;rintro e w2 ⟨⟨v2,rfl,hbg⟩,hb2⟩
       obtain ⟨a2,c2,rfl,-,-⟩:=id hbg
       have HB2:=Lib.hid (HB1.out.trans (hb2.mono HB1.out.size))
       have HG2:=Lib.hid hbg
       clear hb2 hbg)
    | (go_at_call 7;with_reducible refine (H7.out _ HB2.out (by simpa using HX.out)).mono ?_;rintro e w3 ⟨⟨v3,rfl,hbg⟩,hb3⟩
       obtain ⟨a3,c3,rfl,-,-⟩:=id hbg
       have HB3:=Lib.hid (HB2.out.trans (hb3.mono HB2.out.size))
       have H8:=Lib.hid (f8_same hm w3 _ _ L _ _ (HG2.out.below hb3) hbg)
       clear hb3 hbg)
    | (go_at_call 8;with_reducible refine H8.out.mono ?_;rintro e w4 ⟨rfl,hb4⟩
       have HB4:=Lib.hid (HB3.out.trans (hb4.mono HB3.out.size))
       clear hb4)
    | (go_at_call 9;with_reducible refine (H9.out _ HB4.out).mono ?_;rintro e w5 ⟨rfl,hb5⟩
       have HB5:=Lib.hid (HB4.out.trans (hb5.mono HB4.out.size))
       clear hb5)
    | (go_at_call 10;with_reducible refine (H10.out _ HB5.out).mono ?_;rintro e w6 ⟨rfl,hb6⟩
       have HB6:=Lib.hid (HB5.out.trans (hb6.mono HB5.out.size))
       clear hb6)
    | (go_at_call 11;with_reducible refine (H11.out _ HB6.out).mono ?_;rintro e w7 ⟨⟨v7,rfl,hch⟩,hb7⟩
       obtain ⟨a7,c7,rfl,-,-⟩:=id hch
       have HB7:=Lib.hid (HB6.out.trans (hb7.mono HB6.out.size))
       have HC7:=Lib.hid hch
       clear hb7 hch)
    | (go_at_call 12;with_reducible refine (H12.out _ HB7.out).mono ?_;rintro e w8 ⟨⟨v8,rfl,hch⟩,hb8⟩
       obtain ⟨a8,c8,rfl,-,-⟩:=id hch
       have HB8:=Lib.hid (HB7.out.trans (hb8.mono HB7.out.size))
       have H13:=Lib.hid (f13_any hm w8 _ _ sl sl _ _ (HC7.out.below hb8) hch)
       rw [decide_eq_true rfl] at H13
       clear hb8 hch)
    | (go_at_call 13;with_reducible refine H13.out.mono ?_;rintro e w9 ⟨rfl,hb9⟩
       have HB1:=Lib.hid (HB8.out.trans (hb9.mono HB8.out.size))
       clear hb9))
   all_goals go_ret
   all_goals exact ⟨rfl,HB2.out⟩
 · have hkz:(100:Int)<(cols.length:Int):=by omega
   go_enter Tryz.func3,Tryz.ntmps3
   go_wp2_with (first
    | (go_at_call 4;with_reducible refine H4.out.mono ?_;rintro e w1 ⟨⟨x,rfl,hx⟩,hb1⟩
       have HB1:=Lib.hid hb1
       clear hb1 hx
       cases x)
    | (go_at_call 5;with_reducible refine (H5.out _).mono ?_;rintro e w2 ⟨rfl,hb2⟩
       have HB2:=Lib.hid (HB1.out.trans (hb2.mono HB1.out.size))
       clear hb2))
   all_goals go_ret
   all_goals exact ⟨rfl,HB2.out⟩
end leaves
end Go.Proofs.YtjhknhgkjfabaaaGreatDoor
namespace Go.Proofs.YtjhknhgkjfabaaaGreatDoor
open Go.ChangeShapes Go.WideShapes Go.ChangeAt Go.RowKit Go.Deep Go.Proofs.YtjhknhgkjfabaaaGreatDoor.Cmps
theorem choose_list {α:Type} {p:Nat→α→Prop}:∀ (n:Nat),(∀ i,i<n→∃ x,p i x)→∃ l:List α,l.length=n∧∀ i (hi:i<l.length),p i l[i]
 | 0,_=>⟨[],rfl,fun i hi=>by simp at hi⟩
 | n+1,h=>by
   obtain ⟨l,hl,hp⟩:=choose_list n (fun i hi=>h i (by omega))
   obtain ⟨x,hx⟩:=h n (by omega)
   refine ⟨l ++ [x],by simp [hl],fun i hi=>?_⟩
   by_cases e:i<l.length
   · rw [List.getElem_append_left e];exact hp i e
   · have hi':i<l.length+1:=by simpa using hi
     obtain rfl:i=l.length:=by omega
     rw [List.getElem_append_right (Nat.le_refl _)]
     simp [hl,hx]
section opening
variable {H : Type} {enc : TypeId × Value → H} {w : World} {base : Nat} {spare : Nat → Bool} {held : Bool} {fuel : Nat} {cs : List Value} {x : DataW H × List MemPlace}
theorem cz3:Tryz.prog.cellsOf 3=1:=by kernel_rfl
theorem cz9:Tryz.prog.cellsOf 9=1:=by kernel_rfl
theorem cz40:Tryz.prog.cellsOf 40=1:=by kernel_rfl
theorem cz42:Tryz.prog.cellsOf 42=3:=by kernel_rfl
theorem cz44:Tryz.prog.cellsOf 44=3:=by kernel_rfl
theorem spot_none {a:Addr} {v:Value} (h:w.cell? a=some v):a.spot=none:=by
 unfold World.cell? at h
 split at h
 · split at h
   · cases h
   · rename_i hs;simpa using hs
 · cases h
theorem trod_val (h:DataW.trod enc Tryz.prog w base spare held fuel 44 cs=some x):∃ v:Val,cs=[.int .i64 v.k,.int .i64 v.n,.string v.s]:=by
 obtain ⟨y0,y1,y2,n,_,hl,h0,h1,h2⟩:=trod_struct3 Tryz.underlying44 h
 rw [cz44] at hl
 simp only [cz3,cz9] at h0 h1 h2
 obtain ⟨k,e0,_⟩:=DataW.trod_int Tryz.underlying3 h0
 obtain ⟨n',e1,_⟩:=DataW.trod_int Tryz.underlying3 h1
 obtain ⟨s,e2,_⟩:=DataW.trod_string Tryz.underlying9 h2
 match cs,hl with
 | [a,b,c],_ =>
   simp only [List.drop_zero,List.take_succ_cons,List.take_zero,List.drop_succ_cons,List.cons.injEq,and_true] at e0 e1 e2
   exact ⟨⟨k,n',s⟩,by rw [e0,e1,e2]⟩
theorem trod_row (h:DataW.trod enc Tryz.prog w base spare held fuel 40 cs=some x):∃ r row,cs=[r]∧RowAt w (fun b=>b<w.heap.size) r row∧∀ a m cap,r=.slice a m cap→m≤cap:=by
 rcases Deep.open_slice Tryz.underlying40 h with ⟨rfl,_⟩ | ⟨a,len,cap,m,n,D,Pl,rfl,_,hlc,hcm,hm,_,hx⟩
 · exact ⟨_,[],rfl,⟨none,0,rfl,by simp,.inl rfl⟩,fun a m cap e=>by injection e with _ e1 e2;omega⟩
 · rw [cz44] at hx
   have hlm:len≤m:=by subst hm;split <;> omega
   have hV:∀ i,i<len→∃ v:Val,w.cell? (a.add (i * 3))=some (.int .i64 v.k)∧w.cell? ((a.add (i * 3)).add 1)=some (.int .i64 v.n)∧w.cell? ((a.add (i * 3)).add 2)=some (.string v.s):=fun i hi=>by
    obtain ⟨cs',h1,h2⟩:=hx i (by omega)
    obtain ⟨v,rfl⟩:=trod_val h2
    obtain ⟨_,_,hc⟩:=World.cells?_some h1
    have c0:=hc 0 (by omega)
    have c1:=hc 1 (by omega)
    have c2:=hc 2 (by omega)
    exact ⟨v,by simpa [Addr.add] using c0,by simpa using c1,by simpa using c2⟩
   obtain ⟨row,hl,hp⟩:=choose_list len hV
   refine ⟨_,row,rfl,⟨some a,cap,by rw [hl],by simp only [maxLen] at hcm;omega,?_⟩,fun a m cap e=>by injection e with _ e1 e2;omega⟩
   rcases Nat.eq_zero_or_pos len with h0 | h0
   · exact .inl (List.eq_nil_of_length_eq_zero (by omega))
   · obtain ⟨v,c0,_⟩:=hV 0 h0
     have hsp:a.spot=none:=spot_none (w:=w) (a:=a) (v:=.int .i64 v.k) (by simpa [Addr.add] using c0)
     obtain ⟨b,off,spot⟩:=a
     dsimp only at hsp
     subst hsp
     refine .inr ⟨b,off,rfl,?_,fun i hi=>?_⟩
     · rw [add_at] at c0;exact cell_lt c0
     · obtain ⟨c0,c1,c2⟩:=hp i hi
       simp only [add_at] at c0 c1 c2
       exact ⟨c0,c1,c2⟩
theorem trod_chg (h:DataW.trod enc Tryz.prog w base spare held fuel 42 cs=some x):∃ (c:Chg) (r:Value),cs=[.int .i64 c.t,r,.int .i64 c.n]∧RowAt w (fun b=>b<w.heap.size) r c.r∧∀ a m cap,r=.slice a m cap→m≤cap:=by
 obtain ⟨y0,y1,y2,n,_,hl,h0,h1,h2⟩:=trod_struct3 Tryz.underlying42 h
 rw [cz42] at hl
 simp only [cz3,cz40] at h0 h1 h2
 obtain ⟨t,e0,_⟩:=DataW.trod_int Tryz.underlying3 h0
 obtain ⟨r,row,e1,hr,hcap⟩:=trod_row h1
 obtain ⟨n',e2,_⟩:=DataW.trod_int Tryz.underlying3 h2
 match cs,hl with
 | [a,b,c],_ =>
   simp only [List.drop_zero,List.take_succ_cons,List.take_zero,List.drop_succ_cons,List.cons.injEq,and_true] at e0 e1 e2
   exact ⟨⟨t,row,n'⟩,r,by rw [e0,e1,e2],hr,hcap⟩
theorem trod_chgs (h:DataW.trod enc Tryz.prog w base spare held fuel 22 cs=some x):∃ v l,cs=[v]∧ChgsAt w (fun b=>b<w.heap.size) v l∧RowsCap w v:=by
 rcases Deep.open_slice Tryz.underlying22 h with ⟨rfl,_⟩ | ⟨a,len,cap,m,n,D,Pl,rfl,_,hlc,hcm,hm,_,hx⟩
 · exact ⟨_,[],rfl,⟨none,0,rfl,by simp,.inl rfl⟩,fun b off n c e=>by cases e⟩
 · rw [cz42] at hx
   have hlm:len≤m:=by subst hm;split <;> omega
   have hV:∀ i,i<len→∃ y:Chg,w.cell? (a.add (i * 3))=some (.int .i64 y.t)∧(∃ r,w.cell? ((a.add (i * 3)).add 1)=some r∧RowAt w (fun b=>b<w.heap.size) r y.r∧∀ a m cap,r=.slice a m cap→m≤cap)∧w.cell? ((a.add (i * 3)).add 2)=some (.int .i64 y.n):=fun i hi=>by
    obtain ⟨cs',h1,h2⟩:=hx i (by omega)
    obtain ⟨y,r,rfl,hr,hcap⟩:=trod_chg h2
    obtain ⟨_,_,hc⟩:=World.cells?_some h1
    have c0:=hc 0 (by omega)
    have c1:=hc 1 (by omega)
    have c2:=hc 2 (by omega)
    exact ⟨y,by simpa [Addr.add] using c0,⟨r,by simpa using c1,hr,hcap⟩,by simpa using c2⟩
   obtain ⟨l,hl,hp⟩:=choose_list len hV
   refine ⟨_,l,rfl,⟨some a,cap,by rw [hl],by simp only [maxLen] at hcm;omega,?_⟩,?_⟩
   · rcases Nat.eq_zero_or_pos len with h0 | h0
     · exact .inl (List.eq_nil_of_length_eq_zero (by omega))
     · obtain ⟨v,c0,_⟩:=hV 0 h0
       have hsp:a.spot=none:=spot_none (w:=w) (a:=a) (v:=.int .i64 v.t) (by simpa [Addr.add] using c0)
       obtain ⟨b,off,spot⟩:=a
       dsimp only at hsp
       subst hsp
       have hrs:∃ rs:Nat→Value,∀ i,i<l.length→w.cell? ⟨b,off+i * 3+1,none⟩=some (rs i) :=
        ⟨fun i=>(w.cell? ⟨b,off+i * 3+1,none⟩).getD (.bool false),fun i hi=>by
         obtain ⟨_,⟨r,c1,_⟩,_⟩:=hp i hi
         simp only [add_at] at c1
         simp only [c1,Option.getD_some]⟩
       obtain ⟨rs,hrs⟩:=hrs
       refine .inr ⟨b,off,rfl,?_,rs,fun i hi=>?_⟩
       · rw [add_at] at c0;exact cell_lt c0
       · obtain ⟨c0,⟨r,c1,hr,_⟩,c2⟩:=hp i hi
         simp only [add_at] at c0 c1 c2
         have e:=hrs i hi
         rw [c1] at e
         injection e with e
         exact ⟨c0,hrs i hi,c2,e ▸ hr⟩
   · intro b off n c hv i hi a' m' cap' hcell
     injection hv with ha hn _
     injection ha with ha
     subst ha hn
     obtain ⟨_,⟨r,c1,_,hcap⟩,_⟩:=hp i (by omega)
     simp only [add_at] at c1
     rw [hcell] at c1
     injection c1 with c1
     exact hcap _ _ _ c1.symm
theorem trod_nums (h:DataW.trod enc Tryz.prog w base spare held fuel 23 cs=some x):∃ v l,cs=[v]∧NumsAt w v l:=by
 rcases Deep.open_slice Tryz.underlying23 h with ⟨rfl,_⟩ | ⟨a,len,cap,m,n,D,Pl,rfl,_,hlc,hcm,hm,_,hx⟩
 · exact ⟨_,[],rfl,none,0,rfl,by simp,.inl rfl⟩
 · rw [cz3] at hx
   have hlm:len≤m:=by subst hm;split <;> omega
   have hV:∀ i,i<len→∃ y:Int,w.cell? (a.add (i * 1))=some (.int .i64 y):=fun i hi=>by
    obtain ⟨cs',h1,h2⟩:=hx i (by omega)
    obtain ⟨y,rfl,_⟩:=DataW.trod_int Tryz.underlying3 h2
    obtain ⟨_,_,hc⟩:=World.cells?_some h1
    have c0:=hc 0 (by omega)
    exact ⟨y,by simpa [Addr.add] using c0⟩
   obtain ⟨l,hl,hp⟩:=choose_list len hV
   refine ⟨_,l,rfl,some a,cap,by rw [hl],by simp only [maxLen] at hcm;omega,?_⟩
   rcases Nat.eq_zero_or_pos len with h0 | h0
   · exact .inl (List.eq_nil_of_length_eq_zero (by omega))
   · obtain ⟨v,c0⟩:=hV 0 h0
     have hsp:a.spot=none:=spot_none (w:=w) (a:=a) (v:=.int .i64 v) (by simpa [Addr.add] using c0)
     obtain ⟨b,off,spot⟩:=a
     dsimp only at hsp
     subst hsp
     refine .inr ⟨b,off,rfl,?_,fun i hi=>?_⟩
     · rw [add_at] at c0;exact cell_lt c0
     · have c0:=hp i hi
       simpa only [add_at,Nat.mul_one] using c0
end opening
end Go.Proofs.YtjhknhgkjfabaaaGreatDoor
