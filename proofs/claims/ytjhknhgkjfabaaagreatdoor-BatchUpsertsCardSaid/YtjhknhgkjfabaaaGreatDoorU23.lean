/-
 A row put into a bag where it was not: what the reference's Put answers. If the bag and the row lie in the world as the words say; no row of the bag is the row.
-/
import Derived.Test.YtjhknhgkjfabaaaGreatDoorU22
set_option linter.unusedSimpArgs false
set_option linter.unusedVariables false
namespace Go.Proofs.YtjhknhgkjfabaaaGreatDoor
open Go.RowKit Go.Proofs.YtjhknhgkjfabaaaGreatDoor.Cmps Go.Shelf
def insStep (r:List Val) (n:Int) (s:List Itm×Bool) (x:Itm):List Itm×Bool:=if s.2=false∧cmpRow r x.r<0 then (s.1 ++ [⟨r,n⟩] ++ [x],true) else (s.1 ++ [x],s.2)
def insEnd (r:List Val) (n:Int) (s:List Itm×Bool):List Itm:=if s.2=true then s.1 else s.1 ++ [⟨r,n⟩]
theorem ins_done (r:List Val) (n:Int):∀ (l out:List Itm),l.foldl (insStep r n) (out,true)=(out ++ l,true)
 | [],out=>by simp
 | x :: t,out=>by
   rw [List.foldl_cons]
   have:insStep r n (out,true) x=(out ++ [x],true):=by simp [insStep]
   rw [this,ins_done r n t]
   simp
theorem ins_fold (r:List Val) (n:Int):∀ (l out:List Itm),insEnd r n (l.foldl (insStep r n) (out,false))=out ++ insR r n l
 | [],out=>by simp [insEnd,insR]
 | x :: t,out=>by
   rw [List.foldl_cons]
   unfold insR
   by_cases h:cmpRow r x.r<0
   · have:insStep r n (out,false) x=(out ++ [⟨r,n⟩] ++ [x],true):=by simp [insStep,h]
     rw [this,ins_done,if_pos h]
     simp [insEnd]
   · have:insStep r n (out,false) x=(out ++ [x],false):=by simp [insStep,h]
     rw [this,ins_fold r n t,if_neg h]
     simp
theorem ins_succ {l:List Itm} {k:Nat} (hk:k<l.length) (r:List Val) (n:Int) (s:List Itm×Bool):(l.take (k+1)).foldl (insStep r n) s=insStep r n ((l.take k).foldl (insStep r n) s) l[k]:=by
 rw [List.take_succ_eq_append_getElem hk,List.foldl_append];rfl
theorem ins_len (r:List Val) (n:Int):∀ (l:List Itm) (s:List Itm×Bool),(l.foldl (insStep r n) s).1.length≤s.1.length+2 * l.length
 | [],s=>by simp
 | x :: t,s=>by
   rw [List.foldl_cons]
   have h1:=ins_len r n t (insStep r n s x)
   have h2:(insStep r n s x).1.length≤s.1.length+2:=by
    unfold insStep
    split <;> simp
   simp only [List.length_cons]
   omega
def OneI (W:World) (b o:Nat) (xv:Value) (xn:Int):Prop:=W.cell? ⟨b,o,none⟩=some xv∧W.cell? ⟨b,o+1,none⟩=some (.int .i64 xn)
theorem row_in {w0 W W':World} {D0:Nat→Prop} {v:Value} {ys:List (Itm×Value)} {blk:Option Nat} (ho:OutI D0 w0 W v ys blk) {r:Value} {row:List Val} (hr:RowAt W' (fun b=>W.heap.size≤b) r row):RowAt W' (fun b=>(D0 b∨w0.heap.size≤b)∧b<W'.heap.size∧blk≠some b) r row :=
 hr.lt.mono fun b hb=>⟨.inr (Nat.le_trans ho.below.size hb.1),hb.2,fun e=>by have:=ho.own.lt_of e;omega⟩
section leaves
set_option maxHeartbeats 1000000
set_option maxRecDepth 10000
theorem f54_any (hm:Tryz.prog.follows .mixedOrders=true) (w:World) (v rv:Value) (l:List Itm) (r:List Val) (D DR:Nat→Prop) (h:BagAt w D v l) (hr:RowAt w DR rv r) (hl:l.length≤100) (h8:r.length≤1000) (hl8:∀ x ∈ l,x.r.length≤1000) (hne:∀ x ∈ l,cmpRow r x.r≠0) :
 Calls Tryz.prog 54 #[v,rv,.int .i64 1] w fun e w'=>(∃ v',e=.returned v'∧BagAt w' (fun b=>w.heap.size≤b) v' (insR r 1 l))∧Below w.heap.size w w':=by
 have mixed:=hm
 obtain ⟨i0,hi0,hz0,hz1,hz2⟩:=info_parts info65
 have HC0:=Lib.hid h
 have HL8:=Lib.hid hl8
 have HNE:=Lib.hid hne
 have H100:=Lib.hid (fun W (hb:Below w.heap.size w W)=>f100_any W rv r DR (hr.below hb) h8)
 have HRW:=Lib.hid (fun W (hb:Below w.heap.size w W)=>hr.below hb)
 obtain ⟨ta,tc,rfl,-,-⟩:=id h
 obtain ⟨ra,rc,rfl,-,-⟩:=id hr
 clear h hr hl8 hne
 go_enter Tryz.func54,Tryz.ntmps54
 go_wp2
 go_loopw [7,8,9] (fun s7 s8 s9 wr=>∃ (k:Nat) (ys:List (Itm×Value)) (blk:Option Nat) (S:List Itm×Bool),s9=.int .i64 k∧k≤l.length∧s8=.bool S.2∧Hid (S=(l.take k).foldl (insStep r 1) ([],false))∧Hid (ys.map (·.1)=S.1)∧Hid (OutI (fun _=>False) w wr s7 ys blk)) (fun _ _ i _=>l.length - (intOf i).toNat)
 case atStart=>exact ⟨0,[],none,([],false),rfl,by omega,rfl,rfl,rfl,OutI.start _ w⟩
 case round =>
  obtain ⟨k,ys,blk,S,rfl,hk,rfl,HS,HY,HO⟩:=hrel
  obtain ⟨a,cp,rfl⟩:=HO.out.own.form
  have hyl:ys.length≤2 * k:=by
   have h1:=congrArg List.length HY.out
   rw [List.length_map] at h1
   have h2:=ins_len r 1 (l.take k) ([],false)
   rw [← HS.out,List.length_take] at h2
   simp only [List.length_nil] at h2
   omega
  by_cases hlt:k<l.length
  · obtain ⟨bL,oL,xv,rfl,⟨b0,b1⟩,hxr⟩:=HC0.out.at hlt
    have hbl:=cell_lt b0
    obtain ⟨x,hx⟩:∃ x,x=l[k]:=⟨_,rfl⟩
    have hxm:x ∈ l:=by rw [hx];exact List.getElem_mem hlt
    have hxl:=HL8.out x hxm
    have hxn:=HNE.out x hxm
    have HXL:=Lib.hid hx
    rw [← hx] at b1 hxr
    obtain ⟨xr,xn⟩:=x
    simp only at b1 hxr hxl hxn
    obtain ⟨xa,xc,rfl,-,-⟩:=id hxr
    have HX:Hid (∀ W,Below w.heap.size w W→OneI W bL (oL+k * 2) (.slice xa xr.length xc) xn∧RowAt W D (.slice xa xr.length xc) xr):=Lib.hid (fun W hb =>
     ⟨⟨(hb.cell (p:=⟨bL,_,none⟩) hbl).trans b0,(hb.cell (p:=⟨bL,_,none⟩) hbl).trans b1⟩,hxr.below hb⟩)
    obtain ⟨⟨c0,c1⟩,hxw⟩:=HX.out wr HO.out.below
    obtain ⟨q,hq⟩:∃ q,q=cmpRow r xr:=⟨_,rfl⟩
    have H51:Hid (Calls Tryz.prog 51 #[.slice ra r.length rc,.slice xa xr.length xc] wr fun e w'=>e=.returned (.int .i64 q)∧Grew wr w'):=by
     rw [hq];exact Lib.hid (f51_any hm wr _ _ _ _ DR D (HRW.out wr HO.out.below) hxw)
    have hq0:¬ q=0:=by rw [hq];exact hxn
    have hqb:(q == 0)=false:=by simpa using hq0
    have HQ:=Lib.hid hq
    have HXN:=Lib.hid hxl
    have HSU:=Lib.hid (ins_succ hlt r 1 ([],false))
    clear hx hxm hq hxn hxw b0 b1 hxr hbl hxl
    obtain ⟨so,sf⟩:=S
    simp only at HY
    by_cases hqn:q<0
    · cases sf
      · go_wp2_with (first
         | (go_at_call 51;with_reducible refine H51.out.mono ?_;rintro e w6 ⟨rfl,hg6⟩
            have HO6:=Lib.hid (HO.out.next hg6.below)
            clear hg6)
         | (go_at_call 100;with_reducible refine (H100.out _ HO6.out.below).mono ?_;rintro e w7 ⟨⟨r7,rfl,hr7⟩,hb7⟩
            obtain ⟨a7,c7,rfl,-,-⟩:=id hr7
            have HO7:=Lib.hid (HO6.out.next hb7)
            have HR7:=Lib.hid (row_in HO6.out hr7)
            clear hr7 hb7)
         | (at_builtin;refine wpList_append_S rfl (.tmp 55) (.tmp 60) 27 rfl 65 i0 _ 2 32 Tryz.underlying27 hi0 hz0 hz1 hz2 rfl (by omega) (.slice a ys.length cp) ys.length (iels ys) blk rfl (HO7.out.next ((Below.refl _ _).alloc (Nat.le_refl _) (.cells #[.slice a7 r.length c7,.int .i64 1] 65))).own (.slice (some ⟨w7.heap.size,0,none⟩) 1 1) 1 [.slice a7 r.length c7,.int .i64 1] rfl (itm_src _ _ rfl _ _ rfl) (fun u hu=>by simp at hu;rcases hu with rfl | rfl <;> rfl) (by simp only [maxLen];omega) (by omega) ?_;intro v9 w9 blk9 hown9 hgrow9 hat9
            have HO9:=Lib.hid (HO7.out.add ⟨r,1⟩ (.slice a7 r.length c7) HR7.out hown9 hgrow9 hat9)
            obtain ⟨a9,c9,rfl⟩:∃ a c,v9=.slice a (ys.length+1) c:=hown9.form
            clear hown9 hgrow9 hat9))
        have hBd:Below w9.heap.size w9 w9.drew:=(Below.refl _ _).drew
        have HOd:=Lib.hid (HO9.out.next hBd)
        have hC:OneI w9.drew bL (oL+k * 2) (.slice xa xr.length xc) xn:=(HX.out _ HOd.out.below).1
        have H100x:=Lib.hid (f100_any w9.drew (.slice xa xr.length xc) xr D (HX.out _ HOd.out.below).2 HXN.out)
        clear hBd
        refine wp_region_ord [0,1,2,3,4,5,7,8,9,10,11,6,12,13,14,15] (fun W=>OneI W bL (oL+k * 2) (.slice xa xr.length xc) xn) mixed (by kernel_rfl) (fun hg=>?_)
        iterate 11 (
         refine ord_rd hg hC (fun K hK=>?_)
         apply Exists.intro
         refine ⟨fun W hW=>?_,?_⟩
         · obtain ⟨z0,z1⟩:=hW
           go_simp
           first | rfl | (rw [if_pos hlt];rfl) | trace_state
         go_simp
         refine hK _ ?_
         clear hK K)
        refine ord_on (fun K hK=>?_)
        go_wp2_with (go_at_call 100;with_reducible refine H100x.out.mono ?_;rintro e wa ⟨⟨rva,rfl,hra⟩,hba⟩)
        obtain ⟨aa,ca,rfl,-,-⟩:=id hra
        have HOa:=Lib.hid (HOd.out.next hba)
        have HRa:=Lib.hid (row_in HOd.out hra)
        have hCa:OneI wa bL (oL+k * 2) (.slice xa xr.length xc) xn:=(HX.out _ HOa.out.below).1
        clear hra hba
        refine hK _ _ rfl hCa ?_
        clear hK K
        refine ord_rd hg hCa (fun K hK=>?_)
        apply Exists.intro
        refine ⟨fun W hW=>?_,?_⟩
        · go_simp
          rfl
        go_simp
        refine hK _ ?_
        clear hK K
        refine ord_on (fun K hK=>?_)
        go_simp
        refine hK _ _ rfl (HX.out _ (HOa.out.next ((Below.refl _ _).alloc (Nat.le_refl _) _)).below).1 ?_
        clear hK K
        refine ord_on (fun K hK=>?_)
        refine wp_append_S (.tmp 62) (.tmp 75) 27 rfl 65 i0 _ 2 32 Tryz.underlying27 hi0 hz0 hz1 hz2 rfl (by omega) (.slice a9 (ys.length+1) c9) (ys.length+1) (iels (ys ++ [(⟨r,1⟩,.slice a7 r.length c7)])) blk9 rfl (by have:=(HOa.out.next ((Below.refl _ _).alloc (Nat.le_refl _) (.cells #[.slice aa xr.length ca,.int .i64 xn] 65))).own;simpa only [List.length_append,List.length_cons,List.length_nil,Nat.zero_add] using this) (.slice (some ⟨wa.heap.size,0,none⟩) 1 1) 1 [.slice aa xr.length ca,.int .i64 xn] rfl (itm_src _ _ rfl _ _ rfl) (fun u hu=>by simp at hu;rcases hu with rfl | rfl <;> rfl) (by simp only [maxLen];omega) (by omega) ?_
        intro v8 w8 blk8 hown8 hgrow8 hat8
        have HO8:=Lib.hid (HOa.out.add ⟨xr,xn⟩ (.slice aa xr.length ca) HRa.out (by simpa only [List.length_append,List.length_cons,List.length_nil,Nat.zero_add] using hown8) hgrow8 hat8)
        have hC8:=(HX.out _ HO8.out.below).1
        clear hown8 hgrow8 hat8
        refine hK _ _ rfl hC8 ?_
        clear hK K
        refine ord_rd hg hC8 (fun K hK=>?_)
        apply Exists.intro
        refine ⟨fun W hW=>?_,?_⟩
        · go_simp
          rfl
        go_simp
        refine hK _ ?_
        clear hK K
        refine ord_end (by kernel_rfl) ?_
        go_wp2
        refine ⟨⟨k+1,ys ++ [(⟨r,1⟩,.slice a7 r.length c7)] ++ [(⟨xr,xn⟩,.slice aa xr.length ca)],blk8,(so ++ [⟨r,1⟩] ++ [⟨xr,xn⟩],true),by go_num,by omega,rfl,?_,?_,HO8⟩,by simp [intOf];omega⟩
        · show _=_
          rw [HSU.out,← HS.out,← HXL.out]
          simp [insStep,← HQ.out,hqn]
        · show _=_
          rw [List.map_append,List.map_append,HY.out];rfl
      · go_wp2_with (first
         | (go_at_call 51;with_reducible refine H51.out.mono ?_;rintro e w6 ⟨rfl,hg6⟩
            have HO6:=Lib.hid (HO.out.next hg6.below)
            clear hg6))
        have hBd:Below w6.heap.size w6 w6.drew:=(Below.refl _ _).drew
        have HOd:=Lib.hid (HO6.out.next hBd)
        have hC:OneI w6.drew bL (oL+k * 2) (.slice xa xr.length xc) xn:=(HX.out _ HOd.out.below).1
        have H100x:=Lib.hid (f100_any w6.drew (.slice xa xr.length xc) xr D (HX.out _ HOd.out.below).2 HXN.out)
        clear hBd
        refine wp_region_ord [0,1,2,3,4,5,7,8,9,10,11,6,12,13,14,15] (fun W=>OneI W bL (oL+k * 2) (.slice xa xr.length xc) xn) mixed (by kernel_rfl) (fun hg=>?_)
        iterate 11 (
         refine ord_rd hg hC (fun K hK=>?_)
         apply Exists.intro
         refine ⟨fun W hW=>?_,?_⟩
         · obtain ⟨z0,z1⟩:=hW
           go_simp
           first | rfl | (rw [if_pos hlt];rfl) | trace_state
         go_simp
         refine hK _ ?_
         clear hK K)
        refine ord_on (fun K hK=>?_)
        go_wp2_with (go_at_call 100;with_reducible refine H100x.out.mono ?_;rintro e wa ⟨⟨rva,rfl,hra⟩,hba⟩)
        obtain ⟨aa,ca,rfl,-,-⟩:=id hra
        have HOa:=Lib.hid (HOd.out.next hba)
        have HRa:=Lib.hid (row_in HOd.out hra)
        have hCa:OneI wa bL (oL+k * 2) (.slice xa xr.length xc) xn:=(HX.out _ HOa.out.below).1
        clear hra hba
        refine hK _ _ rfl hCa ?_
        clear hK K
        refine ord_rd hg hCa (fun K hK=>?_)
        apply Exists.intro
        refine ⟨fun W hW=>?_,?_⟩
        · go_simp
          rfl
        go_simp
        refine hK _ ?_
        clear hK K
        refine ord_on (fun K hK=>?_)
        go_simp
        refine hK _ _ rfl (HX.out _ (HOa.out.next ((Below.refl _ _).alloc (Nat.le_refl _) _)).below).1 ?_
        clear hK K
        refine ord_on (fun K hK=>?_)
        refine wp_append_S (.tmp 62) (.tmp 75) 27 rfl 65 i0 _ 2 32 Tryz.underlying27 hi0 hz0 hz1 hz2 rfl (by omega) (.slice a ys.length cp) (ys.length) (iels (ys)) blk rfl (by have:=(HOa.out.next ((Below.refl _ _).alloc (Nat.le_refl _) (.cells #[.slice aa xr.length ca,.int .i64 xn] 65))).own;simpa only [List.length_append,List.length_cons,List.length_nil,Nat.zero_add] using this) (.slice (some ⟨wa.heap.size,0,none⟩) 1 1) 1 [.slice aa xr.length ca,.int .i64 xn] rfl (itm_src _ _ rfl _ _ rfl) (fun u hu=>by simp at hu;rcases hu with rfl | rfl <;> rfl) (by simp only [maxLen];omega) (by omega) ?_
        intro v8 w8 blk8 hown8 hgrow8 hat8
        have HO8:=Lib.hid (HOa.out.add ⟨xr,xn⟩ (.slice aa xr.length ca) HRa.out (by simpa only [List.length_append,List.length_cons,List.length_nil,Nat.zero_add] using hown8) hgrow8 hat8)
        have hC8:=(HX.out _ HO8.out.below).1
        clear hown8 hgrow8 hat8
        refine hK _ _ rfl hC8 ?_
        clear hK K
        refine ord_rd hg hC8 (fun K hK=>?_)
        apply Exists.intro
        refine ⟨fun W hW=>?_,?_⟩
        · go_simp
          rfl
        go_simp
        refine hK _ ?_
        clear hK K
        refine ord_end (by kernel_rfl) ?_
        go_wp2
        refine ⟨⟨k+1,ys ++ [(⟨xr,xn⟩,.slice aa xr.length ca)],blk8,(so ++ [⟨xr,xn⟩],true),by go_num,by omega,rfl,?_,?_,HO8⟩,by simp [intOf];omega⟩
        · show _=_
          rw [HSU.out,← HS.out,← HXL.out]
          simp [insStep]
        · show _=_
          rw [List.map_append,HY.out];rfl
    · go_wp2_with (first
       | (go_at_call 51;with_reducible refine H51.out.mono ?_;rintro e w6 ⟨rfl,hg6⟩
          have HO6:=Lib.hid (HO.out.next hg6.below)
          clear hg6))
      have hBd:Below w6.heap.size w6 w6.drew:=(Below.refl _ _).drew
      have HOd:=Lib.hid (HO6.out.next hBd)
      have hC:OneI w6.drew bL (oL+k * 2) (.slice xa xr.length xc) xn:=(HX.out _ HOd.out.below).1
      have H100x:=Lib.hid (f100_any w6.drew (.slice xa xr.length xc) xr D (HX.out _ HOd.out.below).2 HXN.out)
      clear hBd
      refine wp_region_ord [0,1,2,3,4,5,7,8,9,10,11,6,12,13,14,15] (fun W=>OneI W bL (oL+k * 2) (.slice xa xr.length xc) xn) mixed (by kernel_rfl) (fun hg=>?_)
      iterate 11 (
       refine ord_rd hg hC (fun K hK=>?_)
       apply Exists.intro
       refine ⟨fun W hW=>?_,?_⟩
       · obtain ⟨z0,z1⟩:=hW
         go_simp
         first | rfl | (rw [if_pos hlt];rfl) | trace_state
       go_simp
       refine hK _ ?_
       clear hK K)
      refine ord_on (fun K hK=>?_)
      go_wp2_with (go_at_call 100;with_reducible refine H100x.out.mono ?_;rintro e wa ⟨⟨rva,rfl,hra⟩,hba⟩)
      obtain ⟨aa,ca,rfl,-,-⟩:=id hra
      have HOa:=Lib.hid (HOd.out.next hba)
      have HRa:=Lib.hid (row_in HOd.out hra)
      have hCa:OneI wa bL (oL+k * 2) (.slice xa xr.length xc) xn:=(HX.out _ HOa.out.below).1
      clear hra hba
      refine hK _ _ rfl hCa ?_
      clear hK K
      refine ord_rd hg hCa (fun K hK=>?_)
      apply Exists.intro
      refine ⟨fun W hW=>?_,?_⟩
      · go_simp
        rfl
      go_simp
      refine hK _ ?_
      clear hK K
      refine ord_on (fun K hK=>?_)
      go_simp
      refine hK _ _ rfl (HX.out _ (HOa.out.next ((Below.refl _ _).alloc (Nat.le_refl _) _)).below).1 ?_
      clear hK K
      refine ord_on (fun K hK=>?_)
      refine wp_append_S (.tmp 62) (.tmp 75) 27 rfl 65 i0 _ 2 32 Tryz.underlying27 hi0 hz0 hz1 hz2 rfl (by omega) (.slice a ys.length cp) (ys.length) (iels (ys)) blk rfl (by have:=(HOa.out.next ((Below.refl _ _).alloc (Nat.le_refl _) (.cells #[.slice aa xr.length ca,.int .i64 xn] 65))).own;simpa only [List.length_append,List.length_cons,List.length_nil,Nat.zero_add] using this) (.slice (some ⟨wa.heap.size,0,none⟩) 1 1) 1 [.slice aa xr.length ca,.int .i64 xn] rfl (itm_src _ _ rfl _ _ rfl) (fun u hu=>by simp at hu;rcases hu with rfl | rfl <;> rfl) (by simp only [maxLen];omega) (by omega) ?_
      intro v8 w8 blk8 hown8 hgrow8 hat8
      have HO8:=Lib.hid (HOa.out.add ⟨xr,xn⟩ (.slice aa xr.length ca) HRa.out (by simpa only [List.length_append,List.length_cons,List.length_nil,Nat.zero_add] using hown8) hgrow8 hat8)
      have hC8:=(HX.out _ HO8.out.below).1
      clear hown8 hgrow8 hat8
      refine hK _ _ rfl hC8 ?_
      clear hK K
      refine ord_rd hg hC8 (fun K hK=>?_)
      apply Exists.intro
      refine ⟨fun W hW=>?_,?_⟩
      · go_simp
        rfl
      go_simp
      refine hK _ ?_
      clear hK K
      refine ord_end (by kernel_rfl) ?_
      go_wp2
      refine ⟨⟨k+1,ys ++ [(⟨xr,xn⟩,.slice aa xr.length ca)],blk8,(so ++ [⟨xr,xn⟩],sf),by go_num,by omega,rfl,?_,?_,HO8⟩,by simp [intOf];omega⟩
      · show _=_
        rw [HSU.out,← HS.out,← HXL.out]
        simp [insStep,← HQ.out,hqn]
      · show _=_
        rw [List.map_append,HY.out];rfl
  · have hkl:k=l.length:=by omega
    have HE:Hid (insEnd r 1 S=insR r 1 l):=by
     have:=ins_fold r 1 l []
     have h2:=HS.out
     rw [hkl,List.take_length] at h2
     rw [← h2] at this
     exact Lib.hid (by simpa using this)
    clear hkl
    obtain ⟨so,sf⟩:=S
    simp only at HY
    cases sf
    · go_wp2_with (first
       | (go_at_call 100;with_reducible refine (H100.out _ HO.out.below).mono ?_;rintro e w7 ⟨⟨r7,rfl,hr7⟩,hb7⟩
          obtain ⟨a7,c7,rfl,-,-⟩:=id hr7
          have HO7:=Lib.hid (HO.out.next hb7)
          have HR7:=Lib.hid (row_in HO.out hr7)
          clear hr7 hb7)
       | (at_builtin;refine wpList_append_S rfl (.tmp 83) (.tmp 88) 27 rfl 65 i0 _ 2 32 Tryz.underlying27 hi0 hz0 hz1 hz2 rfl (by omega) (.slice a ys.length cp) ys.length (iels ys) blk rfl (HO7.out.next ((Below.refl _ _).alloc (Nat.le_refl _) (.cells #[.slice a7 r.length c7,.int .i64 1] 65))).own (.slice (some ⟨w7.heap.size,0,none⟩) 1 1) 1 [.slice a7 r.length c7,.int .i64 1] rfl (itm_src _ _ rfl _ _ rfl) (fun u hu=>by simp at hu;rcases hu with rfl | rfl <;> rfl) (by simp only [maxLen];omega) (by omega) ?_;intro v9 w9 blk9 hown9 hgrow9 hat9
          have HO9:=Lib.hid (HO7.out.add ⟨r,1⟩ (.slice a7 r.length c7) HR7.out hown9 hgrow9 hat9)
          clear hown9 hgrow9 hat9))
      go_ret
      refine ⟨⟨_,rfl,?_⟩,HO9.out.below⟩
      have hb:=HO9.out.bag (by simp;omega)
      rw [List.map_append,HY.out] at hb
      rw [← HE.out]
      exact hb.mono fun b hb=>hb.elim (fun h=>h.elim) id
    · go_wp2
      go_ret
      refine ⟨⟨_,rfl,?_⟩,HO.out.below⟩
      have hb:=HO.out.bag (by omega)
      rw [HY.out] at hb
      rw [← HE.out]
      exact hb.mono fun b hb=>hb.elim (fun h=>h.elim) id
end leaves
end Go.Proofs.YtjhknhgkjfabaaaGreatDoor
