/-
 Changes added up by the reference: the walk of its Put. If the changes lie in the world as the words say.
-/
import Derived.Test.YtjhknhgkjfabaaaGreatDoorU19
set_option linter.unusedSimpArgs false
set_option linter.unusedVariables false
namespace Go.Proofs.YtjhknhgkjfabaaaGreatDoor
open Go.RowKit Go.Proofs.YtjhknhgkjfabaaaGreatDoor.Cmps
theorem putStep_same {t:Int} {r:List Val} {s:PS} {x:Chg} (h:sameK t r x=true):putStep t r s x=⟨s.out,s.fin,s.n+x.n⟩:=by simp [putStep,h]
theorem putStep_key {t:Int} {r:List Val} {s:PS} {x:Chg} (h:sameK t r x=false) (hf:s.fin=false) (hb:beforeK t r x=true):putStep t r s x=⟨s.out ++ [⟨t,r,0⟩] ++ [x],true,s.n⟩:=by simp [putStep,h,hf,hb]
theorem putStep_x {t:Int} {r:List Val} {s:PS} {x:Chg} (h:sameK t r x=false) (hb:s.fin=true∨beforeK t r x=false):putStep t r s x=⟨s.out ++ [x],s.fin,s.n⟩:=by
 rcases hb with hb | hb <;> simp [putStep,h,hb]
theorem rowD {w W:World} {D D0:Nat→Prop} {blk:Option Nat} {r:Value} {row:List Val} (h:RowAt W D r row) (hd:∀ b,D b→D0 b∨w.heap.size≤b) (hn:∀ g,blk=some g→¬ D g):RowAt W (fun b=>(D0 b∨w.heap.size≤b)∧b<W.heap.size∧blk≠some b) r row :=
 h.lt.mono fun b hb=>⟨hd b hb.1,hb.2,fun e=>hn b e hb.1⟩
def fxP (n:Int) (p:Chg×Value):Chg×Value:=(fixN n p.1,p.2)
def fixL (n:Int) (os:List (Chg×Value)) (i:Nat):List (Chg×Value):=(os.take i).map (fxP n) ++ os.drop i
def allL (n:Int) (os:List (Chg×Value)) (i:Nat):List (Chg×Value):=((os.take i).map (fxP n)).filter fun p=>keepB p.1
theorem fixL_len (n:Int) (os:List (Chg×Value)) (i:Nat):(fixL n os i).length=os.length:=by
 simp only [fixL,List.length_append,List.length_map,List.length_take,List.length_drop];omega
theorem fixL_get (n:Int) {os:List (Chg×Value)} {i:Nat} (h:i<os.length):∃ (h2:i<(fixL n os i).length),(fixL n os i)[i]=os[i]:=by
 refine ⟨by rw [fixL_len];exact h,?_⟩
 simp only [fixL]
 rw [List.getElem_append_right (by simp;omega)]
 simp [Nat.min_eq_left (Nat.le_of_lt h)]
theorem fixL_succ (n:Int) {os:List (Chg×Value)} {i:Nat} (h:i<os.length):(fixL n os i).set i (fxP n os[i])=fixL n os (i+1):=by
 have hl:((os.take i).map (fxP n)).length=i:=by simp;omega
 simp only [fixL]
 rw [List.set_append_right _ _ (by omega),hl,Nat.sub_self,List.drop_eq_getElem_cons h,List.set_cons_zero,List.take_succ_eq_append_getElem h,List.map_append]
 simp
theorem allL_succ (n:Int) {os:List (Chg×Value)} {i:Nat} (h:i<os.length):allL n os (i+1)=allL n os i ++ (if keepB (fixN n os[i].1)=true then [fxP n os[i]] else []):=by
 simp only [allL]
 rw [List.take_succ_eq_append_getElem h,List.map_append,List.filter_append]
 by_cases e:keepB (fixN n os[i].1)=true <;> simp [fxP,e]
theorem allL_len (n:Int) (os:List (Chg×Value)) (i:Nat):(allL n os i).length≤os.length:=by
 refine Nat.le_trans (List.length_filter_le _ _) ?_
 simp only [List.length_map,List.length_take];omega
structure Fix2 (D:Nat→Prop) (w w2 wr:World) (vo:Value) (os:List (Chg×Value)) (blk:Option Nat) (n:Int) (i:Nat) (va:Value) (A:List (Chg×Value)) (blk2:Option Nat):Prop where
 out:SlOwn wr 42 3 vo os.length (cels (fixL n os i)) blk
 all:SlOwn wr 42 3 va A.length (cels A) blk2
 lt:∀ g,blk=some g→g<w2.heap.size
 ge:∀ g,blk=some g→w.heap.size≤g
 new2:∀ g,blk2=some g→w2.heap.size≤g
 rows:∀ p ∈ os,RowAt wr (fun b=>(D b∨w.heap.size≤b)∧b<w2.heap.size∧blk≠some b) p.2 p.1.r
 below:Below w.heap.size w wr
 big:w.heap.size≤w2.heap.size
 size:w2.heap.size≤wr.heap.size
theorem Fix2.start {D:Nat→Prop} {w w2:World} {vo:Value} {os:List (Chg×Value)} {blk:Option Nat} (h:OutD D w w2 vo os blk) (n:Int):Fix2 D w w2 w2 vo os blk n 0 (.slice none 0 0) [] none :=
 ⟨by simpa [fixL] using h.own,SlOwn.nil _ _ _,fun g e=>h.own.lt_of e,h.new,(fun g e=>by cases e),h.rows,h.below,h.below.size,Nat.le_refl _⟩
theorem Fix2.store {D:Nat→Prop} {w w2 wr:World} {g o m cap:Nat} {os:List (Chg×Value)} {n:Int} {i:Nat} {va:Value} {A:List (Chg×Value)} {blk2:Option Nat} (hm:os.length=m) (h:Fix2 D w w2 wr (.slice (some ⟨g,o,none⟩) m cap) os (some g) n i va A blk2) (hi:i<os.length) (h0:os[i].1.n=0) :
 Fix2 D w w2 (wr.setCell ⟨g,o+i * 3+2,none⟩ (.int .i64 n)) (.slice (some ⟨g,o,none⟩) m cap) os (some g) n (i+1) va A blk2:=by
 obtain ⟨h2,hget⟩:=fixL_get n hi
 have hgl:=h.lt g rfl
 refine ⟨?_,?_,h.lt,h.ge,h.new2,fun p hp=>?_,?_,h.big,by simpa using h.size⟩
 · have ho:=h.out
   rw [hm] at ho
   have:=ho.setJ (j:=i * 3+2) (by omega) (.int .i64 n)
   rw [cels_setN (fixL n os i) i h2 n,← Nat.add_assoc,hget] at this
   rw [hm,← fixL_succ n hi]
   have e:fxP n os[i]=(⟨os[i].1.t,os[i].1.r,n⟩,os[i].2):=by simp [fxP,fixN,h0]
   rw [e]
   exact this
 · exact h.all.keep fun q hq=>Below.heap_setCell wr ⟨g,_,none⟩ _ q (fun e=>by have:=h.new2 q hq;have e:q=g:=e;omega)
 · exact (h.rows p hp).keep fun b hb _=>Below.heap_setCell wr ⟨g,_,none⟩ _ b (fun e=>hb.2.2 (by rw [e]))
 · exact h.below.setCell (p:=⟨g,_,none⟩) (h.ge g rfl) _
theorem Fix2.stay {D:Nat→Prop} {w w2 wr:World} {vo:Value} {os:List (Chg×Value)} {blk:Option Nat} {n:Int} {i:Nat} {va:Value} {A:List (Chg×Value)} {blk2:Option Nat} (h:Fix2 D w w2 wr vo os blk n i va A blk2) (hi:i<os.length) (h0:os[i].1.n≠0):Fix2 D w w2 wr vo os blk n (i+1) va A blk2:=by
 refine ⟨?_,h.all,h.lt,h.ge,h.new2,h.rows,h.below,h.big,h.size⟩
 obtain ⟨h2,hget⟩:=fixL_get n hi
 have e:fxP n os[i]=os[i]:=by simp [fxP,fixN,h0]
 rw [← fixL_succ n hi,e,← hget,List.set_getElem_self]
 exact h.out
theorem Fix2.add {D:Nat→Prop} {w w2 wr w':World} {vo:Value} {os:List (Chg×Value)} {blk:Option Nat} {n:Int} {i:Nat} {va va':Value} {A:List (Chg×Value)} {blk2 blk2':Option Nat} (h:Fix2 D w w2 wr vo os blk n i va A blk2) (p:Chg×Value) {ob:Obj}
 (hs:SlOwn w' 42 3 va' (A.length+1) (cels A ++ [.int .i64 p.1.t,p.2,.int .i64 p.1.n]) blk2') (hg:(wr.alloc ob).grownBy w' blk2) (hat:blk2'=blk2∨blk2'=some (wr.alloc ob).heap.size):Fix2 D w w2 w' vo os blk n i va' (A ++ [p]) blk2':=by
 have hgw:wr.grownBy w' blk2:=(World.grownBy.but (a:=wr) (c:=wr.alloc ob) ⟨rfl,rfl,rfl,by simp,fun b hb _=>Below.heap_alloc wr ob b hb⟩ blk2).trans hg
 have hsz:=h.size
 refine ⟨h.out.keep fun g e=>hgw.block g (Nat.lt_of_lt_of_le (h.lt g e) hsz) (fun e2=>by have:=h.new2 g e2.symm;have:=h.lt g e;omega),by rw [List.length_append,← cels_add];exact hs,h.lt,h.ge,fun g e=>?_,fun p hp=>(h.rows p hp).keep fun b hb hlt=>hgw.block b hlt (fun e=>by have:=h.new2 b e.symm;omega),h.below.grown hgw (Nat.le_trans h.big hsz) (fun g e=>Nat.le_trans h.big (h.new2 g e)),h.big,Nat.le_trans hsz hgw.size⟩
 rcases hat with ha | ha
 · exact h.new2 g (ha ▸ e)
 · rw [ha] at e;injection e with e;simp at e;omega
theorem allL_end (n:Int) (os:List (Chg×Value)):(allL n os os.length).map (·.1)=((os.map (·.1)).map (fixN n)).filter keepB:=by
 simp only [allL,List.take_length]
 induction os with
 | nil=>rfl
 | cons p t ih =>
   simp only [List.map_cons,List.filter_cons]
   by_cases e:keepB (fixN n p.1)=true
   · have e2:keepB (fxP n p).1=true:=e
     rw [if_pos e2,if_pos e,List.map_cons,ih];rfl
   · have e2:¬ keepB (fxP n p).1=true:=e
     rw [if_neg e2,if_neg e,ih]
theorem allL_mem {n:Int} {os:List (Chg×Value)} {i:Nat} {p:Chg×Value} (h:p ∈ allL n os i):∃ q ∈ os,p.2=q.2∧p.1.r=q.1.r:=by
 have:=(List.mem_filter.1 h).1
 obtain ⟨q,hq,rfl⟩:=List.mem_map.1 this
 refine ⟨q,List.mem_of_mem_take hq,rfl,?_⟩
 simp only [fxP,fixN]
 split <;> rfl
theorem set_ne (w:World) (g i j:Nat) (v:Value) (h:j≠i):(w.setCell ⟨g,i,none⟩ v).cell? ⟨g,j,none⟩=w.cell? ⟨g,j,none⟩:=World.cell?_setCell_other w ⟨g,i,none⟩ ⟨g,j,none⟩ v (by intro e;injection e with _ e _;exact h e.symm)
section leaves
set_option maxHeartbeats 1000000
set_option maxRecDepth 10000
theorem f59_any (hm:Tryz.prog.follows .mixedOrders=true) (w:World) (v rv:Value) (l:List Chg) (t n:Int) (r:List Val) (D DR:Nat→Prop) (h:ChgsAt w D v l) (hr:RowAt w DR rv r) (hl:l.length≤400) (h8:r.length≤1000) (hD:∀ b,D b→b<w.heap.size)
 (hB:∀ c ∈ l,-400000000≤c.n∧c.n≤400000000) (hn : -1000000≤n∧n≤1000000) :
 Calls Tryz.prog 59 #[v,.int .i64 t,rv,.int .i64 n] w fun e w'=>(∃ v',e=.returned v'∧ChgsAt w' (fun b=>D b∨w.heap.size≤b) v' (putC l t r n))∧Below w.heap.size w w':=by
 obtain ⟨i0,hi0,hz0,hz1,hz2⟩:=info_parts info42
 have HC0:=Lib.hid h
 have HRW:=Lib.hid (fun W (hb:Below w.heap.size w W)=>hr.below hb)
 have HBD:=Lib.hid (putS_bnd (M:=400000000) (by omega) hB t r n)
 have HLN:=Lib.hid (putS_len (l:=l) t r n)
 obtain ⟨ta,tc,rfl,-,-⟩:=id h
 obtain ⟨ra,rc,rfl,-,-⟩:=id hr
 clear h hr
 go_enter Tryz.func59,Tryz.ntmps59
 go_wp2
 go_loopw [3,9,10,11] (fun s3 s9 s10 s11 wr=>∃ (k:Nat) (ys:List (Chg×Value)) (blk:Option Nat) (S:PS),s11=.int .i64 k∧k≤l.length∧s3=.int .i64 S.n∧s10=.bool S.fin∧Hid (S=putS (l.take k) t r n)∧Hid (ys.map (·.1)=S.out)∧Hid (OutD D w wr s9 ys blk)) (fun _ _ _ i _=>l.length - (intOf i).toNat)
 case atStart=>exact ⟨0,[],none,⟨[],false,n⟩,rfl,by omega,rfl,rfl,rfl,rfl,OutD.start D w⟩
 case round =>
  obtain ⟨k,ys,blk,S,rfl,hk,rfl,rfl,HS,HY,HO⟩:=hrel
  obtain ⟨a,cp,rfl⟩:=HO.out.own.form
  have hsb:=HBD.out k hk
  rw [← HS.out] at hsb
  have hyl:=HLN.out k hk
  rw [← HS.out,← HY.out,List.length_map] at hyl
  obtain ⟨so,sf,sn⟩:=S
  simp only at hsb HY
  have hsn : -200000000000≤sn∧sn≤200000000000:=by omega
  clear hsb
  by_cases hlt:k<l.length
  · obtain ⟨bL,oL,xv,rfl,⟨b0,b1,b2⟩,hxr⟩:=HC0.out.at hlt
    have hbl:=cell_lt b0
    have HX:Hid (∀ W,Below w.heap.size w W→W.cell? ⟨bL,oL+k * 3,none⟩=some (.int .i64 l[k].t)∧W.cell? ⟨bL,oL+k * 3+1,none⟩=some xv∧W.cell? ⟨bL,oL+k * 3+2,none⟩=some (.int .i64 l[k].n)∧RowAt W D xv l[k].r):=fun W hb =>
     ⟨(hb.cell (p:=⟨bL,_,none⟩) hbl).trans b0,(hb.cell (p:=⟨bL,_,none⟩) hbl).trans b1,(hb.cell (p:=⟨bL,_,none⟩) hbl).trans b2,hxr.below hb⟩
    obtain ⟨x,hx⟩:∃ x,x=l[k]:=⟨_,rfl⟩
    have HXL:=Lib.hid hx
    have hxn:=hB x (by rw [hx];exact List.getElem_mem hlt)
    rw [← hx] at HX
    clear hx b0 b1 b2 hxr hbl
    obtain ⟨xt,xr,xn⟩:=x
    simp only at HX hxn
    obtain ⟨c0,c1,c2,hxr⟩:=HX.out wr HO.out.below
    obtain ⟨xa,xc,rfl,-,-⟩:=id hxr
    obtain ⟨q,hq⟩:∃ q,q=cmpRow r xr:=⟨_,rfl⟩
    have HQ:=Lib.hid hq
    have H51:Hid (Calls Tryz.prog 51 #[.slice ra r.length rc,.slice xa xr.length xc] wr fun e w'=>e=.returned (.int .i64 q)∧Grew wr w'):=by
     rw [hq];exact f51_any hm wr _ _ _ _ DR D (HRW.out wr HO.out.below) hxr
    have hw1:IntKind.i64.wrap (sn+xn)=sn+xn:=by rw [IntKind.wrap_i64];omega
    have H100:=Lib.hid (fun W (hb:Below w.heap.size w W)=>f100_any W (.slice ra r.length rc) r DR (HRW.out W hb) h8)
    clear hq hxr
    have HNX:Hid (∀ g,blk=some g→¬ D g):=fun g e hg=>by have:=HO.out.new g e;have:=hD g hg;omega
    by_cases ht:xt=t
    · subst xt
      by_cases hq0:q=0
      · have hqb:(q == 0)=true:=by simpa using hq0
        subst hq0
        go_wp2_with (first
         | (go_at_call 51;with_reducible refine H51.out.mono ?_;rintro e w6 ⟨rfl,hg6⟩
            have HO6:=Lib.hid (HO.out.next hg6.below)
            obtain ⟨c0,c1,c2,hxr⟩:=HX.out w6 HO6.out.below
            have HR6:=Lib.hid hxr
            clear hg6 hxr))
        refine ⟨⟨k+1,ys,blk,⟨so,sf,sn+xn⟩,by go_num,by omega,rfl,rfl,?_,HY,HO6⟩,by simp [intOf];omega⟩
        show _=_
        rw [putS_succ hlt,← HS.out,← HXL.out,putStep_same (by simp [sameK,← HQ.out,])]
      · have hqb:(q == 0)=false:=by simpa using hq0
        by_cases hqn:q<0
        · cases sf
          · go_wp2_with (first
             | (go_at_call 51;with_reducible refine H51.out.mono ?_;rintro e w6 ⟨rfl,hg6⟩
                have HO6:=Lib.hid (HO.out.next hg6.below)
                obtain ⟨c0,c1,c2,hxr⟩:=HX.out w6 HO6.out.below
                have HR6:=Lib.hid hxr
                clear hg6 hxr)
             | (go_at_call 100;with_reducible refine (H100.out _ HO6.out.below).mono ?_;rintro e w7 ⟨⟨r7,rfl,hr7⟩,hb7⟩
                obtain ⟨a7,c7,rfl,-,-⟩:=id hr7
                have HO7:=Lib.hid (HO6.out.next hb7)
                have HR7:=Lib.hid hr7
                have HS7:=Lib.hid hb7.size
                clear hr7 hb7)
             | (at_builtin;refine wpList_append_S rfl (.tmp 70) (.tmp 75) 22 rfl 42 i0 _ 3 40 Tryz.underlying22 hi0 hz0 hz1 hz2 rfl (by omega) (.slice a ys.length cp) ys.length (cels ys) blk rfl (HO7.out.next ((Below.refl _ _).alloc (Nat.le_refl _) (.cells #[.int .i64 t,.slice a7 r.length c7,.int .i64 0] 42))).own (.slice (some ⟨w7.heap.size,0,none⟩) 1 1) 1 [.int .i64 t,.slice a7 r.length c7,.int .i64 0] rfl (chg_src' _ _ (by simp) _ _ _ rfl) (fun u hu=>by simp at hu;rcases hu with rfl | rfl | rfl <;> rfl) (by simp only [maxLen];omega) (by omega) ?_;intro v9 w9 blk9 hown9 hgrow9 hat9;have HO9:=Lib.hid (HO7.out.add ⟨t,r,0⟩ (.slice a7 r.length c7) (rowD HR7.out (fun b hb=>.inr (Nat.le_trans HO6.out.below.size hb)) (fun g e hg=>absurd (HO6.out.own.lt_of e) (Nat.not_lt_of_le hg))) hown9 hgrow9 hat9);obtain ⟨a9,c9,rfl⟩:=hown9.form;obtain ⟨c0,c1,c2,hxr⟩:=HX.out w9 HO9.out.below;have HR9:=Lib.hid hxr;have HN9:Hid (∀ g,blk9=some g→¬ D g):=fun g e hg=>(by have:=HO9.out.new g e;have:=hD g hg;omega);clear hown9 hgrow9 hat9 hxr)
             | (at_builtin;refine wpList_append_S rfl (.tmp 77) (.tmp 82) 22 rfl 42 i0 _ 3 40 Tryz.underlying22 hi0 hz0 hz1 hz2 rfl (by omega) (.slice a9 (ys.length+1) c9) (ys.length+1) (cels (ys ++ [(⟨t,r,0⟩,.slice a7 r.length c7)])) blk9 rfl (by have:=(HO9.out.next ((Below.refl _ _).alloc (Nat.le_refl _) (.cells #[.int .i64 t,.slice xa xr.length xc,.int .i64 xn] 42))).own;simpa only [List.length_append,List.length_cons,List.length_nil,Nat.zero_add] using this) (.slice (some ⟨w9.heap.size,0,none⟩) 1 1) 1 [.int .i64 t,.slice xa xr.length xc,.int .i64 xn] rfl (chg_src' _ _ (by simp) _ _ _ rfl) (fun u hu=>by simp at hu;rcases hu with rfl | rfl | rfl <;> rfl) (by simp only [maxLen];omega) (by omega) ?_;intro v8 w8 blk8 hown8 hgrow8 hat8;have HO8:=Lib.hid (HO9.out.add ⟨t,xr,xn⟩ (.slice xa xr.length xc) (rowD HR9.out (fun b hb=>.inl hb) HN9.out) (by simpa only [List.length_append,List.length_cons,List.length_nil,Nat.zero_add] using hown8) hgrow8 hat8);clear hown8 hgrow8 hat8))
            refine ⟨⟨k+1,ys ++ [(⟨t,r,0⟩,.slice a7 r.length c7)] ++ [(⟨t,xr,xn⟩,.slice xa xr.length xc)],blk8,⟨so ++ [⟨t,r,0⟩] ++ [⟨t,xr,xn⟩],true,sn⟩,by go_num,by omega,rfl,rfl,?_,?_,HO8⟩,by simp [intOf];omega⟩
            · show _=_
              rw [putS_succ hlt,← HS.out,← HXL.out,putStep_key (by simp [sameK,← HQ.out,hq0]) rfl (by simp [beforeK,← HQ.out,hqn])]
            · show _=_
              rw [List.map_append,List.map_append,HY.out];rfl
          · go_wp2_with (first
             | (go_at_call 51;with_reducible refine H51.out.mono ?_;rintro e w6 ⟨rfl,hg6⟩
                have HO6:=Lib.hid (HO.out.next hg6.below)
                obtain ⟨c0,c1,c2,hxr⟩:=HX.out w6 HO6.out.below
                have HR6:=Lib.hid hxr
                clear hg6 hxr)
             | (at_builtin;refine wpList_append_S rfl (.tmp 77) (.tmp 82) 22 rfl 42 i0 _ 3 40 Tryz.underlying22 hi0 hz0 hz1 hz2 rfl (by omega) (.slice a ys.length cp) ys.length (cels ys) blk rfl (HO6.out.next ((Below.refl _ _).alloc (Nat.le_refl _) (.cells #[.int .i64 t,.slice xa xr.length xc,.int .i64 xn] 42))).own (.slice (some ⟨w6.heap.size,0,none⟩) 1 1) 1 [.int .i64 t,.slice xa xr.length xc,.int .i64 xn] rfl (chg_src' _ _ (by simp) _ _ _ rfl) (fun u hu=>by simp at hu;rcases hu with rfl | rfl | rfl <;> rfl) (by simp only [maxLen];omega) (by omega) ?_;intro v8 w8 blk8 hown8 hgrow8 hat8;have HO8:=Lib.hid (HO6.out.add ⟨t,xr,xn⟩ (.slice xa xr.length xc) (rowD HR6.out (fun b hb=>.inl hb) HNX.out) hown8 hgrow8 hat8);clear hown8 hgrow8 hat8))
            refine ⟨⟨k+1,ys ++ [(⟨t,xr,xn⟩,.slice xa xr.length xc)],blk8,⟨so ++ [⟨t,xr,xn⟩],true,sn⟩,by go_num,by omega,rfl,rfl,?_,?_,HO8⟩,by simp [intOf];omega⟩
            · show _=_
              rw [putS_succ hlt,← HS.out,← HXL.out,putStep_x (by simp [sameK,← HQ.out,hq0]) (.inl rfl)]
            · show _=_
              rw [List.map_append,HY.out];rfl
        · cases sf
          · go_wp2_with (first
             | (go_at_call 51;with_reducible refine H51.out.mono ?_;rintro e w6 ⟨rfl,hg6⟩
                have HO6:=Lib.hid (HO.out.next hg6.below)
                obtain ⟨c0,c1,c2,hxr⟩:=HX.out w6 HO6.out.below
                have HR6:=Lib.hid hxr
                clear hg6 hxr)
             | (at_builtin;refine wpList_append_S rfl (.tmp 77) (.tmp 82) 22 rfl 42 i0 _ 3 40 Tryz.underlying22 hi0 hz0 hz1 hz2 rfl (by omega) (.slice a ys.length cp) ys.length (cels ys) blk rfl (HO6.out.next ((Below.refl _ _).alloc (Nat.le_refl _) (.cells #[.int .i64 t,.slice xa xr.length xc,.int .i64 xn] 42))).own (.slice (some ⟨w6.heap.size,0,none⟩) 1 1) 1 [.int .i64 t,.slice xa xr.length xc,.int .i64 xn] rfl (chg_src' _ _ (by simp) _ _ _ rfl) (fun u hu=>by simp at hu;rcases hu with rfl | rfl | rfl <;> rfl) (by simp only [maxLen];omega) (by omega) ?_;intro v8 w8 blk8 hown8 hgrow8 hat8;have HO8:=Lib.hid (HO6.out.add ⟨t,xr,xn⟩ (.slice xa xr.length xc) (rowD HR6.out (fun b hb=>.inl hb) HNX.out) hown8 hgrow8 hat8);clear hown8 hgrow8 hat8))
            refine ⟨⟨k+1,ys ++ [(⟨t,xr,xn⟩,.slice xa xr.length xc)],blk8,⟨so ++ [⟨t,xr,xn⟩],false,sn⟩,by go_num,by omega,rfl,rfl,?_,?_,HO8⟩,by simp [intOf];omega⟩
            · show _=_
              rw [putS_succ hlt,← HS.out,← HXL.out,putStep_x (by simp [sameK,← HQ.out,hq0]) (.inr (by simp [beforeK,← HQ.out];omega))]
            · show _=_
              rw [List.map_append,HY.out];rfl
          · go_wp2_with (first
             | (go_at_call 51;with_reducible refine H51.out.mono ?_;rintro e w6 ⟨rfl,hg6⟩
                have HO6:=Lib.hid (HO.out.next hg6.below)
                obtain ⟨c0,c1,c2,hxr⟩:=HX.out w6 HO6.out.below
                have HR6:=Lib.hid hxr
                clear hg6 hxr)
             | (at_builtin;refine wpList_append_S rfl (.tmp 77) (.tmp 82) 22 rfl 42 i0 _ 3 40 Tryz.underlying22 hi0 hz0 hz1 hz2 rfl (by omega) (.slice a ys.length cp) ys.length (cels ys) blk rfl (HO6.out.next ((Below.refl _ _).alloc (Nat.le_refl _) (.cells #[.int .i64 t,.slice xa xr.length xc,.int .i64 xn] 42))).own (.slice (some ⟨w6.heap.size,0,none⟩) 1 1) 1 [.int .i64 t,.slice xa xr.length xc,.int .i64 xn] rfl (chg_src' _ _ (by simp) _ _ _ rfl) (fun u hu=>by simp at hu;rcases hu with rfl | rfl | rfl <;> rfl) (by simp only [maxLen];omega) (by omega) ?_;intro v8 w8 blk8 hown8 hgrow8 hat8;have HO8:=Lib.hid (HO6.out.add ⟨t,xr,xn⟩ (.slice xa xr.length xc) (rowD HR6.out (fun b hb=>.inl hb) HNX.out) hown8 hgrow8 hat8);clear hown8 hgrow8 hat8))
            refine ⟨⟨k+1,ys ++ [(⟨t,xr,xn⟩,.slice xa xr.length xc)],blk8,⟨so ++ [⟨t,xr,xn⟩],true,sn⟩,by go_num,by omega,rfl,rfl,?_,?_,HO8⟩,by simp [intOf];omega⟩
            · show _=_
              rw [putS_succ hlt,← HS.out,← HXL.out,putStep_x (by simp [sameK,← HQ.out,hq0]) (.inr (by simp [beforeK,← HQ.out];omega))]
            · show _=_
              rw [List.map_append,HY.out];rfl
    · have ht1:(xt == t)=false:=by simpa using ht
      have ht2:(t == xt)=false:=by simpa using fun e=>ht (Eq.symm e)
      have ht3:¬ t=xt:=fun e=>ht e.symm
      by_cases htl:t<xt
      · cases sf
        · go_wp2_with (first
           | (go_at_call 51;with_reducible refine H51.out.mono ?_;rintro e w6 ⟨rfl,hg6⟩
              have HO6:=Lib.hid (HO.out.next hg6.below)
              obtain ⟨c0,c1,c2,hxr⟩:=HX.out w6 HO6.out.below
              have HR6:=Lib.hid hxr
              clear hg6 hxr)
           | (go_at_call 100;with_reducible refine (H100.out _ HO6.out.below).mono ?_;rintro e w7 ⟨⟨r7,rfl,hr7⟩,hb7⟩
              obtain ⟨a7,c7,rfl,-,-⟩:=id hr7
              have HO7:=Lib.hid (HO6.out.next hb7)
              have HR7:=Lib.hid hr7
              have HS7:=Lib.hid hb7.size
              clear hr7 hb7)
           | (at_builtin;refine wpList_append_S rfl (.tmp 70) (.tmp 75) 22 rfl 42 i0 _ 3 40 Tryz.underlying22 hi0 hz0 hz1 hz2 rfl (by omega) (.slice a ys.length cp) ys.length (cels ys) blk rfl (HO7.out.next ((Below.refl _ _).alloc (Nat.le_refl _) (.cells #[.int .i64 t,.slice a7 r.length c7,.int .i64 0] 42))).own (.slice (some ⟨w7.heap.size,0,none⟩) 1 1) 1 [.int .i64 t,.slice a7 r.length c7,.int .i64 0] rfl (chg_src' _ _ (by simp) _ _ _ rfl) (fun u hu=>by simp at hu;rcases hu with rfl | rfl | rfl <;> rfl) (by simp only [maxLen];omega) (by omega) ?_;intro v9 w9 blk9 hown9 hgrow9 hat9;have HO9:=Lib.hid (HO7.out.add ⟨t,r,0⟩ (.slice a7 r.length c7) (rowD HR7.out (fun b hb=>.inr (Nat.le_trans HO6.out.below.size hb)) (fun g e hg=>absurd (HO6.out.own.lt_of e) (Nat.not_lt_of_le hg))) hown9 hgrow9 hat9);obtain ⟨a9,c9,rfl⟩:=hown9.form;obtain ⟨c0,c1,c2,hxr⟩:=HX.out w9 HO9.out.below;have HR9:=Lib.hid hxr;have HN9:Hid (∀ g,blk9=some g→¬ D g):=fun g e hg=>(by have:=HO9.out.new g e;have:=hD g hg;omega);clear hown9 hgrow9 hat9 hxr)
           | (at_builtin;refine wpList_append_S rfl (.tmp 77) (.tmp 82) 22 rfl 42 i0 _ 3 40 Tryz.underlying22 hi0 hz0 hz1 hz2 rfl (by omega) (.slice a9 (ys.length+1) c9) (ys.length+1) (cels (ys ++ [(⟨t,r,0⟩,.slice a7 r.length c7)])) blk9 rfl (by have:=(HO9.out.next ((Below.refl _ _).alloc (Nat.le_refl _) (.cells #[.int .i64 xt,.slice xa xr.length xc,.int .i64 xn] 42))).own;simpa only [List.length_append,List.length_cons,List.length_nil,Nat.zero_add] using this) (.slice (some ⟨w9.heap.size,0,none⟩) 1 1) 1 [.int .i64 xt,.slice xa xr.length xc,.int .i64 xn] rfl (chg_src' _ _ (by simp) _ _ _ rfl) (fun u hu=>by simp at hu;rcases hu with rfl | rfl | rfl <;> rfl) (by simp only [maxLen];omega) (by omega) ?_;intro v8 w8 blk8 hown8 hgrow8 hat8;have HO8:=Lib.hid (HO9.out.add ⟨xt,xr,xn⟩ (.slice xa xr.length xc) (rowD HR9.out (fun b hb=>.inl hb) HN9.out) (by simpa only [List.length_append,List.length_cons,List.length_nil,Nat.zero_add] using hown8) hgrow8 hat8);clear hown8 hgrow8 hat8))
          refine ⟨⟨k+1,ys ++ [(⟨t,r,0⟩,.slice a7 r.length c7)] ++ [(⟨xt,xr,xn⟩,.slice xa xr.length xc)],blk8,⟨so ++ [⟨t,r,0⟩] ++ [⟨xt,xr,xn⟩],true,sn⟩,by go_num,by omega,rfl,rfl,?_,?_,HO8⟩,by simp [intOf];omega⟩
          · show _=_
            rw [putS_succ hlt,← HS.out,← HXL.out,putStep_key (by simp [sameK,ht]) rfl (by simp [beforeK,htl])]
          · show _=_
            rw [List.map_append,List.map_append,HY.out];rfl
        · go_wp2_with (first
           | (go_at_call 51;with_reducible refine H51.out.mono ?_;rintro e w6 ⟨rfl,hg6⟩
              have HO6:=Lib.hid (HO.out.next hg6.below)
              obtain ⟨c0,c1,c2,hxr⟩:=HX.out w6 HO6.out.below
              have HR6:=Lib.hid hxr
              clear hg6 hxr)
           | (at_builtin;refine wpList_append_S rfl (.tmp 77) (.tmp 82) 22 rfl 42 i0 _ 3 40 Tryz.underlying22 hi0 hz0 hz1 hz2 rfl (by omega) (.slice a ys.length cp) ys.length (cels ys) blk rfl (HO6.out.next ((Below.refl _ _).alloc (Nat.le_refl _) (.cells #[.int .i64 xt,.slice xa xr.length xc,.int .i64 xn] 42))).own (.slice (some ⟨w6.heap.size,0,none⟩) 1 1) 1 [.int .i64 xt,.slice xa xr.length xc,.int .i64 xn] rfl (chg_src' _ _ (by simp) _ _ _ rfl) (fun u hu=>by simp at hu;rcases hu with rfl | rfl | rfl <;> rfl) (by simp only [maxLen];omega) (by omega) ?_;intro v8 w8 blk8 hown8 hgrow8 hat8;have HO8:=Lib.hid (HO6.out.add ⟨xt,xr,xn⟩ (.slice xa xr.length xc) (rowD HR6.out (fun b hb=>.inl hb) HNX.out) hown8 hgrow8 hat8);clear hown8 hgrow8 hat8))
          refine ⟨⟨k+1,ys ++ [(⟨xt,xr,xn⟩,.slice xa xr.length xc)],blk8,⟨so ++ [⟨xt,xr,xn⟩],true,sn⟩,by go_num,by omega,rfl,rfl,?_,?_,HO8⟩,by simp [intOf];omega⟩
          · show _=_
            rw [putS_succ hlt,← HS.out,← HXL.out,putStep_x (by simp [sameK,ht]) (.inl rfl)]
          · show _=_
            rw [List.map_append,HY.out];rfl
      · cases sf
        · go_wp2_with (first
           | (go_at_call 51;with_reducible refine H51.out.mono ?_;rintro e w6 ⟨rfl,hg6⟩
              have HO6:=Lib.hid (HO.out.next hg6.below)
              obtain ⟨c0,c1,c2,hxr⟩:=HX.out w6 HO6.out.below
              have HR6:=Lib.hid hxr
              clear hg6 hxr)
           | (at_builtin;refine wpList_append_S rfl (.tmp 77) (.tmp 82) 22 rfl 42 i0 _ 3 40 Tryz.underlying22 hi0 hz0 hz1 hz2 rfl (by omega) (.slice a ys.length cp) ys.length (cels ys) blk rfl (HO6.out.next ((Below.refl _ _).alloc (Nat.le_refl _) (.cells #[.int .i64 xt,.slice xa xr.length xc,.int .i64 xn] 42))).own (.slice (some ⟨w6.heap.size,0,none⟩) 1 1) 1 [.int .i64 xt,.slice xa xr.length xc,.int .i64 xn] rfl (chg_src' _ _ (by simp) _ _ _ rfl) (fun u hu=>by simp at hu;rcases hu with rfl | rfl | rfl <;> rfl) (by simp only [maxLen];omega) (by omega) ?_;intro v8 w8 blk8 hown8 hgrow8 hat8;have HO8:=Lib.hid (HO6.out.add ⟨xt,xr,xn⟩ (.slice xa xr.length xc) (rowD HR6.out (fun b hb=>.inl hb) HNX.out) hown8 hgrow8 hat8);clear hown8 hgrow8 hat8))
          refine ⟨⟨k+1,ys ++ [(⟨xt,xr,xn⟩,.slice xa xr.length xc)],blk8,⟨so ++ [⟨xt,xr,xn⟩],false,sn⟩,by go_num,by omega,rfl,rfl,?_,?_,HO8⟩,by simp [intOf];omega⟩
          · show _=_
            rw [putS_succ hlt,← HS.out,← HXL.out,putStep_x (by simp [sameK,ht]) (.inr (by simp [beforeK,ht3];omega))]
          · show _=_
            rw [List.map_append,HY.out];rfl
        · go_wp2_with (first
           | (go_at_call 51;with_reducible refine H51.out.mono ?_;rintro e w6 ⟨rfl,hg6⟩
              have HO6:=Lib.hid (HO.out.next hg6.below)
              obtain ⟨c0,c1,c2,hxr⟩:=HX.out w6 HO6.out.below
              have HR6:=Lib.hid hxr
              clear hg6 hxr)
           | (at_builtin;refine wpList_append_S rfl (.tmp 77) (.tmp 82) 22 rfl 42 i0 _ 3 40 Tryz.underlying22 hi0 hz0 hz1 hz2 rfl (by omega) (.slice a ys.length cp) ys.length (cels ys) blk rfl (HO6.out.next ((Below.refl _ _).alloc (Nat.le_refl _) (.cells #[.int .i64 xt,.slice xa xr.length xc,.int .i64 xn] 42))).own (.slice (some ⟨w6.heap.size,0,none⟩) 1 1) 1 [.int .i64 xt,.slice xa xr.length xc,.int .i64 xn] rfl (chg_src' _ _ (by simp) _ _ _ rfl) (fun u hu=>by simp at hu;rcases hu with rfl | rfl | rfl <;> rfl) (by simp only [maxLen];omega) (by omega) ?_;intro v8 w8 blk8 hown8 hgrow8 hat8;have HO8:=Lib.hid (HO6.out.add ⟨xt,xr,xn⟩ (.slice xa xr.length xc) (rowD HR6.out (fun b hb=>.inl hb) HNX.out) hown8 hgrow8 hat8);clear hown8 hgrow8 hat8))
          refine ⟨⟨k+1,ys ++ [(⟨xt,xr,xn⟩,.slice xa xr.length xc)],blk8,⟨so ++ [⟨xt,xr,xn⟩],true,sn⟩,by go_num,by omega,rfl,rfl,?_,?_,HO8⟩,by simp [intOf];omega⟩
          · show _=_
            rw [putS_succ hlt,← HS.out,← HXL.out,putStep_x (by simp [sameK,ht]) (.inr (by simp [beforeK,ht3];omega))]
          · show _=_
            rw [List.map_append,HY.out];rfl
  · have hkl:k=l.length:=by omega
    have H100:=Lib.hid (fun W (hb:Below w.heap.size w W)=>f100_any W (.slice ra r.length rc) r DR (HRW.out W hb) h8)
    have HSE:Hid ((⟨so,sf,sn⟩:PS)=putS l t r n):=by
     have:=HS.out
     rw [hkl,List.take_length] at this
     exact this
    clear hkl
    cases sf
    · go_wp2_with (first
       | (go_at_call 100;with_reducible refine (H100.out _ HO.out.below).mono ?_;rintro e w7 ⟨⟨r7,rfl,hr7⟩,hb7⟩
          obtain ⟨a7,c7,rfl,-,-⟩:=id hr7
          have HO7:=Lib.hid (HO.out.next hb7)
          have HR7:=Lib.hid hr7
          clear hr7 hb7)
       | (at_builtin;refine wpList_append_S rfl (.tmp 86) (.tmp 91) 22 rfl 42 i0 _ 3 40 Tryz.underlying22 hi0 hz0 hz1 hz2 rfl (by omega) (.slice a ys.length cp) ys.length (cels ys) blk rfl (HO7.out.next ((Below.refl _ _).alloc (Nat.le_refl _) (.cells #[.int .i64 t,.slice a7 r.length c7,.int .i64 0] 42))).own (.slice (some ⟨w7.heap.size,0,none⟩) 1 1) 1 [.int .i64 t,.slice a7 r.length c7,.int .i64 0] rfl (chg_src' _ _ (by simp) _ _ _ rfl) (fun u hu=>by simp at hu;rcases hu with rfl | rfl | rfl <;> rfl) (by simp only [maxLen];omega) (by omega) ?_;intro v9 w9 blk9 hown9 hgrow9 hat9;have HO9:=Lib.hid (HO7.out.add ⟨t,r,0⟩ (.slice a7 r.length c7) (rowD HR7.out (fun b hb=>.inr (Nat.le_trans HO.out.below.size hb)) (fun g e hg=>absurd (HO.out.own.lt_of e) (Nat.not_lt_of_le hg))) hown9 hgrow9 hat9);obtain ⟨a9,c9,rfl⟩:=hown9.form;clear hown9 hgrow9 hat9))
      have HF0:=Lib.hid (Fix2.start HO9.out sn)
      obtain ⟨os,hos⟩:∃ os,os=(ys ++ [(⟨t,r,0⟩,.slice a7 r.length c7)]):=⟨_,rfl⟩
      have HM:Hid (os.length=(ys.length+1)):=by show _=_;rw [hos];try simp
      have hM:(ys.length+1)≤1000:=by omega
      have HPUT:Hid (os.map (·.1)=putOut ⟨so,false,sn⟩ t r):=by
       show _=_
       rw [hos]
       rw [List.map_append,HY.out];rfl
      obtain ⟨w2,hw2⟩:∃ w2,w2=w9:=⟨_,rfl⟩
      have HF1:Hid (Fix2 D w w2 w9 (.slice a9 (ys.length+1) c9) os blk9 sn 0 (.slice none 0 0) [] none):=by rw [hw2,hos];exact HF0
      clear HF0 hw2 hos
      go_loopw [13,14] (fun s13 s14 wr=>∃ (i:Nat) (A:List (Chg×Value)) (blk2:Option Nat),s14=.int .i64 i∧i≤(ys.length+1)∧Hid (A=allL sn os i)∧Hid (Fix2 D w w2 wr (.slice a9 (ys.length+1) c9) os blk9 sn i s13 A blk2)) (fun _ i _=>(ys.length+1) - (intOf i).toNat)
      case atStart=>exact ⟨0,[],none,rfl,by omega,rfl,HF1⟩
      case round =>
       clear HF1
       obtain ⟨i,A,blk2,rfl,hi,HA,HF⟩:=hrel
       obtain ⟨a2,cp2,rfl⟩:=HF.out.all.form
       have hAl:A.length≤(ys.length+1):=by rw [HA.out,← HM.out];exact allL_len _ _ _
       by_cases hlt2:i<(ys.length+1)
       · have hio:i<os.length:=by rw [HM.out];exact hlt2
         have ho:=HF.out.out
         rw [HM.out] at ho
         obtain ⟨g,o,rfl,rfl⟩:=ho.some_of (by omega)
         obtain ⟨hi2,hget⟩:=fixL_get sn hio
         obtain ⟨px,hpx⟩:∃ px,px=os[i]:=⟨_,rfl⟩
         have hxr:=HF.out.rows px (by rw [hpx];exact List.getElem_mem hio)
         have d0:=ho.cell (i * 3+0) (.int .i64 px.1.t) (by rw [cels_get _ i 0 hi2 (by omega),hget,← hpx];rfl)
         have d1:=ho.cell (i * 3+1) px.2 (by rw [cels_get _ i 1 hi2 (by omega),hget,← hpx];rfl)
         have d2:=ho.cell (i * 3+2) (.int .i64 px.1.n) (by rw [cels_get _ i 2 hi2 (by omega),hget,← hpx];rfl)
         simp only [Nat.add_zero,← Nat.add_assoc] at d0 d1 d2
         have f2:=ho.frozen (o+i * 3+2)
         have HPX:=Lib.hid hpx
         clear hpx ho hget
         obtain ⟨⟨xt,xr,xn⟩,xv⟩:=px
         simp only at d0 d1 d2 hxr
         obtain ⟨xa,xc,rfl,-,-⟩:=id hxr
         clear hxr
         have HNX:Hid (os[i].1=⟨xt,xr,xn⟩):=by show _=_;rw [← HPX.out]
         by_cases hx0:xn=0
         · subst hx0
           have HFS:=Lib.hid (HF.out.store HM.out hio (by rw [HNX.out]))
           have s0:(wr.setCell ⟨g,o+i * 3+2,none⟩ (.int .i64 sn)).cell? ⟨g,o+i * 3,none⟩=some (.int .i64 xt):=by rw [set_ne _ _ _ _ _ (by omega)];exact d0
           have s1:(wr.setCell ⟨g,o+i * 3+2,none⟩ (.int .i64 sn)).cell? ⟨g,o+i * 3+1,none⟩=some (.slice xa xr.length xc):=by rw [set_ne _ _ _ _ _ (by omega)];exact d1
           have s2:(wr.setCell ⟨g,o+i * 3+2,none⟩ (.int .i64 sn)).cell? ⟨g,o+i * 3+2,none⟩=some (.int .i64 sn):=World.cell?_setCell_same' _ _ _ (by rw [d2];rfl)
           have hfx:fixN sn os[i].1=⟨xt,xr,sn⟩:=by rw [HNX.out];simp [fixN]
           by_cases hn0:sn=0
           · subst hn0
             go_wp2
             refine ⟨⟨i+1,A,blk2,by go_num,by omega,?_,HFS⟩,by simp [intOf];omega⟩
             show _=_
             rw [allL_succ _ hio,hfx,if_neg (by simp [keepB]),List.append_nil,HA.out]
           · have hnb:(sn != 0)=true:=by simpa using hn0
             go_wp2_with (first
              | (at_builtin;refine wpList_append_S rfl (.tmp 116) (.tmp 121) 22 rfl 42 i0 _ 3 40 Tryz.underlying22 hi0 hz0 hz1 hz2 rfl (by omega) (.slice a2 A.length cp2) A.length (cels A) blk2 rfl ((HFS.out.all).keep fun q hq=>Below.heap_alloc _ _ q (HFS.out.all.lt_of hq)) (.slice (some ⟨wr.heap.size,0,none⟩) 1 1) 1 [.int .i64 xt,.slice xa xr.length xc,.int .i64 sn] rfl (chg_src' _ _ (by simp) _ _ _ rfl) (fun u hu=>by simp at hu;rcases hu with rfl | rfl | rfl <;> rfl) (by simp only [maxLen];omega) (by omega) ?_;intro v8 w8 blk8 hown8 hgrow8 hat8;have HF8:=Lib.hid (HFS.out.add (⟨xt,xr,sn⟩,.slice xa xr.length xc) hown8 hgrow8 hat8);clear hown8 hgrow8 hat8))
             refine ⟨⟨i+1,A ++ [(⟨xt,xr,sn⟩,.slice xa xr.length xc)],blk8,by go_num,by omega,?_,HF8⟩,by simp [intOf];omega⟩
             show _=_
             rw [allL_succ sn hio,hfx,if_pos (by simp [keepB,hn0]),HA.out]
             have:fxP sn os[i]=(⟨xt,xr,sn⟩,.slice xa xr.length xc):=by simp only [fxP,hfx];rw [← HPX.out]
             rw [this]
         · have hxb:(xn == 0)=false:=by simpa using hx0
           have hxb2:(xn != 0)=true:=by simpa using hx0
           have HFS:=Lib.hid (HF.out.stay hio (by rw [HNX.out];exact hx0))
           have hfx:fixN sn os[i].1=⟨xt,xr,xn⟩:=by rw [HNX.out];simp [fixN,hx0]
           go_wp2_with (first
            | (at_builtin;refine wpList_append_S rfl (.tmp 116) (.tmp 121) 22 rfl 42 i0 _ 3 40 Tryz.underlying22 hi0 hz0 hz1 hz2 rfl (by omega) (.slice a2 A.length cp2) A.length (cels A) blk2 rfl ((HFS.out.all).keep fun q hq=>Below.heap_alloc _ _ q (HFS.out.all.lt_of hq)) (.slice (some ⟨wr.heap.size,0,none⟩) 1 1) 1 [.int .i64 xt,.slice xa xr.length xc,.int .i64 xn] rfl (chg_src' _ _ (by simp) _ _ _ rfl) (fun u hu=>by simp at hu;rcases hu with rfl | rfl | rfl <;> rfl) (by simp only [maxLen];omega) (by omega) ?_;intro v8 w8 blk8 hown8 hgrow8 hat8;have HF8:=Lib.hid (HFS.out.add (⟨xt,xr,xn⟩,.slice xa xr.length xc) hown8 hgrow8 hat8);clear hown8 hgrow8 hat8))
           refine ⟨⟨i+1,A ++ [(⟨xt,xr,xn⟩,.slice xa xr.length xc)],blk8,by go_num,by omega,?_,HF8⟩,by simp [intOf];omega⟩
           show _=_
           rw [allL_succ sn hio,hfx,if_pos (by simp [keepB,hx0]),HA.out]
           have:fxP sn os[i]=(⟨xt,xr,xn⟩,.slice xa xr.length xc):=by simp only [fxP,hfx];rw [← HPX.out]
           rw [this]
       · have him:i=os.length:=by rw [HM.out];omega
         go_wp2
         go_ret
         refine ⟨⟨_,rfl,?_⟩,HF.out.below⟩
         have hc:=HF.out.all.chgs (D:=fun b=>D b∨w.heap.size≤b) (by omega) (fun b e=>.inr (Nat.le_trans HF.out.big (HF.out.new2 b e))) fun p hp=>by
          rw [HA.out] at hp
          obtain ⟨q,hq,e1,e2⟩:=allL_mem hp
          rw [e1,e2]
          exact (HF.out.rows q hq).mono fun b hb=>hb.1
         rw [HA.out,him,allL_end,HPUT.out] at hc
         have hAe:A.length=(allL sn os os.length).length:=by rw [HA.out,him]
         show ChgsAt _ _ (.slice a2 A.length cp2) _
         rw [hAe]
         unfold putC
         rw [← HSE.out]
         exact hc
    · go_wp2
      have HF0:=Lib.hid (Fix2.start HO.out sn)
      obtain ⟨os,hos⟩:∃ os,os=ys:=⟨_,rfl⟩
      have HM:Hid (os.length=ys.length):=by show _=_;rw [hos];try simp
      have hM:ys.length≤1000:=by omega
      have HPUT:Hid (os.map (·.1)=putOut ⟨so,true,sn⟩ t r):=by
       show _=_
       rw [hos]
       rw [HY.out];rfl
      obtain ⟨w2,hw2⟩:∃ w2,w2=wr:=⟨_,rfl⟩
      have HF1:Hid (Fix2 D w w2 wr (.slice a ys.length cp) os blk sn 0 (.slice none 0 0) [] none):=by rw [hw2,hos];exact HF0
      clear HF0 hw2 hos
      go_loopw [13,14] (fun s13 s14 wr=>∃ (i:Nat) (A:List (Chg×Value)) (blk2:Option Nat),s14=.int .i64 i∧i≤ys.length∧Hid (A=allL sn os i)∧Hid (Fix2 D w w2 wr (.slice a ys.length cp) os blk sn i s13 A blk2)) (fun _ i _=>ys.length - (intOf i).toNat)
      case atStart=>exact ⟨0,[],none,rfl,by omega,rfl,HF1⟩
      case round =>
       clear HF1
       obtain ⟨i,A,blk2,rfl,hi,HA,HF⟩:=hrel
       obtain ⟨a2,cp2,rfl⟩:=HF.out.all.form
       have hAl:A.length≤ys.length:=by rw [HA.out,← HM.out];exact allL_len _ _ _
       by_cases hlt2:i<ys.length
       · have hio:i<os.length:=by rw [HM.out];exact hlt2
         have ho:=HF.out.out
         rw [HM.out] at ho
         obtain ⟨g,o,rfl,rfl⟩:=ho.some_of (by omega)
         obtain ⟨hi2,hget⟩:=fixL_get sn hio
         obtain ⟨px,hpx⟩:∃ px,px=os[i]:=⟨_,rfl⟩
         have hxr:=HF.out.rows px (by rw [hpx];exact List.getElem_mem hio)
         have d0:=ho.cell (i * 3+0) (.int .i64 px.1.t) (by rw [cels_get _ i 0 hi2 (by omega),hget,← hpx];rfl)
         have d1:=ho.cell (i * 3+1) px.2 (by rw [cels_get _ i 1 hi2 (by omega),hget,← hpx];rfl)
         have d2:=ho.cell (i * 3+2) (.int .i64 px.1.n) (by rw [cels_get _ i 2 hi2 (by omega),hget,← hpx];rfl)
         simp only [Nat.add_zero,← Nat.add_assoc] at d0 d1 d2
         have f2:=ho.frozen (o+i * 3+2)
         have HPX:=Lib.hid hpx
         clear hpx ho hget
         obtain ⟨⟨xt,xr,xn⟩,xv⟩:=px
         simp only at d0 d1 d2 hxr
         obtain ⟨xa,xc,rfl,-,-⟩:=id hxr
         clear hxr
         have HNX:Hid (os[i].1=⟨xt,xr,xn⟩):=by show _=_;rw [← HPX.out]
         by_cases hx0:xn=0
         · subst hx0
           have HFS:=Lib.hid (HF.out.store HM.out hio (by rw [HNX.out]))
           have s0:(wr.setCell ⟨g,o+i * 3+2,none⟩ (.int .i64 sn)).cell? ⟨g,o+i * 3,none⟩=some (.int .i64 xt):=by rw [set_ne _ _ _ _ _ (by omega)];exact d0
           have s1:(wr.setCell ⟨g,o+i * 3+2,none⟩ (.int .i64 sn)).cell? ⟨g,o+i * 3+1,none⟩=some (.slice xa xr.length xc):=by rw [set_ne _ _ _ _ _ (by omega)];exact d1
           have s2:(wr.setCell ⟨g,o+i * 3+2,none⟩ (.int .i64 sn)).cell? ⟨g,o+i * 3+2,none⟩=some (.int .i64 sn):=World.cell?_setCell_same' _ _ _ (by rw [d2];rfl)
           have hfx:fixN sn os[i].1=⟨xt,xr,sn⟩:=by rw [HNX.out];simp [fixN]
           by_cases hn0:sn=0
           · subst hn0
             go_wp2
             refine ⟨⟨i+1,A,blk2,by go_num,by omega,?_,HFS⟩,by simp [intOf];omega⟩
             show _=_
             rw [allL_succ _ hio,hfx,if_neg (by simp [keepB]),List.append_nil,HA.out]
           · have hnb:(sn != 0)=true:=by simpa using hn0
             go_wp2_with (first
              | (at_builtin;refine wpList_append_S rfl (.tmp 116) (.tmp 121) 22 rfl 42 i0 _ 3 40 Tryz.underlying22 hi0 hz0 hz1 hz2 rfl (by omega) (.slice a2 A.length cp2) A.length (cels A) blk2 rfl ((HFS.out.all).keep fun q hq=>Below.heap_alloc _ _ q (HFS.out.all.lt_of hq)) (.slice (some ⟨wr.heap.size,0,none⟩) 1 1) 1 [.int .i64 xt,.slice xa xr.length xc,.int .i64 sn] rfl (chg_src' _ _ (by simp) _ _ _ rfl) (fun u hu=>by simp at hu;rcases hu with rfl | rfl | rfl <;> rfl) (by simp only [maxLen];omega) (by omega) ?_;intro v8 w8 blk8 hown8 hgrow8 hat8;have HF8:=Lib.hid (HFS.out.add (⟨xt,xr,sn⟩,.slice xa xr.length xc) hown8 hgrow8 hat8);clear hown8 hgrow8 hat8))
             refine ⟨⟨i+1,A ++ [(⟨xt,xr,sn⟩,.slice xa xr.length xc)],blk8,by go_num,by omega,?_,HF8⟩,by simp [intOf];omega⟩
             show _=_
             rw [allL_succ sn hio,hfx,if_pos (by simp [keepB,hn0]),HA.out]
             have:fxP sn os[i]=(⟨xt,xr,sn⟩,.slice xa xr.length xc):=by simp only [fxP,hfx];rw [← HPX.out]
             rw [this]
         · have hxb:(xn == 0)=false:=by simpa using hx0
           have hxb2:(xn != 0)=true:=by simpa using hx0
           have HFS:=Lib.hid (HF.out.stay hio (by rw [HNX.out];exact hx0))
           have hfx:fixN sn os[i].1=⟨xt,xr,xn⟩:=by rw [HNX.out];simp [fixN,hx0]
           go_wp2_with (first
            | (at_builtin;refine wpList_append_S rfl (.tmp 116) (.tmp 121) 22 rfl 42 i0 _ 3 40 Tryz.underlying22 hi0 hz0 hz1 hz2 rfl (by omega) (.slice a2 A.length cp2) A.length (cels A) blk2 rfl ((HFS.out.all).keep fun q hq=>Below.heap_alloc _ _ q (HFS.out.all.lt_of hq)) (.slice (some ⟨wr.heap.size,0,none⟩) 1 1) 1 [.int .i64 xt,.slice xa xr.length xc,.int .i64 xn] rfl (chg_src' _ _ (by simp) _ _ _ rfl) (fun u hu=>by simp at hu;rcases hu with rfl | rfl | rfl <;> rfl) (by simp only [maxLen];omega) (by omega) ?_;intro v8 w8 blk8 hown8 hgrow8 hat8;have HF8:=Lib.hid (HFS.out.add (⟨xt,xr,xn⟩,.slice xa xr.length xc) hown8 hgrow8 hat8);clear hown8 hgrow8 hat8))
           refine ⟨⟨i+1,A ++ [(⟨xt,xr,xn⟩,.slice xa xr.length xc)],blk8,by go_num,by omega,?_,HF8⟩,by simp [intOf];omega⟩
           show _=_
           rw [allL_succ sn hio,hfx,if_pos (by simp [keepB,hx0]),HA.out]
           have:fxP sn os[i]=(⟨xt,xr,xn⟩,.slice xa xr.length xc):=by simp only [fxP,hfx];rw [← HPX.out]
           rw [this]
       · have him:i=os.length:=by rw [HM.out];omega
         go_wp2
         go_ret
         refine ⟨⟨_,rfl,?_⟩,HF.out.below⟩
         have hc:=HF.out.all.chgs (D:=fun b=>D b∨w.heap.size≤b) (by omega) (fun b e=>.inr (Nat.le_trans HF.out.big (HF.out.new2 b e))) fun p hp=>by
          rw [HA.out] at hp
          obtain ⟨q,hq,e1,e2⟩:=allL_mem hp
          rw [e1,e2]
          exact (HF.out.rows q hq).mono fun b hb=>hb.1
         rw [HA.out,him,allL_end,HPUT.out] at hc
         have hAe:A.length=(allL sn os os.length).length:=by rw [HA.out,him]
         show ChgsAt _ _ (.slice a2 A.length cp2) _
         rw [hAe]
         unfold putC
         rw [← HSE.out]
         exact hc
end leaves
theorem two_filters {α:Type} (p q:α→Bool) (h:∀ x,p x=true→q x=false) (l:List α):(l.filter p).length+(l.filter q).length≤l.length:=by
 induction l with
 | nil=>simp
 | cons x t ih =>
   simp only [List.filter_cons]
   cases hp:p x
   · cases hq:q x <;> simp <;> omega
   · rw [h x hp];simp;omega
theorem putC_len {l:List Chg} {S:Key→Int} (h:SumOk l S) (t:Int) (r:List Val) (n:Int):(putC l t r n).length≤l.length+1:=by
 rw [putC_is h.asc h.nz]
 have h1:=two_filters (lessK t r) (beforeK t r) (fun x hx=>by
  cases hb:beforeK t r x
  · rfl
  · have:=(beforeK_iff t r x).1 hb
    simp [lessK] at hx;omega) l
 simp only [List.length_append]
 split
 · simp only [List.length_nil];omega
 · simp only [List.length_cons,List.length_nil];omega
theorem summed_succ {l:List Chg} {k:Nat} (hk:k<l.length):summed (l.take (k+1))=putC (summed (l.take k)) l[k].t l[k].r l[k].n:=by
 rw [List.take_succ_eq_append_getElem hk]
 unfold summed
 rw [List.foldl_append];rfl
theorem ok_take {l:List Chg} (hl:∀ c ∈ l,okC c) (k:Nat):∀ c ∈ l.take k,okC c:=fun c hc=>hl c (List.mem_of_mem_take hc)
theorem summed_len {l:List Chg} (hl:∀ c ∈ l,okC c):∀ k,k≤l.length→(summed (l.take k)).length≤k:=by
 intro k
 induction k with
 | zero=>intro _;simp [summed]
 | succ k ih =>
   intro hk
   rw [summed_succ hk]
   have:=putC_len (summed_ok (ok_take hl k)) l[k].t l[k].r l[k].n
   have:=ih (by omega)
   omega
theorem sumOf_bnd {l:List Chg} {M:Int} (hM:0≤M) (hl:∀ c ∈ l,-M≤c.n∧c.n≤M) (q:Key) : -(M * l.length)≤sumOf l q∧sumOf l q≤M * l.length:=by
 induction l with
 | nil=>simp [sumOf]
 | cons c t ih =>
   have h1:=ih fun d hd=>hl d (List.mem_cons_of_mem _ hd)
   have h2:=hl c List.mem_cons_self
   have h3:M * ((c :: t).length:Int)=M * t.length+M:=by rw [List.length_cons,Int.natCast_add,Int.mul_add];simp
   rw [sumOf_cons,h3]
   split <;> omega
theorem summed_bnd {l:List Chg} (hv:∀ c ∈ l,okC c) (hl:∀ c ∈ l,-1000000≤c.n∧c.n≤1000000) (h4:l.length≤400):∀ c ∈ summed l,-400000000≤c.n∧c.n≤400000000:=by
 intro c hc
 have h:=summed_ok hv
 have h1:=h.asc.sum h.ok hc
 rw [h.sum] at h1
 have h2:=sumOf_bnd (M:=1000000) (by omega) hl c.key
 rw [h1] at h2
 omega
theorem ChgsAt.lt {w:World} {D:Nat→Prop} {v:Value} {l:List Chg} (h:ChgsAt w D v l):ChgsAt w (fun b=>D b∧b<w.heap.size) v l:=by
 obtain ⟨a,cap,rfl,hl,hx⟩:=h
 refine ⟨a,cap,rfl,hl,?_⟩
 by_cases h0:l=[]
 · exact .inl h0
 · rcases hx with h | ⟨b,off,rfl,hb,rs,hc⟩
   · exact absurd h h0
   · have hp:0<l.length:=by cases l;exact absurd rfl h0;simp
     exact .inr ⟨b,off,rfl,⟨hb,cell_lt (hc 0 hp).1⟩,rs,fun i hi=>⟨(hc i hi).1,(hc i hi).2.1,(hc i hi).2.2.1,(hc i hi).2.2.2.lt⟩⟩
theorem num_of {c:Chg} (h:validChg c=true):(-1000000≤c.n∧c.n≤1000000)∧c.r.length≤8:=by
 simp [validChg,numB,withinB,validRow] at h
 omega
theorem row8 {c:Chg} (h:validChg c=true):c.r.length≤1000:=by have:=(num_of h).2;omega
section leaves
set_option maxHeartbeats 1000000
set_option maxRecDepth 10000
def OneAt (W:World) (b o:Nat) (t:Int) (r:Value) (n:Int):Prop :=
 W.cell? ⟨b,o,none⟩=some (.int .i64 t)∧W.cell? ⟨b,o+1,none⟩=some r∧W.cell? ⟨b,o+2,none⟩=some (.int .i64 n)
theorem f35_any (hm:Tryz.prog.follows .mixedOrders=true) (w:World) (v:Value) (l:List Chg) (D:Nat→Prop) (h:ChgsAt w D v l) (hl:l.length≤400) (hv:∀ x ∈ l,validChg x=true) (hD:∀ b,D b→b<w.heap.size) :
 Calls Tryz.prog 35 #[v] w fun e w'=>(∃ v',e=.returned v'∧ChgsAt w' (fun b=>w.heap.size≤b) v' (summed l))∧Below w.heap.size w w':=by
 have mixed:=hm
 have HC0:=Lib.hid h
 have HV:=Lib.hid hv
 have HOK:Hid (∀ c ∈ l,okC c):=fun c hc=>okC_of (hv c hc)
 obtain ⟨ta,tc,rfl,-,-⟩:=id h
 clear h hv
 go_enter Tryz.func35,Tryz.ntmps35
 go_wp2
 go_loopw [3,4] (fun s3 s4 wr=>∃ k:Nat,s4=.int .i64 k∧k≤l.length∧Hid (ChgsAt wr (fun b=>w.heap.size≤b) s3 (summed (l.take k)))∧Hid (Below w.heap.size w wr)) (fun _ i _=>l.length - (intOf i).toNat)
 case atStart=>exact ⟨0,rfl,by omega,chgs_nil _ _,Below.refl _ _⟩
 case round =>
  obtain ⟨k,rfl,hk,HS,HB⟩:=hrel
  obtain ⟨a,cp,rfl,-,-⟩:=id HS.out
  by_cases hlt:k<l.length
  · obtain ⟨bL,oL,xv,rfl,⟨b0,b1,b2⟩,hxr⟩:=HC0.out.at hlt
    have hbl:=cell_lt b0
    have hC:OneAt wr.drew bL (oL+k * 3) l[k].t xv l[k].n:=⟨(HB.out.cell (p:=⟨bL,_,none⟩) hbl).trans b0,(HB.out.cell (p:=⟨bL,_,none⟩) hbl).trans b1,(HB.out.cell (p:=⟨bL,_,none⟩) hbl).trans b2⟩
    have hvk:=HV.out l[k] (List.getElem_mem hlt)
    have H59:=Lib.hid (f59_any hm wr.drew (.slice a (summed (l.take k)).length cp) xv (summed (l.take k)) l[k].t l[k].n l[k].r _ D (HS.out.lt.below (Below.refl _ _).drew) (hxr.below HB.out.drew) (by have:=summed_len HOK.out k hk;omega) (row8 hvk) (fun b hb=>hb.2)
     (summed_bnd (ok_take HOK.out k) (fun c hc=>(num_of (HV.out c (List.mem_of_mem_take hc))).1) (by simp;omega)) (num_of hvk).1)
    obtain ⟨x,hx⟩:∃ x,x=l[k]:=⟨_,rfl⟩
    have HX:=Lib.hid hx
    rw [← hx] at H59 hC hxr
    obtain ⟨xa,xc,rfl,-,-⟩:=id hxr
    have HSU:=Lib.hid (summed_succ hlt)
    generalize (summed (l.take k)).length=m at H59 ⊢
    have hkz:(k:Int)<(l.length:Int):=by omega
    clear b0 b1 b2 hxr hvk hx
    obtain ⟨xt,xr,xn⟩:=x
    simp only at H59 hC
    go_wp2
    refine wp_region_ord [0,1,2,3,4,5,6,7,8,9,10,11,12,13,14,15,16,17] (fun W=>OneAt W bL (oL+k * 3) xt (.slice xa xr.length xc) xn) mixed (by kernel_rfl) (fun hg=>?_)
    iterate 16 (
     refine ord_rd hg hC (fun K hK=>?_)
     apply Exists.intro
     refine ⟨fun W hW=>?_,?_⟩
     · obtain ⟨z0,z1,z2⟩:=hW
       go_simp
       first | rfl | (rw [if_pos hkz];rfl) | (rw [if_pos hlt];rfl) | trace_state
     go_simp
     refine hK _ ?_
     clear hK K)
    refine ord_on (fun K hK=>?_)
    go_wp2_with (go_at_call 59;refine H59.out.mono ?_;rintro e w5 ⟨⟨v5,rfl,hc5⟩,hb5⟩)
    have hC':OneAt w5 bL (oL+k * 3) xt (.slice xa xr.length xc) xn:=by
     have hlt':bL<wr.drew.heap.size:=Nat.lt_of_lt_of_le hbl HB.out.size
     exact ⟨(hb5.cell (p:=⟨bL,_,none⟩) hlt').trans hC.1,(hb5.cell (p:=⟨bL,_,none⟩) hlt').trans hC.2.1,(hb5.cell (p:=⟨bL,_,none⟩) hlt').trans hC.2.2⟩
    refine hK _ _ rfl hC' ?_
    clear hK K
    refine ord_rd hg hC' (fun K hK=>?_)
    apply Exists.intro
    refine ⟨fun W hW=>?_,?_⟩
    · go_simp
      rfl
    go_simp
    refine hK _ ?_
    clear hK K
    refine ord_end (by kernel_rfl) ?_
    go_wp2
    refine ⟨⟨k+1,by go_num,by omega,?_,?_⟩,by simp [intOf];omega⟩
    · show ChgsAt _ _ _ _
      rw [HSU.out,← HX.out]
      exact hc5.mono fun b hb=>by
       have:=HB.out.size
       rcases hb with hb | hb
       · exact hb.1
       · exact Nat.le_trans this hb
    · exact HB.out.drew.trans (hb5.mono HB.out.size)
  · have hkl:k=l.length:=by omega
    have HF:Hid (ChgsAt wr (fun b=>w.heap.size≤b) (.slice a (summed (l.take k)).length cp) (summed l)):=by
     have:=HS.out
     rw [hkl,List.take_length] at this
     rw [hkl,List.take_length]
     exact this
    clear hkl
    go_wp2
    go_ret
    exact ⟨⟨_,rfl,HF.out⟩,HB.out⟩
theorem f12_any (hm:Tryz.prog.follows .mixedOrders=true) (w:World) (v:Value) (l:List Chg) (D:Nat→Prop) (h:ChgsAt w D v l) (hD:∀ b,D b→b<w.heap.size) :
 Calls Tryz.prog 12 #[v] w fun e w'=>(∃ rv,e=.returned (.tuple #[rv,.int .i64 (sortF (validChgs l) (summed l)).2])∧ChgsAt w' (fun b=>w.heap.size≤b) rv (sortF (validChgs l) (summed l)).1)∧Below w.heap.size w w':=by
 have H29:=Lib.hid (f29_any w v l D h)
 obtain ⟨ok,hok⟩:∃ b,validChgs l=b:=⟨_,rfl⟩
 rw [hok] at H29 ⊢
 cases ok
 · obtain ⟨a,cap,rfl,-,-⟩:=h
   go_enter Tryz.func12,Tryz.ntmps12
   go_wp2_with (go_at_call 29;refine H29.out.mono ?_;rintro e w' ⟨rfl,hb1⟩)
   go_ret2
   exact ⟨⟨_,rfl,chgs_nil _ _⟩,hb1⟩
 · obtain ⟨hl,hv⟩:=valid_all hok
   have H35:=Lib.hid (fun (W:World) (hb:Below w.heap.size w W)=>f35_any hm W v l D (h.below hb) hl hv (fun b hb'=>Nat.lt_of_lt_of_le (hD b hb') hb.size))
   obtain ⟨a,cap,rfl,-,-⟩:=h
   obtain ⟨m,hm'⟩:∃ m,m=summed l:=⟨_,rfl⟩
   rw [← hm'] at H35 ⊢
   clear hok hv hm'
   go_enter Tryz.func12,Tryz.ntmps12
   go_wp2_with (first
    | (go_at_call 29;with_reducible refine H29.out.mono ?_;rintro e w1 ⟨rfl,hb1⟩;have HB1:=Lib.hid hb1;clear hb1)
    | (go_at_call 35;refine (H35.out _ HB1.out).mono ?_;rintro e w2 ⟨⟨v2,rfl,hc2⟩,hb2⟩
       obtain ⟨a2,cap2,rfl,hml,-⟩:=id hc2
       have HC2:=Lib.hid hc2
       have HC2':=Lib.hid (hc2.mono (D':=fun b=>w.heap.size≤b) fun b hb=>Nat.le_trans HB1.out.size hb)
       have HB2:Hid (Below w.heap.size w w2):=HB1.out.trans (hb2.mono HB1.out.size)
       clear hc2 hb2))
   go_loopw [5] (fun s5 wr=>∃ k:Nat,s5=.int .i64 k∧k≤m.length∧Hid (∀ j (h:j<m.length),j<k→negB m[j]=false)∧w2=wr) (fun i _=>m.length - (intOf i).toNat)
   case atStart=>exact ⟨0,rfl,by omega,(fun j _ h=>by omega),rfl⟩
   case round =>
    obtain ⟨k,rfl,hk,HN,rfl⟩:=hrel
    by_cases hlt:k<m.length
    · obtain ⟨bL,oL,xv,rfl,⟨b0,b1,b2⟩,hxr⟩:=HC2.out.at hlt
      have hkz:(k:Int)<(m.length:Int):=by omega
      by_cases hneg:m[k].n<0
      · have hany:m.any negB=true:=List.any_eq_true.2 ⟨m[k],List.getElem_mem hlt,by simp [negB,hneg]⟩
        have HANY:=Lib.hid hany
        clear hany
        go_wp2
        go_ret2
        refine ⟨⟨.slice none 0 0,?_,?_⟩,HB2.out⟩
        · simp [sortF,HANY.out]
        · simp only [sortF,HANY.out,Bool.true_eq_false,if_false,if_true]
          exact chgs_nil _ _
      · have HNG:Hid (negB m[k]=false):=by show _=_;simp [negB,hneg]
        go_wp2
        refine ⟨⟨k+1,by go_num,by omega,fun j hj hjk=>?_,trivial⟩,by simp [intOf];omega⟩
        by_cases e:j=k
        · subst e;exact HNG.out
        · exact HN.out j hj (by omega)
    · have hany:Hid (m.any negB=false):=by
       show _=_
       rw [List.any_eq_false]
       intro x hx
       obtain ⟨j,hj,rfl⟩:=List.mem_iff_getElem.1 hx
       have:=HN.out j hj (by omega)
       simp [this]
      have H29b:=Lib.hid (f29_any w2 _ m _ HC2.out)
      go_wp2_with (go_at_call 29;with_reducible refine H29b.out.mono ?_;rintro e w4 ⟨rfl,hb4⟩;have HB4:=Lib.hid hb4;clear hb4)
      · rename_i hv
        have hv:validChgs m=false:=by simpa using hv
        go_ret2
        refine ⟨⟨.slice none 0 0,?_,?_⟩,HB2.out.trans (HB4.out.mono HB2.out.size)⟩
        · simp [sortF,hany.out,hv]
        · simp only [sortF,hany.out,hv,Bool.true_eq_false,Bool.false_eq_true,if_false,if_true]
          exact chgs_nil _ _
      · rename_i hv
        have hv:validChgs m=true:=by simpa using hv
        go_ret2
        refine ⟨⟨.slice a2 m.length cap2,?_,?_⟩,HB2.out.trans (HB4.out.mono HB2.out.size)⟩
        · simp [sortF,hany.out,hv]
        · simp only [sortF,hany.out,hv,Bool.true_eq_false,Bool.false_eq_true,if_false]
          exact HC2'.out.below HB4.out
end leaves
end Go.Proofs.YtjhknhgkjfabaaaGreatDoor
