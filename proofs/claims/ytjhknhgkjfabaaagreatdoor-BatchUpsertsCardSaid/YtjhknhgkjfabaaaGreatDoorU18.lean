/-
 Changes gathered: the walk of batch's gathered. If the changes lie in the world as the words say, and are valid.
-/
import Derived.Test.YtjhknhgkjfabaaaGreatDoorU17
set_option linter.unusedSimpArgs false
set_option linter.unusedVariables false
namespace Go.Proofs.YtjhknhgkjfabaaaGreatDoor
open Go.RowKit Go.Proofs.YtjhknhgkjfabaaaGreatDoor.Cmps
theorem ChgsAt.at {w:World} {D:Nat→Prop} {a:Option Addr} {n cap:Nat} {l:List Chg} (h:ChgsAt w D (.slice a n cap) l) {k:Nat} (hk:k<l.length) :
 ∃ b off r,a=some ⟨b,off,none⟩∧(w.cell? ⟨b,off+k * 3,none⟩=some (.int .i64 l[k].t)∧w.cell? ⟨b,off+k * 3+1,none⟩=some r∧w.cell? ⟨b,off+k * 3+2,none⟩=some (.int .i64 l[k].n))∧RowAt w D r l[k].r:=by
 obtain ⟨a',cap',hv,hl,hx⟩:=h
 injection hv with ha _ _
 subst ha
 rcases hx with rfl | ⟨b,off,rfl,hb,rs,hc⟩
 · simp at hk
 · obtain ⟨h0,h1,h2,h3⟩:=hc k hk
   exact ⟨b,off,rs k,rfl,⟨h0,h1,h2⟩,h3⟩
theorem ChgsAt.len {w:World} {D:Nat→Prop} {a:Option Addr} {n cap:Nat} {l:List Chg} (h:ChgsAt w D (.slice a n cap) l):l.length=n:=by
 obtain ⟨a',cap',hv,_⟩:=h
 injection hv with _ hn _;exact hn.symm
theorem gathA_succ {l:List Chg} {k:Nat} (hk:k<l.length):gathA (l.take (k+1))=stepM (gathA (l.take k)) l[k]:=by
 rw [List.take_succ_eq_append_getElem hk]
 show List.foldl stepM [] (l.take k ++ [l[k]])=_
 rw [List.foldl_append];rfl
theorem row_set {w1 w:World} {n:Nat} {r:Value} {row:List Val} (h:RowAt w (fun b=>w1.heap.size≤b) r row) (hn:n<w1.heap.size) {j:Nat} {u:Value}:RowAt (w.setCell ⟨n,j,none⟩ u) (fun b=>w1.heap.size≤b) r row :=
 h.keep fun b hb _=>Below.heap_setCell w ⟨n,j,none⟩ u b (fun e=>by have e:b=n:=e;omega)
theorem chg_src' (w:World) (n:Nat) (hn:n=w.heap.size) (a b c:Value) (ha:a.oneCell'=true):Src (w.alloc (.cells #[a,b,c] 42)) 3 (.slice (some ⟨n,0,none⟩) 1 1) 1 [a,b,c]:=by
 subst hn;exact chg_src w a b c ha
theorem set_last {α:Type} {l:List α} {n:Nat} (h:l.length=n+1) (x:α):l.set n x=l.take n ++ [x]:=by
 rw [List.set_eq_take_append_cons_drop,if_pos (by omega),List.drop_of_length_le (by omega)]
theorem ChgsAt.mono {w:World} {D D':Nat→Prop} {v:Value} {l:List Chg} (h:ChgsAt w D v l) (hd:∀ b,D b→D' b):ChgsAt w D' v l:=by
 obtain ⟨a,cap,rfl,hl,hx⟩:=h
 refine ⟨a,cap,rfl,hl,?_⟩
 rcases hx with rfl | ⟨b,off,rfl,hb,rs,hc⟩
 · exact .inl rfl
 · exact .inr ⟨b,off,rfl,hd b hb,rs,fun i hi=>⟨(hc i hi).1,(hc i hi).2.1,(hc i hi).2.2.1,(hc i hi).2.2.2.mono hd⟩⟩
theorem foldl_len (l A:List Chg):(l.foldl stepM A).length≤A.length+l.length:=by
 induction l generalizing A with
 | nil=>simp
 | cons c t ih =>
   have h1:(stepM A c).length≤A.length+1:=by
    unfold stepM
    split
    · split
      · simp
      · simp
    · simp
   have:=ih (stepM A c)
   simp only [List.foldl_cons,List.length_cons]
   omega
theorem gathA_len (l:List Chg):(gathA l).length≤l.length:=by have:=foldl_len l [];simpa [gathA] using this
def XC (W:World) (g o b:Nat) (xt:Int) (xv:Value) (xn:Int) (ct:Int) (cv:Value) (cn:Int):Prop :=
 (W.cell? ⟨g,o,none⟩=some (.int .i64 xt)∧W.cell? ⟨g,o+1,none⟩=some xv∧W.cell? ⟨g,o+2,none⟩=some (.int .i64 xn))∧W.cell? ⟨b,0,none⟩=some (.int .i64 ct)∧W.cell? ⟨b,1,none⟩=some cv∧W.cell? ⟨b,2,none⟩=some (.int .i64 cn)
def Bnd (A:List Chg) (m:Int):Prop:=∀ c ∈ A,-m≤c.n∧c.n≤m
theorem bnd_push {A:List Chg} {k:Nat} {c:Chg} (h:Bnd A ((k:Int) * 1000000)) (hc : -1000000≤c.n∧c.n≤1000000):Bnd (A ++ [c]) (((k+1:Nat):Int) * 1000000):=by
 intro d hd
 rcases List.mem_append.1 hd with hd | hd
 · have:=h d hd;omega
 · rw [List.mem_singleton] at hd;subst hd;omega
theorem bnd_more {I:List Chg} {x c:Chg} {k:Nat} (h:Bnd (I ++ [x]) ((k:Int) * 1000000)) (hc : -1000000≤c.n∧c.n≤1000000):Bnd (I ++ [⟨x.t,x.r,x.n+c.n⟩]) (((k+1:Nat):Int) * 1000000):=by
 intro d hd
 rcases List.mem_append.1 hd with hd | hd
 · have:=h d (by simp [hd]);omega
 · rw [List.mem_singleton] at hd;subst hd
   have:=h x (by simp)
   simp only
   omega
section leaves
set_option maxHeartbeats 1000000
set_option maxRecDepth 10000
theorem f33_any (hm:Tryz.prog.follows .mixedOrders=true) (w:World) (b off c:Nat) (v:Value) (l:List Chg) (D:Nat→Prop) (h:ChgsAt w D v l) (hv:w.cell? ⟨b,off,none⟩=some v) (hl:l.length≤400) (hvl:∀ x ∈ l,validChg x=true) (hD:∀ b,D b→b<w.heap.size) :
 Calls Tryz.prog 33 #[.slice (some ⟨b,off,none⟩) 1 c] w fun e w'=>(∃ v' l',e=.returned v'∧l'.Perm l∧l'.Pairwise (fun a b=>cmpChg a b≤0)∧ChgsAt w' (fun b=>w.heap.size≤b) v' ((gathA l').filter keepB))∧Below w.heap.size w w':=by
 have mixed:=hm
 obtain ⟨i0,hi0,hz0,hz1,hz2⟩:=info_parts info42
 have H55:=Lib.hid (f55_any w b off c v l D h hv (by omega))
 have HVL:=Lib.hid hvl
 go_enter Tryz.func33,Tryz.ntmps33
 go_wp2_with (first
  | (go_at_call 55;refine H55.out.mono ?_;rintro e w1 ⟨⟨v1,xs,blk1,rfl,hxs,hxr,hown,hnew⟩,hb1⟩
     obtain ⟨a1,c1,rfl⟩:=hown.form
     have hlx:l.length=xs.length:=by rw [← hxs,List.length_map]
     have H56:=Lib.hid (f56_any hm w1 (.slice a1 l.length c1) xs blk1 D (by rw [← hlx];exact hown) (by omega) (fun p hp=>(hxr p hp).below hb1) (fun g e hg=>by have:=hnew g e;have:=hD g hg;omega) (fun b hb=>Nat.lt_of_lt_of_le (hD b hb) hb1.size))
     have HB1:=Lib.hid hb1
     have HXS:=Lib.hid hxs
     have HN1:=Lib.hid hnew
     clear hlx hown hxr hnew hb1 hxs)
  | (go_at_call 56;refine H56.out.mono ?_;rintro e w2 ⟨rfl,⟨l',hp,hs,hch⟩,hg2⟩
     have HP:Hid (l'.Perm l):=by rw [← HXS.out];exact hp
     have HS:=Lib.hid hs
     have HCH:=Lib.hid hch
     have HB2:=Lib.hid (HB1.out.grown hg2 HB1.out.size HN1.out)
     have HLN:=Lib.hid hch.len
     clear hp hs hch hg2))
 go_loopw [4,14] (fun s4 s14 wr=>∃ (k:Nat) (ys:List (Chg×Value)) (blk:Option Nat),s14=.int .i64 k∧k≤l.length∧Hid (OutAt w2 wr s4 (gathA (l'.take k)) ys blk)∧Hid (Bnd (gathA (l'.take k)) (k * 1000000))) (fun _ i _=>l.length - (intOf i).toNat)
 case atStart=>exact ⟨0,[],none,rfl,by omega,OutAt.start w2,fun c hc=>by simp [gathA] at hc⟩
 case round =>
  obtain ⟨k,ys,blk,rfl,hk,HO,HBD⟩:=hrel
  obtain ⟨a,cp,rfl⟩:=HO.out.own.form
  by_cases hlt:k<l.length
  · have hlk:k<l'.length:=by rw [HLN.out];exact hlt
    obtain ⟨bL,oL,rv,rfl,⟨c0,c1',c2⟩,hr⟩:=(HCH.out.below HO.out.below).at hlk
    have HC:=Lib.hid (rfl:l'[k]=l'[k])
    obtain ⟨cc,hcc⟩:∃ cc,cc=l'[k]:=⟨_,rfl⟩
    have hcv:validChg cc=true:=HVL.out cc (by rw [hcc];exact HP.out.mem_iff.1 (List.getElem_mem hlk))
    rw [← hcc] at c0 c2 hr
    have HCC:=Lib.hid hcc
    have HCV:=Lib.hid hcv
    clear hcc hcv HC
    obtain ⟨ct,cr,cn⟩:=cc
    simp only at c0 c1' c2 hr
    obtain ⟨ra,rc,rfl,-,-⟩:=id hr
    have HR:=Lib.hid hr
    clear hr
    have hnb : -1000000≤cn∧cn≤1000000:=by
     have:=HCV.out
     simp [validChg,numB,withinB] at this
     omega
    have h8:cr.length≤1000:=by
     have:=HCV.out
     simp [validChg,validRow] at this
     omega
    obtain ⟨n,hn⟩:∃ n,n=ys.length:=⟨_,rfl⟩
    have HN:=Lib.hid hn
    rw [← hn]
    rcases n with _ | n
    · clear hn
      go_wp2
      refine wp_region_ord [0,1,2,3,4,5,6,7,8,9,10,11] (fun _=>True) mixed (by kernel_rfl) (fun hg=>?_)
      iterate 3 (
       refine ord_rd hg trivial (fun K hK=>?_)
       apply Exists.intro
       refine ⟨fun W hW=>?_,?_⟩
       · skip
         go_simp
         first | rfl | (rw [if_pos hnn];rfl) | trace_state
       go_simp
       refine hK _ ?_
       clear hK K)
      iterate 8 (
       refine ord_ps hg trivial (fun K hK=>?_)
       go_simp
       refine hK _ ?_
       clear hK K)
      iterate 1 (
       refine ord_rd hg trivial (fun K hK=>?_)
       apply Exists.intro
       refine ⟨fun W hW=>?_,?_⟩
       · skip
         go_simp
         first | rfl | (rw [if_pos hnn];rfl) | trace_state
       go_simp
       refine hK _ ?_
       clear hK K)
      refine ord_end (by kernel_rfl) ?_
      have hAq:((wr.alloc (.cells #[.int .i64 ct,.slice ra cr.length rc,.int .i64 cn] 42)).drew).heap[wr.heap.size]? = some (.cells #[.int .i64 ct,.slice ra cr.length rc,.int .i64 cn] 42):=heap_new wr _
      have hBq:Below wr.heap.size wr ((wr.alloc (.cells #[.int .i64 ct,.slice ra cr.length rc,.int .i64 cn] 42)).drew):=((Below.refl _ _).alloc (Nat.le_refl _) _).drew
      generalize ((wr.alloc (.cells #[.int .i64 ct,.slice ra cr.length rc,.int .i64 cn] 42)).drew)=wq at hAq hBq ⊢
      have hlq:=heap_lt hAq
      have HA:=Lib.hid hAq
      have HBq:=Lib.hid hBq
      clear hAq hBq
      have HLT:=Lib.hid hlq
      have H25:=Lib.hid (f25_any wq (.slice ra cr.length rc) cr _ ((HR.out.below HBq.out)) h8)
      have v0:=cells_at HA.out 0
      have v1:=cells_at HA.out 1
      have v2:=cells_at HA.out 2
      clear hlq
      go_wp2_with (first
       | (go_at_call 25;refine H25.out.mono ?_;rintro e w3 ⟨⟨rv3,rfl,hrv⟩,hb3⟩
          obtain ⟨a3,c3,rfl,-,-⟩:=id hrv
          have A3:w3.heap[wr.heap.size]? = some (.cells #[.int .i64 ct,.slice ra cr.length rc,.int .i64 cn] 42):=(hb3.block _ HLT.out).trans HA.out
          have u1:=cells_at A3 1
          have f1:w3.frozen? ⟨wr.heap.size,1,none⟩=false:=by simp [World.frozen?,A3]
          have A4:=heap_set (j:=1) A3 (.slice a3 cr.length c3)
          have s0:=cells_at A4 0
          have s1:=cells_at A4 1
          have s2:=cells_at A4 2
          have hB4:Below wr.heap.size wr (w3.setCell ⟨wr.heap.size,1,none⟩ (.slice a3 cr.length c3)):=(HBq.out.trans (hb3.mono HBq.out.size)).setCell (p:=⟨wr.heap.size,1,none⟩) (Nat.le_refl _) (.slice a3 cr.length c3)
          have HO4:=Lib.hid (HO.out.next hB4)
          have HRV:=Lib.hid (row_set hrv HLT.out (j:=1) (u:=(.slice a3 cr.length c3)))
          clear hb3 hrv A3 A4 hB4)
       | (at_builtin;refine wpList_append_S rfl (.tmp 47) (.tmp 49) 22 rfl 42 i0 _ 3 40 Tryz.underlying22 hi0 hz0 hz1 hz2 rfl (by omega) (.slice a 0 cp) 0 (cels ys) blk rfl (by have:=(HO4.out.next ((Below.refl _ _).alloc (Nat.le_refl _) (.cells #[.int .i64 ct,(.slice a3 cr.length c3),.int .i64 cn] 42))).own;rw [← HN.out] at this;exact this) (.slice (some ⟨w3.heap.size,0,none⟩) 1 1) 1 [.int .i64 ct,(.slice a3 cr.length c3),.int .i64 cn] rfl (chg_src' _ _ (by simp) _ _ _ rfl) (fun u hu=>by simp at hu;rcases hu with rfl | rfl | rfl;rfl;exact HRV.out.one;rfl) (by simp only [maxLen];omega) (by omega) ?_;intro v5 w5 blk5 hown5 hgrow5 hat5;have HO5:=Lib.hid (HO4.out.add ⟨ct,cr,cn⟩ (.slice a3 cr.length c3) (HRV.out.lt.mono fun b hb=>⟨by have:=HBq.out.size;have:=HO.out.below.size;omega,hb.2,fun e=>by have:=HO.out.own.lt_of e;have:=HBq.out.size;omega⟩) (by rw [← HN.out];exact hown5) hgrow5 hat5);clear hown5 hgrow5 hat5))
      have hys:ys=[]:=List.eq_nil_of_length_eq_zero HN.out.symm
      have hA:gathA (l'.take k)=[]:=by rw [← HO.out.is,hys];rfl
      refine ⟨⟨k+1,ys ++ [(⟨ct,cr,cn⟩,.slice a3 cr.length c3)],blk5,by go_num,by omega,?_,?_⟩,by simp [intOf];omega⟩
      · have:=HO5.out
        rw [hA] at this
        rw [gathA_succ hlk,hA,← HCC.out]
        exact this
      · rw [gathA_succ hlk,hA,← HCC.out]
        exact bnd_push (A:=[]) (fun c hc=>by simp at hc) hnb
    · clear hn
      obtain ⟨g,o,rfl,rfl⟩:=HO.out.own.some_of (by have:=HN.out;omega)
      have hny:n<ys.length:=by have:=HN.out;omega
      have hnl:n+1≤400:=by
       have h1:=gathA_len (l'.take k)
       rw [← HO.out.is,List.length_map,List.length_take] at h1
       have:=HN.out
       omega
      have hwn:IntKind.i64.wrap (n:Int)=n:=by rw [IntKind.wrap_i64];omega
      have hsp:gathA (l'.take k)=(ys.take n).map (·.1) ++ [ys[n].1]:=by
       rw [← HO.out.is,← List.map_singleton (f:=fun p:Chg×Value=>p.1),← List.map_append,List.take_append_getElem]
       rw [List.take_of_length_le (by have:=HN.out;omega)]
      obtain ⟨px,hpx⟩:∃ px,px=ys[n]:=⟨_,rfl⟩
      have HPX:=Lib.hid hpx
      have x0:=HO.out.own.cell (n * 3+0) (.int .i64 px.1.t) (by rw [cels_get ys n 0 hny (by omega),← hpx];rfl)
      have x1:=HO.out.own.cell (n * 3+1) px.2 (by rw [cels_get ys n 1 hny (by omega),← hpx];rfl)
      have x2:=HO.out.own.cell (n * 3+2) (.int .i64 px.1.n) (by rw [cels_get ys n 2 hny (by omega),← hpx];rfl)
      simp only [Nat.add_zero,← Nat.add_assoc] at x0 x1 x2
      have hxr:=HO.out.rows px (by rw [hpx];exact List.getElem_mem hny)
      rw [← hpx] at hsp
      have HSP:=Lib.hid hsp
      have hbx:=HBD.out px.1 (by rw [hsp];simp)
      clear hpx hsp
      obtain ⟨⟨xt,xr,xn⟩,xv⟩:=px
      simp only at x0 x1 x2 hxr hbx
      obtain ⟨xa,xc,rfl,-,-⟩:=id hxr
      have hgl:=HO.out.own.blk_lt
      obtain ⟨q,hq⟩:∃ q,q=cmpChg ⟨xt,xr,xn⟩ ⟨ct,cr,cn⟩:=⟨_,rfl⟩
      have HC21:Hid (∀ W,Below wr.heap.size wr W→Calls Tryz.prog 21 #[chgV ⟨xt,xr,xn⟩ (.slice xa xr.length xc),chgV ⟨ct,cr,cn⟩ (.slice ra cr.length rc)] W fun e w'=>e=.returned (.int .i64 q)∧Grew W w'):=fun W hb=>by
       rw [hq];exact f21_any hm W ⟨xt,xr,xn⟩ ⟨ct,cr,cn⟩ _ _ _ _ (hxr.below hb) (HR.out.below hb)
      have HQ:=Lib.hid hq
      have hw1:IntKind.i64.wrap (xn+cn)=xn+cn:=by rw [IntKind.wrap_i64];omega
      have hxn : -9223372036854775808≤xn+cn∧xn+cn≤9223372036854775807:=by omega
      have hnn:(n:Int)<(n:Int)+1:=by omega
      have hgz:(0:Int)<(n:Int)+1:=by omega
      have hB8:Below wr.heap.size wr (wr.alloc (.cells #[.int .i64 ct,.slice ra cr.length rc,.int .i64 cn] 42)).drew:=((Below.refl _ _).alloc (Nat.le_refl _) _).drew
      have hA8:((wr.alloc (.cells #[.int .i64 ct,.slice ra cr.length rc,.int .i64 cn] 42)).drew).heap[wr.heap.size]? = some (.cells #[.int .i64 ct,.slice ra cr.length rc,.int .i64 cn] 42):=heap_new wr _
      have hC:XC (wr.alloc (.cells #[.int .i64 ct,.slice ra cr.length rc,.int .i64 cn] 42)).drew g (o+n * 3) wr.heap.size xt (.slice xa xr.length xc) xn ct (.slice ra cr.length rc) cn :=
       ⟨⟨(hB8.cell (p:=⟨g,_,none⟩) hgl).trans x0,(hB8.cell (p:=⟨g,_,none⟩) hgl).trans x1,(hB8.cell (p:=⟨g,_,none⟩) hgl).trans x2⟩,cells_at hA8 0,cells_at hA8 1,cells_at hA8 2⟩
      have HB8:=Lib.hid hB8
      have HA8:=Lib.hid hA8
      have HX:=Lib.hid (And.intro x0 (And.intro x1 x2))
      clear hq hxr hbx hB8 hA8 x0 x1 x2
      go_wp2
      refine wp_region_ord [0,1,2,3,4,5,6,7,8,9,10,11] (fun W=>XC W g (o+n * 3) wr.heap.size xt (.slice xa xr.length xc) xn ct (.slice ra cr.length rc) cn) mixed (by kernel_rfl) (fun hg=>?_)
      iterate 9 (
       refine ord_rd hg hC (fun K hK=>?_)
       apply Exists.intro
       refine ⟨fun W hW=>?_,?_⟩
       · obtain ⟨⟨z0,z1,z2⟩,t0,t1,t2⟩:=hW
         go_simp
         first | rfl | (rw [if_pos hnn];rfl) | trace_state
       go_simp
       refine hK _ ?_
       clear hK K)
      refine ord_on (fun K hK=>?_)
      go_wp2_with (go_at_call 21;refine (HC21.out _ HB8.out).mono ?_;rintro e w' ⟨rfl,hgr⟩)
      have hB9:Below wr.heap.size wr w':=HB8.out.trans (hgr.below.mono HB8.out.size)
      have hA9:w'.heap[wr.heap.size]? = some (.cells #[.int .i64 ct,.slice ra cr.length rc,.int .i64 cn] 42):=(hgr.below.block _ (heap_lt HA8.out)).trans HA8.out
      have hC':XC w' g (o+n * 3) wr.heap.size xt (.slice xa xr.length xc) xn ct (.slice ra cr.length rc) cn :=
       ⟨⟨(hB9.cell (p:=⟨g,_,none⟩) hgl).trans HX.out.1,(hB9.cell (p:=⟨g,_,none⟩) hgl).trans HX.out.2.1,(hB9.cell (p:=⟨g,_,none⟩) hgl).trans HX.out.2.2⟩,cells_at hA9 0,cells_at hA9 1,cells_at hA9 2⟩
      have HBq:=Lib.hid hB9
      have HA:=Lib.hid hA9
      refine hK _ _ rfl hC' ?_
      clear hK K hB9 hA9 hgr
      by_cases hq0:q=0
      · have hqb:(q == 0)=true:=by simpa using hq0
        iterate 2 (
         refine ord_rd hg hC' (fun K hK=>?_)
         apply Exists.intro
         refine ⟨fun W hW=>?_,?_⟩
         · skip
           go_simp
           first | rfl | (rw [if_pos hnn];rfl) | trace_state
         go_simp
         refine hK _ ?_
         clear hK K)
        refine ord_end (by kernel_rfl) ?_
        obtain ⟨⟨y0,y1,y2⟩,t0,t1,t2⟩:=hC'
        have hn1:ys.length=n+1:=HN.out.symm
        have hOq:OutAt w2 w' (.slice (some ⟨g,o,none⟩) (n+1) cp) (gathA (l'.take k)) ys (some g):=by
         have:=HO.out.next HBq.out
         rw [hn1] at this
         exact this
        have hfz:w'.frozen? ⟨g,o+n * 3+2,none⟩=false:=by
         have:=hOq.own
         rw [hn1] at this
         exact this.frozen _
        obtain ⟨hi,hmo⟩:=hOq.more hn1 (xn+cn)
        have HMO:=Lib.hid hmo
        clear hOq hmo hn1
        go_wp2
        go_big_region_o
        go_wp2
        have hst:gathA (l'.take (k+1))=(ys.set n (⟨ys[n].1.t,ys[n].1.r,xn+cn⟩,ys[n].2)).map (·.1):=by
         rw [gathA_succ hlk,HSP.out,stepM_same (by rw [← HCC.out,← HQ.out];exact hq0),set_last (by have:=HN.out;omega),List.map_append,← HPX.out,← HCC.out]
         rfl
        refine ⟨⟨k+1,_,some g,by go_num,by omega,hst ▸ (HMO.out.next (Below.refl _ _).drew),?_⟩,by simp [intOf];omega⟩
        rw [gathA_succ hlk,HSP.out,stepM_same (by rw [← HCC.out,← HQ.out];exact hq0),← HCC.out]
        exact bnd_more (by rw [← HSP.out];exact HBD.out) hnb
      · have hqb:(q == 0)=false:=by simpa using hq0
        iterate 2 (
         refine ord_rd hg hC' (fun K hK=>?_)
         apply Exists.intro
         refine ⟨fun W hW=>?_,?_⟩
         · skip
           go_simp
           first | rfl | (rw [if_pos hnn];rfl) | trace_state
         go_simp
         refine hK _ ?_
         clear hK K)
        refine ord_end (by kernel_rfl) ?_
        clear hC'
        obtain ⟨wq,rfl⟩:∃ wq,wq=w':=⟨_,rfl⟩
        have hlq:=heap_lt HA.out
        have HLT:=Lib.hid hlq
        have H25:=Lib.hid (f25_any wq (.slice ra cr.length rc) cr _ ((HR.out.below HBq.out)) h8)
        have v0:=cells_at HA.out 0
        have v1:=cells_at HA.out 1
        have v2:=cells_at HA.out 2
        clear hlq
        go_wp2_with (first
         | (go_at_call 25;refine H25.out.mono ?_;rintro e w3 ⟨⟨rv3,rfl,hrv⟩,hb3⟩
            obtain ⟨a3,c3,rfl,-,-⟩:=id hrv
            have A3:w3.heap[wr.heap.size]? = some (.cells #[.int .i64 ct,.slice ra cr.length rc,.int .i64 cn] 42):=(hb3.block _ HLT.out).trans HA.out
            have u1:=cells_at A3 1
            have f1:w3.frozen? ⟨wr.heap.size,1,none⟩=false:=by simp [World.frozen?,A3]
            have A4:=heap_set (j:=1) A3 (.slice a3 cr.length c3)
            have s0:=cells_at A4 0
            have s1:=cells_at A4 1
            have s2:=cells_at A4 2
            have hB4:Below wr.heap.size wr (w3.setCell ⟨wr.heap.size,1,none⟩ (.slice a3 cr.length c3)):=(HBq.out.trans (hb3.mono HBq.out.size)).setCell (p:=⟨wr.heap.size,1,none⟩) (Nat.le_refl _) (.slice a3 cr.length c3)
            have HO4:=Lib.hid (HO.out.next hB4)
            have HRV:=Lib.hid (row_set hrv HLT.out (j:=1) (u:=(.slice a3 cr.length c3)))
            clear hb3 hrv A3 A4 hB4)
         | (at_builtin;refine wpList_append_S rfl (.tmp 47) (.tmp 49) 22 rfl 42 i0 _ 3 40 Tryz.underlying22 hi0 hz0 hz1 hz2 rfl (by omega) (.slice (some ⟨g,o,none⟩) (n+1) cp) (n+1) (cels ys) (some g) rfl (by have:=(HO4.out.next ((Below.refl _ _).alloc (Nat.le_refl _) (.cells #[.int .i64 ct,(.slice a3 cr.length c3),.int .i64 cn] 42))).own;rw [← HN.out] at this;exact this) (.slice (some ⟨w3.heap.size,0,none⟩) 1 1) 1 [.int .i64 ct,(.slice a3 cr.length c3),.int .i64 cn] rfl (chg_src' _ _ (by simp) _ _ _ rfl) (fun u hu=>by simp at hu;rcases hu with rfl | rfl | rfl;rfl;exact HRV.out.one;rfl) (by simp only [maxLen];omega) (by omega) ?_;intro v5 w5 blk5 hown5 hgrow5 hat5;have HO5:=Lib.hid (HO4.out.add ⟨ct,cr,cn⟩ (.slice a3 cr.length c3) (HRV.out.lt.mono fun b hb=>⟨by have:=HBq.out.size;have:=HO.out.below.size;omega,hb.2,fun e=>by have:=HO.out.own.lt_of e;have:=HBq.out.size;omega⟩) (by rw [← HN.out];exact hown5) hgrow5 hat5);clear hown5 hgrow5 hat5))
        have hst:gathA (l'.take (k+1))=gathA (l'.take k) ++ [⟨ct,cr,cn⟩]:=by
         rw [gathA_succ hlk,HSP.out,stepM_new (by rw [← HCC.out,← HQ.out];exact hq0),← HCC.out]
        refine ⟨⟨k+1,ys ++ [(⟨ct,cr,cn⟩,.slice a3 cr.length c3)],blk5,by go_num,by omega,?_,?_⟩,by simp [intOf];omega⟩
        · rw [hst];exact HO5.out
        · rw [hst];exact bnd_push HBD.out hnb
  · have hkl:k=l.length:=by omega
    have HF:=Lib.hid (f57_any wr (.slice a ys.length cp) ys blk _ HO.out.own (by
     have h1:=gathA_len (l'.take k)
     rw [← HO.out.is,List.length_map,List.length_take] at h1
     omega) HO.out.rows (fun g e hg=>hg.2.2 e))
    go_wp2_with (go_at_call 57;refine HF.out.mono ?_;rintro e w9 ⟨⟨v9,rfl,hc9⟩,hg9⟩)
    go_ret
    refine ⟨⟨_,l',rfl,HP.out,HS.out,?_⟩,?_⟩
    · rw [HO.out.is,hkl,← HLN.out,List.take_length] at hc9
      exact hc9.mono fun b hb=>by
       have hs1:=HB2.out.size
       rcases hb with hb | hb
       · omega
       · have:=HO.out.new b hb;omega
    · exact ((HB2.out.trans (HO.out.below.mono HB2.out.size)).grown hg9 (by have:=HB2.out.size;have:=HO.out.below.size;omega) (fun g e=>by have:=HO.out.new g e;have:=HB2.out.size;omega))
end leaves
end Go.Proofs.YtjhknhgkjfabaaaGreatDoor
