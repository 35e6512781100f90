/-
 The well restored, part 15: the law WellRestores. If its arguments lie in the world as the words say.
-/
import Derived.Test.YtimahogkcmmcnaaGreatDoorL35
import Derived.Test.YtimahogkcmmcnaaGreatDoorL36
import Derived.Test.YtimahogkcmmcnaaGreatDoorL38
set_option linter.unusedSimpArgs false
set_option linter.unusedVariables false
namespace Go.Proofs.YtimahogkcmmcnaaGreatDoor
open Go.RowKit Go.Proofs.YtimahogkcmmcnaaGreatDoor.Cmps
theorem restE_zero {s:List Col} {m:WlM} {o:Int} {l:List GivM} (h:restE s m o l=0):(∀ g ∈ l,splitB s g.name g.evs=true)∧sumG l l.length≤400:=by
 unfold restE at h
 split at h
 · cases h
 · rename_i h1
   split at h
   · rename_i h2;exact absurd h h2
   · split at h
     · cases h
     · split at h
       · cases h
       · have h5:l.all (fun g=>splitB s g.name g.evs)=true:=by simpa using h1
         exact ⟨fun g hg=>List.all_eq_true.1 h5 g hg,by omega⟩
def Len40 (l:List Evt) (e:Ending):Prop:=∃ b,e=.returned (.bool b)∧(b=false→l.length≤40)
section leaves
set_option maxHeartbeats 400000
set_option maxRecDepth 10000
theorem f25_len (w:World) (D:Nat→Prop) (v:Value) (l:List Evt) (h:EvtsAt w D v l) (hz:∀ x ∈ l,∀ y ∈ x.r,y.s.size≤9223372036854775807) :
 Calls Tryz.prog 25 #[v] w fun e w'=>Len40 l e∧w=w':=by
 have H:=Lib.hid h
 obtain ⟨a,cap,rfl,hl,-⟩:=h
 go_enter Tryz.func25,Tryz.ntmps25
 go_wp2_with fail
 go_loopw [3,4] (fun i _ wr=>∃ k:Nat,k≤l.length∧i=.int .i64 k∧w=wr) (fun i _ _=>l.length - (intOf i).toNat)
 case atStart=>exact ⟨0,by omega,rfl,rfl⟩
 case round =>
  obtain ⟨k,hk,rfl,rfl⟩:=hrel
  by_cases hlt:k<l.length
  · obtain ⟨g,o,r1,r2,rfl,hg,x0,x1,xr,xl⟩:=H.out.at hlt
    have hy:=hz _ (List.getElem_mem hlt)
    by_cases h20:(20:Int)<(l[k].r.length:Int)
    · go_wp2_with fail
      go_ret
      exact ⟨⟨_,rfl,fun h=>by cases h⟩,rfl⟩
    · go_wp2_with fail
      go_loopw [4] (fun i wr=>∃ j:Nat,j≤l[k].r.length∧i=.int .i64 j∧w=wr) (fun i _=>l[k].r.length - (intOf i).toNat)
      case atStart=>exact ⟨0,by omega,rfl,rfl⟩
      case round =>
       obtain ⟨j,hj,rfl,rfl⟩:=hrel
       by_cases hlj:j<l[k].r.length
       · obtain ⟨a',cap',hv,-,hx⟩:=xr
         injection hv with hv _ _
         subst hv
         obtain ⟨b,off,rfl,hD,hc⟩:=hx.resolve_left (fun e=>by rw [e] at hlj;simp at hlj)
         obtain ⟨c0,c1,c2⟩:=hc j hlj
         have hs:=hy _ (List.getElem_mem hlj)
         clear hc
         go_wp2_with fail
         · go_ret
           exact ⟨⟨_,rfl,fun h=>by cases h⟩,rfl⟩
         · go_roundw
           case rel=>exact ⟨j+1,by omega,by go_num,trivial⟩
           case measure=>simp [intOf];omega
       · go_wp2_with fail
         go_roundw
         case rel=>exact ⟨k+1,by omega,by go_num,trivial⟩
         case measure=>simp [intOf];omega
  · go_wp2_with fail
    go_ret
    exact ⟨⟨_,rfl,fun h=>by simp at h;omega⟩,rfl⟩
end leaves
section leaves
set_option maxHeartbeats 40000000
set_option maxRecDepth 100000
theorem f6_any (hm:Tryz.prog.follows .mixedOrders=true) (w:World) (hT:Tabs w) (D:Nat→Prop) (v l1 l2 mv:Value) (s:List Col) (b r o t:Int) (bl fl:List ActM) (ml:List Evt) (hs:SchemaAt w D v s) (hl1:ActsAt w D l1 bl) (hl2:ActsAt w D l2 fl) (hml:EvtsAt w D mv ml) (hsm:EvsSmall ml) (htm:t≤9223372036854775807) :
 Calls Tryz.prog 6 #[v,.int .i64 b,.int .i64 r,.int .i64 o,l1,l2,.int .i64 t,mv] w fun e w'=>e=.returned (.bool true)∧Below w.heap.size w w':=by
 have mixed:=hm
 obtain ⟨vsa,vsc,rfl⟩:∃ a c,v=.slice a s.length c:=by obtain ⟨a,c,e,_⟩:=hs;exact ⟨a,c,e⟩
 obtain ⟨la,lac,rfl⟩:∃ a c,l1=.slice a bl.length c:=by obtain ⟨a,c,e,_⟩:=hl1;exact ⟨a,c,e⟩
 obtain ⟨lb,lbc,rfl⟩:∃ a c,l2=.slice a fl.length c:=by obtain ⟨a,c,e,_⟩:=hl2;exact ⟨a,c,e⟩
 obtain ⟨mva,mvc,rfl⟩:∃ a c,mv=.slice a ml.length c:=by obtain ⟨a,c,e,_⟩:=hml;exact ⟨a,c,e⟩
 have hll1:bl.length≤9223372036854775807:=by obtain ⟨_,_,_,h,_⟩:=hl1;exact h
 have hll2:fl.length≤9223372036854775807:=by obtain ⟨_,_,_,h,_⟩:=hl2;exact h
 have HS:Hid (∀ W,Below w.heap.size w W→SchemaAt W (fun b=>b<w.heap.size) (.slice vsa s.length vsc) s):=fun W hb=>hs.keepC fun b _ hlt=>⟨hb.block b hlt,hlt⟩
 have HL:Hid (∀ W,Below w.heap.size w W→ActsAt W (fun b=>b<w.heap.size) (.slice la bl.length lac) bl):=fun W hb=>hl1.keepC fun b _ hlt=>⟨hb.block b hlt,hlt⟩
 have HL2:Hid (∀ W,Below w.heap.size w W→ActsAt W (fun b=>b<w.heap.size) (.slice lb fl.length lbc) fl):=fun W hb=>hl2.keepC fun b _ hlt=>⟨hb.block b hlt,hlt⟩
 have HML:Hid (∀ W,Below w.heap.size w W→EvtsAt W (fun b=>b<w.heap.size) (.slice mva ml.length mvc) ml):=fun W hb=>(hml.imp fun b hb _=>hb).below hb
 have HT:Hid (∀ W,Below w.heap.size w W→Tabs W):=fun W hb=>hT.below hb
 have HSML:=Lib.hid hsm
 have H13:=Lib.hid (f13_any hm w)
 have HMX:=Lib.hid hm
 clear hs hl1 hl2 hml hm hT hsm
 go_enter Tryz.func6,Tryz.ntmps6
 go_wp2_with (first
  | (go_at_call 13;(with_reducible refine H13.out.mono ?_);rintro e w1 ⟨rfl,hb⟩;have HB1:=Lib.hid hb;have H14:=Lib.hid (f14_any w1 _ _ s (HS.out _ HB1.out));have H15:=Lib.hid (f15_any w1 _ _ bl (HL.out _ HB1.out));have H15B:=Lib.hid (f15_any w1 _ _ fl (HL2.out _ HB1.out));have H25:=Lib.hid (f25_len w1 _ _ ml (HML.out _ HB1.out) HSML.out);clear hb)
  | (go_at_call 14;(with_reducible refine H14.out.mono ?_);rintro e w2 ⟨hb,rfl⟩;obtain ⟨b14,rfl⟩:=hb.out;clear hb)
  | (go_at_call 15;(with_reducible refine H15.out.mono ?_);rintro e w2 ⟨hb,rfl⟩;obtain ⟨b15,rfl⟩:=hb.out;clear hb)
  | (go_at_call 15;(with_reducible refine H15B.out.mono ?_);rintro e w2 ⟨hb,rfl⟩;obtain ⟨b15b,rfl⟩:=hb.out;clear hb)
  | (go_at_call 25;(with_reducible refine H25.out.mono ?_);rintro e w2 ⟨⟨b25,rfl,h25⟩,rfl⟩;have HM40:=Lib.hid h25;clear h25))
 iterate 5 (
  · go_ret
    exact ⟨rfl,HB1.out⟩)
 have hm40:ml.length≤40:=HM40.out (by have h:¬ b25=true:=(by assumption);simpa using h)
 have ht0:(0:Int)≤t:=by assumption
 obtain ⟨tn,rfl⟩:∃ tn:Nat,t=tn:=⟨t.toNat,by omega⟩
 have H16:=Lib.hid (f16_any HMX.out w1 _ (.slice vsa s.length vsc) s b r (HS.out _ HB1.out))
 have H17:Hid (∀ W,Below w.heap.size w W→Calls Tryz.prog 17 #[.slice vsa s.length vsc,.int .i64 b,.int .i64 r] W fun e w'=>Below W.heap.size W w'∧((newE s b r≠0∧e=.returned (.tuple #[.agg #[.slice none 0 0,.int .i64 0,.slice none 0 0,.slice none 0 0,.bool false,.slice none 0 0],.int .i64 (newE s b r)])) ∨
  (newE s b r=0∧∃ p',e=.returned (.tuple #[refV (newM b r.toNat) p',.int .i64 0])∧RefAt w' (Plus (fun b=>b<w.heap.size) W w') s (newM b r.toNat) p'))):=fun W hb=>f17_any HMX.out W _ (.slice vsa s.length vsc) s b r (HS.out _ hb)
 go_at_call 16
 refine H16.out.mono ?_
 rintro e w2 ⟨hb2,h⟩
 have HB2:=Lib.hid (HB1.out.trans (hb2.mono HB1.out.size))
 rcases h with ⟨hne,rfl⟩ | ⟨h0,col,ws,rfl,hwa,hcol⟩
 · obtain ⟨E,hE⟩:∃ v,newE s b r=v:=⟨_,rfl⟩
   have H17':=H17.out w2 HB2.out
   rw [hE] at hne H17' ⊢
   have H17E:=Lib.hid H17'
   have hne':(E != 0)=true:=by simpa using hne
   clear H17' hE hb2
   go_wp2_with fail
   go_at_call 17
   refine H17E.out.mono ?_
   rintro e w3 ⟨hb3,h⟩
   rcases h with ⟨_,rfl⟩ | ⟨h0,_⟩
   · have HB3:=Lib.hid (HB2.out.trans (hb3.mono HB2.out.size))
     clear hb3
     go_wp2_with fail
     all_goals (go_ret;exact ⟨rfl,HB3.out.alloc HB3.out.size _⟩)
   · exact absurd h0 hne
 · have H17':=H17.out w2 HB2.out
   obtain ⟨M0,hM0⟩:∃ v,newM b r.toNat=v:=⟨_,rfl⟩
   have hr1:1≤r∧r≤16∧0≤b∧b≤1000000000:=by
    unfold newE at h0
    split at h0
    · omega
    · split at h0 <;> omega
   have hg0:Good M0:=by
    rw [← hM0]
    exact ⟨newM_ok (by omega) (by omega) (by omega) (by omega),newM_row _ _⟩
   have HNM0:Hid (Names b M0):=Lib.hid (by rw [← hM0];exact newM_names _ _)
   have HRS0:Hid (Risen M0):=Lib.hid (by rw [← hM0];exact newM_risen _ _)
   have HN0:=Lib.hid h0
   have HR1:=Lib.hid hr1
   rw [h0,hM0] at H17'
   rw [hM0] at hwa
   have H17E:=Lib.hid H17'
   have HWA:=Lib.hid hwa;have HCOL:=Lib.hid hcol;have HG0:=Lib.hid hg0
   clear H17' H17 H16 hM0 hr1 hg0 h0 hwa hcol hb2
   go_wp2_with fail
   go_at_call 17
   refine H17E.out.mono ?_
   rintro e w3 ⟨hb3,h⟩
   rcases h with ⟨h0,_⟩ | ⟨_,p',rfl,hr3⟩
   · exact absurd rfl h0
   obtain ⟨sch0,⟨sa0,sc0⟩,⟨ma0,mc0⟩,back0⟩:=p'
   obtain ⟨sha0,shc0,rfl⟩:∃ a c,sch0=.slice a s.length c:=by obtain ⟨a,c,e,_⟩:=hr3.sch;exact ⟨a,c,e⟩
   obtain ⟨ba0,bc0,rfl⟩:∃ a c,back0=.slice a M0.late.length c:=by obtain ⟨a,c,e,_⟩:=hr3.back;exact ⟨a,c,e⟩
   have HR3:=Lib.hid hr3
   have HB23:=Lib.hid hb3
   have HB3:=Lib.hid (HB2.out.trans (hb3.mono HB2.out.size))
   clear hb3 hr3
   go_wp2_with fail
   have hz23:=HB23.out.size
   have hz2:=HB2.out.size
   have X11:Hid ((w3.alloc (.cells #[.slice sha0 s.length shc0,.int .i64 M0.bound,.slice sa0 M0.splits.length sc0,.slice ma0 M0.marks.length mc0,.bool M0.sealed,.slice ba0 M0.late.length bc0] 45)).heap[w3.heap.size]? = some (.cells #[.slice sha0 s.length shc0,.int .i64 M0.bound,.slice sa0 M0.splits.length sc0,.slice ma0 M0.marks.length mc0,.bool M0.sealed,.slice ba0 M0.late.length bc0] 45 (0,0))):=heap_alloc_new w3 _
   have B4:Hid (Below w3.heap.size w3 (w3.alloc (.cells #[.slice sha0 s.length shc0,.int .i64 M0.bound,.slice sa0 M0.splits.length sc0,.slice ma0 M0.marks.length mc0,.bool M0.sealed,.slice ba0 M0.late.length bc0] 45))):=(Below.refl _ _).alloc (Nat.le_refl _) _
   have Z4:Hid ((w3.alloc (.cells #[.slice sha0 s.length shc0,.int .i64 M0.bound,.slice sa0 M0.splits.length sc0,.slice ma0 M0.marks.length mc0,.bool M0.sealed,.slice ba0 M0.late.length bc0] 45)).heap.size=w3.heap.size+1):=by show _=_;simp
   generalize w3.alloc (.cells #[.slice sha0 s.length shc0,.int .i64 M0.bound,.slice sa0 M0.splits.length sc0,.slice ma0 M0.marks.length mc0,.bool M0.sealed,.slice ba0 M0.late.length bc0] 45)=w4 at X11 B4 Z4 ⊢
   have hz4:=Z4.out
   have B24:Hid (Below w2.heap.size w2 w4):=HB23.out.trans (B4.out.mono hz23)
   have hc0:∀ x,w2.heap.size≤x→col x=0:=fun x hx=>by
    by_cases e:col x=0
    · exact e
    · have:=HWA.out.c0 x e;omega
   have hB1z:=HB1.out.size
   have HBO:Hid (Both (fun _=>False) w w4 w3.heap.size ws.W s col ws M0 ⟨.slice sha0 s.length shc0,(sa0,sc0),(ma0,mc0),.slice ba0 M0.late.length bc0⟩ #[.slice sha0 s.length shc0,.int .i64 M0.bound,.slice sa0 M0.splits.length sc0,.slice ma0 M0.marks.length mc0,.bool M0.sealed,.slice ba0 M0.late.length bc0]):=by
    refine ⟨rfl,HWA.out.below B24.out,(HR3.out.below B4.out).mono fun x hx=>?_,HG0.out,X11.out,mute45v X11.out,HB2.out.trans (B24.out.mono hz2),fun x hx=>HCOL.out x (by omega),hc0 _ hz23,by omega,fun x hx=>hx.elim⟩
    rcases hx with hx | hx
    · exact ⟨⟨by omega,HCOL.out x (by omega)⟩,by omega,id⟩
    · exact ⟨⟨by omega,hc0 x hx.1⟩,by omega,id⟩
   generalize ws.W=WW at HBO ⊢
   generalize w3.heap.size=gs at HBO ⊢
   clear hc0 hB1z hz23 hz2 hz4 X11 B4 Z4 B24 HB23 HR3 HWA HCOL HG0
   go_loopw [21] (fun i wr=>∃ (k:Nat) (col:Nat→Nat) (ws':WS) (m:WlM) (sha sa ma ba:Option Addr) (shc sc mc bc:Nat),k≤bl.length∧i=.int .i64 k∧Hid (Both (fun _=>False) w wr gs WW s col ws' m ⟨.slice sha s.length shc,(sa,sc),(ma,mc),.slice ba m.late.length bc⟩ #[.slice sha s.length shc,.int .i64 m.bound,.slice sa m.splits.length sc,.slice ma m.marks.length mc,.bool m.sealed,.slice ba m.late.length bc])∧Hid (Names b m)∧Hid (Risen m)) (fun i _=>bl.length - (intOf i).toNat)
   case atStart=>exact ⟨0,col,ws,M0,sha0,sa0,ma0,ba0,shc0,sc0,mc0,bc0,by omega,rfl,HBO,HNM0,HRS0⟩
   obtain ⟨k,col,ws',m,sha,sa,ma,ba,shc,sc,mc,bc,hk,rfl,HO,HNM,HRS⟩:=hrel
   by_cases hlt:k<bl.length
   · have hacts:=HL.out _ HO.out.below
     obtain ⟨ab,ao,e1,e2,rfl,hab,he,hsm,hnm,c0,c1,c2,c3⟩:=hacts.atD hlt
     obtain ⟨x,hx⟩:∃ v,bl[k]=v:=⟨_,rfl⟩
     rw [hx] at he hnm c0 c1 c2 c3
     have hkl:(k:Int)<(bl.length:Int):=by omega
     have hk0:(0:Int)≤(k:Int):=by omega
     have HCL:Hid (∀ W,Below w.heap.size w W→W.cell? ⟨ab,ao+k * 4,none⟩=some (.int .u8 x.kind)∧W.cell? ⟨ab,ao+k * 4+1,none⟩=some (.int .i64 x.reader)∧W.cell? ⟨ab,ao+k * 4+2,none⟩=some (.string x.name)∧W.cell? ⟨ab,ao+k * 4+3,none⟩=some (.slice e1 x.evs.length e2)):=fun W hb=>by
      have hwr:=HO.out.below
      have kc:∀ {o v},wr.cell? ⟨ab,o,none⟩=some v→W.cell? ⟨ab,o,none⟩=some v:=fun {o v} h=>by
       rw [cell_keep (hb.block ab hab),← cell_keep (hwr.block ab hab)]
       exact h
      exact ⟨kc c0,kc c1,kc c2,kc c3⟩
     have hNM2:=Lib.hid (HNM.out.act (s:=s) HO.out.good.ok x)
     have hRS2:=Lib.hid (HRS.out.act (s:=s) HO.out.good.ok x)
     clear hsm hacts hx c0 c1 c2 c3
     go_wp2_with fail
     have HD:=Lib.hid (HO.out.to (Below.refl _ _).drew)
     have HCALL:=Lib.hid (both_19 HMX.out HD.out x (.slice e1 x.evs.length e2) (he.below (Below.refl _ _).drew) hnm)
     have hC:Below w.heap.size w wr.drew:=HD.out.below
     clear he
     generalize actR s m x=m' at HCALL hNM2 hRS2
     refine wp_region_ord [0,2,3,4,5,1,6,7,8,9,10] (fun W=>Below w.heap.size w W) mixed (by kernel_rfl) (fun hg=>?_)
     generalize wr.drew=wd at HD HCALL hC ⊢
     (refine ord_rd hg hC (fun K hK=>?_);apply Exists.intro;refine ⟨fun W hW=>?_,?_⟩;(· go_simp;first | rfl | (rw [if_neg (by omega)];done));go_simp;refine hK _ ?_;clear hK K)
     (refine ord_rd hg hC (fun K hK=>?_);apply Exists.intro;refine ⟨fun W hW=>?_,?_⟩;(· go_simp;first | rfl | (rw [if_neg (by omega)];done));go_simp;refine hK _ ?_;clear hK K)
     (refine ord_rd hg hC (fun K hK=>?_);apply Exists.intro;refine ⟨fun W hW=>?_,?_⟩;(· go_simp;first | rfl | (rw [if_neg (by omega)];done));go_simp;refine hK _ ?_;clear hK K)
     (refine ord_rd hg hC (fun K hK=>?_);apply Exists.intro;refine ⟨fun W hW=>?_,?_⟩;(· go_simp;first | rfl | (rw [if_neg (by omega)];done));go_simp;refine hK _ ?_;clear hK K)
     (refine ord_rd hg hC (fun K hK=>?_);apply Exists.intro;refine ⟨fun W hW=>?_,?_⟩;(· obtain ⟨u0,u1,u2,u3⟩:=HCL.out W hW;go_simp;first | rfl | (rw [if_neg (by omega)];done));go_simp;refine hK _ ?_;clear hK K)
     refine ord_on (fun K hK=>?_)
     obtain ⟨z0,z1,z2,z3,z4,z5,zf⟩:=box45_cells HD.out.box
     go_simp
     refine hK _ _ rfl hC ?_
     clear hK K z0 z1 z2 z3 z4 z5 zf
     refine ord_on (fun K hK=>?_)
     go_simp
     go_at_call 19
     refine HCALL.out.mono ?_
     rintro e w5 ⟨p',col',ws5,rfl,ho5,-,-⟩
     obtain ⟨sha',sa',ma',ba',shc',sc',mc',bc',rfl⟩:=ho5.form
     have HO5:=Lib.hid ho5
     have HO6:=Lib.hid (ho5.fill (a1:=sha') (n1:=s.length) (c1:=shc') (i:=m'.bound) (a2:=sa') (n2:=m'.splits.length) (c2:=sc') (a3:=ma') (n3:=m'.marks.length) (c3:=mc') (q:=m'.sealed) (a4:=ba') (n4:=m'.late.length) (c4:=bc') ho5.box)
     refine hK _ _ rfl HO5.out.below ?_
     have hC:=HO5.out.below
     clear hK K ho5 HCALL
     iterate 3 (refine ord_rd hg hC (fun K hK=>?_);apply Exists.intro;refine ⟨fun W hW=>?_,?_⟩;(· go_simp;first | rfl | (rw [if_neg (by omega)];done));go_simp;refine hK _ ?_;clear hK K)
     refine ord_on (fun K hK=>?_)
     obtain ⟨z0,z1,z2,z3,z4,z5,zf⟩:=box45_cells HO5.out.box
     go_simp
     refine hK _ _ rfl HO6.out.below ?_
     clear hK K z0 z1 z2 z3 z4 z5 zf hC
     refine ord_end (by kernel_rfl) ?_
     unfold fill45 at HO6
     generalize (((((w5.setCell ⟨gs,0,none⟩ (.slice sha' s.length shc')).setCell ⟨gs,1,none⟩ (.int .i64 m'.bound)).setCell ⟨gs,2,none⟩ (.slice sa' m'.splits.length sc')).setCell ⟨gs,3,none⟩ (.slice ma' m'.marks.length mc')).setCell ⟨gs,4,none⟩ (.bool m'.sealed)).setCell ⟨gs,5,none⟩ (.slice ba' m'.late.length bc')=w6 at HO6 ⊢
     go_wp2_with fail
     go_roundw
     case rel=>exact ⟨k+1,col',ws5,m',sha',sa',ma',ba',shc',sc',mc',bc',by omega,by go_num,HO6,hNM2,hRS2⟩
     case measure=>simp [intOf];omega
   · have hkn:k=bl.length:=by omega
     subst hkn
     have hx0:¬ (bl.length:Int)<(bl.length:Int):=by omega
     have hok:=HO.out.good.ok
     obtain ⟨z0,z1,z2,z3,z4,z5,zf⟩:=box45_cells HO.out.box
     have hbd:=HNM.out.bd
     subst hbd
     have hzw:=HO.out.below.size
     have hog:=HO.out.og
     have hel:∀ x ∈ m.splits,x.evs.length≤400:=fun x hx=>by
      obtain ⟨i,hi,rfl⟩:=List.mem_iff_getElem.1 hx
      have h1:=allN_take hi
      have h2:=allN_le m.splits (i+1)
      have h3:=hok.all
      omega
     have hD0:∀ y,y<w.heap.size→Calm wr col y∧y≠gs∧¬ (fun _=>False) y:=fun y hy=>⟨⟨by omega,HO.out.c0 y hy⟩,by omega,id⟩
     have h26:=f26_any HMX.out wr (fun x=>Calm wr col x∧x≠gs∧¬ (fun _=>False) x) s m _ tn (.slice mva ml.length mvc) ml HO.out.ref (by omega) hok.splits hel ((HML.out wr HO.out.below).mono fun y hy=>hD0 y hy) (by omega)
     simp only [refV] at h26
     have H26:=Lib.hid h26
     have HOK:=Lib.hid hok
     have hgl:(givL m tn ml).length=m.splits.length:=givL_len
     have HGL:=Lib.hid hgl
     have hrd:∀ x ∈ m.splits,x.read≤(gOf (givL m tn ml) x.name).evs.length:=fun x hx=>Nat.le_trans (hok.read x hx) (giv_long HNM.out.uniq x hx)
     have hnz:∀ x ∈ givL m tn ml,x.name.size≤16:=fun x hx=>by
      obtain ⟨k,hk,e⟩:=giv_pern x hx
      rw [← e]
      exact hok.name _ (List.getElem_mem hk)
     have hsu:sumG (givL m tn ml) (givL m tn ml).length≤1000:=by
      have h1:=giv_sum (t:=tn) (ml:=ml) HNM.out.uniq
      have h2:=hok.all
      omega
     have H27:Hid (∀ W lv ev,Below w.heap.size w W→GivsAt W (fun b=>b<W.heap.size) lv (givL m tn ml) ev→∀ o,_):=fun W lv ev hb hgv o =>
      f27_any (givF m tn ml) HMX.out W (HT.out W hb) (fun b=>b<W.heap.size) s vsa vsc ((HS.out W hb).mono fun b hb2=>Nat.lt_of_lt_of_le hb2 hb.size) m HOK.out o lv (givL m tn ml) ev hgv (givL_uniq HNM.out.uniq) givL_len hnz hsu HNM.out.name HNM.out.uniq HNM.out.mark giv_perm hrd (givL_gives HNM.out.uniq) (giv_long HNM.out.uniq) HRS.out
     have hvs:validSchema s=true:=by
      have h:=HN0.out
      unfold newE at h
      split at h
      · cases h
      · rename_i h2;simpa using h2
     have H29:Hid (∀ W (DD:Nat→Prop) lv ev,RefAt W DD s m ⟨.slice sha s.length shc,(sa,sc),(ma,mc),.slice ba m.late.length bc⟩→GivsAt W DD lv (givL m tn ml) ev→∀ o,_):=fun W DD lv ev hr hgv o =>
      f29_any (givF m tn ml) HMX.out W DD s m ⟨.slice sha s.length shc,(sa,sc),(ma,mc),.slice ba m.late.length bc⟩ o lv (givL m tn ml) ev hr HOK.out hvs hgv (givL_uniq HNM.out.uniq) givL_len hnz hsu HNM.out.uniq (givL_gives HNM.out.uniq) giv_perm giv_pern hrd
     simp only [refV] at H29
     have HD0:=Lib.hid hD0
     clear h26 hok hel hnz hsu hvs hD0
     go_wp2_with (first
      | (go_at_call 26;(with_reducible refine H26.out.mono ?_);rintro e w20 ⟨lv,ev,rfl,hgv,hb20⟩
         obtain ⟨ga,gc,rfl⟩:∃ a c,lv=.slice a m.splits.length c:=by obtain ⟨a,c,e,_⟩:=hgv;rw [HGL.out] at e;exact ⟨a,c,e⟩
         have HO20:=Lib.hid (HO.out.to hb20)
         have h28:=f28_any HMX.out w20 (HT.out _ HO20.out.below) col s ws' m HO20.out.wat HOK.out
         rw [HO20.out.hW] at h28
         have H28:=Lib.hid h28
         have HGV:=Lib.hid hgv;have HB20:=Lib.hid hb20
         clear h28 hgv hb20)
      | (go_at_call 28;(with_reducible refine H28.out.mono ?_);rintro e w21 ⟨rfl,hb21⟩;have HO21:=Lib.hid (HO20.out.to hb21);have HB21:=Lib.hid hb21;clear hb21))
     have hgv21:GivsAt w21 (fun b=>b<w21.heap.size) (.slice ga m.splits.length gc) (givL m tn ml) ev:=by
      have h:=HGV.out.below HB21.out
      obtain ⟨a,c,e,h⟩:=h
      have hz20:=HB20.out.size
      have hz21:=HB21.out.size
      have hd:∀ y,((Calm wr col y∧y≠gs∧¬ (fun _=>False) y)∨(wr.heap.size≤y∧y<w20.heap.size))→y<w21.heap.size:=fun y hy=>by
       rcases hy with hy | hy
       · have:=hy.1.1;omega
       · omega
      refine ⟨a,c,e,h.imp id ?_⟩
      rintro ⟨b',off,e1,e2,h⟩
      exact ⟨b',off,e1,hd b' e2,fun i hi=>⟨(h i hi).1.mono hd,(h i hi).2⟩⟩
     have HG21:=Lib.hid hgv21
     have h27:=H27.out w21 _ ev HO21.out.below hgv21 o
     clear hgv21 z0 z1 z2 z3 z4 z5 zf
     go_at_call 27
     refine h27.mono ?_
     clear h27
     rintro e w22 ⟨hb22,h⟩
     have HO22:=Lib.hid (HO21.out.to hb22)
     have HB22:=Lib.hid hb22
     have hr22:RefAt w22 (fun y=>y<w21.heap.size) s m ⟨.slice sha s.length shc,(sa,sc),(ma,mc),.slice ba m.late.length bc⟩:=(HO21.out.ref.imp (D':=fun y=>y<w21.heap.size) fun y hy _=>hy).below hb22
     have hg22:=HG21.out.below hb22
     have h29:=Lib.hid (H29.out w22 (fun y=>y<w21.heap.size) _ ev hr22 hg22 o)
     clear hr22 hg22 hb22
     obtain ⟨z0,z1,z2,z3,z4,z5,zf⟩:=box45_cells HO22.out.box
     rcases h with ⟨hne,rfl⟩ | ⟨hz,no,rfl,hn1,hn2,col2,ws2,rfl,hwa2,hcol2⟩
     · obtain ⟨E,hE⟩:∃ v,restE s m o (givL m tn ml)=v:=⟨_,rfl⟩
       rw [hE] at hne h29 ⊢
       have hne':(E != 0)=true:=by simpa using hne
       clear hE
       go_wp2_with fail
       go_at_call 29
       refine h29.out.mono ?_
       rintro e w23 ⟨hb23,h⟩
       rcases h with ⟨_,rfl⟩ | ⟨h0,_⟩
       · have HB23:=Lib.hid (HO22.out.below.trans (hb23.mono HO22.out.below.size))
         clear hb23
         go_wp2_with fail
         all_goals (go_ret;exact ⟨rfl,HB23.out.alloc HB23.out.size _⟩)
       · exact absurd h0 hne
     · obtain ⟨hsp,hs4⟩:=restE_zero hz
       have hg2:Good (restM m no (givL m tn ml)):=by
        refine ⟨restM_ok HOK.out hn1 hn2 (givL_gives HNM.out.uniq) HNM.out.uniq hs4 hrd (fun g hg=>(right_facts (split_facts (hsp g hg)).2).2.1),⟨fun x hx y hy=>?_,(fun y hy=>by cases hy),Nat.zero_le _⟩⟩
        obtain ⟨ow,z,hz1,rfl⟩:=resK_mem (Nat.le_refl _) hx
        have hy2:y ∈ (gOf (givL m tn ml) z.name).evs:=hy
        rw [(givL_gives HNM.out.uniq).gOf HNM.out.uniq hz1] at hy2
        exact (right_facts (split_facts (hsp _ ((givL_gives HNM.out.uniq).mem hz1))).2).2.2 y hy2
       have HG2:=Lib.hid hg2
       obtain ⟨M2,hM2⟩:∃ M,restM m no (givL m tn ml)=M:=⟨_,rfl⟩
       rw [hM2] at HG2 hwa2
       have HWA2:=Lib.hid hwa2;have HCO2:=Lib.hid hcol2
       clear hsp hs4 hg2 hwa2 hcol2
       go_wp2_with fail
       go_at_call 29
       refine h29.out.mono ?_
       rintro e w23 ⟨hb23,h⟩
       rcases h with ⟨h0,_⟩ | ⟨-,no2,hno2,p2,rfl,hr23⟩
       · exact absurd hz h0
       obtain rfl:no2=no:=by omega
       rw [hM2] at hr23 ⊢
       have HB23:=Lib.hid hb23
       obtain ⟨sch2,⟨sa2,sc2⟩,⟨ma2,mc2⟩,back2⟩:=p2
       obtain ⟨sha2,shc2,rfl⟩:∃ a c,sch2=.slice a s.length c:=by obtain ⟨a,c,e,_⟩:=hr23.sch;exact ⟨a,c,e⟩
       obtain ⟨ba2,bc2,rfl⟩:∃ a c,back2=.slice a M2.late.length c:=by obtain ⟨a,c,e,_⟩:=hr23.back;exact ⟨a,c,e⟩
       have HR23:=Lib.hid hr23
       clear hb23 hr23 hM2 hno2 hz
       go_wp2_with fail
       have X24:Hid ((w23.alloc (.cells #[.slice sha2 s.length shc2,.int .i64 M2.bound,.slice sa2 M2.splits.length sc2,.slice ma2 M2.marks.length mc2,.bool M2.sealed,.slice ba2 M2.late.length bc2] 45)).heap[w23.heap.size]? = some (.cells #[.slice sha2 s.length shc2,.int .i64 M2.bound,.slice sa2 M2.splits.length sc2,.slice ma2 M2.marks.length mc2,.bool M2.sealed,.slice ba2 M2.late.length bc2] 45 (0,0))):=heap_alloc_new _ _
       have B24:Hid (Below w23.heap.size w23 (w23.alloc (.cells #[.slice sha2 s.length shc2,.int .i64 M2.bound,.slice sa2 M2.splits.length sc2,.slice ma2 M2.marks.length mc2,.bool M2.sealed,.slice ba2 M2.late.length bc2] 45))):=(Below.refl _ _).alloc (Nat.le_refl _) _
       generalize w23.alloc (.cells #[.slice sha2 s.length shc2,.int .i64 M2.bound,.slice sa2 M2.splits.length sc2,.slice ma2 M2.marks.length mc2,.bool M2.sealed,.slice ba2 M2.late.length bc2] 45)=w24 at X24 B24 ⊢
       have hz22:=HB22.out.size
       have hz23:=HB23.out.size
       have hz24:=B24.out.size
       have hzw2:=HO21.out.below.size
       have hx24:=heap_lt X24.out
       have hc20:∀ x,w22.heap.size≤x→col2 x=0:=fun x hx=>by
        by_cases e:col2 x=0
        · exact e
        · have:=HWA2.out.c0 x e;omega
       have HBO2:Hid (Both (fun _=>False) w w24 w23.heap.size ws2.W s col2 ws2 M2 ⟨.slice sha2 s.length shc2,(sa2,sc2),(ma2,mc2),.slice ba2 M2.late.length bc2⟩ #[.slice sha2 s.length shc2,.int .i64 M2.bound,.slice sa2 M2.splits.length sc2,.slice ma2 M2.marks.length mc2,.bool M2.sealed,.slice ba2 M2.late.length bc2]):=by
        refine ⟨rfl,HWA2.out.below (HB23.out.trans (B24.out.mono hz23)),((HR23.out.imp (D':=fun y=>y<w23.heap.size∧(y<w21.heap.size∨w22.heap.size≤y)) fun y h1 h2=>⟨h1,h2⟩).below B24.out).mono fun y hy=>⟨⟨by omega,?_⟩,by omega,id⟩,HG2.out,X24.out,mute45v X24.out,HO22.out.below.trans ((HB23.out.trans (B24.out.mono hz23)).mono HO22.out.below.size),fun y hy=>HCO2.out y (by omega),hc20 _ hz23,by omega,fun x hx=>hx.elim⟩
        rcases hy.2 with h | h
        · exact HCO2.out y h
        · exact hc20 y h
       have h24:=both_24 HMX.out HBO2.out
       generalize w23.heap.size=gs2 at HBO2 X24 ⊢
       go_at_call 24
       refine h24.mono ?_
       rintro e w25 ⟨rfl,hb25⟩
       have HBO3:=Lib.hid (HBO2.out.to hb25)
       clear h24 hb25 hc20 hz22 hz23 hz24 hzw2 hx24 X24 B24 HBO2 HR23 HWA2 HCO2 HG2 HB23 z0 z1 z2 z3 z4 z5 zf h29
       generalize ws2.W=WW2 at HBO3 ⊢
       go_wp2_with fail
       go_loopw [26] (fun i wr=>∃ (k:Nat) (col:Nat→Nat) (ws':WS) (m:WlM) (sha sa ma ba:Option Addr) (shc sc mc bc:Nat),k≤fl.length∧i=.int .i64 k∧Hid (Both (fun _=>False) w wr gs2 WW2 s col ws' m ⟨.slice sha s.length shc,(sa,sc),(ma,mc),.slice ba m.late.length bc⟩ #[.slice sha s.length shc,.int .i64 m.bound,.slice sa m.splits.length sc,.slice ma m.marks.length mc,.bool m.sealed,.slice ba m.late.length bc])) (fun i _=>fl.length - (intOf i).toNat)
       case atStart=>exact ⟨0,col2,ws2,M2,sha2,sa2,ma2,ba2,shc2,sc2,mc2,bc2,by omega,rfl,HBO3⟩
       obtain ⟨k,col3,ws3,m3,sha,sa,ma,ba,shc,sc,mc,bc,hk,rfl,HQ⟩:=hrel
       by_cases hlt:k<fl.length
       · have hacts:=HL2.out _ HQ.out.below
         obtain ⟨ab,ao,e1,e2,rfl,hab,he,hsm,hnm,c0,c1,c2,c3⟩:=hacts.atD hlt
         obtain ⟨x,hx⟩:∃ v,fl[k]=v:=⟨_,rfl⟩
         rw [hx] at he hnm c0 c1 c2 c3
         have hkl:(k:Int)<(fl.length:Int):=by omega
         have hk0:(0:Int)≤(k:Int):=by omega
         have HCL:Hid (∀ W,Below w.heap.size w W→W.cell? ⟨ab,ao+k * 4,none⟩=some (.int .u8 x.kind)∧W.cell? ⟨ab,ao+k * 4+1,none⟩=some (.int .i64 x.reader)∧W.cell? ⟨ab,ao+k * 4+2,none⟩=some (.string x.name)∧W.cell? ⟨ab,ao+k * 4+3,none⟩=some (.slice e1 x.evs.length e2)):=fun W hb=>by
          have hwr:=HQ.out.below
          have kc:∀ {o v},wr.cell? ⟨ab,o,none⟩=some v→W.cell? ⟨ab,o,none⟩=some v:=fun {o v} h=>by
           rw [cell_keep (hb.block ab hab),← cell_keep (hwr.block ab hab)]
           exact h
          exact ⟨kc c0,kc c1,kc c2,kc c3⟩
         have HEV:Hid (∀ W,Below w.heap.size w W→EvtsAt W (fun y=>y<w.heap.size) (.slice e1 x.evs.length e2) x.evs):=fun W hb=>by
          have hwr:=HQ.out.below
          exact he.keep fun y hy hl=>(hb.block y hy).trans (hwr.block y hy).symm
         clear hsm hacts hx c0 c1 c2 c3 he
         go_wp2_with fail
         have HD:=Lib.hid (HQ.out.to (Below.refl _ _).drew)
         have H19:Hid (∀ W,Both (fun _=>False) w W gs2 WW2 s col3 ws3 m3 ⟨.slice sha s.length shc,(sa,sc),(ma,mc),.slice ba m3.late.length bc⟩ #[.slice sha s.length shc,.int .i64 m3.bound,.slice sa m3.splits.length sc,.slice ma m3.marks.length mc,.bool m3.sealed,.slice ba m3.late.length bc]→_):=fun W hW=>both_19 HMX.out hW x (.slice e1 x.evs.length e2) (HEV.out W hW.below) hnm
         have H19V:Hid (∀ vb W,Both (fun x=>x=vb) w W gs2 WW2 s col3 ws3 m3 ⟨.slice sha s.length shc,(sa,sc),(ma,mc),.slice ba m3.late.length bc⟩ #[.slice sha s.length shc,.int .i64 m3.bound,.slice sa m3.splits.length sc,.slice ma m3.marks.length mc,.bool m3.sealed,.slice ba m3.late.length bc]→_):=fun vb W hW=>both_19 HMX.out hW x (.slice e1 x.evs.length e2) (HEV.out W hW.below) hnm
         have hC:Below w.heap.size w wr.drew∧wr.drew.heap[gs2]? = some (.cells #[.slice sha s.length shc,.int .i64 m3.bound,.slice sa m3.splits.length sc,.slice ma m3.marks.length mc,.bool m3.sealed,.slice ba m3.late.length bc] 45 (0,0)):=⟨HD.out.below,HD.out.box⟩
         generalize actR s m3 x=m' at H19 H19V
         refine wp_region_ord [0,1,2,3,4,5,6,7,8,9,10,11,12] (fun W=>Below w.heap.size w W∧W.heap[gs2]? = some (.cells #[.slice sha s.length shc,.int .i64 m3.bound,.slice sa m3.splits.length sc,.slice ma m3.marks.length mc,.bool m3.sealed,.slice ba m3.late.length bc] 45 (0,0))) mixed (by kernel_rfl) (fun hg=>?_)
         generalize wr.drew=wd at HD hC ⊢
         (refine ord_rd hg hC (fun K hK=>?_);apply Exists.intro;refine ⟨fun W hW=>?_,?_⟩;(· go_simp;first | rfl | (rw [if_neg (by omega)];done));go_simp;refine hK _ ?_;clear hK K)
         (refine ord_rd hg hC (fun K hK=>?_);apply Exists.intro;refine ⟨fun W hW=>?_,?_⟩;(· obtain ⟨q0,q1,q2,q3,q4,q5,qf⟩:=box45_cells hW.2;go_simp;first | rfl | (rw [if_neg (by omega)];done));go_simp;refine hK _ ?_;clear hK K)
         iterate 3 (refine ord_rd hg hC (fun K hK=>?_);apply Exists.intro;refine ⟨fun W hW=>?_,?_⟩;(· go_simp;first | rfl | (rw [if_neg (by omega)];done));go_simp;refine hK _ ?_;clear hK K)
         (refine ord_rd hg hC (fun K hK=>?_);apply Exists.intro;refine ⟨fun W hW=>?_,?_⟩;(· obtain ⟨u0,u1,u2,u3⟩:=HCL.out W hW.1;go_simp;first | rfl | (rw [if_neg (by omega)];done));go_simp;refine hK _ ?_;clear hK K)
         refine seq_two 6 10 (by kernel_rfl) rfl rfl (by first | rfl | (simp [Region.wanted,yielded];done)) (by first | rfl | (simp [Region.wanted,yielded];done)) (fun K hK=>?_) (fun K hK=>?_)
         · skip
           have hz0:wd.heap.size=wd.heap.size:=rfl
           go_simp
           go_at_call 19
           refine (H19.out wd HD.out).mono ?_
           rintro e w5 ⟨p',col',ws5,rfl,ho5,hce,hbk⟩
           obtain ⟨sha',sa',ma',ba',shc',sc',mc',bc',rfl⟩:=ho5.form
           refine hK _ _ rfl ⟨ho5.below,ho5.box⟩ ?_
           clear hK K hC
           have hC:=(⟨ho5.below,ho5.box⟩:Below w.heap.size w w5∧_)
           show wpOrd Tryz.prog _ _ _ [7,8,9,10,11,12] _ _ _
           iterate 3 (refine ord_rd hg hC (fun K hK=>?_);apply Exists.intro;refine ⟨fun W hW=>?_,?_⟩;(· go_simp;first | rfl | (rw [if_neg (by omega)];done));go_simp;refine hK _ ?_;clear hK K)
           refine ord_on (fun K hK=>?_)
           go_simp
           obtain ⟨ho6,hvc⟩:=ho5.var
           refine hK _ _ rfl ⟨ho6.below,ho6.box⟩ ?_
           clear hK K hC
           have hV:=heap_alloc_new w5 zeroO
           have hvg:w5.heap.size≠gs2:=by have:=heap_lt ho5.box;omega
           generalize w5.heap.size=vb at ho6 hvc hV hvg ⊢
           generalize w5.alloc zeroO=W6 at ho6 hV ⊢
           have HF:=Lib.hid (ho6.put hV hvg hvc (a1:=sha') (n1:=s.length) (c1:=shc') (i:=m'.bound) (a2:=sa') (n2:=m'.splits.length) (c2:=sc') (a3:=ma') (n3:=m'.marks.length) (c3:=mc') (q:=m'.sealed) (a4:=ba') (n4:=m'.late.length) (c4:=bc'))
           refine ord_on (fun K hK=>?_)
           have hzo:=hV
           obtain ⟨z0,z1,z2,z3,z4,z5,zf⟩:=box45_cells hzo
           go_simp
           refine hK _ _ rfl ⟨HF.out.1.below,HF.out.1.box⟩ ?_
           have hC:=(⟨HF.out.1.below,HF.out.1.box⟩:Below w.heap.size w _∧_)
           clear hK K z0 z1 z2 z3 z4 z5 zf hzo
           (refine ord_rd hg hC (fun K hK=>?_);apply Exists.intro;refine ⟨fun W hW=>?_,?_⟩;(· go_simp;first | rfl | (rw [if_neg (by omega)];done));go_simp;refine hK _ ?_;clear hK K)
           refine ord_end (by kernel_rfl) ?_
           unfold fill45 at HF
           generalize (((((W6.setCell ⟨vb,0,none⟩ (.slice sha' s.length shc')).setCell ⟨vb,1,none⟩ (.int .i64 m'.bound)).setCell ⟨vb,2,none⟩ (.slice sa' m'.splits.length sc')).setCell ⟨vb,3,none⟩ (.slice ma' m'.marks.length mc')).setCell ⟨vb,4,none⟩ (.bool m'.sealed)).setCell ⟨vb,5,none⟩ (.slice ba' m'.late.length bc')=w7 at HF ⊢
           obtain ⟨hf1,hf2⟩:=HF.out
           have h24:=both_24 HMX.out hf1
           simp only [refV,ptr] at h24
           have H24:=Lib.hid h24
           have HF1:=Lib.hid hf1;have HF2:=Lib.hid hf2
           clear h24 hf1 hC HF
           obtain ⟨x0,x1,x2,x3,x4,x5,xf⟩:=box45_cells hf2
           clear hf2
           go_wp2_with (go_at_call 24;(with_reducible refine H24.out.mono ?_);rintro e w8 ⟨rfl,hb8⟩
                        have hf8:=HF1.out.to hb8
                        have t3:=(hb8.block _ (heap_lt HF2.out)).trans HF2.out
                        clear x0 x1 x2 x3 x4 x5 xf
                        obtain ⟨x0,x1,x2,x3,x4,x5,xf⟩:=box45_cells t3
                        obtain ⟨y0,y1,y2,y3,y4,y5,yf⟩:=box45_cells hf8.box
                        have HF8:=Lib.hid hf8
                        clear t3 hb8 hf8)
           have HF9:=Lib.hid ((HF8.out.fill (a1:=sha') (n1:=s.length) (c1:=shc') (i:=m'.bound) (a2:=sa') (n2:=m'.splits.length) (c2:=sc') (a3:=ma') (n3:=m'.marks.length) (c3:=mc') (q:=m'.sealed) (a4:=ba') (n4:=m'.late.length) (c4:=bc') HF8.out.box).free)
           unfold fill45 at HF9
           go_roundw
           case rel=>exact ⟨k+1,col',ws5,m',sha',sa',ma',ba',shc',sc',mc',bc',by omega,by go_num,HF9⟩
           case measure=>simp [intOf];omega
         · skip
           go_simp
           obtain ⟨ho6a,hvca⟩:=HD.out.var
           refine hK _ _ rfl ⟨ho6a.below,ho6a.box⟩ ?_
           clear hK K
           have hVa:=heap_alloc_new wd zeroO
           have hvg:wd.heap.size≠gs2:=by have:=heap_lt HD.out.box;omega
           generalize wd.heap.size=vb at ho6a hvca hVa hvg ⊢
           generalize wd.alloc zeroO=wz at ho6a hVa ⊢
           show wpOrd Tryz.prog _ _ _ [6,7,8,9,11,12] _ _ _
           refine ord_on (fun K hK=>?_)
           go_simp
           go_at_call 19
           refine (H19V.out vb wz ho6a).mono ?_
           rintro e W6 ⟨p',col',ws5,rfl,ho6,hce,hbk⟩
           obtain ⟨sha',sa',ma',ba',shc',sc',mc',bc',rfl⟩:=ho6.form
           refine hK _ _ rfl ⟨ho6.below,ho6.box⟩ ?_
           clear hK K hC
           have hC:=(⟨ho6.below,ho6.box⟩:Below w.heap.size w W6∧_)
           have hvc:=(hce vb (heap_lt hVa)).trans hvca
           have hV:=(hbk vb (heap_lt hVa) hvca).trans hVa
           iterate 3 (refine ord_rd hg hC (fun K hK=>?_);apply Exists.intro;refine ⟨fun W hW=>?_,?_⟩;(· go_simp;first | rfl | (rw [if_neg (by omega)];done));go_simp;refine hK _ ?_;clear hK K)
           have HF:=Lib.hid (ho6.put hV hvg hvc (a1:=sha') (n1:=s.length) (c1:=shc') (i:=m'.bound) (a2:=sa') (n2:=m'.splits.length) (c2:=sc') (a3:=ma') (n3:=m'.marks.length) (c3:=mc') (q:=m'.sealed) (a4:=ba') (n4:=m'.late.length) (c4:=bc'))
           refine ord_on (fun K hK=>?_)
           have hzo:=hV
           obtain ⟨z0,z1,z2,z3,z4,z5,zf⟩:=box45_cells hzo
           go_simp
           refine hK _ _ rfl ⟨HF.out.1.below,HF.out.1.box⟩ ?_
           have hC:=(⟨HF.out.1.below,HF.out.1.box⟩:Below w.heap.size w _∧_)
           clear hK K z0 z1 z2 z3 z4 z5 zf hzo
           (refine ord_rd hg hC (fun K hK=>?_);apply Exists.intro;refine ⟨fun W hW=>?_,?_⟩;(· go_simp;first | rfl | (rw [if_neg (by omega)];done));go_simp;refine hK _ ?_;clear hK K)
           refine ord_end (by kernel_rfl) ?_
           unfold fill45 at HF
           generalize (((((W6.setCell ⟨vb,0,none⟩ (.slice sha' s.length shc')).setCell ⟨vb,1,none⟩ (.int .i64 m'.bound)).setCell ⟨vb,2,none⟩ (.slice sa' m'.splits.length sc')).setCell ⟨vb,3,none⟩ (.slice ma' m'.marks.length mc')).setCell ⟨vb,4,none⟩ (.bool m'.sealed)).setCell ⟨vb,5,none⟩ (.slice ba' m'.late.length bc')=w7 at HF ⊢
           obtain ⟨hf1,hf2⟩:=HF.out
           have h24:=both_24 HMX.out hf1
           simp only [refV,ptr] at h24
           have H24:=Lib.hid h24
           have HF1:=Lib.hid hf1;have HF2:=Lib.hid hf2
           clear h24 hf1 hC HF
           obtain ⟨x0,x1,x2,x3,x4,x5,xf⟩:=box45_cells hf2
           clear hf2
           go_wp2_with (go_at_call 24;(with_reducible refine H24.out.mono ?_);rintro e w8 ⟨rfl,hb8⟩
                        have hf8:=HF1.out.to hb8
                        have t3:=(hb8.block _ (heap_lt HF2.out)).trans HF2.out
                        clear x0 x1 x2 x3 x4 x5 xf
                        obtain ⟨x0,x1,x2,x3,x4,x5,xf⟩:=box45_cells t3
                        obtain ⟨y0,y1,y2,y3,y4,y5,yf⟩:=box45_cells hf8.box
                        have HF8:=Lib.hid hf8
                        clear t3 hb8 hf8)
           have HF9:=Lib.hid ((HF8.out.fill (a1:=sha') (n1:=s.length) (c1:=shc') (i:=m'.bound) (a2:=sa') (n2:=m'.splits.length) (c2:=sc') (a3:=ma') (n3:=m'.marks.length) (c3:=mc') (q:=m'.sealed) (a4:=ba') (n4:=m'.late.length) (c4:=bc') HF8.out.box).free)
           unfold fill45 at HF9
           go_roundw
           case rel=>exact ⟨k+1,col',ws5,m',sha',sa',ma',ba',shc',sc',mc',bc',by omega,by go_num,HF9⟩
           case measure=>simp [intOf];omega
       · have hkn:k=fl.length:=by omega
         subst hkn
         have hx2:¬ (fl.length:Int)<(fl.length:Int):=by omega
         have HB9:=Lib.hid HQ.out.below
         go_wp2_with fail
         go_ret
         exact ⟨rfl,HB9.out⟩
end leaves
end Go.Proofs.YtimahogkcmmcnaaGreatDoor
