/-
 The well, part 35: the reference lets all marks rise; seals. If the well lies in the world as the words say, its lists its own.
-/
import Derived.Test.YtimahogkcmmcnaaGreatDoorL10
import Derived.Deep.OwnRows
set_option linter.unusedSimpArgs false
set_option linter.unusedVariables false
namespace Go.Proofs.YtimahogkcmmcnaaGreatDoor
open Go.RowKit Go.Proofs.YtimahogkcmmcnaaGreatDoor.Cmps
theorem markedM_fields (m:WlM) (n:Nat):(markedM m n).splits=m.splits∧(markedM m n).sealed=m.sealed∧(markedM m n).bound=m.bound∧(markedM m n).late=m.late:=by
 induction n with
 | zero=>exact ⟨rfl,rfl,rfl,rfl⟩
 | succ n ih=>rw [markedM_succ,risenM_splits,risenM_sealed,risenM_bound,risenM_late];exact ih
theorem markedM_eq (m:WlM) (n:Nat):markedM m n={ m with marks:=(markedM m n).marks }:=by
 obtain ⟨h1,h2,h3,h4⟩:=markedM_fields m n
 generalize markedM m n=q at *
 obtain ⟨a,b,c,d,e⟩:=q
 simp_all
theorem refV_marked (m:WlM) (p:RS) (n:Nat):refV (markedM m n) p=refV m p:=by
 obtain ⟨h1,h2,h3,h4⟩:=markedM_fields m n
 simp only [refV,h1,h2,h3,markedM_len]
section leaves
set_option maxHeartbeats 1000000
set_option maxRecDepth 10000
theorem f134_any (w:World) (D:Nat→Prop) (s:List Col) (m:WlM) (p:RS) (sb mb:Option Nat) (h:RefO w D s m p sb mb) (hok:WOk m) :
 Calls Tryz.prog 134 #[refV m p] w fun e w'=>e=.returned (refV (markedM m m.marks.length) p)∧RefO w' D s (markedM m m.marks.length) p sb mb∧Only (fun b=>mb=some b) w w':=by
 rw [refV_marked]
 have H:=Lib.hid h
 have HOK:=Lib.hid hok
 obtain ⟨sch,⟨sa,sc⟩,⟨ma,mc⟩,back⟩:=p
 have h16:=hok.hi
 obtain ⟨sha,shc,rfl⟩:∃ a c,sch=.slice a s.length c:=by obtain ⟨a,c,e,_⟩:=h.sch;exact ⟨a,c,e⟩
 obtain ⟨ba,bc,rfl⟩:∃ a c,back=.slice a m.late.length c:=by obtain ⟨a,c,e,_⟩:=h.back;exact ⟨a,c,e⟩
 clear h hok
 have HB2:Hid (((w.alloc (.cells #[.slice sha s.length shc,.int .i64 m.bound,.slice sa m.splits.length sc,.slice ma m.marks.length mc,.bool m.sealed,.slice ba m.late.length bc] 45)).alloc (.cells #[.slice none 0 0,.int .i64 0,.slice none 0 0,.slice none 0 0,.bool false,.slice none 0 0] 45)).heap[w.heap.size]? = some (.cells #[.slice sha s.length shc,.int .i64 m.bound,.slice sa m.splits.length sc,.slice ma m.marks.length mc,.bool m.sealed,.slice ba m.late.length bc] 45 (0,0))):=alloc_keep (heap_alloc_new w _)
 have HR2:Hid (((w.alloc (.cells #[.slice sha s.length shc,.int .i64 m.bound,.slice sa m.splits.length sc,.slice ma m.marks.length mc,.bool m.sealed,.slice ba m.late.length bc] 45)).alloc (.cells #[.slice none 0 0,.int .i64 0,.slice none 0 0,.slice none 0 0,.bool false,.slice none 0 0] 45)).heap[w.heap.size+1]? = some (.cells #[.slice none 0 0,.int .i64 0,.slice none 0 0,.slice none 0 0,.bool false,.slice none 0 0] 45 (0,0))):=by
  have:=heap_alloc_new (w.alloc (.cells #[.slice sha s.length shc,.int .i64 m.bound,.slice sa m.splits.length sc,.slice ma m.marks.length mc,.bool m.sealed,.slice ba m.late.length bc] 45)) (.cells #[.slice none 0 0,.int .i64 0,.slice none 0 0,.slice none 0 0,.bool false,.slice none 0 0] 45)
  show _=_
  simpa using this
 have HW2:Hid (Below w.heap.size w ((w.alloc (.cells #[.slice sha s.length shc,.int .i64 m.bound,.slice sa m.splits.length sc,.slice ma m.marks.length mc,.bool m.sealed,.slice ba m.late.length bc] 45)).alloc (.cells #[.slice none 0 0,.int .i64 0,.slice none 0 0,.slice none 0 0,.bool false,.slice none 0 0] 45))):=((Below.refl _ _).alloc (Nat.le_refl _) _).alloc (by simp) _
 have HX2:Hid (∀ g,mb=some g→g<w.heap.size):=fun g hg=>H.out.mks.lt_of hg
 go_enter Tryz.func134,Tryz.ntmps134
 go_wp2_with fail
 go_loopw [3] (fun i wr=>∃ k:Nat,k≤m.marks.length∧i=.int .i64 k∧Hid (SlOwn wr 3 1 (.slice ma m.marks.length mc) m.marks.length ((markedM m k).marks.map (Value.int .i64)) mb)∧Hid (Only (fun b=>mb=some b) w wr) ∧
  Hid (wr.heap[w.heap.size]? = some (.cells #[.slice sha s.length shc,.int .i64 m.bound,.slice sa m.splits.length sc,.slice ma m.marks.length mc,.bool m.sealed,.slice ba m.late.length bc] 45 (0,0))) ∧
  Hid (wr.heap[w.heap.size+1]? = some (.cells #[.slice none 0 0,.int .i64 0,.slice none 0 0,.slice none 0 0,.bool false,.slice none 0 0] 45 (0,0)))) (fun i _=>m.marks.length - (intOf i).toNat)
 case atStart=>exact ⟨0,by omega,rfl,Lib.hid (H.out.mks.keep fun g hg=>HW2.out.block g (HX2.out g hg)),Lib.hid (Only.of_below HW2.out),HB2,HR2⟩
 case round =>
  obtain ⟨k,hk,rfl,HM,HO,HB,HR⟩:=hrel
  obtain ⟨b0,b1,b2,b3,b4,b5,bf⟩:=box45_cells HB.out
  have hl:=markedM_len m k
  have hro:RefO wr D s (markedM m k) ⟨.slice sha s.length shc,(sa,sc),(ma,mc),.slice ba m.late.length bc⟩ sb mb:=by
   rw [markedM_eq]
   exact H.out.setMark hl (fun b hb hn=>HO.out.block b hb hn) HM.out
  by_cases hlt:k<m.marks.length
  · have H133:=Lib.hid (f133_any wr D s (markedM m k) _ sb mb k hro (HOK.out.marked k) (by rw [hl];exact hlt))
    rw [refV_risen,refV_marked] at H133
    simp only [refV] at H133
    clear hl hro
    go_wp2_with (go_at_call 133;(with_reducible refine H133.out.mono ?_);rintro e w3 ⟨rfl,hr3,ho3⟩
                 have hB3:=(ho3.block w.heap.size (heap_lt HB.out) (fun e=>by have:=HX2.out _ e;omega)).trans HB.out
                 have hR3:=(ho3.block (w.heap.size+1) (heap_lt HR.out) (fun e=>by have:=HX2.out _ e;omega)).trans HR.out
                 obtain ⟨z0,z1,z2,z3,z4,z5,zf⟩:=box45_cells hB3
                 have HR3:=Lib.hid hr3;have HO3:=Lib.hid ho3;have HB3:=Lib.hid hB3;have HQ3:=Lib.hid hR3;clear hr3 ho3 hB3 hR3)
    go_roundw
    case rel =>
     have hm3:=HR3.out.mks
     dsimp only at hm3
     rw [risenM_len,markedM_len] at hm3
     refine ⟨k+1,by omega,by go_num,Lib.hid ?_,Lib.hid ?_,Lib.hid (box45_fill HB3.out _ _ _ _ _ _),Lib.hid ((fill_ne (by omega) _ _ _ _ _ _).trans HQ3.out)⟩
     · rw [markedM_succ]
       exact hm3.keep fun b hb=>fill_ne (by have:=HX2.out b hb;omega) _ _ _ _ _ _
     · exact (HO.out.trans HO3.out (fun _ _ h=>h)).fill (g:=w.heap.size) (fun h=>by omega) _ _ _ _ _ _
    case measure=>simp [intOf];omega
  · have hkl:k=m.marks.length:=by omega
    subst hkl
    obtain ⟨r0,r1,r2,r3,r4,r5,rf⟩:=box45_cells HR.out
    clear hl hro
    go_wp2_with fail
    refine bodyPost_ret (results_cell_row rfl _ _ (w.heap.size+1) 45 _ (0,0) _ rfl (box45_fill HR.out _ _ _ _ _ _) Tryz.underlying45 rfl size45) rfl ?_
    obtain ⟨f1,f2⟩:=H.out.finish (markedM_len m m.marks.length) HO.out HM.out (Nat.le_succ w.heap.size) (.slice sha s.length shc) (.int .i64 m.bound) (.slice sa m.splits.length sc) (.slice ma m.marks.length mc) (.bool m.sealed) (.slice ba m.late.length bc)
    rw [← markedM_eq] at f1
    exact ⟨rfl,f1,f2⟩
end leaves
def Plus (D:Nat→Prop) (w w':World) (b:Nat):Prop:=D b∨(w.heap.size≤b∧b<w'.heap.size)
theorem RefO.fillK {w:World} {D:Nat→Prop} {s:List Col} {m:WlM} {p:RS} {sb mb:Option Nat} (h:RefO w D s m p sb mb) {g:Nat} (hD:¬ D g) (hs:sb≠some g) (hm:mb≠some g) (x0 x1 x2 x3 x4 x5:Value):RefO (fill45 w g x0 x1 x2 x3 x4 x5) D s m p sb mb :=
 h.keep fun b hb _=>fill_ne (by rintro rfl;rcases hb with hb | hb | hb;exact hD hb;exact hs hb;exact hm hb) _ _ _ _ _ _
theorem RefO.setK {w:World} {D:Nat→Prop} {s:List Col} {m:WlM} {p:RS} {sb mb:Option Nat} (h:RefO w D s m p sb mb) {g:Nat} (hD:¬ D g) (hs:sb≠some g) (hm:mb≠some g) (j:Nat) (v:Value):RefO (w.setCell ⟨g,j,none⟩ v) D s m p sb mb :=
 h.keep fun b hb _=>heap_set_ne _ (by rintro rfl;rcases hb with hb | hb | hb;exact hD hb;exact hs hb;exact hm hb)
theorem RefO.plus {w w0:World} {D D0:Nat→Prop} {s:List Col} {m:WlM} {p:RS} {sb mb:Option Nat} (h:RefO w D s m p sb mb) (hD:∀ b,D b→D0 b) (hs:∀ b,sb=some b→w0.heap.size≤b) (hm:∀ b,mb=some b→w0.heap.size≤b):RefAt w (Plus D0 w0 w) s m p :=
 h.ref.imp fun b hl hb=>by
  rcases hb with hb | hb | hb
  · exact .inl (hD b hb)
  · exact .inr ⟨hs b hb,hl⟩
  · exact .inr ⟨hm b hb,hl⟩
theorem ret45_2 {fn:Func} {p u:Tmp} (h:fn.results=#[.cell p 45,.tmp u]) (tmps:Array Value) (w:World) (g:Nat) {a b c d e f:Value} (hg:w.heap[g]? = some (.cells #[a,b,c,d,e,f] 45 (0,0))) (hp:tmps.getD p undef=.pointer (some ⟨g,0,none⟩)) :
 (results fn tmps).run Tryz.prog w=.ok (.tuple #[.agg #[a,b,c,d,e,f],tmps.getD u undef]) w:=by
 have hl:=run_loadVar_row (P:=Tryz.prog) w g 45 45 #[a,b,c,d,e,f] (0,0) _ hg Tryz.underlying45 rfl size45
 have hp':tmps[p]?.getD undef=.pointer (some ⟨g,0,none⟩):=by simpa using hp
 simp [results,h,hp',asAddr,hl]
theorem two45 (w:World) (a b c d e f a' b' c' d' e' f':Value):((w.alloc (.cells #[a,b,c,d,e,f] 45)).alloc (.cells #[a',b',c',d',e',f'] 45)).heap[w.heap.size+1]? = some (.cells #[a',b',c',d',e',f'] 45 (0,0)):=by
 simpa using heap_alloc_new (w.alloc (.cells #[a,b,c,d,e,f] 45)) (.cells #[a',b',c',d',e',f'] 45)
theorem two45_fst (w:World) (a b c d e f a' b' c' d' e' f':Value):((w.alloc (.cells #[a,b,c,d,e,f] 45)).alloc (.cells #[a',b',c',d',e',f'] 45)).heap[w.heap.size]? = some (.cells #[a,b,c,d,e,f] 45 (0,0)):=alloc_keep (heap_alloc_new w _)
theorem two45_below (w:World) (a b c d e f a' b' c' d' e' f':Value):Below w.heap.size w ((w.alloc (.cells #[a,b,c,d,e,f] 45)).alloc (.cells #[a',b',c',d',e',f'] 45)):=((Below.refl _ _).alloc (Nat.le_refl _) _).alloc (by simp) _
section leaves
set_option maxHeartbeats 1000000
set_option maxRecDepth 10000
def Steps (w:World) (D:Nat→Prop) (s:List Col) (r:WlM×Int) (e:Ending) (w':World):Prop :=
 ∃ p',e=.returned (.tuple #[refV r.1 p',.int .i64 r.2])∧RefAt w' (Plus D w w') s r.1 p'∧Below w.heap.size w w'
theorem f56_any (w:World) (D:Nat→Prop) (s:List Col) (m:WlM) (p:RS) (h:RefAt w D s m p) (hok:WOk m) :
 Calls Tryz.prog 56 #[refV m p] w (Steps w D s (sealAllR m)):=by
 have H:=Lib.hid h
 have H0:=Lib.hid (h.imp (D':=fun b=>D b∧b<w.heap.size) fun b hl hb=>⟨hb,hl⟩)
 have HOK:=Lib.hid hok
 obtain ⟨sch,⟨sa,sc⟩,⟨ma,mc⟩,back⟩:=p
 obtain ⟨sha,shc,rfl⟩:∃ a c,sch=.slice a s.length c:=by obtain ⟨a,c,e,_⟩:=h.sch;exact ⟨a,c,e⟩
 obtain ⟨ba,bc,rfl⟩:∃ a c,back=.slice a m.late.length c:=by obtain ⟨a,c,e,_⟩:=h.back;exact ⟨a,c,e⟩
 obtain ⟨sl,hsl⟩:∃ b,m.sealed=b:=⟨_,rfl⟩
 have HSL:=Lib.hid hsl
 clear h hok
 have HB2:Hid _:=two45_fst w (.slice sha s.length shc) (.int .i64 m.bound) (.slice sa m.splits.length sc) (.slice ma m.marks.length mc) (.bool sl) (.slice ba m.late.length bc) (.slice none 0 0) (.int .i64 0) (.slice none 0 0) (.slice none 0 0) (.bool false) (.slice none 0 0)
 have HR2:Hid _:=two45 w (.slice sha s.length shc) (.int .i64 m.bound) (.slice sa m.splits.length sc) (.slice ma m.marks.length mc) (.bool sl) (.slice ba m.late.length bc) (.slice none 0 0) (.int .i64 0) (.slice none 0 0) (.slice none 0 0) (.bool false) (.slice none 0 0)
 have HW2:Hid _:=two45_below w (.slice sha s.length shc) (.int .i64 m.bound) (.slice sa m.splits.length sc) (.slice ma m.marks.length mc) (.bool sl) (.slice ba m.late.length bc) (.slice none 0 0) (.int .i64 0) (.slice none 0 0) (.slice none 0 0) (.bool false) (.slice none 0 0)
 have HC:=Lib.hid (f87_any _ (fun b=>D b∧b<w.heap.size) s m ⟨.slice sha s.length shc,(sa,sc),(ma,mc),.slice ba m.late.length bc⟩ (H0.out.below HW2.out) HOK.out)
 show Calls Tryz.prog 56 #[.agg #[.slice sha s.length shc,.int .i64 m.bound,.slice sa m.splits.length sc,.slice ma m.marks.length mc,.bool m.sealed,.slice ba m.late.length bc]] w _
 simp only [refV] at HC
 rw [hsl] at HC ⊢
 clear hsl
 cases sl
 · rw [sealAllR,if_neg (by rw [HSL.out];simp)]
   go_enter Tryz.func56,Tryz.ntmps56
   go_wp2_with (first
    | (go_at_call 87;(with_reducible refine HC.out.mono ?_);rintro e w4 ⟨⟨sch',⟨sa',sc'⟩,⟨ma',mc'⟩,back'⟩,sb,mb,rfl,hro,hs,hm,hb⟩
       simp only [refV,HSL.out]
       obtain ⟨sha',shc',rfl⟩:∃ a c,sch'=.slice a s.length c:=by obtain ⟨a,c,e,_⟩:=hro.sch;exact ⟨a,c,e⟩
       obtain ⟨ba',bc',rfl⟩:∃ a c,back'=.slice a m.late.length c:=by obtain ⟨a,c,e,_⟩:=hro.back;exact ⟨a,c,e⟩
       have hB4:=(hb.block _ (heap_lt HB2.out)).trans HB2.out
       have hR4:=(hb.block _ (heap_lt HR2.out)).trans HR2.out
       have hz:=heap_lt HR2.out
       have hB5:=box45_fill hB4 (.slice sha' s.length shc') (.int .i64 m.bound) (.slice sa' m.splits.length sc') (.slice ma' m.marks.length mc') (.bool false) (.slice ba' m.late.length bc')
       have hB6:=box45_set4 hB5 (.bool true)
       have hro5:=hro.fillK (g:=w.heap.size) (fun h=>by have:=h.1.2;omega) (fun e=>by have:=hs _ e;omega) (fun e=>by have:=hm _ e;omega) (.slice sha' s.length shc') (.int .i64 m.bound) (.slice sa' m.splits.length sc') (.slice ma' m.marks.length mc') (.bool false) (.slice ba' m.late.length bc')
       have hro6:=hro5.setK (g:=w.heap.size) (fun h=>by have:=h.1.2;omega) (fun e=>by have:=hs _ e;omega) (fun e=>by have:=hm _ e;omega) 4 (.bool true)
       have h134:=f134_any _ _ s { m with sealed:=true } ⟨.slice sha' s.length shc',(sa',sc'),(ma',mc'),.slice ba' m.late.length bc'⟩ sb mb ⟨hro6.sch,hro6.spl,hro6.mks,hro6.back,hro6.sD,hro6.mD,hro6.ne⟩ ⟨HOK.out.splits,HOK.out.all,HOK.out.read,HOK.out.owner,HOK.out.lo,HOK.out.hi,HOK.out.bound,HOK.out.gauge,HOK.out.marks,HOK.out.name,HOK.out.time⟩
       have hR6:=(heap_set_ne (w:=fill45 w4 w.heap.size (.slice sha' s.length shc') (.int .i64 m.bound) (.slice sa' m.splits.length sc') (.slice ma' m.marks.length mc') (.bool false) (.slice ba' m.late.length bc')) (g:=w.heap.size) (j:=4) (.bool true) (by omega:w.heap.size+1≠w.heap.size)).trans ((fill_ne (by omega:w.heap.size+1≠w.heap.size) (.slice sha' s.length shc') (.int .i64 m.bound) (.slice sa' m.splits.length sc') (.slice ma' m.marks.length mc') (.bool false) (.slice ba' m.late.length bc')).trans hR4)
       have hb4:Below w.heap.size w w4:=HW2.out.trans (hb.mono HW2.out.size)
       have hb6:Below w.heap.size w ((fill45 w4 w.heap.size (.slice sha' s.length shc') (.int .i64 m.bound) (.slice sa' m.splits.length sc') (.slice ma' m.marks.length mc') (.bool false) (.slice ba' m.late.length bc')).setCell ⟨w.heap.size,4,none⟩ (.bool true)):=(fill_below hb4 (Nat.le_refl _) _ _ _ _ _ _).setCell (p:=⟨w.heap.size,4,none⟩) (Nat.le_refl _) _
       have HB6w:=Lib.hid hb6
       have HR6:=Lib.hid hR6
       have HS:=Lib.hid hs
       have HM:=Lib.hid hm
       have HZ:=Lib.hid hz
       rw [refV_marked] at h134
       simp only [refV] at h134
       have H134:=Lib.hid h134
       obtain ⟨b40,b41,b42,b43,b44,b45,bf4⟩:=box45_cells hB4
       obtain ⟨b50,b51,b52,b53,b54,b55,bf5⟩:=box45_cells hB5
       obtain ⟨b60,b61,b62,b63,b64,b65,bf6⟩:=box45_cells hB6
       clear hro hs hm hb hB4 hR4 hB5 hB6 hro5 hro6 h134 hR6 hb4 hb6 hz)
    | (go_at_call 134;(with_reducible refine H134.out.mono ?_);rintro e w7 ⟨rfl,hro7,ho7⟩
       have hR7:=(ho7.block (w.heap.size+1) (heap_lt HR6.out) (fun e=>by have h1:=HM.out _ e;have:=HZ.out;omega)).trans HR6.out
       obtain ⟨r70,r71,r72,r73,r74,r75,rf7⟩:=box45_cells hR7
       have HRO7:=Lib.hid hro7
       have HO7:=Lib.hid ho7
       have HR7:=Lib.hid hR7
       clear hro7 ho7 hR7))
   refine bodyPost_ret (ret45_2 rfl _ _ (w.heap.size+1) (box45_fill HR7.out _ _ _ _ _ _) rfl) rfl ?_
   have hm0:∀ b,mb=some b→w.heap.size≤b:=fun b hb=>by have h1:=HM.out b hb;have h2:=HW2.out.size;omega
   have hs0:∀ b,sb=some b→w.heap.size≤b:=fun b hb=>by have h1:=HS.out b hb;have h2:=HW2.out.size;omega
   have hb7:Below w.heap.size w w7:=HB6w.out.trans (HO7.out.below HB6w.out.size hm0)
   have hbF:=fill_below hb7 (Nat.le_succ w.heap.size) (.slice sha' s.length shc') (.int .i64 m.bound) (.slice sa' m.splits.length sc') (.slice ma' m.marks.length mc') (.bool true) (.slice ba' m.late.length bc')
   have hroF:=HRO7.out.fillK (g:=w.heap.size+1) (fun h=>by have:=h.1.2;omega) (fun e=>by have:=HS.out _ e;have:=HZ.out;omega) (fun e=>by have:=HM.out _ e;have:=HZ.out;omega) (.slice sha' s.length shc') (.int .i64 m.bound) (.slice sa' m.splits.length sc') (.slice ma' m.marks.length mc') (.bool true) (.slice ba' m.late.length bc')
   exact ⟨⟨.slice sha' s.length shc',(sa',sc'),(ma',mc'),.slice ba' m.late.length bc'⟩,by rw [sealAllM,refV_marked];rfl,hroF.plus (fun b hb=>hb.1.1) hs0 hm0,hbF⟩
 · rw [sealAllR,if_pos HSL.out]
   go_enter Tryz.func56,Tryz.ntmps56
   go_wp2_with fail
   refine bodyPost_ret (ret45_2 rfl _ _ (w.heap.size+1) (two45 _ _ _ _ _ _ _ _ _ _ _ _ _) rfl) rfl ?_
   have hb:=two45_below w (.slice sha s.length shc) (.int .i64 m.bound) (.slice sa m.splits.length sc) (.slice ma m.marks.length mc) (.bool true) (.slice ba m.late.length bc) (.slice sha s.length shc) (.int .i64 m.bound) (.slice sa m.splits.length sc) (.slice ma m.marks.length mc) (.bool true) (.slice ba m.late.length bc)
   exact ⟨⟨.slice sha s.length shc,(sa,sc),(ma,mc),.slice ba m.late.length bc⟩,by simp only [refV];rw [HSL.out];rfl,(H.out.below hb).mono fun b h=>.inl h,hb⟩
end leaves
theorem spsC_set {ps:List (SpM×Value)} {k:Nat} (hk:k<ps.length) {j:Nat} (hj:j<6) {x:SpM} {v:Value} (hx:spC x ps[k].2=(spC ps[k].1 ps[k].2).set j v):spsC (ps.set k (x,ps[k].2))=(spsC ps).set (k * 6+j) v:=by
 induction ps generalizing k with
 | nil=>simp at hk
 | cons p l ih =>
   cases k with
   | zero =>
     simp only [List.set_cons_zero,spsC,Nat.zero_mul,Nat.zero_add,List.getElem_cons_zero] at hx ⊢
     rw [hx,List.set_append_left _ _ (by rw [spC_len];exact hj)]
   | succ k =>
     simp only [List.set_cons_succ,spsC,List.getElem_cons_succ] at hx ⊢
     rw [ih (by simpa using hk) hx,List.set_append_right _ _ (by rw [spC_len];omega),spC_len]
     congr 2
     omega
theorem SplsOwn.setS {w:World} {D:Nat→Prop} {g o c:Nat} {l:List SpM} (h:SplsOwn w D (.slice (some ⟨g,o,none⟩) l.length c) l (some g)) (hD:¬ D g) {k:Nat} (hk:k<l.length) {j:Nat} (hj:j<6) {x:SpM} {v:Value}
 (hx:∀ ev,spC x ev=(spC l[k] ev).set j v) (he:x.evs=l[k].evs):SplsOwn (w.setCell ⟨g,o+(k * 6+j),none⟩ v) D (.slice (some ⟨g,o,none⟩) l.length c) (l.set k x) (some g):=by
 obtain ⟨ps,e,ho,hr⟩:=h
 subst e
 have hk':k<ps.length:=by simpa using hk
 have e1:(ps.map Prod.fst)[k]=ps[k].1:=by simp
 refine ⟨ps.set k (x,ps[k].2),by rw [List.map_set],?_,?_⟩
 · rw [spsC_set hk' hj (by rw [hx,e1])]
   have h1:=ho.setJ (j:=k * 6+j) (by rw [List.length_map];omega) v
   simpa using h1
 · intro p hp
   have hkeep:∀ b,D b→b<w.heap.size→(w.setCell ⟨g,o+(k * 6+j),none⟩ v).heap[b]? = w.heap[b]? := fun b hb _=>heap_set_ne _ (by rintro rfl;exact hD hb)
   rcases List.mem_or_eq_of_mem_set hp with hp | rfl
   · exact (hr p hp).keep hkeep
   · show EvtsAt _ D ps[k].2 x.evs
     rw [he,e1]
     exact (hr _ (List.getElem_mem hk')).keep hkeep
theorem RefO.setS {w:World} {D:Nat→Prop} {s:List Col} {m:WlM} {sch back:Value} {g o sc:Nat} {mks:Option Addr×Nat} {sb mb:Option Nat} (h:RefO w D s m ⟨sch,(some ⟨g,o,none⟩,sc),mks,back⟩ sb mb) {k:Nat} (hk:k<m.splits.length) {j:Nat} (hj:j<6) {x:SpM} {v:Value}
 (hx:∀ ev,spC x ev=(spC m.splits[k] ev).set j v) (he:x.evs=m.splits[k].evs):RefO (w.setCell ⟨g,o+(k * 6+j),none⟩ v) D s (m.setS k x) ⟨sch,(some ⟨g,o,none⟩,sc),mks,back⟩ sb mb:=by
 have hsb:sb=some g:=by obtain ⟨ps,e,ho,hr⟩:=h.spl;exact own_blk ho
 have hD:¬ D g:=h.sD g hsb
 have hs:=h.spl
 rw [hsb] at hs
 have h1:=SplsOwn.setS hs hD hk hj hx he
 have hkeep:∀ b,D b→b<w.heap.size→(w.setCell ⟨g,o+(k * 6+j),none⟩ v).heap[b]? = w.heap[b]? := fun b hb _=>heap_set_ne _ (by rintro rfl;exact hD hb)
 refine ⟨h.sch.keep hkeep,?_,h.mks.keep fun b hb=>heap_set_ne _ (by rintro rfl;exact h.ne b hsb hb),h.back.keep hkeep,h.sD,h.mD,h.ne⟩
 rw [hsb]
 simpa [WlM.setS] using h1
theorem RefO.splForm {w:World} {D:Nat→Prop} {s:List Col} {m:WlM} {sch back:Value} {sa:Option Addr} {sc:Nat} {mks:Option Addr×Nat} {sb mb:Option Nat} (h:RefO w D s m ⟨sch,(sa,sc),mks,back⟩ sb mb) (hl:0<m.splits.length) :
 ∃ g o,sa=some ⟨g,o,none⟩∧sb=some g∧(∀ j,w.frozen? ⟨g,j,none⟩=false):=by
 obtain ⟨ps,e,ho,hr⟩:=h.spl
 dsimp only at ho
 obtain ⟨g,o,rfl⟩:=ho.some_of hl
 exact ⟨g,o,rfl,own_blk ho,ho.frozen⟩
theorem SplsAt.at' {w:World} {D:Nat→Prop} {g o c:Nat} {l:List SpM} (h:SplsAt w D (.slice (some ⟨g,o,none⟩) l.length c) l) {k:Nat} (hk:k<l.length) :
 ∃ e1 e2,g<w.heap.size∧EvtsAt w D (.slice e1 l[k].evs.length e2) l[k].evs ∧
 w.cell? ⟨g,o+k * 6,none⟩=some (.string l[k].name)∧w.cell? ⟨g,o+k * 6+1,none⟩=some (.int .i64 l[k].owner)∧w.cell? ⟨g,o+k * 6+2,none⟩=some (.slice e1 l[k].evs.length e2) ∧
 w.cell? ⟨g,o+k * 6+3,none⟩=some (.int .i64 l[k].read)∧w.cell? ⟨g,o+k * 6+4,none⟩=some (.int .i64 l[k].gauge)∧w.cell? ⟨g,o+k * 6+5,none⟩=some (.bool l[k].sealed):=by
 obtain ⟨b,off,e1,e2,ha,h⟩:=h.at hk
 injection ha with ha
 injection ha with h1 h2
 subst h1 h2
 exact ⟨e1,e2,h⟩
theorem RefO.frozen {w:World} {D:Nat→Prop} {s:List Col} {m:WlM} {sch back:Value} {g o sc:Nat} {mks:Option Addr×Nat} {sb mb:Option Nat} (h:RefO w D s m ⟨sch,(some ⟨g,o,none⟩,sc),mks,back⟩ sb mb) (j:Nat):w.frozen? ⟨g,j,none⟩=false:=by
 obtain ⟨ps,e,ho,hr⟩:=h.spl
 exact ho.frozen j
section leaves
set_option maxHeartbeats 1000000
set_option maxRecDepth 10000
theorem f54_any (hm:Tryz.prog.follows .mixedOrders=true) (w:World) (D:Nat→Prop) (s:List Col) (m:WlM) (p:RS) (nm:ByteArray) (h:RefAt w D s m p) (hok:WOk m) :
 Calls Tryz.prog 54 #[refV m p,.string nm] w (Steps w D s (sealR m nm)):=by
 have mixed:=hm
 have H:=Lib.hid h
 have H0:=Lib.hid (h.imp (D':=fun b=>D b∧b<w.heap.size) fun b hl hb=>⟨hb,hl⟩)
 have HOK:=Lib.hid hok
 obtain ⟨sch,⟨sa,sc⟩,⟨ma,mc⟩,back⟩:=p
 obtain ⟨sha,shc,rfl⟩:∃ a c,sch=.slice a s.length c:=by obtain ⟨a,c,e,_⟩:=h.sch;exact ⟨a,c,e⟩
 obtain ⟨ba,bc,rfl⟩:∃ a c,back=.slice a m.late.length c:=by obtain ⟨a,c,e,_⟩:=h.back;exact ⟨a,c,e⟩
 have h50:=hok.splits
 clear h hok
 have HB2:Hid _:=two45_fst w (.slice sha s.length shc) (.int .i64 m.bound) (.slice sa m.splits.length sc) (.slice ma m.marks.length mc) (.bool m.sealed) (.slice ba m.late.length bc) (.slice none 0 0) (.int .i64 0) (.slice none 0 0) (.slice none 0 0) (.bool false) (.slice none 0 0)
 have HR2:Hid _:=two45 w (.slice sha s.length shc) (.int .i64 m.bound) (.slice sa m.splits.length sc) (.slice ma m.marks.length mc) (.bool m.sealed) (.slice ba m.late.length bc) (.slice none 0 0) (.int .i64 0) (.slice none 0 0) (.slice none 0 0) (.bool false) (.slice none 0 0)
 have HW2:Hid _:=two45_below w (.slice sha s.length shc) (.int .i64 m.bound) (.slice sa m.splits.length sc) (.slice ma m.marks.length mc) (.bool m.sealed) (.slice ba m.late.length bc) (.slice none 0 0) (.int .i64 0) (.slice none 0 0) (.slice none 0 0) (.bool false) (.slice none 0 0)
 have HF:=Lib.hid (f88_any _ (fun b=>D b∧b<w.heap.size) s m ⟨.slice sha s.length shc,(sa,sc),(ma,mc),.slice ba m.late.length bc⟩ nm (H0.out.below HW2.out) HOK.out)
 simp only [refV] at HF ⊢
 rcases idxI_lt (p:=fun x:SpM=>eqS x.name nm) (l:=m.splits) with hi | ⟨k,hlt,hi⟩
 · have hi':findI m.splits nm<0:=hi
   rw [sealR_none hi']
   have hneg:findI m.splits nm = -1∨True:=.inr trivial
   generalize findI m.splits nm=fi at HF hi'
   clear hi hneg
   go_enter Tryz.func54,Tryz.ntmps54
   go_wp2_with (first
    | (go_at_call 88;(with_reducible refine HF.out.mono ?_);rintro e w3 ⟨rfl,hb⟩
       have hB3:=(hb.block _ (heap_lt HB2.out)).trans HB2.out
       have hR3:=(hb.block _ (heap_lt HR2.out)).trans HR2.out
       obtain ⟨b30,b31,b32,b33,b34,b35,bf3⟩:=box45_cells hB3
       obtain ⟨r30,r31,r32,r33,r34,r35,rf3⟩:=box45_cells hR3
       have HB:=Lib.hid hb
       have HR3:=Lib.hid hR3
       clear hb hB3 hR3))
   refine bodyPost_ret (ret45_2 rfl _ _ (w.heap.size+1) (box45_fill HR3.out _ _ _ _ _ _) rfl) rfl ?_
   have hbF:=fill_below (HW2.out.trans (HB.out.mono HW2.out.size)) (Nat.le_succ w.heap.size) (.slice sha s.length shc) (.int .i64 m.bound) (.slice sa m.splits.length sc) (.slice ma m.marks.length mc) (.bool m.sealed) (.slice ba m.late.length bc)
   exact ⟨⟨.slice sha s.length shc,(sa,sc),(ma,mc),.slice ba m.late.length bc⟩,rfl,(H.out.below hbF).mono fun b h=>.inl h,hbF⟩
 · have hi':findI m.splits nm=k:=hi
   rw [hi'] at HF
   obtain ⟨b,hs⟩:∃ b,m.splits[k].sealed=b:=⟨_,rfl⟩
   have HSP:=Lib.hid (H0.out.spl.below HW2.out)
   cases b
   · rw [sealR_new hlt hi' hs]
     have HC:Hid (∀ w3,Below ((w.alloc (.cells #[.slice sha s.length shc,.int .i64 m.bound,.slice sa m.splits.length sc,.slice ma m.marks.length mc,.bool m.sealed,.slice ba m.late.length bc] 45)).alloc (.cells #[.slice none 0 0,.int .i64 0,.slice none 0 0,.slice none 0 0,.bool false,.slice none 0 0] 45)).heap.size ((w.alloc (.cells #[.slice sha s.length shc,.int .i64 m.bound,.slice sa m.splits.length sc,.slice ma m.marks.length mc,.bool m.sealed,.slice ba m.late.length bc] 45)).alloc (.cells #[.slice none 0 0,.int .i64 0,.slice none 0 0,.slice none 0 0,.bool false,.slice none 0 0] 45)) w3 →
      Calls Tryz.prog 87 #[refV m ⟨.slice sha s.length shc,(sa,sc),(ma,mc),.slice ba m.late.length bc⟩] w3 (Copied w3 (fun b=>D b∧b<w.heap.size) s m)):=fun w3 hb=>f87_any w3 _ s m _ ((H0.out.below HW2.out).below hb) HOK.out
     simp only [refV] at HC
     have HM2:Hid (WOk (m.setS k { m.splits[k] with sealed:=true })∧m.splits[k].owner<m.marks.length):=by
      have hok:=HOK.out
      have hx:=List.getElem_mem hlt
      exact ⟨hok.setS hlt (x:={ m.splits[k] with sealed:=true }) (by have:=hok.all;show allN m.splits+m.splits[k].evs.length≤_;omega) (hok.read m.splits[k] hx) (hok.owner m.splits[k] hx) (hok.gauge m.splits[k] hx) (hok.name m.splits[k] hx) (fun y hy=>hok.time m.splits[k] hx y hy),hok.owner _ hx⟩
     have HS0:=Lib.hid hs
     clear hi hi'
     go_enter Tryz.func54,Tryz.ntmps54
     go_wp2_with (first
      | (go_at_call 88;(with_reducible refine HF.out.mono ?_);rintro e w3 ⟨rfl,hb⟩
         have hB3:=(hb.block _ (heap_lt HB2.out)).trans HB2.out
         have hR3:=(hb.block _ (heap_lt HR2.out)).trans HR2.out
         obtain ⟨g,o,e1,e2,rfl,hg,-,x0,x1,x2,x3,x4,x5⟩:=(HSP.out.below hb).at hlt
         rw [hs] at x5
         obtain ⟨b30,b31,b32,b33,b34,b35,bf3⟩:=box45_cells hB3
         have HC3:=Lib.hid (HC.out w3 hb)
         have HW3:Hid (Below w.heap.size w w3):=HW2.out.trans (hb.mono HW2.out.size)
         have HB3:=Lib.hid hB3
         have HR3:=Lib.hid hR3
         clear hb hB3 hR3 x0 x1 x2 x3 x4)
      | (go_at_call 87;(with_reducible refine HC3.out.mono ?_);rintro e w4 ⟨⟨sch',⟨sa',sc'⟩,⟨ma',mc'⟩,back'⟩,sb,mb,rfl,hro,hs,hm,hb⟩
         simp only [refV]
         obtain ⟨sha',shc',rfl⟩:∃ a c,sch'=.slice a s.length c:=by obtain ⟨a,c,e,_⟩:=hro.sch;exact ⟨a,c,e⟩
         obtain ⟨ba',bc',rfl⟩:∃ a c,back'=.slice a m.late.length c:=by obtain ⟨a,c,e,_⟩:=hro.back;exact ⟨a,c,e⟩
         obtain ⟨g',o',rfl,hsg,-⟩:=hro.splForm (by omega)
         have hB4:=(hb.block _ (heap_lt HB3.out)).trans HB3.out
         have hR4:=(hb.block _ (heap_lt HR3.out)).trans HR3.out
         have hz:=heap_lt HR3.out
         have hB5:=box45_fill hB4 (.slice sha' s.length shc') (.int .i64 m.bound) (.slice (some ⟨g',o',none⟩) m.splits.length sc') (.slice ma' m.marks.length mc') (.bool m.sealed) (.slice ba' m.late.length bc')
         have hro5:=hro.fillK (g:=w.heap.size) (fun h=>by have:=h.1.2;omega) (fun e=>by have:=hs _ e;omega) (fun e=>by have:=hm _ e;omega) (.slice sha' s.length shc') (.int .i64 m.bound) (.slice (some ⟨g',o',none⟩) m.splits.length sc') (.slice ma' m.marks.length mc') (.bool m.sealed) (.slice ba' m.late.length bc')
         have hg':=hs g' hsg
         have hfr:=hro5.frozen
         have y5:(fill45 w4 w.heap.size (.slice sha' s.length shc') (.int .i64 m.bound) (.slice (some ⟨g',o',none⟩) m.splits.length sc') (.slice ma' m.marks.length mc') (.bool m.sealed) (.slice ba' m.late.length bc')).cell? ⟨g',o'+k * 6+5,none⟩=some (.bool false):=by
          obtain ⟨_,_,_,_,_,_,_,_,_,h5⟩:=hro5.spl.spls.at' hlt
          rw [h5,HS0.out]
         have hro6:=hro5.setS hlt (j:=5) (by omega) (x:={ m.splits[k] with sealed:=true }) (v:=.bool true) (fun ev=>rfl) rfl
         rw [← Nat.add_assoc] at hro6
         have hne:w.heap.size≠g':=by omega
         have hB6:=(heap_set_ne (w:=fill45 w4 w.heap.size (.slice sha' s.length shc') (.int .i64 m.bound) (.slice (some ⟨g',o',none⟩) m.splits.length sc') (.slice ma' m.marks.length mc') (.bool m.sealed) (.slice ba' m.late.length bc')) (g:=g') (j:=o'+k * 6+5) (.bool true) hne).trans hB5
         have hR6:=(heap_set_ne (w:=fill45 w4 w.heap.size (.slice sha' s.length shc') (.int .i64 m.bound) (.slice (some ⟨g',o',none⟩) m.splits.length sc') (.slice ma' m.marks.length mc') (.bool m.sealed) (.slice ba' m.late.length bc')) (g:=g') (j:=o'+k * 6+5) (.bool true) (by omega:w.heap.size+1≠g')).trans ((fill_ne (by omega:w.heap.size+1≠w.heap.size) (.slice sha' s.length shc') (.int .i64 m.bound) (.slice (some ⟨g',o',none⟩) m.splits.length sc') (.slice ma' m.marks.length mc') (.bool m.sealed) (.slice ba' m.late.length bc')).trans hR4)
         have hb4:Below w.heap.size w w4:=HW3.out.trans (hb.mono HW3.out.size)
         have hb6:Below w.heap.size w ((fill45 w4 w.heap.size (.slice sha' s.length shc') (.int .i64 m.bound) (.slice (some ⟨g',o',none⟩) m.splits.length sc') (.slice ma' m.marks.length mc') (.bool m.sealed) (.slice ba' m.late.length bc')).setCell ⟨g',o'+k * 6+5,none⟩ (.bool true)):=(fill_below hb4 (Nat.le_refl _) _ _ _ _ _ _).setCell (p:=⟨g',o'+k * 6+5,none⟩) (by show w.heap.size≤g';omega) _
         have HB6w:=Lib.hid hb6
         have HR6:=Lib.hid hR6
         have HB6:=Lib.hid hB6
         have HRO6:=Lib.hid hro6
         have HS:=Lib.hid hs
         have HM:=Lib.hid hm
         have HZ:=Lib.hid hz
         obtain ⟨b40,b41,b42,b43,b44,b45,bf4⟩:=box45_cells hB4
         obtain ⟨b50,b51,b52,b53,b54,b55,bf5⟩:=box45_cells hB5
         clear hro hs hm hb hB4 hR4 hB5 hB6 hro5 hro6 hR6 hb4 hb6 hz hsg b50 b51 b53 b54 b55))
     generalize hw6:(fill45 w4 w.heap.size (.slice sha' s.length shc') (.int .i64 m.bound) (.slice (some ⟨g',o',none⟩) m.splits.length sc') (.slice ma' m.marks.length mc') (.bool m.sealed) (.slice ba' m.late.length bc')).setCell ⟨g',o'+k * 6+5,none⟩ (.bool true)=w6 at HB6w HR6 HB6 HRO6 ⊢
     clear hw6 b40 b41 b42 b43 b44 b45 bf4 b52 y5 hfr b30 b31 b32 b33 b34 b35 bf3 x5
     obtain ⟨b60,b61,b62,b63,b64,b65,-⟩:=box45_cells HB6.out
     have hl6:k<(m.setS k { m.splits[k] with sealed:=true }).splits.length:=by simpa [WlM.setS] using hlt
     have y1:w6.cell? ⟨g',o'+k * 6+1,none⟩=some (.int .i64 m.splits[k].owner):=by
      have hsp:=HRO6.out.spl.spls
      obtain ⟨_,_,_,_,_,h1,_⟩:=hsp.at' hl6
      rw [h1]
      simp [WlM.setS]
     have hg6:g'<w6.heap.size:=cell_lt y1
     have hB6lt:=heap_lt HB6.out
     have H133:=Lib.hid (f133_any w6.drew _ s _ _ sb mb m.splits[k].owner (HRO6.out.below (Below.refl _ _).drew) HM2.out.1 HM2.out.2)
     have hl7:(m.setS k { m.splits[k] with sealed:=true }).splits.length=m.splits.length:=by simp [WlM.setS]
     have hrv:refV (m.setS k { m.splits[k] with sealed:=true }) ⟨.slice sha' s.length shc',(some ⟨g',o',none⟩,sc'),(ma',mc'),.slice ba' m.late.length bc'⟩=.agg #[.slice sha' s.length shc',.int .i64 m.bound,.slice (some ⟨g',o',none⟩) m.splits.length sc',.slice ma' m.marks.length mc',.bool m.sealed,.slice ba' m.late.length bc']:=by
      simp only [refV,hl7];rfl
     rw [refV_risen,hrv] at H133
     have hkl:(k:Int)<(m.splits.length:Int):=by omega
     have hk0:(0:Int)≤(k:Int):=by omega
     have hmb1:¬ mb=some w.heap.size:=fun e=>by have h1:=HM.out _ e;have h2:=HZ.out;omega
     have hmb2:¬ mb=some g':=fun e=>HRO6.out.ne g' (by have:=HRO6.out.spl;obtain ⟨ps,_,ho,_⟩:=this;exact own_blk ho) e
     have HC0:Hid (Only (fun b=>mb=some b) w6 w6.drew):=(Only.refl _ _).drew
     refine wp_region_float 7 1 (fun W=>Only (fun b=>mb=some b) w6 W) mixed (by kernel_rfl) ((Only.refl _ _).drew) ?_
     simp only [List.take_succ_cons,List.take_zero,List.drop_succ_cons,List.drop_zero]
     repeat (
      refine wpFloat_ex (fun K hK=>?_)
      apply Exists.intro
      refine ⟨fun W hW=>?_,?_⟩
      · have hk:=hW.cell
        clear hW
        go_simp
        rfl
      go_simp
      refine hK _ ?_
      clear hK K)
     refine wpFloat_nil ?_
     refine wpChain_step (fun K hK=>?_)
     go_simp
     go_at_call 133
     (with_reducible refine H133.out.mono ?_)
     rintro e w7 ⟨rfl,hro7,ho7⟩
     refine hK _ _ rfl (fun _=>HC0.out.trans ho7 (fun _ _ h=>h)) ?_
     clear hK K
     have hR7:=(ho7.block (w.heap.size+1) (heap_lt HR6.out) (fun e=>by have h1:=HM.out _ e;have:=HZ.out;omega)).trans HR6.out
     obtain ⟨r70,r71,r72,r73,r74,r75,rf7⟩:=box45_cells hR7
     have HRO7:=Lib.hid hro7
     have HO7:Hid (Only (fun b=>mb=some b) w6 w7):=HC0.out.trans ho7 (fun _ _ h=>h)
     have HR7:=Lib.hid hR7
     clear hro7 ho7 hR7
     iterate 2 (
      refine wpChain_step (fun K hK=>?_)
      go_simp
      refine hK _ _ rfl (fun h=>by omega) ?_
      clear hK K)
     refine wpChain_nil ?_
     go_wp2_with fail
     refine bodyPost_ret (ret45_2 rfl _ _ (w.heap.size+1) (box45_fill HR7.out _ _ _ _ _ _) rfl) rfl ?_
     have hm0:∀ b,mb=some b→w.heap.size≤b:=fun b hb=>by have h1:=HM.out b hb;have h2:=HW3.out.size;omega
     have hs0:∀ b,sb=some b→w.heap.size≤b:=fun b hb=>by have h1:=HS.out b hb;have h2:=HW3.out.size;omega
     have hb7:Below w.heap.size w w7:=HB6w.out.trans (HO7.out.below HB6w.out.size hm0)
     have hbF:=fill_below hb7 (Nat.le_succ w.heap.size) (.slice sha' s.length shc') (.int .i64 m.bound) (.slice (some ⟨g',o',none⟩) m.splits.length sc') (.slice ma' m.marks.length mc') (.bool m.sealed) (.slice ba' m.late.length bc')
     have hroF:=HRO7.out.fillK (g:=w.heap.size+1) (fun h=>by have:=h.1.2;omega) (fun e=>by have:=HS.out _ e;have:=HZ.out;omega) (fun e=>by have:=HM.out _ e;have:=HZ.out;omega) (.slice sha' s.length shc') (.int .i64 m.bound) (.slice (some ⟨g',o',none⟩) m.splits.length sc') (.slice ma' m.marks.length mc') (.bool m.sealed) (.slice ba' m.late.length bc')
     exact ⟨⟨.slice sha' s.length shc',(some ⟨g',o',none⟩,sc'),(ma',mc'),.slice ba' m.late.length bc'⟩,by rw [sealM,refV_risen,hrv];rfl,hroF.plus (fun b hb=>hb.1.1) hs0 hm0,hbF⟩
   · rw [sealR_was hlt hi' hs]
     clear hi hi'
     go_enter Tryz.func54,Tryz.ntmps54
     go_wp2_with (first
      | (go_at_call 88;(with_reducible refine HF.out.mono ?_);rintro e w3 ⟨rfl,hb⟩
         have hB3:=(hb.block _ (heap_lt HB2.out)).trans HB2.out
         have hR3:=(hb.block _ (heap_lt HR2.out)).trans HR2.out
         obtain ⟨g,o,e1,e2,rfl,hg,-,x0,x1,x2,x3,x4,x5⟩:=(HSP.out.below hb).at hlt
         rw [hs] at x5
         obtain ⟨b30,b31,b32,b33,b34,b35,bf3⟩:=box45_cells hB3
         obtain ⟨r30,r31,r32,r33,r34,r35,rf3⟩:=box45_cells hR3
         have HB:=Lib.hid hb
         have HR3:=Lib.hid hR3
         clear hb hB3 hR3))
     refine bodyPost_ret (ret45_2 rfl _ _ (w.heap.size+1) (box45_fill HR3.out _ _ _ _ _ _) rfl) rfl ?_
     have hbF:=fill_below (HW2.out.trans (HB.out.mono HW2.out.size)) (Nat.le_succ w.heap.size) (.slice sha s.length shc) (.int .i64 m.bound) (.slice (some ⟨g,o,none⟩) m.splits.length sc) (.slice ma m.marks.length mc) (.bool m.sealed) (.slice ba m.late.length bc)
     exact ⟨⟨.slice sha s.length shc,(some ⟨g,o,none⟩,sc),(ma,mc),.slice ba m.late.length bc⟩,rfl,(H.out.below hbF).mono fun b h=>.inl h,hbF⟩
theorem f91_any (w:World) (D:Nat→Prop) (a:Option Addr) (c:Nat) (l:List SpM) (n:Nat) (h:SplsAt w D (.slice a l.length c) l) (ho:∀ x ∈ l,x.owner<n) (h1:1≤n) (h16:n≤16) (h50:l.length≤50) :
 Calls Tryz.prog 91 #[.slice a l.length c,.int .i64 n] w fun e w'=>e=.returned (.int .i64 (fewN l (n - 1)))∧Below w.heap.size w w':=by
 have H:=Lib.hid h
 have HO:=Lib.hid ho
 have hmk:=fun (W:World)=>run_make_row' (P:=Tryz.prog) 31 3 (.int .i64 0) 8 Tryz.underlying31 info3 rfl .i64 .i64 n (by omega) (by omega) W
 clear h ho
 go_enter Tryz.func91,Tryz.ntmps91
 go_wp2
 go_loopw [6] (fun i wr=>∃ k:Nat,k≤l.length∧i=.int .i64 k∧Hid (wr.rowIs w.heap.size 3 n fun j=>.int .i64 (countN (l.take k) (j:Int)))∧Hid (Below w.heap.size w wr)) (fun i _=>l.length - (intOf i).toNat)
 case atStart =>
  refine ⟨0,by omega,rfl,Lib.hid ?_,Lib.hid ((RowKit.Below.refl _ _).alloc (by simp) _)⟩
  exact (World.rowIs_made w (.int .i64 0) n 3).congr fun i _=>by simp [countN]
 case round =>
  obtain ⟨k,hk,rfl,hr,hb⟩:=hrel
  have hsz:=hr.out.lt
  by_cases hlt:k<l.length
  · obtain ⟨g,o,e1,e2,rfl,hg,-,x0,x1,-⟩:=(H.out.below hb.out).at hlt
    have hown:=HO.out _ (List.getElem_mem hlt)
    have HT:=Lib.hid (fun j:Int=>countN_take (r:=j) hlt)
    have hc:=hr.out.cell hown
    have hf:=hr.out.frozen l[k].owner
    have hcl:countN (l.take k) (l[k].owner:Int)≤50:=by
     have:=countN_le (l.take k) (l[k].owner:Int)
     rw [List.length_take] at this
     omega
    generalize l[k].owner=ow at x1 hown hc hf hcl HT
    clear x0
    go_wp2
    go_roundw
    case rel =>
     refine ⟨k+1,by omega,by go_num,Lib.hid ((hr.out.set ow _).congr fun j hj=>?_),Lib.hid (hb.out.setCell (Nat.le_refl _) _)⟩
     rw [HT.out]
     by_cases e:j=ow
     · subst e
       rw [if_pos rfl,if_pos (by simp)]
       go_num
     · rw [if_neg e,if_neg (by simp;omega),Nat.add_zero]
    case measure=>simp [intOf];omega
  · obtain rfl:k=l.length:=by omega
    rw [List.take_length] at hr
    have HR:=Lib.hid hr.out
    have HB:=Lib.hid hb.out
    obtain ⟨w2,hw2⟩:∃ w2,w2=wr:=⟨_,rfl⟩
    subst hw2
    clear hr hb
    go_wp2_with fail
    go_loopw [7,8] (fun b r wr=>∃ k:Nat,k+1≤n∧r=.int .i64 (k+1:Nat)∧b=.int .i64 (fewN l k)∧Hid (Below w2.heap.size w2 wr)) (fun _ r _=>n - (intOf r).toNat)
    case atStart=>exact ⟨0,by omega,rfl,rfl,Lib.hid (Below.refl _ _)⟩
    case round =>
     obtain ⟨k,hk,rfl,rfl,hb⟩:=hrel
     by_cases hlt:k+1<n
     · have hfw:=fewN_le l k
       have hc1:wr.cell? ⟨w.heap.size,k+1,none⟩=some (.int .i64 (countN l ((k+1:Nat):Int))):=by
        rw [hb.out.cell (p:=⟨w.heap.size,k+1,none⟩) hsz];exact HR.out.cell hlt
       have hc2:wr.cell? ⟨w.heap.size,fewN l k,none⟩=some (.int .i64 (countN l ((fewN l k:Nat):Int))):=by
        rw [hb.out.cell (p:=⟨w.heap.size,fewN l k,none⟩) hsz];exact HR.out.cell (by omega)
       have HS:=Lib.hid (fewN_succ l k)
       generalize countN l ((k+1:Nat):Int)=c1 at hc1 HS
       generalize countN l ((fewN l k:Nat):Int)=c2 at hc2 HS
       generalize fewN l k=f at *
       have q1:(0:Int)≤((k+1:Nat):Int):=by omega
       have q2:((k+1:Nat):Int)<(n:Int):=by omega
       have q3:(0:Int)≤(f:Int):=by omega
       have q4:(f:Int)<(n:Int):=by omega
       by_cases hcc:c1<c2
       · have q5:(c1:Int)<(c2:Int):=by omega
         go_wp2_with fail
         go_quiet (fail)
         go_wp2_with fail
         go_roundw
         case rel=>exact ⟨k+1,by omega,by go_num,by rw [HS.out,if_pos hcc],Lib.hid (below_then hb.out (Drew.belowW ⟨_,rfl⟩))⟩
         case measure=>simp [intOf];omega
       · have q5:¬ (c1:Int)<(c2:Int):=by omega
         go_wp2_with fail
         go_quiet (fail)
         go_wp2_with fail
         go_roundw
         case rel=>exact ⟨k+1,by omega,by go_num,by rw [HS.out,if_neg hcc],Lib.hid (below_then hb.out (Drew.belowW ⟨_,rfl⟩))⟩
         case measure=>simp [intOf];omega
     · obtain rfl:n=k+1:=by omega
       go_wp2_with fail
       go_ret
       exact ⟨rfl,HB.out.trans (hb.out.mono HB.out.size)⟩
end leaves
end Go.Proofs.YtimahogkcmmcnaaGreatDoor
