/-
 The well's state, part 3: words and numbers are taken off a line. If the scanner lies in the world as the words say.
-/
import Derived.Test.YtimahogkcmmcnaaGreatDoorL28
import Derived.Test.YtimahogkcmmcnaaGreatDoorL27
import Derived.Test.YtimahogkcmmcnaaGreatDoorL14
set_option linter.unusedSimpArgs false
set_option linter.unusedVariables false
namespace Go.Proofs.YtimahogkcmmcnaaGreatDoor
open Go.RowKit Go.Proofs.YtimahogkcmmcnaaGreatDoor.Cmps
def ScanAt (w:World) (b g:Nat) (l:List (List UInt8)) (bad:Bool):Prop :=
 ∃ a c,w.heap[b]? = some (.cells #[.slice a l.length c,.bool bad] 210 (0,0))∧l.length≤c∧g≠b∧g<w.heap.size∧(l=[]∨∃ o,a=some ⟨g,o,none⟩∧∀ i x,l[i]? = some x→w.cell? ⟨g,o+i,none⟩=some (.string ⟨x.toArray⟩))
theorem ScanAt.keep {w w':World} {b g:Nat} {l:List (List UInt8)} {bad:Bool} (h:ScanAt w b g l bad) (hb:w'.heap[b]? = w.heap[b]?) (hg:w'.heap[g]? = w.heap[g]?) (hs:w.heap.size≤w'.heap.size):ScanAt w' b g l bad:=by
 obtain ⟨a,c,h1,h2,h4,h5,h3⟩:=h
 refine ⟨a,c,hb.trans h1,h2,h4,by omega,?_⟩
 rcases h3 with h3 | ⟨o,rfl,h3⟩
 · exact .inl h3
 · exact .inr ⟨o,rfl,fun i x hx=>by rw [cell_keep hg];exact h3 i x hx⟩
theorem ScanAt.glt {w:World} {b g:Nat} {l:List (List UInt8)} {bad:Bool} (h:ScanAt w b g l bad):g<w.heap.size∧g≠b:=by
 obtain ⟨a,c,h1,h2,h4,h5,h3⟩:=h
 exact ⟨h5,h4⟩
theorem ScanAt.lt {w:World} {b g:Nat} {l:List (List UInt8)} {bad:Bool} (h:ScanAt w b g l bad):b<w.heap.size:=by
 obtain ⟨a,c,h1,_⟩:=h
 exact heap_lt h1
theorem ScanAt.below {w w':World} {b g:Nat} {l:List (List UInt8)} {bad:Bool} (h:ScanAt w b g l bad) (hb:Below w.heap.size w w'):ScanAt w' b g l bad :=
 h.keep (hb.block _ h.lt) (hb.block _ h.glt.1) hb.size
section leaves
set_option maxHeartbeats 1000000
set_option maxRecDepth 100000
theorem f141_any (w:World) (b g:Nat) (x:List UInt8) (r:List (List UInt8)) (bad:Bool) (h:ScanAt w b g (x :: r) bad) :
 Calls Tryz.prog 141 #[ptr b] w fun e w'=>e=.returned (.string ⟨x.toArray⟩)∧ScanAt w' b g r bad∧Only (fun y=>y=b) w w':=by
 obtain ⟨a,c,h1,h2,hg,hgs,h3⟩:=h
 replace h3:=h3.resolve_left (by simp)
 obtain ⟨o,rfl,h3⟩:=h3
 have hlt:=heap_lt h1
 have x0:=h3 0 x rfl
 rw [Nat.add_zero] at x0
 have c0:=cells_at h1 0
 simp only [List.length_cons] at h1 h2 c0
 have HK:Hid (∀ a',(r=[]∨a'=some ⟨g,o+1,none⟩)→ScanAt (w.setCell ⟨b,0,none⟩ (.slice a' r.length (c - 1))) b g r bad∧Only (fun y=>y=b) w (w.setCell ⟨b,0,none⟩ (.slice a' r.length (c - 1)))):=fun a' ha=>by
  refine ⟨⟨a',c - 1,?_,by omega,hg,by simpa using hgs,?_⟩,(Only.refl (fun y=>y=b) w).setCell (p:=⟨b,0,none⟩) (fun _=>rfl) _⟩
  · rw [heap_set h1];rfl
  · by_cases hr:r=[]
    · exact .inl hr
    · refine .inr ⟨o+1,ha.resolve_left hr,fun i y hy=>?_⟩
      rw [cell_keep (heap_set_ne _ hg)]
      have:=h3 (i+1) y (by simpa using hy)
      rw [show o+1+i=o+(i+1) by omega]
      exact this
 have hf:∀ j,w.frozen? ⟨b,j,none⟩=false:=fun j=>by simp [World.frozen?,h1]
 unfold ptr
 clear h3 h1
 by_cases hc:c=1
 · subst hc
   have h0:r=[]:=List.eq_nil_of_length_eq_zero (by omega)
   subst h0
   have HF:=Lib.hid (HK.out (some ⟨g,o,none⟩) (.inl rfl))
   clear HK h2
   simp only [List.length_nil] at c0 HF
   go_enter Tryz.func141,Tryz.ntmps141
   go_wp2_with fail
   go_ret
   exact ⟨rfl,HF.out⟩
 · have HF:=Lib.hid (HK.out (some ⟨g,o+1,none⟩) (.inr rfl))
   clear HK
   go_enter Tryz.func141,Tryz.ntmps141
   go_wp2_with fail
   go_ret
   exact ⟨rfl,HF.out⟩
theorem Tabs.only {w w':World} {b:Nat} (h:Tabs w) (hb:2≤b) (ho:Only (fun y=>y=b) w w'):Tabs w' :=
 h.keep (ho.block 0 (by have:=h.two;omega) (by omega)) (ho.block 1 (by have:=h.two;omega) (by omega))
theorem f140_any (w:World) (hT:Tabs w) (b g:Nat) (n lo hi:Int) (r:List (List UInt8)) (bad:Bool) (h2:2≤b) (h:ScanAt w b g (Lib.itoa n :: r) bad) (h0:lo≤n) (h1:n≤hi) (hn : -10000000000000000≤n∧n≤10000000000000000) :
 Calls Tryz.prog 140 #[ptr b,.int .i64 lo,.int .i64 hi] w fun e w'=>e=.returned (.int .i64 n)∧ScanAt w' b g r bad∧Only (fun y=>y=b) w w':=by
 have h141:=f141_any w b g _ r bad h
 unfold ptr at h141
 have H141:=Lib.hid h141
 have HT:=Lib.hid hT
 have H190:Hid (∀ W,Calls Tryz.prog 190 #[.string ⟨(Lib.itoa n).toArray⟩] W fun e w'=>e=.returned (.tuple #[.int .i64 n,.nilIface])∧Below W.heap.size W w'):=fun W=>f190_any W n ⟨(Lib.itoa n).toArray⟩ (by simp) (itoa_len hn.1 hn.2) (atoi_itoa n)
 have hnlo:¬ n<lo:=by omega
 have hnhi:¬ hi<n:=by omega
 have hni:(n:Int)≤9223372036854775807∧-9223372036854775808≤n:=by omega
 unfold ptr
 clear h hT h141 h0 h1
 go_enter Tryz.func140,Tryz.ntmps140
 go_wp2_with (first
  | (go_at_call 141;(with_reducible refine H141.out.mono ?_);rintro e w1 ⟨rfl,hs1,ho1⟩;have HS1:=Lib.hid hs1;have HO1:=Lib.hid ho1;clear hs1 ho1)
  | (go_at_call 190;(with_reducible refine (H190.out _).mono ?_);rintro e w2 ⟨rfl,hb2⟩;have HB2:=Lib.hid hb2;clear hb2)
  | (go_at_call 84;(with_reducible refine (f84_any _ ((HT.out.only h2 HO1.out).below HB2.out) n hni.2 hni.1).mono ?_);rintro e w3 ⟨rfl,hb3⟩;have HB3:=Lib.hid hb3;clear hb3))
 go_ret
 exact ⟨rfl,(HS1.out.below HB2.out).below HB3.out,(HO1.out.trans (Only.of_below (S:=fun y=>y=b) HB2.out) (fun _ _ h=>h)).trans (Only.of_below (S:=fun y=>y=b) HB3.out) (fun _ _ h=>h)⟩
theorem box3_cells {w:World} {g:Nat} {t:TypeId} {a b c:Value} (h:w.heap[g]? = some (.cells #[a,b,c] t (0,0))):w.cell? ⟨g,0,none⟩=some a∧w.cell? ⟨g,1,none⟩=some b∧w.cell? ⟨g,2,none⟩=some c∧∀ o,w.frozen? ⟨g,o,none⟩=false :=
 ⟨cells_at h 0,cells_at h 1,cells_at h 2,fun o=>by simp [World.frozen?,h]⟩
theorem digit_ne (mk:Int):Lib.itoa mk≠closedT:=fun e=>by
 have h:=itoa_mem mk 99 (by rw [e];simp [closedT])
 rcases h with h | h
 · simp at h
 · cases h
theorem gauge_open (hm:Tryz.prog.follows .mixedOrders=true) (w:World) (hT:Tabs w) (bd mk:Int) (hb:0≤bd∧bd≤1000000000) (hk : -1000000000000≤mk∧mk≤1000000000000 - bd+1) :
 Calls Tryz.prog 142 #[.string ⟨(gaugeT bd mk false).toArray⟩] w fun e w'=>∃ g,e=.returned (.tuple #[ptr g,.int .i64 0])∧w.heap.size≤g∧w'.heap[g]? = some (.cells #[.int .i64 bd,.int .i64 mk,.bool false] 215 (0,0))∧Below w.heap.size w w':=by
 have mixed:=hm
 have HMX:=Lib.hid hm
 have hb0:=hb
 have HT:=Lib.hid hT
 obtain ⟨rs,hrs⟩:∃ v,v=Lib.itoa mk:=⟨_,rfl⟩
 have hgt:gaugeT bd mk false=Lib.itoa bd ++ 32 :: rs:=by rw [hrs];rfl
 have hlb:(Lib.itoa bd).length≤18:=itoa_len (by omega) (by omega)
 have hlr:rs.length≤18:=by rw [hrs];exact itoa_len (by omega) (by omega)
 obtain ⟨tx,htx⟩:∃ v:ByteArray,v=⟨(gaugeT bd mk false).toArray⟩:=⟨_,rfl⟩
 have htl:tx.data.toList=Lib.itoa bd ++ 32 :: rs:=by rw [htx,hgt]
 have hsz:tx.size≤60:=by rw [Lib.size_eq,htl];simp;omega
 have hszi:¬ (65536:Int)<(tx.size:Int):=by omega
 have HTX:Hid (((⟨(gaugeT bd mk false).toArray⟩:ByteArray) == tx)=true):=by show _=true;rw [← htx,eqS_beq];exact eqS_true.mpr rfl
 have H155:Hid (Calls Tryz.prog 155 #[.string tx,.string ⟨#[32]⟩] w fun e w'=>e=.returned (.tuple #[.string ⟨(Lib.itoa bd).toArray⟩,.string ⟨rs.toArray⟩,.bool true])∧Below w.heap.size w w'):=by
  have h:=f155_any w hT tx ⟨#[32]⟩ (by omega)
  have e1:Lib.cut (Lib.itoa bd ++ 32 :: rs) [32]=(Lib.itoa bd,rs,true):=cut_at rs (itoa_no bd (by decide))
  have e3:(⟨#[32]⟩:ByteArray).data.toList=[32]:=rfl
  rw [htl,e3,e1] at h
  exact h
 have H190:Hid (∀ W n,-10000000000000000≤n→n≤10000000000000000→Calls Tryz.prog 190 #[.string ⟨(Lib.itoa n).toArray⟩] W fun e w'=>e=.returned (.tuple #[.int .i64 n,.nilIface])∧Below W.heap.size W w'):=fun W n h0 h1=>f190_any W n ⟨(Lib.itoa n).toArray⟩ (by simp) (itoa_len h0 h1) (atoi_itoa n)
 have heq3:(rs == [99,108,111,115,101,100])=false:=by
  rw [hrs]
  cases hq:(Lib.itoa mk == [99,108,111,115,101,100]) with | false=>rfl | true=>exact absurd (beq_iff_eq.1 hq) (digit_ne mk)
 have HRS:=Lib.hid hrs
 rw [← htx]
 clear htx hgt htl hrs hT
 go_enter Tryz.func142,Tryz.ntmps142
 go_wp2_with (go_at_call 155;(with_reducible refine H155.out.mono ?_);rintro e w1 ⟨rfl,hb1⟩;have HB1:=Lib.hid hb1;clear hb1)
 have X1:=heap_alloc_new w1 (.cells #[.int .i64 0,.int .i64 1000000000001,.bool false] 215)
 have B1:Below w1.heap.size w1 (w1.alloc (.cells #[.int .i64 0,.int .i64 1000000000001,.bool false] 215)):=(Below.refl _ _).alloc (Nat.le_refl _) _
 generalize w1.alloc (.cells #[.int .i64 0,.int .i64 1000000000001,.bool false] 215)=wa at X1 B1 ⊢
 go_at_call 190
 refine (H190.out _ bd (by omega) (by omega)).mono ?_
 rintro e w2 ⟨rfl,hb2⟩
 have X2:=(hb2.block _ (heap_lt X1)).trans X1
 have B2:=Lib.hid (B1.trans (hb2.mono B1.size))
 obtain ⟨c0,c1,c2,cf⟩:=box3_cells X2
 have X3:=Lib.hid (heap_set (j:=0) (v:=.int .i64 bd) X2)
 clear X1 B1 hb2 X2
 go_wp2_with fail
 have x3:(w2.setCell ⟨w1.heap.size,0,none⟩ (.int .i64 bd)).heap[w1.heap.size]? = some (.cells #[.int .i64 bd,.int .i64 1000000000001,.bool false] 215 (0,0)):=X3.out
 have BW2:Below w.heap.size w (w2.setCell ⟨w1.heap.size,0,none⟩ (.int .i64 bd)):=(HB1.out.trans (B2.out.mono HB1.out.size)).setCell (p:=⟨w1.heap.size,0,none⟩) HB1.out.size _
 generalize w2.setCell ⟨w1.heap.size,0,none⟩ (.int .i64 bd)=wb at x3 BW2 ⊢
 clear c0 c1 c2 cf X3 B2
 obtain ⟨c0,c1,c2,cf⟩:=box3_cells x3
 have h9:=H190.out wb mk (by omega) (by omega)
 rw [← HRS.out] at h9
 go_at_call 190
 refine h9.mono ?_
 rintro e w3 ⟨rfl,hb3⟩
 have x4:=(hb3.block _ (heap_lt x3)).trans x3
 clear c0 c1 c2 cf
 obtain ⟨c0,c1,c2,cf⟩:=box3_cells x4
 have X5:=Lib.hid (heap_set (j:=1) (v:=.int .i64 mk) x4)
 have BW3:=Lib.hid (BW2.trans (hb3.mono BW2.size))
 clear x3 x4 hb3 BW2 h9
 go_wp2_with fail
 have xg:(w3.setCell ⟨w1.heap.size,1,none⟩ (.int .i64 mk)).heap[w1.heap.size]? = some (.cells #[.int .i64 bd,.int .i64 mk,.bool false] 215 (0,0)):=X5.out
 have BW:Below w.heap.size w (w3.setCell ⟨w1.heap.size,1,none⟩ (.int .i64 mk)):=BW3.out.setCell (p:=⟨w1.heap.size,1,none⟩) HB1.out.size _
 generalize w3.setCell ⟨w1.heap.size,1,none⟩ (.int .i64 mk)=wg at xg BW ⊢
 clear c0 c1 c2 cf X5 BW3
 have HBW:=Lib.hid BW
 have HXG:=Lib.hid xg
 have hgs:w.heap.size≤w1.heap.size:=HB1.out.size
 have HCL:Hid (∀ W,Below wg.heap.size wg W→W.cell? ⟨w1.heap.size,0,none⟩=some (.int .i64 bd)∧W.cell? ⟨w1.heap.size,1,none⟩=some (.int .i64 mk)∧W.cell? ⟨w1.heap.size,2,none⟩=some (.bool false)):=fun W hb=>by
  obtain ⟨u0,u1,u2,_⟩:=box3_cells ((hb.block _ (heap_lt HXG.out)).trans HXG.out)
  exact ⟨u0,u1,u2⟩
 have H86:Hid (∀ W,Below wg.heap.size wg W→Calls Tryz.prog 86 #[.pointer (some ⟨w1.heap.size,0,none⟩)] W fun e w'=>e=.returned (.string ⟨(gaugeT bd mk false).toArray⟩)∧Below W.heap.size W w'):=fun W hb=>by
  have h:=f86_any HMX.out W (HT.out.below (HBW.out.trans (hb.mono HBW.out.size))) w1.heap.size bd mk false ((hb.block _ (heap_lt HXG.out)).trans HXG.out) hb0 (by omega)
  unfold ptr at h
  exact h
 have hw1:withinB bd 0 1000000000=true:=by simp [withinB];omega
 have hw2:withinB mk (-1000000000000) (1000000000000 - bd+1)=true:=by simp [withinB];omega
 have hr1:IntKind.i64.wrap (1000000000000 - bd)=1000000000000 - bd:=wrapI (by omega)
 have hr2:IntKind.i64.wrap (1000000000000 - bd+1)=1000000000000 - bd+1:=wrapI (by omega)
 have hC:Below wg.heap.size wg wg.drew:=(Below.refl _ _).drew
 have hgt2:(gaugeT bd mk false == tx.toList)=true:=by
  have h:=HTX.out
  rw [eqS_beq] at h
  rw [← eqS_true.mp h]
  simp [ByteArray.toList_eq]
 clear xg BW H155 H190 heq3
 refine wp_region_ord [0,1,2,3,4,5,6,7,8,9,10,11,12,13,14,15,16,17,18,19,20,21,22,23,24,25,26,27,28,30,29,31,32] (fun W=>Below wg.heap.size wg W) mixed (by kernel_rfl) (fun hg=>?_)
 generalize wg.drew=wd at hC ⊢
 iterate 4 (refine ord_rd hg hC (fun K hK=>?_);apply Exists.intro;refine ⟨fun W hW=>?_,?_⟩;(· obtain ⟨u0,u1,u2⟩:=HCL.out W hW;go_simp;first | rfl | (rw [if_neg (by omega)];done));go_simp;refine hK _ ?_;clear hK K)
 refine ord_on (fun K hK=>?_)
 go_simp
 go_at_call 129
 refine (f129_any wd bd 0 1000000000).mono ?_
 rintro e w9 ⟨rfl,rfl⟩
 rw [hw1]
 refine hK _ _ rfl hC ?_
 clear hK K
 iterate 18 (refine ord_rd hg hC (fun K hK=>?_);apply Exists.intro;refine ⟨fun W hW=>?_,?_⟩;(· obtain ⟨u0,u1,u2⟩:=HCL.out W hW;go_simp;first | rfl | (rw [if_neg (by omega)];done));go_simp;refine hK _ ?_;clear hK K)
 refine ord_on (fun K hK=>?_)
 go_simp
 go_at_call 129
 refine (f129_any wd mk (-1000000000000) (1000000000000 - bd+1)).mono ?_
 rintro e w9 ⟨rfl,rfl⟩
 rw [hw2]
 refine hK _ _ rfl hC ?_
 clear hK K
 iterate 6 (refine ord_rd hg hC (fun K hK=>?_);apply Exists.intro;refine ⟨fun W hW=>?_,?_⟩;(· obtain ⟨u0,u1,u2⟩:=HCL.out W hW;go_simp;first | rfl | (rw [if_neg (by omega)];done));go_simp;refine hK _ ?_;clear hK K)
 refine ord_on (fun K hK=>?_)
 go_simp
 go_at_call 86
 refine (H86.out _ hC).mono ?_
 rintro e w7 ⟨rfl,hb2⟩
 replace hC:=hC.trans (hb2.mono hC.size)
 clear hb2
 refine hK _ _ rfl hC ?_
 clear hK K
 iterate 2 (refine ord_rd hg hC (fun K hK=>?_);apply Exists.intro;refine ⟨fun W hW=>?_,?_⟩;(· obtain ⟨u0,u1,u2⟩:=HCL.out W hW;go_simp;first | rfl | (rw [if_neg (by omega)];done));go_simp;refine hK _ ?_;clear hK K)
 refine ord_end (by kernel_rfl) ?_
 have HC7:=Lib.hid hC
 clear hC
 go_wp2_with fail
 go_ret2
 exact ⟨w1.heap.size,rfl,hgs,(HC7.out.block _ (heap_lt HXG.out)).trans HXG.out,HBW.out.trans (HC7.out.mono HBW.out.size)⟩
theorem gauge_closed (hm:Tryz.prog.follows .mixedOrders=true) (w:World) (hT:Tabs w) (bd:Int) (hb:0≤bd∧bd≤1000000000) :
 Calls Tryz.prog 142 #[.string ⟨(gaugeT bd 1000000000001 true).toArray⟩] w fun e w'=>∃ g,e=.returned (.tuple #[ptr g,.int .i64 0])∧w.heap.size≤g∧w'.heap[g]? = some (.cells #[.int .i64 bd,.int .i64 1000000000001,.bool true] 215 (0,0))∧Below w.heap.size w w':=by
 have mixed:=hm
 have HMX:=Lib.hid hm
 have hb0:=hb
 have HT:=Lib.hid hT
 obtain ⟨rs,hrs⟩:∃ v,v=closedT:=⟨_,rfl⟩
 have hgt:gaugeT bd 1000000000001 true=Lib.itoa bd ++ 32 :: rs:=by rw [hrs];rfl
 have hlb:(Lib.itoa bd).length≤18:=itoa_len (by omega) (by omega)
 have hlr:rs.length≤18:=by rw [hrs];decide
 obtain ⟨tx,htx⟩:∃ v:ByteArray,v=⟨(gaugeT bd 1000000000001 true).toArray⟩:=⟨_,rfl⟩
 have htl:tx.data.toList=Lib.itoa bd ++ 32 :: rs:=by rw [htx,hgt]
 have hsz:tx.size≤60:=by rw [Lib.size_eq,htl];simp;omega
 have hszi:¬ (65536:Int)<(tx.size:Int):=by omega
 have HTX:Hid (((⟨(gaugeT bd 1000000000001 true).toArray⟩:ByteArray) == tx)=true):=by show _=true;rw [← htx,eqS_beq];exact eqS_true.mpr rfl
 have H155:Hid (Calls Tryz.prog 155 #[.string tx,.string ⟨#[32]⟩] w fun e w'=>e=.returned (.tuple #[.string ⟨(Lib.itoa bd).toArray⟩,.string ⟨rs.toArray⟩,.bool true])∧Below w.heap.size w w'):=by
  have h:=f155_any w hT tx ⟨#[32]⟩ (by omega)
  have e1:Lib.cut (Lib.itoa bd ++ 32 :: rs) [32]=(Lib.itoa bd,rs,true):=cut_at rs (itoa_no bd (by decide))
  have e3:(⟨#[32]⟩:ByteArray).data.toList=[32]:=rfl
  rw [htl,e3,e1] at h
  exact h
 have H190:Hid (∀ W n,-10000000000000000≤n→n≤10000000000000000→Calls Tryz.prog 190 #[.string ⟨(Lib.itoa n).toArray⟩] W fun e w'=>e=.returned (.tuple #[.int .i64 n,.nilIface])∧Below W.heap.size W w'):=fun W n h0 h1=>f190_any W n ⟨(Lib.itoa n).toArray⟩ (by simp) (itoa_len h0 h1) (atoi_itoa n)
 have heq3:(rs == [99,108,111,115,101,100])=true:=by
  rw [hrs]
  rfl
 have HRS:=Lib.hid hrs
 rw [← htx]
 clear htx hgt htl hrs hT
 go_enter Tryz.func142,Tryz.ntmps142
 go_wp2_with (go_at_call 155;(with_reducible refine H155.out.mono ?_);rintro e w1 ⟨rfl,hb1⟩;have HB1:=Lib.hid hb1;clear hb1)
 have X1:=heap_alloc_new w1 (.cells #[.int .i64 0,.int .i64 1000000000001,.bool true] 215)
 have B1:Below w1.heap.size w1 (w1.alloc (.cells #[.int .i64 0,.int .i64 1000000000001,.bool true] 215)):=(Below.refl _ _).alloc (Nat.le_refl _) _
 generalize w1.alloc (.cells #[.int .i64 0,.int .i64 1000000000001,.bool true] 215)=wa at X1 B1 ⊢
 go_at_call 190
 refine (H190.out _ bd (by omega) (by omega)).mono ?_
 rintro e w2 ⟨rfl,hb2⟩
 have X2:=(hb2.block _ (heap_lt X1)).trans X1
 have B2:=Lib.hid (B1.trans (hb2.mono B1.size))
 obtain ⟨c0,c1,c2,cf⟩:=box3_cells X2
 have X3:=Lib.hid (heap_set (j:=0) (v:=.int .i64 bd) X2)
 clear X1 B1 hb2 X2
 go_wp2_with fail
 have x3:(w2.setCell ⟨w1.heap.size,0,none⟩ (.int .i64 bd)).heap[w1.heap.size]? = some (.cells #[.int .i64 bd,.int .i64 1000000000001,.bool true] 215 (0,0)):=X3.out
 have BW2:Below w.heap.size w (w2.setCell ⟨w1.heap.size,0,none⟩ (.int .i64 bd)):=(HB1.out.trans (B2.out.mono HB1.out.size)).setCell (p:=⟨w1.heap.size,0,none⟩) HB1.out.size _
 generalize w2.setCell ⟨w1.heap.size,0,none⟩ (.int .i64 bd)=wb at x3 BW2 ⊢
 clear c0 c1 c2 cf X3 B2
 have wg_def:True:=trivial
 generalize hwg:wb=wg at x3 BW2 ⊢
 have xg:=x3
 have BW:=BW2
 clear hwg x3 BW2 wg_def
 have HBW:=Lib.hid BW
 have HXG:=Lib.hid xg
 have hgs:w.heap.size≤w1.heap.size:=HB1.out.size
 have HCL:Hid (∀ W,Below wg.heap.size wg W→W.cell? ⟨w1.heap.size,0,none⟩=some (.int .i64 bd)∧W.cell? ⟨w1.heap.size,1,none⟩=some (.int .i64 1000000000001)∧W.cell? ⟨w1.heap.size,2,none⟩=some (.bool true)):=fun W hb=>by
  obtain ⟨u0,u1,u2,_⟩:=box3_cells ((hb.block _ (heap_lt HXG.out)).trans HXG.out)
  exact ⟨u0,u1,u2⟩
 have H86:Hid (∀ W,Below wg.heap.size wg W→Calls Tryz.prog 86 #[.pointer (some ⟨w1.heap.size,0,none⟩)] W fun e w'=>e=.returned (.string ⟨(gaugeT bd 1000000000001 true).toArray⟩)∧Below W.heap.size W w'):=fun W hb=>by
  have h:=f86_any HMX.out W (HT.out.below (HBW.out.trans (hb.mono HBW.out.size))) w1.heap.size bd 1000000000001 true ((hb.block _ (heap_lt HXG.out)).trans HXG.out) hb0 (by omega)
  unfold ptr at h
  exact h
 have hw1:withinB bd 0 1000000000=true:=by simp [withinB];omega
 skip
 have hr1:IntKind.i64.wrap (1000000000000 - bd)=1000000000000 - bd:=wrapI (by omega)
 have hr2:IntKind.i64.wrap (1000000000000 - bd+1)=1000000000000 - bd+1:=wrapI (by omega)
 have hC:Below wg.heap.size wg wg.drew:=(Below.refl _ _).drew
 have hgt2:(gaugeT bd 1000000000001 true == tx.toList)=true:=by
  have h:=HTX.out
  rw [eqS_beq] at h
  rw [← eqS_true.mp h]
  simp [ByteArray.toList_eq]
 clear xg BW H155 H190 heq3
 refine wp_region_ord [0,1,2,3,4,5,6,7,8,9,10,11,12,13,14,15,16,17,18,19,20,21,22,23,24,25,26,27,28,30,29,31,32] (fun W=>Below wg.heap.size wg W) mixed (by kernel_rfl) (fun hg=>?_)
 generalize wg.drew=wd at hC ⊢
 iterate 4 (refine ord_rd hg hC (fun K hK=>?_);apply Exists.intro;refine ⟨fun W hW=>?_,?_⟩;(· obtain ⟨u0,u1,u2⟩:=HCL.out W hW;go_simp;first | rfl | (rw [if_neg (by omega)];done));go_simp;refine hK _ ?_;clear hK K)
 refine ord_on (fun K hK=>?_)
 go_simp
 go_at_call 129
 refine (f129_any wd bd 0 1000000000).mono ?_
 rintro e w9 ⟨rfl,rfl⟩
 rw [hw1]
 refine hK _ _ rfl hC ?_
 clear hK K
 iterate 8 (refine ord_rd hg hC (fun K hK=>?_);apply Exists.intro;refine ⟨fun W hW=>?_,?_⟩;(· obtain ⟨u0,u1,u2⟩:=HCL.out W hW;go_simp;first | rfl | (rw [if_neg (by omega)];done));go_simp;refine hK _ ?_;clear hK K)
 iterate 12 (refine ord_pass hg rfl (by kernel_rfl) (by simp [Region.wanted,yielded]) hC (fun K hK=>?_);go_simp;refine hK _ ?_;clear hK K)
 iterate 5 (refine ord_rd hg hC (fun K hK=>?_);apply Exists.intro;refine ⟨fun W hW=>?_,?_⟩;(· obtain ⟨u0,u1,u2⟩:=HCL.out W hW;go_simp;first | rfl | (rw [if_neg (by omega)];done));go_simp;refine hK _ ?_;clear hK K)
 refine ord_on (fun K hK=>?_)
 go_simp
 go_at_call 86
 refine (H86.out _ hC).mono ?_
 rintro e w7 ⟨rfl,hb2⟩
 replace hC:=hC.trans (hb2.mono hC.size)
 clear hb2
 refine hK _ _ rfl hC ?_
 clear hK K
 iterate 2 (refine ord_rd hg hC (fun K hK=>?_);apply Exists.intro;refine ⟨fun W hW=>?_,?_⟩;(· obtain ⟨u0,u1,u2⟩:=HCL.out W hW;go_simp;first | rfl | (rw [if_neg (by omega)];done));go_simp;refine hK _ ?_;clear hK K)
 refine ord_end (by kernel_rfl) ?_
 have HC7:=Lib.hid hC
 clear hC
 go_wp2_with fail
 go_ret2
 exact ⟨w1.heap.size,rfl,hgs,(HC7.out.block _ (heap_lt HXG.out)).trans HXG.out,HBW.out.trans (HC7.out.mono HBW.out.size)⟩
theorem f144_any (hm:Tryz.prog.follows .mixedOrders=true) (w:World) (a b vb:Nat) (n1 n2:ByteArray) (h1:w.cell? ⟨a,0,none⟩=some (.string n1)) (h2:w.cell? ⟨vb,0,none⟩=some (ptr b)) (h3:w.cell? ⟨b,0,none⟩=some (.string n2)) :
 Calls Tryz.prog 144 #[ptr a,ptr vb] w fun e w'=>e=.returned (.bool (n1 == n2))∧Below w.heap.size w w':=by
 have mixed:=hm
 have HCL:Hid (∀ W,Below w.heap.size w W→W.cell? ⟨a,0,none⟩=some (.string n1)∧W.cell? ⟨vb,0,none⟩=some (.pointer (some ⟨b,0,none⟩))∧W.cell? ⟨b,0,none⟩=some (.string n2)):=fun W hb =>
  ⟨by rw [hb.cell (p:=⟨a,0,none⟩) (cell_lt h1)];exact h1,by rw [hb.cell (p:=⟨vb,0,none⟩) (cell_lt h2)];exact h2,by rw [hb.cell (p:=⟨b,0,none⟩) (cell_lt h3)];exact h3⟩
 obtain ⟨q,hq⟩:∃ q,(n1 == n2)=q:=⟨_,rfl⟩
 have hq2:(n1.toList == n2.toList)=q:=by rw [← hq,eqS_beq];rfl
 rw [hq]
 unfold ptr
 clear h1 h2 h3
 go_enter Tryz.func144,Tryz.ntmps144
 go_wp2_with fail
 have hC:Below w.heap.size w w.drew:=(Below.refl _ _).drew
 refine wp_region_ord [0,1,2,3,4,5,6,7,8,9] (fun W=>Below w.heap.size w W) mixed (by kernel_rfl) (fun hg=>?_)
 generalize w.drew=wd at hC ⊢
 iterate 10 (refine ord_rd hg hC (fun K hK=>?_);apply Exists.intro;refine ⟨fun W hW=>?_,?_⟩;(· obtain ⟨u0,u1,u2⟩:=HCL.out W hW;go_simp;first | rfl | (rw [if_neg (by omega)];done));go_simp;refine hK _ ?_;clear hK K)
 refine ord_end (by kernel_rfl) ?_
 have HC7:=Lib.hid hC
 clear hC
 go_wp2_with fail
 go_ret
 exact ⟨rfl,HC7.out⟩
theorem f145_144 (w:World) (a:Option Addr) (c n:Nat) (xb:Nat→Nat) (cv:Nat) (p:Nat→Bool) (hn:n≤1000) (hcl:n=0∨∃ g o,a=some ⟨g,o,none⟩∧∀ i,i<n→w.cell? ⟨g,o+i,none⟩=some (ptr (xb i)))
 (hf:∀ W i,i<n→Below w.heap.size w W→Calls Tryz.prog 144 #[ptr (xb i),ptr cv] W fun e w'=>e=.returned (.bool (p i))∧Below W.heap.size W w') :
 Calls Tryz.prog 145 #[.slice a n c,.func (.func 144) #[] #[ptr cv]] w fun e w'=>e=.returned (.int .i64 (idxI p (List.range n)))∧Below w.heap.size w w':=by
 have HF:=Lib.hid hf
 have HCL:=Lib.hid hcl
 clear hf hcl
 unfold ptr at HF ⊢
 go_enter Tryz.func145,Tryz.ntmps145
 go_wp2_with fail
 go_loopw [8] (fun i wr=>∃ k:Nat,k≤n∧i=.int .i64 k∧Hid (∀ j,j<k→p j=false)∧Hid (Below w.heap.size w wr)) (fun i _=>n - (intOf i).toNat)
 case atStart=>exact ⟨0,by omega,rfl,Lib.hid (by omega),Lib.hid (Below.refl _ _)⟩
 case round =>
  obtain ⟨k,hk,rfl,hv,hbr⟩:=hrel
  by_cases hlt:k<n
  · have hcc:=HCL.out.resolve_left (by omega)
    obtain ⟨g,o,rfl,hcc⟩:=hcc
    have x0:=hcc k hlt
    have x1:wr.cell? ⟨g,o+k,none⟩=some (.pointer (some ⟨xb k,0,none⟩)):=by rw [hbr.out.cell (p:=⟨g,o+k,none⟩) (cell_lt x0)];exact x0
    have HK:=Lib.hid (HF.out wr k hlt hbr.out)
    obtain ⟨dn,hdn⟩:∃ b,p k=b:=⟨_,rfl⟩
    rw [hdn] at HK
    have HDN:=Lib.hid hdn
    clear hdn x0 hcc
    cases dn
    · go_wp2_with (go_at_call 144;with_reducible refine HK.out.mono ?_;rintro e w1 ⟨rfl,hb1⟩;have HB1:=Lib.hid hb1;clear hb1)
      go_roundw
      case rel =>
       refine ⟨k+1,by omega,by go_num,Lib.hid fun j hjk=>?_,Lib.hid (below_then hbr.out HB1.out)⟩
       by_cases e:j=k
       · subst e;exact HDN.out
       · exact hv.out j (by omega)
      case measure=>simp [intOf];omega
    · go_wp2_with (go_at_call 144;with_reducible refine HK.out.mono ?_;rintro e w1 ⟨rfl,hb1⟩;have HB1:=Lib.hid hb1;clear hb1)
      go_ret
      have hl:k<(List.range n).length:=by simpa using hlt
      exact ⟨ret_int (idxI_hit (p:=p) hl (by simpa using HDN.out) (fun j hj hjk=>by simpa using hv.out j hjk)).symm,below_then hbr.out HB1.out⟩
  · go_wp2_with fail
    go_ret
    exact ⟨ret_int (idxI_none (p:=p) (fun j hj=>by simpa using hv.out j (by simp at hj;omega))).symm,hbr.out⟩
theorem f75_144 (w:World) (a:Option Addr) (c n:Nat) (xb:Nat→Nat) (cv:Nat) (p:Nat→Bool) (hn:n≤1000) (hcl:n=0∨∃ g o,a=some ⟨g,o,none⟩∧∀ i,i<n→w.cell? ⟨g,o+i,none⟩=some (ptr (xb i)))
 (hf:∀ W i,i<n→Below w.heap.size w W→Calls Tryz.prog 144 #[ptr (xb i),ptr cv] W fun e w'=>e=.returned (.bool (p i))∧Below W.heap.size W w') :
 Calls Tryz.prog 75 #[.slice a n c,.func (.func 144) #[] #[ptr cv]] w fun e w'=>e=.returned (.bool ((List.range n).any p))∧Below w.heap.size w w':=by
 have hc:=f145_144 w a c n xb cv p hn hcl hf
 have ha:=idxI_any p (List.range n)
 clear hf hcl
 unfold ptr at hc ⊢
 go_enter Tryz.func75,Tryz.ntmps75
 go_wp2_with (go_at_call 145;refine hc.mono ?_;rintro e w' ⟨rfl,hb1⟩)
 go_ret
 exact ⟨ret_bool (by rw [← ha]),hb1⟩
theorem f145_76 (w:World) (a:Option Addr) (c n:Nat) (xb:Nat→Nat) (cv:Nat) (p:Nat→Bool) (hn:n≤1000) (hcl:n=0∨∃ g o,a=some ⟨g,o,none⟩∧∀ i,i<n→w.cell? ⟨g,o+i,none⟩=some (ptr (xb i)))
 (hf:∀ W i,i<n→Below w.heap.size w W→Calls Tryz.prog 76 #[ptr (xb i),ptr cv] W fun e w'=>e=.returned (.bool (p i))∧Below W.heap.size W w') :
 Calls Tryz.prog 145 #[.slice a n c,.func (.func 76) #[] #[ptr cv]] w fun e w'=>e=.returned (.int .i64 (idxI p (List.range n)))∧Below w.heap.size w w':=by
 have HF:=Lib.hid hf
 have HCL:=Lib.hid hcl
 clear hf hcl
 unfold ptr at HF ⊢
 go_enter Tryz.func145,Tryz.ntmps145
 go_wp2_with fail
 go_loopw [8] (fun i wr=>∃ k:Nat,k≤n∧i=.int .i64 k∧Hid (∀ j,j<k→p j=false)∧Hid (Below w.heap.size w wr)) (fun i _=>n - (intOf i).toNat)
 case atStart=>exact ⟨0,by omega,rfl,Lib.hid (by omega),Lib.hid (Below.refl _ _)⟩
 case round =>
  obtain ⟨k,hk,rfl,hv,hbr⟩:=hrel
  by_cases hlt:k<n
  · have hcc:=HCL.out.resolve_left (by omega)
    obtain ⟨g,o,rfl,hcc⟩:=hcc
    have x0:=hcc k hlt
    have x1:wr.cell? ⟨g,o+k,none⟩=some (.pointer (some ⟨xb k,0,none⟩)):=by rw [hbr.out.cell (p:=⟨g,o+k,none⟩) (cell_lt x0)];exact x0
    have HK:=Lib.hid (HF.out wr k hlt hbr.out)
    obtain ⟨dn,hdn⟩:∃ b,p k=b:=⟨_,rfl⟩
    rw [hdn] at HK
    have HDN:=Lib.hid hdn
    clear hdn x0 hcc
    cases dn
    · go_wp2_with (go_at_call 76;with_reducible refine HK.out.mono ?_;rintro e w1 ⟨rfl,hb1⟩;have HB1:=Lib.hid hb1;clear hb1)
      go_roundw
      case rel =>
       refine ⟨k+1,by omega,by go_num,Lib.hid fun j hjk=>?_,Lib.hid (below_then hbr.out HB1.out)⟩
       by_cases e:j=k
       · subst e;exact HDN.out
       · exact hv.out j (by omega)
      case measure=>simp [intOf];omega
    · go_wp2_with (go_at_call 76;with_reducible refine HK.out.mono ?_;rintro e w1 ⟨rfl,hb1⟩;have HB1:=Lib.hid hb1;clear hb1)
      go_ret
      have hl:k<(List.range n).length:=by simpa using hlt
      exact ⟨ret_int (idxI_hit (p:=p) hl (by simpa using HDN.out) (fun j hj hjk=>by simpa using hv.out j hjk)).symm,below_then hbr.out HB1.out⟩
  · go_wp2_with fail
    go_ret
    exact ⟨ret_int (idxI_none (p:=p) (fun j hj=>by simpa using hv.out j (by simp at hj;omega))).symm,hbr.out⟩
theorem f75_76 (w:World) (a:Option Addr) (c n:Nat) (xb:Nat→Nat) (cv:Nat) (p:Nat→Bool) (hn:n≤1000) (hcl:n=0∨∃ g o,a=some ⟨g,o,none⟩∧∀ i,i<n→w.cell? ⟨g,o+i,none⟩=some (ptr (xb i)))
 (hf:∀ W i,i<n→Below w.heap.size w W→Calls Tryz.prog 76 #[ptr (xb i),ptr cv] W fun e w'=>e=.returned (.bool (p i))∧Below W.heap.size W w') :
 Calls Tryz.prog 75 #[.slice a n c,.func (.func 76) #[] #[ptr cv]] w fun e w'=>e=.returned (.bool ((List.range n).any p))∧Below w.heap.size w w':=by
 have hc:=f145_76 w a c n xb cv p hn hcl hf
 have ha:=idxI_any p (List.range n)
 clear hf hcl
 unfold ptr at hc ⊢
 go_enter Tryz.func75,Tryz.ntmps75
 go_wp2_with (go_at_call 145;refine hc.mono ?_;rintro e w' ⟨rfl,hb1⟩)
 go_ret
 exact ⟨ret_bool (by rw [← ha]),hb1⟩
end leaves
theorem nameB_no {s:ByteArray} (h:nameB s=true) {c:UInt8} (hc:c.toNat<48):c ∉ s.data.toList:=by
 intro hm
 unfold nameB at h
 simp only [Bool.and_eq_true,List.all_eq_true] at h
 obtain ⟨i,hi,rfl⟩:=List.mem_iff_getElem.1 hm
 have hi':i<s.size:=by rw [Lib.size_eq];exact hi
 have h1:=h.1 i (by simpa using hi')
 have e:s.data[i]! = s.data.toList[i]:=by simp [getElem!_pos,hi']
 rw [e] at h1
 simp only [okByte,okI,decide_eq_true_eq] at h1
 omega
def gmT (x:SpM):List UInt8:=if x.done then closedT else Lib.itoa x.mark
def words6 (bd:Int) (x:SpM):List (List UInt8):=[x.name.data.toList,Lib.itoa x.owner,Lib.itoa x.read,bitT x.sealed,Lib.itoa bd,gmT x]
theorem line_words (bd:Int) (x:SpM):Lib.join (lineW bd x) [32]=Lib.join (words6 bd x) [32]:=by
 unfold lineW words6
 simp only [join_cons2,Lib.join_one,gaugeT,gmT]
 simp
theorem bitT_itoa (b:Bool):bitT b=Lib.itoa (if b then 1 else 0):=by
 cases b
 · rw [bitT,Lib.itoa];simp [Lib.decDigits]
 · rw [bitT,Lib.itoa];simp [Lib.decDigits]
theorem bitT_no (b:Bool) {c:UInt8} (h:c.toNat<45):c ∉ bitT b:=by rw [bitT_itoa];exact itoa_no _ h
theorem gmT_no (x:SpM) {c:UInt8} (h:c.toNat<45):c ∉ gmT x:=by
 unfold gmT
 split
 · intro hm
   simp only [closedT,List.mem_cons,List.not_mem_nil,or_false] at hm
   rcases hm with rfl | rfl | rfl | rfl | rfl | rfl <;> simp at h
 · exact itoa_no _ h
theorem words6_no {bd:Int} {x:SpM} (h:nameB x.name=true) {c:UInt8} (hc:c.toNat<45):∀ y ∈ words6 bd x,c ∉ y:=by
 intro y hy
 simp only [words6,List.mem_cons,List.not_mem_nil,or_false] at hy
 rcases hy with rfl | rfl | rfl | rfl | rfl | rfl
 · exact nameB_no h (by omega)
 · exact itoa_no _ hc
 · exact itoa_no _ hc
 · exact bitT_no _ hc
 · exact itoa_no _ hc
 · exact gmT_no _ hc
theorem headW_no (m:WlM) {c:UInt8} (hc:c.toNat<45):∀ y ∈ headW m,c ∉ y:=by
 intro y hy
 unfold headW at hy
 rcases List.mem_cons.1 hy with rfl | hy
 · exact bitT_no _ hc
 · obtain ⟨n,_,rfl⟩:=List.mem_map.1 hy
   exact itoa_no _ hc
theorem join_no {c d:UInt8} (hcd:c≠d):∀ {l:List (List UInt8)},(∀ y ∈ l,c ∉ y)→c ∉ Lib.join l [d]
 | [],_=>by simp [Lib.join_nil]
 | [x],h=>by rw [Lib.join_one];exact h x List.mem_cons_self
 | x :: y :: r,h=>by
   rw [join_cons2]
   simp only [List.mem_append,not_or,List.mem_singleton]
   exact ⟨⟨h x List.mem_cons_self,hcd⟩,join_no hcd fun z hz=>h z (List.mem_cons_of_mem _ hz)⟩
def linesM (m:WlM):List (List UInt8):=Lib.join (headW m) [32] :: m.splits.map fun x=>Lib.join (words6 m.bound x) [32]
theorem state_lines (m:WlM):stateT m=linesT (linesM m):=by
 unfold stateT linesM
 congr 2
 apply List.map_congr_left
 intro x _
 exact line_words _ _
theorem split_state {m:WlM} (hn:∀ x ∈ m.splits,nameB x.name=true):Lib.split (stateT m) [10]=linesM m ++ [[]]:=by
 rw [state_lines]
 apply split_lines
 intro y hy
 unfold linesM at hy
 rcases List.mem_cons.1 hy with rfl | hy
 · exact join_no (by decide) (headW_no m (by decide))
 · obtain ⟨x,hx,rfl⟩:=List.mem_map.1 hy
   exact join_no (by decide) (words6_no (hn x hx) (by decide))
theorem split_head (m:WlM):Lib.split (Lib.join (headW m) [32]) [32]=headW m:=split_join _ _ (headW_no m (by decide))
theorem split_line {bd:Int} {x:SpM} (h:nameB x.name=true):Lib.split (Lib.join (words6 bd x) [32]) [32]=words6 bd x:=split_join _ _ (words6_no h (by decide))
theorem rest_gauge (bd:Int) (x:SpM):Lib.join [Lib.itoa bd,gmT x] [32]=gaugeT bd x.mark x.done:=by
 simp [join_cons2,Lib.join_one,gaugeT,gmT]
theorem split_strs (w:World) (hT:Tabs w) (s:List UInt8) (c:UInt8) (l:List (List UInt8)) (hl:Lib.split s [c]=l) (hs:s.length<4294967281) :
 Calls Tryz.prog 139 #[.string ⟨s.toArray⟩,.string ⟨#[c]⟩] w fun e w'=>e=.returned (.slice (some ⟨w.heap.size,0,none⟩) l.length l.length)∧w'=w.alloc (.cells (strV l).toArray 9):=by
 refine (f139_any w hT ⟨s.toArray⟩ c (by rw [Lib.size_eq];simpa using hs)).mono ?_
 rintro e w' ⟨L,hL,rfl,rfl⟩
 have e1:L.map Value.string=strV l:=by
  rw [← hl]
  have:(⟨s.toArray⟩:ByteArray).data.toList=s:=by simp
  rw [this] at hL
  rw [← hL]
  unfold strV
  rw [List.map_map]
  apply List.map_congr_left
  intro x _
  simp [mk_list]
 have e2:L.length=l.length:=by
  have:=congrArg List.length e1
  simpa [strV] using this
 rw [e1,e2]
 exact ⟨rfl,rfl⟩
theorem strV_at {w:World} {b:Nat} {l:List (List UInt8)} (h:w.heap[b]? = some (.cells (strV l).toArray 9 (0,0))) {i:Nat} {x:List UInt8} (hx:l[i]? = some x):w.cell? ⟨b,i,none⟩=some (.string ⟨x.toArray⟩):=by
 rw [cell_of_row w b i _ 9 (0,0) h]
 simp [strV,hx]
theorem scan_new {w:World} {l:List (List UInt8)} {g:Nat} (h:w.heap[g]? = some (.cells (strV l).toArray 9 (0,0))) :
 ScanAt (w.alloc (.cells #[.slice (some ⟨g,0,none⟩) l.length l.length,.bool false] 210)) w.heap.size g l false:=by
 refine ⟨_,_,heap_alloc_new w _,Nat.le_refl _,by have:=heap_lt h;omega,by have:=heap_lt h;simp;omega,.inr ⟨0,rfl,fun i x hx=>?_⟩⟩
 have:=strV_at h hx
 rw [Nat.zero_add]
 rw [cell_keep (Below.heap_alloc w _ _ (heap_lt h))]
 exact this
def IntsB (w:World) (b:Nat) (l:List Int):Prop:=w.heap[b]? = some (.cells (l.map (Value.int .i64)).toArray 3 (0,0))
theorem IntsB.cell {w:World} {b:Nat} {l:List Int} (h:IntsB w b l) {i:Nat} (hi:i<l.length):w.cell? ⟨b,i,none⟩=some (.int .i64 l[i]):=by
 rw [cell_of_row w b i _ 3 (0,0) h]
 simp [hi]
theorem IntsB.set {w:World} {b:Nat} {l:List Int} (h:IntsB w b l) (i:Nat) (v:Int):IntsB (w.setCell ⟨b,i,none⟩ (.int .i64 v)) b (l.set i v):=by
 have h1:=heap_set h (j:=i) (v:=.int .i64 v)
 unfold IntsB
 rw [h1,List.map_set]
 simp
theorem IntsB.mute {w:World} {b:Nat} {l:List Int} (h:IntsB w b l):Mute w b:=by
 refine ⟨_,_,_,h,fun i x hx=>?_⟩
 simp at hx
theorem IntsB.frozen {w:World} {b:Nat} {l:List Int} (h:IntsB w b l) (o:Nat):w.frozen? ⟨b,o,none⟩=false:=by
 unfold IntsB at h
 simp [World.frozen?,h]
section leaves
set_option maxHeartbeats 1000000
set_option maxRecDepth 10000
end leaves
def Uniq (m:WlM):Prop:=∀ i j (hi:i<m.splits.length) (hj:j<m.splits.length),m.splits[i].name=m.splits[j].name→i=j
theorem marks_rise (m:WlM) (q i:Nat) (hi:i<m.marks.length):m.marks[i]≤(risenM m q).marks[i]'(by rw [risenM_len];exact hi):=by
 unfold risenM
 split
 · rename_i hc
   simp only [Bool.and_eq_true,decide_eq_true_eq] at hc
   by_cases e:q=i
   · subst e
     have:=hc.2
     simp [List.getD,hi] at this
     simp;omega
   · simp [List.getElem_set,e]
 · exact Int.le_refl _
theorem readR_or (m:WlM) (r:Int):(readR m r).2.2≠0∨∃ (q k:Nat) (hq:q<m.marks.length) (hk:k<m.splits.length) (hlt:m.splits[k].read<m.splits[k].evs.length) (mk2:Int),r=q∧(m.splits[k].owner:Int)=r∧m.marks[q]≤mk2 ∧
 (readR m r).1=readM m k m.splits[k] (m.splits[k].evs[m.splits[k].read]) q∧(readR m r).2=(⟨q,m.splits[k].name,m.splits[k].evs[m.splits[k].read],decide ((m.splits[k].evs[m.splits[k].read]).t<m.marks[q]),mk2⟩,0):=by
 cases hb:isB m.marks.length r with
 | false=>left;simp [readR,hb]
 | true =>
   have hq:∃ q:Nat,r=q∧q<m.marks.length:=by
    simp only [isB,Bool.and_eq_true,decide_eq_true_eq] at hb
    exact ⟨r.toNat,by omega,by omega⟩
   obtain ⟨q,rfl,hq⟩:=hq
   cases hn:nextN m.splits q m.splits.length with
   | none=>left;simp [readR,hb,hn]
   | some p =>
     obtain ⟨k,n⟩:=p
     obtain ⟨hk,-,hrn,hne,hown⟩:=nextN_some (Nat.le_refl _) hn
     have hlt:m.splits[k].read<m.splits[k].evs.length:=by omega
     have h:=readR_some hq hk hlt hn
     right
     refine ⟨q,k,hq,hk,hlt,(readM m k m.splits[k] (m.splits[k].evs[m.splits[k].read]) q).marks.getD q 0,rfl,hown,?_,by rw [h],?_⟩
     · unfold readM
       have h1:=marks_rise { m.setS k (seenS m.bound m.splits[k] (m.splits[k].evs[m.splits[k].read]).t) with late:=if (m.splits[k].evs[m.splits[k].read]).t<m.marks.getD q 0 then m.late ++ [m.splits[k].evs[m.splits[k].read]] else m.late } q q hq
       have h2:q<(risenM { m.setS k (seenS m.bound m.splits[k] (m.splits[k].evs[m.splits[k].read]).t) with late:=if (m.splits[k].evs[m.splits[k].read]).t<m.marks.getD q 0 then m.late ++ [m.splits[k].evs[m.splits[k].read]] else m.late } q).marks.length:=by rw [risenM_len];exact hq
       rw [List.getD,List.getElem?_eq_getElem h2,Option.getD_some]
       exact h1
     · rw [h]
       simp [List.getD,hq]
def lateI (m:WlM) (r late:Int):Int:=if ((readR m r).2.2 == 0 && (readR m r).2.1.late)=true then late+1 else late
end Go.Proofs.YtimahogkcmmcnaaGreatDoor
namespace Go.Proofs.YtimahogkcmmcnaaGreatDoor
open Go.RowKit
def Floats (P:Program) (ops:Array Oper) (C:World→Prop) (Q:Exit→Act→World→Prop) (i t:Nat) (o0:Obj) (base:Nat) (n:Nat) (done:List Nat) (a:Act) (X:World→Prop):Prop :=
 (∀ W,X W→wpSeq P ops C Q (n+1) done a W)∧∀ W b,X W→W.heap[b]? = some o0→base≤b→wpSeq P ops C Q n (i :: done) (a.put (some t) (ptr b)) W
structure FloatOp (P:Program) (ops:Array Oper) (i t:Nat) (o0:Obj):Prop where
 at_:∃ o,ops[i]? = some o∧o.dst=some t∧(∀ y,Region.wanted o y=true)∧∀ (a:Act) (W:World) (K:Act→World→Prop),K (a.put (some t) (ptr W.heap.size)) (W.alloc o0)→o.wp P a W K NoOut
structure Stays (C:World→Prop) (o0:Obj) (base:Nat) (X:World→Prop):Prop where
 mono:∀ W,X W→X (W.alloc o0)
 cls:∀ W,X W→C W
 base:∀ W,X W→base≤W.heap.size
section
variable {P : Program} {ops : Array Oper} {C : World → Prop} {Q : Exit → Act → World → Prop} {i t : Nat} {o0 : Obj} {base n : Nat} {done : List Nat} {a : Act} {X : World → Prop}
theorem float_enter {w:World} (hx:X w) (h:Floats P ops C Q i t o0 base n done a X):wpSeq P ops C Q (n+1) done a w:=h.1 w hx
theorem alloc_below (W:World) (o:Obj):Below W.heap.size W (W.alloc o):=(Below.refl _ _).alloc (Nat.le_refl _) _
theorem float_exit (hF:FloatOp P ops i t o0) (hX:Stays C o0 base X) (hnew:∀ W:World,(W.alloc o0).heap[W.heap.size]? = some o0) (hf:freeRest ops [] done=[i]) (h:∀ W b,X W→W.heap[b]? = some o0→base≤b→wpSeq P ops C Q n (i :: done) (a.put (some t) (ptr b)) W) :
 Floats P ops C Q i t o0 base n done a X:=by
 refine ⟨fun W hW=>?_,h⟩
 obtain ⟨o,ho,hd,hw,hr⟩:=hF.at_
 refine seq_one i hf ho (hw _) fun K hK=>hr _ _ _ (hK _ _ rfl ?_ (h _ _ ?_ (hnew W) (hX.base W hW)))
 · exact hX.cls _ (hX.mono _ hW)
 · exact hX.mono _ hW
theorem float_call {ι:Type} {f:ι→Value} {Y:ι→World→Prop} {o:Oper} (j:Nat) (hg:GameG ops []) (hF:FloatOp P ops i t o0) (hX:Stays C o0 base X) (hY:∀ x,Stays C o0 base (Y x)) (hnew:∀ W:World,(W.alloc o0).heap[W.heap.size]? = some o0)
 (hf:freeRest ops [] done=[j,i]) (hf2:freeRest ops [] (i :: done)=[j]) (ho:ops[j]? = some o) (hji:j≠i) (hw:Region.wanted o (yielded ops a.tmps)=true)
 (hc:∀ W,X W→∀ K:Act→World→Prop,(∀ x a' W',a'=a.put o.dst (f x)→(∀ b,base≤b→b<W.heap.size→W'.heap[b]? = W.heap[b]?)→Y x W'→K a' W')→o.wp P a W K NoOut)
 (h:∀ x,Floats P ops C Q i t o0 base n (j :: done) (a.put o.dst (f x)) (Y x)):Floats P ops C Q i t o0 base (n+1) done a X:=by
 have hsel:=Region.noSelect_spec hg.sel
 obtain ⟨oi,hoi,hd,hwi,hr⟩:=hF.at_
 have hj:=(mem_free (done:=done) ho).1 (by rw [hf];exact List.mem_cons_self)
 have hi:=(mem_free (done:=done) hoi).1 (by rw [hf];simp)
 have wi:Region.waitsFor .any ops i j=true→False:=fun hw=>by
  obtain ⟨o2,ho2,x,hx,hb,hon⟩:=Region.waitsFor_spec hw
  rw [hoi] at ho2;injection ho2 with ho2;subst ho2
  exact hj.1 (hon ▸ hi.2 x hx hb)
 have wj:Region.waitsFor .any ops j i=true→False:=fun hw=>by
  obtain ⟨o2,ho2,x,hx,hb,hon⟩:=Region.waitsFor_spec hw
  rw [ho] at ho2;injection ho2 with ho2;subst ho2
  exact hi.1 (hon ▸ hj.2 x hx hb)
 have lj:∀ d,(some t:Option Nat)=some d→d ∉ o.looksAt ops:=fun d hdd hl=>by
  rcases hg.look ho hoi (hd.trans hdd) hl with h | h
  · exact wj h.2
  · exact wi h.2
 have hdd:∀ d,(some t:Option Nat)=some d→o.dst≠some d:=fun d hdt=>hg.dist ho hoi hji (hd.trans hdt)
 have hperm:∀ x,x ∈ i :: j :: done↔x ∈ j :: i :: done:=fun x=>by simp only [List.mem_cons];constructor <;> (rintro (h | h | h) <;> simp [h])
 have h2:∀ W b,X W→W.heap[b]? = some o0→base≤b→wpSeq P ops C Q (n+1) (i :: done) (a.put (some t) (ptr b)) W:=fun W b hW hb hbb=>by
  refine seq_one j hf2 ho (by rw [wanted_put o a (some t) (ptr b) lj];exact hw) fun K hK=>?_
  refine wp_move (K:=fun a' w'=>∃ x,a'=a.put o.dst (f x)∧(∀ b,base≤b→b<W.heap.size→w'.heap[b]? = W.heap[b]?)∧Y x w') (execOp_put o (fun cs b'=>hsel j o cs b' ho) a (some t) (ptr b) lj) (hc W hW _ fun x a' W' ha hb2 hy=>⟨x,ha,hb2,hy⟩) ?_ ?_
  · rintro v w' ⟨x,ha,hb2,hy⟩
    have hxe:(a.put (some t) (ptr b)).put o.dst v=(a.put (some t) (ptr b)).put o.dst (f x):=by
     rw [Act.put_comm a (ptr b) v (fun d hd h2=>hdd d hd h2),Act.put_comm a (ptr b) (f x) (fun d hd h2=>hdd d hd h2),ha]
    rw [hxe]
    refine hK _ _ (by cases o.dst <;> rfl) ((hY x).cls _ hy) ?_
    have:=seq_same n _ _ hperm ((h x).2 w' b hy ((hb2 b hbb (heap_lt hb)).trans hb) hbb)
    rwa [← Act.put_comm a (ptr b) (f x) (fun d hd h2=>hdd d hd h2)] at this
  · rintro a' w' ⟨x,rfl,_⟩
    cases o.dst <;> rfl
 refine ⟨fun W hW=>⟨fun hn=>(by rw [hf] at hn;cases hn),fun q hq o' ho'=>?_⟩,h2⟩
 rw [hf] at hq
 rcases List.mem_cons.1 hq with rfl | hq
 · rw [ho] at ho';injection ho' with ho';subst ho'
   rw [if_pos hw]
   exact hc W hW _ fun x a' W' ha hb hy=>⟨by subst ha;cases o.dst <;> rfl,(hY x).cls _ hy,by subst ha;exact (h x).1 W' hy⟩
 · rw [List.mem_singleton] at hq
   subst hq
   rw [hoi] at ho';injection ho' with ho';subst ho'
   rw [if_pos (hwi _)]
   exact hr _ _ _ ⟨rfl,hX.cls _ (hX.mono _ hW),h2 _ _ (hX.mono _ hW) (hnew W) (hX.base W hW)⟩
end
end Go.Proofs.YtimahogkcmmcnaaGreatDoor
