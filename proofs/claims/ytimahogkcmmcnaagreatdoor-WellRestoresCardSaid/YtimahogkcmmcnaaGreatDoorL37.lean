/-
 The well's state, part 7: a state's text is read, the walk. If the text is a well's.
-/
import Derived.Test.YtimahogkcmmcnaaGreatDoorL30
set_option linter.unusedSimpArgs false
set_option linter.unusedVariables false
namespace Go.Proofs.YtimahogkcmmcnaaGreatDoor
open Go.RowKit Go.Proofs.YtimahogkcmmcnaaGreatDoor.Cmps
theorem floatOp_alloc {ops:Array Oper} {i t:Nat} {o:Oper} (ho:ops[i]? = some o) (h1:o.dst=some t) (h2:o.op=.alloc 126) (h3:o.guard=none):FloatOp Tryz.prog ops i t (.cells #[.pointer none] 126):=by
 refine ⟨o,ho,h1,fun y=>by simp [Region.wanted,h3],fun a W K h=>?_⟩
 obtain ⟨d,op,ty,ps,af,gd⟩:=o
 subst h1
 subst h2
 subst h3
 go_simp
 exact h
def Took (w8:World) (s g:Nat) (l:List (List UInt8)) (W:World):Prop:=Only (fun y=>y=s) w8 W∧ScanAt W s g l false
theorem took_stays (w8:World) (s g:Nat) (l:List (List UInt8)) (o0:Obj):Stays (fun W=>Only (fun y=>y=s) w8 W) o0 w8.heap.size (Took w8 s g l) :=
 ⟨fun W h=>⟨h.1.alloc _,h.2.below (alloc_below _ _)⟩,fun W h=>h.1,fun W h=>h.1.size⟩
def TookX (w8:World) (s g:Nat) (l:List (List UInt8)) (xc:Obj) (xn:Nat) (W:World):Prop:=Took w8 s g l W∧W.heap[xn]? = some xc∧w8.heap.size≤xn
theorem tookX_stays (w8:World) (s g:Nat) (l:List (List UInt8)) (xc o0:Obj) (xn:Nat):Stays (fun W=>Only (fun y=>y=s) w8 W) o0 w8.heap.size (TookX w8 s g l xc xn) :=
 ⟨fun W h=>⟨⟨h.1.1.alloc _,h.1.2.below (alloc_below _ _)⟩,(Below.heap_alloc W _ _ (heap_lt h.2.1)).trans h.2.1,h.2.2⟩,fun W h=>h.1.1,fun W h=>h.1.1.size⟩
section leaves
set_option maxHeartbeats 4000000
set_option maxRecDepth 100000
theorem f74_any (hm:Tryz.prog.follows .mixedOrders=true) (w:World) (hT:Tabs w) (m:WlM) (hok:WOk m) (hn:∀ x ∈ m.splits,nameB x.name=true) (hu:Uniq m) (hgm:∀ x ∈ m.splits,x.done=false→x.mark≤1000000000000 - m.bound+1) :
 Calls Tryz.prog 74 #[.string ⟨(stateT m).toArray⟩,.int .i64 m.bound] w fun e w'=>∃ ma mc pa pc,e=.returned (.tuple #[.agg #[.bool m.sealed,.slice ma m.marks.length mc,.slice pa m.splits.length pc],.bool true])∧∃ xb gb mblk sblk,ScanRes w w' m (.slice ma m.marks.length mc) (.slice pa m.splits.length pc) xb gb mblk sblk:=by
 have mixed:=hm
 have HMX:=Lib.hid hm
 have HOK:=Lib.hid hok
 have HT:=Lib.hid hT
 have HN:=Lib.hid hn
 have HU:=Lib.hid hu
 have HGM:=Lib.hid hgm
 have h50:=hok.splits
 have h16:=hok.hi
 have hlo:=hok.lo
 have h2:=hT.two
 obtain ⟨n,hns⟩:∃ n,m.splits.length=n:=⟨_,rfl⟩
 obtain ⟨nm,hnm⟩:∃ n,m.marks.length=n:=⟨_,rfl⟩
 obtain ⟨bd,hbd⟩:∃ b,m.bound=b:=⟨_,rfl⟩
 have hbb:=hok.bound
 obtain ⟨L,hL⟩:∃ L,linesM m ++ [[]]=L:=⟨_,rfl⟩
 have HL:=Lib.hid hL
 have hlen:L.length=n+2:=by rw [← hL,← hns];simp [linesM]
 have HSP:Hid (∀ W,Below w.heap.size w W→Calls Tryz.prog 139 #[.string ⟨(stateT m).toArray⟩,.string ⟨#[10]⟩] W fun e w'=>∃ lb,e=.returned (.slice (some ⟨lb,0,none⟩) (n+2) (n+2))∧W.heap.size≤lb∧w'.heap[lb]? = some (.cells (strV L).toArray 9 (0,0))∧Below W.heap.size W w'):=fun W hb=>by
  have h:=split_strs W (hT.below hb) (stateT m) 10 L (by rw [split_state hn];exact hL) (by have:=state_le hok;omega)
  rw [hlen] at h
  refine h.mono ?_
  rintro e w' ⟨rfl,rfl⟩
  exact ⟨_,by simp,Nat.le_refl _,heap_alloc_new _ _,alloc_below _ _⟩
 obtain ⟨tx,htx⟩:∃ t:ByteArray,(⟨(stateT m).toArray⟩:ByteArray)=t:=⟨_,rfl⟩
 rw [htx] at HSP ⊢
 rw [hns] at h50
 rw [hnm] at h16 hlo
 rw [hbd] at hbb ⊢
 clear hok hT hn hu hgm hL htx
 have hzl:L[n+1]? = some []:=by rw [← HL.out,List.getElem?_append_right (by simp [linesM];omega)];simp [linesM,hns]
 obtain ⟨hdT,hhd⟩:∃ t,Lib.join (headW m) [32]=t:=⟨_,rfl⟩
 have hz0:L[0]? = some hdT:=by rw [← HL.out];simp [linesM,hhd]
 have HLN:Hid (∀ (W:World) (b:Nat),W.heap[b]? = some (.cells (strV L).toArray 9 (0,0))→W.cell? ⟨b,n+1,none⟩=some (.string ⟨#[]⟩)∧W.cell? ⟨b,0,none⟩=some (.string ⟨hdT.toArray⟩)):=fun W b h=>⟨strV_at h hzl,strV_at h hz0⟩
 obtain ⟨HW,hhw⟩:∃ t,headW m=t:=⟨_,rfl⟩
 have hhl:HW.length=nm+1:=by rw [← hhw,← hnm];simp [headW]
 have HHW:=Lib.hid hhw
 have HS2:Hid (∀ W,Below w.heap.size w W→Calls Tryz.prog 139 #[.string ⟨hdT.toArray⟩,.string ⟨#[32]⟩] W fun e w'=>∃ hb,e=.returned (.slice (some ⟨hb,0,none⟩) (nm+1) (nm+1))∧W.heap.size≤hb∧w'.heap[hb]? = some (.cells (strV HW).toArray 9 (0,0))∧Below W.heap.size W w'):=fun W hb=>by
  have h:=split_strs W (HT.out.below hb) hdT 32 HW (by rw [← hhd,← hhw];exact split_head m) (by rw [← hhd];have h1:=join_le (headW_len HOK.out);have h3:(headW m).length=m.marks.length+1:=(by simp [headW]);rw [h3] at h1;omega)
  rw [hhl] at h
  refine h.mono ?_
  rintro e w' ⟨rfl,rfl⟩
  exact ⟨_,by simp,Nat.le_refl _,heap_alloc_new _ _,alloc_below _ _⟩
 have hnn:IntKind.i64.wrap ((n:Int)+2 - 1)=(n:Int)+1:=by rw [wrapI (by omega)];omega
 have hn52:¬ (52:Int)<(n:Int)+2:=by omega
 have hn2:¬ (n:Int)+2<2:=by omega
 have hnx:(n:Int)+1<(n:Int)+2:=by omega
 have hn0:(0:Int)≤(n:Int)+1:=by omega
 have hnt:((n:Int)+1).toNat=n+1:=by omega
 have h53:(52:Nat)<n+2→False:=by omega
 obtain ⟨kb,hkb,hkm⟩:∃ k:Int,(if m.sealed then 1 else 0)=k∧(k=1↔m.sealed=true):=⟨_,rfl,by split <;> simp_all⟩
 have hk01:0≤kb∧kb≤1:=by rw [← hkb];split <;> omega
 have hHW:HW=Lib.itoa kb :: m.marks.map Lib.itoa:=by rw [← hhw,headW,bitT_itoa,hkb]
 have HSC:Hid (∀ (W:World) (g:Nat),W.heap[g]? = some (.cells (strV HW).toArray 9 (0,0))→Hid (ScanAt (W.alloc (.cells #[.slice (some ⟨g,0,none⟩) (nm+1) (nm+1),.bool false] 210)) W.heap.size g (Lib.itoa kb :: m.marks.map Lib.itoa) false)):=fun W g h=>by
  have:=scan_new h
  rw [hhl] at this
  rw [hHW] at this
  exact this
 have H140:Hid (∀ (W:World) (b g:Nat) (k lo hi:Int) (r:List (List UInt8)),Tabs W→2≤b→ScanAt W b g (Lib.itoa k :: r) false→lo≤k→k≤hi→(-10000000000000000≤k∧k≤10000000000000000)→Calls Tryz.prog 140 #[.pointer (some ⟨b,0,none⟩),.int .i64 lo,.int .i64 hi] W fun e w'=>e=.returned (.int .i64 k)∧ScanAt w' b g r false∧Only (fun y=>y=b) W w'):=fun W b g k lo hi r hT h2 hs h0 h1 hk=>by
  have h:=f140_any W hT b g k lo hi r false h2 hs h0 h1 hk
  unfold ptr at h
  exact h
 have HB3:Hid (∀ (W1 W2 W3:World) {o:Obj},Below w.heap.size w W1→Below W1.heap.size W1 W2→Below W2.heap.size W2 W3→Tabs (W3.alloc o)∧2≤W3.heap.size):=fun W1 W2 W3 o b1 b2 b3=>by
  have b:=(b1.trans (b2.mono b1.size)).trans (b3.mono (b1.trans (b2.mono b1.size)).size)
  exact ⟨HT.out.below (b.alloc b.size _),by have:=b.size;omega⟩
 clear hzl hz0 hhd hhw hHW hkb
 go_enter Tryz.func74,Tryz.ntmps74
 have B1:Below w.heap.size w (w.alloc (.cells #[.bool false,.slice none 0 0,.slice none 0 0] 140)):=alloc_below _ _
 have X1:=heap_alloc_new w (.cells #[.bool false,.slice none 0 0,.slice none 0 0] 140)
 go_wp2_with (first
  | (go_at_call 139
     refine (HSP.out _ B1).mono ?_
     rintro e w2 ⟨lb,rfl,hl2,x2,b2⟩
     obtain ⟨c1,c10⟩:=HLN.out _ _ x2
     have X2:=Lib.hid x2
     have B2:=Lib.hid b2
     clear x2 b2)
  | (go_at_call 139
     refine (HS2.out _ (B1.trans (B2.out.mono B1.size))).mono ?_
     rintro e w3 ⟨sb,rfl,hl3,x3,b3⟩
     have HS3:=HSC.out _ _ x3
     have B3:=Lib.hid b3
     clear x3 b3)
  | (go_at_call 140
     have q1:=(HB3.out _ _ _ B1 B2.out B3.out (o:=.cells #[.slice (some ⟨sb,0,none⟩) (nm+1) (nm+1),.bool false] 210))
     have q2:=H140.out _ _ _ kb 0 1 _ q1.1 q1.2 HS3.out (by omega) (by omega) (by omega)
     refine q2.mono ?_
     rintro e w4 ⟨rfl,hs4,ho4⟩
     clear q1 q2
     have HS4:=Lib.hid hs4
     have HO4:=Lib.hid ho4
     clear hs4 ho4))
 have hsl:(kb == 1)=m.sealed:=by
  by_cases h:kb=1
  · rw [hkm.1 h];simp [h]
  · cases hs:m.sealed with
    | true=>exact absurd (hkm.2 hs) h
    | false=>simpa using h
 rw [hsl]
 have BQ:Below w2.heap.size w2 (w4.alloc (.cells #[.bool m.sealed,.slice none 0 0,.slice none 0 0] 140)):=by
  have b3a:=B3.out.alloc B3.out.size (.cells #[.slice (some ⟨sb,0,none⟩) (nm+1) (nm+1),.bool false] 210)
  have b4:=b3a.trans (HO4.out.below (B:=w2.heap.size) (by have:=b3a.size;omega) (fun x hx=>by subst hx;exact B3.out.size))
  exact b4.alloc b4.size _
 have BP:=B2.out.trans (BQ.mono B2.out.size)
 have BW:=B1.trans (BP.mono B1.size)
 have hrb:=(BP.block _ (heap_lt X1)).trans X1
 have hlb:=(BQ.block _ (heap_lt X2.out)).trans X2.out
 have hsz:w.heap.size<w2.heap.size:=by have:=heap_lt X1;have:=B2.out.size;omega
 have hlb1:w.heap.size<lb:=by have:=heap_lt X1;omega
 have HHD:Hid (Heads (w4.alloc (.cells #[.bool m.sealed,.slice none 0 0,.slice none 0 0] 140)) (w4.alloc (.cells #[.bool m.sealed,.slice none 0 0,.slice none 0 0] 140)) w4.heap.size w3.heap.size sb m.sealed (.slice none 0 0) [] (m.marks.map Lib.itoa) none):=by
  have h1:=HS4.out.lt
  have h3:=HS4.out.glt
  have h4:=B3.out.size
  have h0:∀ b,(none:Option Nat)=some b→(w4.alloc (.cells #[.bool m.sealed,.slice none 0 0,.slice none 0 0] 140)).heap.size≤b:=fun _ h=>nomatch h
  exact ⟨heap_alloc_new _ _,SlOwn.nil _ _ _,HS4.out.below (alloc_below _ _),h0,Only.refl _ _,HT.out.below BW,by simp;omega,by simp,by simp;omega,by omega,by omega,by omega,by omega⟩
 have hob:w2.heap.size≤w4.heap.size∧w2.heap.size≤w3.heap.size:=by have:=B3.out.size;have:=HO4.out.size;simp at this;omega
 have hl2':=heap_lt X2.out
 clear X1 X2 B1 B2 B3 HS3 HS4 HO4 BQ BP hl2 hl3 c1 c10 HSC HS2 HSP HB3 hkm hk01
 generalize w4.alloc (.cells #[.bool m.sealed,.slice none 0 0,.slice none 0 0] 140)=w5 at BW hrb hlb HHD ⊢
 generalize w4.heap.size=ob at HHD hob ⊢
 generalize w3.heap.size=hb at HHD hob ⊢
 have HBW:=Lib.hid BW;have HRB:=Lib.hid hrb;have HLB:=Lib.hid hlb
 clear BW hrb hlb
 clear hnn hn52 hn2 hnx hn0 hnt h53
 go_loopw [63] (fun _ wr=>∃ (k:Nat) (mv:Value) (blk:Option Nat),k≤nm∧Hid (Heads w5 wr ob hb sb m.sealed mv (m.marks.take k) ((m.marks.drop k).map Lib.itoa) blk)) (fun _ wr=>nm - lenOf (wr.cell? ⟨ob,1,none⟩))
 case atStart=>exact ⟨0,_,_,by omega,by simpa using HHD⟩
 clear HHD
 obtain ⟨k,mv,blk,hk,hh⟩:=hrel
 have hkl:(m.marks.take k).length=k:=by simp;omega
 have hrl:((m.marks.drop k).map Lib.itoa).length=nm - k:=by simp;omega
 obtain ⟨ma,mc,hmv⟩:=hh.out.own.form
 rw [hkl] at hmv
 subst hmv
 obtain ⟨sa,sc,hs1,-⟩:=hh.out.scan
 rw [hrl] at hs1
 have d0:=cells_at hs1 0
 have e1:=cells_at hh.out.out 1
 by_cases hlt:k<nm
 · have hmk:=HOK.out.marks m.marks[k] (List.getElem_mem (by omega))
   have h0:(0:Int)<((nm - k:Nat):Int):=by omega
   have h16k:(k:Int)≤16:=by omega
   have hdr:(m.marks.drop k).map Lib.itoa=Lib.itoa m.marks[k] :: (m.marks.drop (k+1)).map Lib.itoa:=by rw [List.drop_eq_getElem_cons (by omega)];rfl
   have htk:m.marks.take (k+1)=m.marks.take k ++ [m.marks[k]]:=(List.take_append_getElem (by omega)).symm
   rw [hdr] at hh
   generalize m.marks[k]=x at hmk hdr htk hh
   have HTK:=Lib.hid htk
   clear htk hdr hs1
   go_wp2_with fail
   have HD:=Lib.hid hh.out.drew
   have HOB:=Lib.hid hh.out.out
   obtain ⟨l1,l2,l3,l4,l5,l6,l7⟩:=hh.out.lt
   obtain ⟨i0,hi0,hz0,hz1,hz2⟩:=info_parts info3
   have HE1:=Lib.hid e1
   clear d0 e1 hh
   refine wp_region_float 3 3 (fun W=>W.heap[ob]? = some (.cells #[.bool m.sealed,.slice ma k mc,.slice none 0 0] 140 (0,0))) mixed (by kernel_rfl) HOB.out ?_
   simp only [List.take_succ_cons,List.take_zero,List.drop_succ_cons,List.drop_zero]
   iterate 3 (
    refine wpFloat_ex (fun K hK=>?_)
    apply Exists.intro
    refine ⟨fun W hW=>?_,?_⟩
    · have e1:=cells_at hW 1
      clear hW
      go_simp
      rfl
    go_simp
    refine hK _ ?_
    clear hK K)
   refine wpFloat_nil ?_
   refine wpChain_step (fun K hK=>?_)
   go_simp
   go_at_call 140
   refine (H140.out _ hb sb x _ _ _ HD.out.tab l6 HD.out.scan hmk.1 hmk.2 (by omega)).mono ?_
   rintro e w6 ⟨rfl,hs6,ho6⟩
   have H6:=HD.out.call hs6 ho6
   refine hK _ _ rfl (fun _=>H6.out) ?_
   clear hK K hs6 ho6
   refine wpChain_step (fun K hK=>?_)
   go_simp
   refine hK _ _ rfl (fun _=>(Below.heap_alloc w6 _ _ (heap_lt H6.out)).trans H6.out) ?_
   clear hK K
   have hown6:SlOwn (w6.alloc (.cells #[.int .i64 x] 3)) 3 1 (.slice ma k mc) k ((m.marks.take k).map (Value.int .i64)) blk:=by
    have h:=H6.own.keep (w':=w6.alloc (.cells #[.int .i64 x] 3)) fun b hb2=>Below.heap_alloc w6 _ _ (H6.own.lt_of hb2)
    rw [hkl] at h
    exact h
   have hsrc:Src (w6.alloc (.cells #[.int .i64 x] 3)) 1 (.slice (some ⟨w6.heap.size,0,none⟩) 1 1) 1 [.int .i64 x]:=SlOwn.src (e:=3) (blk:=some w6.heap.size) ⟨rfl,.inr ⟨_,0,1,_,rfl,rfl,World.alloc_heap_new w6 _,Nat.le_refl _,by simp [maxLen],by simp,rfl⟩⟩
   have hone:∀ u ∈ [Value.int .i64 x],u.oneCell'=true:=fun u hu=>by simp only [List.mem_cons,List.not_mem_nil,or_false] at hu;subst hu;rfl
   refine wpChain_step (fun K hK=>?_)
   refine wp_append_S (.tmp 61) (.tmp 64) 31 rfl 3 i0 _ 1 8 Tryz.underlying31 hi0 hz0 hz1 hz2 rfl (by omega) (.slice ma k mc) k ((m.marks.take k).map (Value.int .i64)) blk rfl hown6 (.slice (some ⟨w6.heap.size,0,none⟩) 1 1) 1 [.int .i64 x] rfl hsrc hone (by simp only [maxLen];omega) (by omega) ?_
   intro v7 w7 bk7 hown7 hgrow7 hat7
   obtain ⟨a7,c7,rfl⟩:=hown7.form
   have H7:=H6.put (k:=x) (by rw [hkl];exact hown7) hgrow7 hat7
   rw [← HTK.out] at H7
   have hb7:w7.heap[ob]? = some (.cells #[.bool m.sealed,.slice ma k mc,.slice none 0 0] 140 (0,0)):=(hgrow7.block _ (by have:=heap_lt H6.out;simp;omega) (fun e=>by have:=H6.new _ e.symm;omega)).trans ((Below.heap_alloc w6 _ _ (heap_lt H6.out)).trans H6.out)
   refine hK _ _ rfl (fun _=>hb7) ?_
   clear hK K
   have q1:=cells_at hb7 1
   have hf7:w7.frozen? ⟨ob,1,none⟩=false:=by simp [World.frozen?,hb7]
   have HF7:=Lib.hid H7
   clear H7 hb7 hown7 hgrow7 hat7 hown6 hsrc H6
   iterate 2 (
    refine wpChain_step (fun K hK=>?_)
    go_simp
    refine hK _ _ rfl (fun h=>by omega) ?_
    clear hK K)
   refine wpChain_nil ?_
   go_wp2_with fail
   go_roundw
   case rel=>exact ⟨k+1,_,_,by omega,HF7⟩
   case measure =>
    have z1:=cells_at HF7.out.out 1
    have z2:=HE1.out
    rw [z1,z2]
    simp [lenOf]
    omega
 · have hkn:k=nm:=by omega
   have hx0:¬ (0:Int)<((nm - k:Nat):Int):=by omega
   have hx1:¬ (k:Int)<1:=by omega
   have hx2:¬ (16:Int)<(k:Int):=by omega
   have hx3:IntKind.i64.wrap ((n:Int)+2 - 1)=(n:Int)+1:=by rw [wrapI (by omega)];omega
   have hx4:(1:Int)≤(n:Int)+1:=by omega
   have hx5:(0:Int)≤(n:Int)+1:=by omega
   have hx6:(n:Int)+1≤(n:Int)+2:=by omega
   have hx7:((n:Int)+1).toNat=n+1:=by omega
   have d1:=cells_at hs1 1
   have HH:=Lib.hid hh.out
   clear hs1 hh
   go_wp2_with fail
   subst hkn
   have hmt:m.marks.take k=m.marks:=by rw [← hnm,List.take_length]
   have hmown:=HH.out.own
   rw [hmt] at hmown
   have HMO:=Lib.hid hmown
   have hlt7:=HH.out.lt
   have hon:=HH.out.only
   have hsz6:=hon.size
   have hbw6:Below w.heap.size w wr:=HBW.out.trans (hon.below (by have:=HBW.out.size;omega) (fun x hx=>by rcases hx with rfl | rfl <;> omega))
   have hrb6:=(hon.block _ (heap_lt HRB.out) (fun e=>by rcases e with e | e <;> omega)).trans HRB.out
   have hlb6:=(hon.block _ (heap_lt HLB.out) (fun e=>by rcases e with e | e <;> omega)).trans HLB.out
   have HLI:Hid (Lines wr wr ob m.sealed (.slice ma k mc) (.slice none 0 0) bd [] (fun _=>0) (fun _=>0) none) :=
    ⟨HH.out.out,SlOwn.nil _ _ _,fun k hk=>absurd hk (by simp),fun j k _ hk=>absurd hk (by simp),(fun b e=>by cases e),Only.refl _ _,by omega⟩
   have HBW6:=Lib.hid hbw6;have HRB6:=Lib.hid hrb6;have HLB6:=Lib.hid hlb6
   have hob6:w.heap.size<ob∧lb<ob∧ob<wr.heap.size:=by omega
   have htab6:=Lib.hid HH.out.tab
   have hmne:∀ b,blk=some b→b≠ob:=fun b e=>by have:=HH.out.new b e;omega
   have HMNE:=Lib.hid hmne
   have HMN2:Hid (∀ b,blk=some b→w.heap.size<b):=fun b e=>by have:=HH.out.new b e;omega
   clear hmown hmt hon hbw6 hrb6 hlb6 hmne d1 d0 e1 hlt hx0 hx1 hx2 hx3 hx4 hx5 hx6 hx7 HH
   generalize hw6:wr=w6 at HLI HBW6 HRB6 HLB6 htab6 hob6 HMO ⊢
   go_loopw [90] (fun i W=>∃ (q:Nat) (spv:Value) (xb gb:Nat→Nat) (sblk:Option Nat),q≤n∧i=.int .i64 q∧Hid (Lines w6 W ob m.sealed (.slice ma k mc) spv bd (m.splits.take q) xb gb sblk)) (fun i _=>n - (intOf i).toNat)
   case atStart=>exact ⟨0,_,_,_,_,by omega,rfl,by simpa using HLI⟩
   clear HLI hw6
   obtain ⟨q,spv,xb,gb,sblk,hq,rfl,hln⟩:=hrel
   have htl:(m.splits.take q).length=q:=by simp;omega
   have hon:=hln.out.only
   have hbw:Below w.heap.size w wr:=HBW6.out.trans (hon.below HBW6.out.size (fun x hx=>by subst hx;omega))
   have hlbr:=(hon.block _ (heap_lt HLB6.out) (by omega)).trans HLB6.out
   by_cases hlt:q<n
   · have hql:q<m.splits.length:=by omega
     have hmem:=List.getElem_mem hql
     have hnb:=HN.out _ hmem
     have hown1:=HOK.out.owner _ hmem
     have hrd1:=HOK.out.read _ hmem
     have hmk:=mark_bounds HOK.out hmem
     have hgm:=HGM.out _ hmem
     have hnm16:=HOK.out.name _ hmem
     have hev4:m.splits[q].read≤400:=by
      have:=allN_take hql
      have:=allN_le m.splits (q+1)
      have:=HOK.out.all
      omega
     have hzq:L[1+q]? = some (Lib.join (words6 m.bound m.splits[q]) [32]):=by
      rw [← HL.out,linesM,List.getElem?_append_left (by simp;omega)]
      simp [Nat.add_comm,hql]
     have hjl:(Lib.join (words6 m.bound m.splits[q]) [32]).length≤100000:=by
      rw [← line_words]
      have:=join_le (lineW_len HOK.out hmem)
      have h2:(lineW m.bound m.splits[q]).length=5:=rfl
      omega
     have hsp6:Lib.split (Lib.join (words6 m.bound m.splits[q]) [32]) [32]=words6 m.bound m.splits[q]:=split_line hnb
     have huq:∀ j (h:j<m.splits.length),j<q→m.splits[j].name≠m.splits[q].name:=fun j hj hjq e=>by have:=HU.out j q hj hql e;omega
     have htk:m.splits.take (q+1)=m.splits.take q ++ [m.splits[q]]:=(List.take_append_getElem hql).symm
     rw [hbd] at hzq hjl hsp6 hgm
     rw [hnm] at hown1
     generalize m.splits[q]=x at hmem hnb hown1 hrd1 hmk hgm hnm16 hev4 hzq hjl hsp6 huq htk
     have HTK:=Lib.hid htk;have HUQ:=Lib.hid huq;have HNB:=Lib.hid hnb
     obtain ⟨jn,hjn⟩:∃ j,Lib.join (words6 bd x) [32]=j:=⟨_,rfl⟩
     rw [hjn] at hzq hjl hsp6
     have HS3:Hid (∀ W,Below w.heap.size w W→Calls Tryz.prog 139 #[.string ⟨jn.toArray⟩,.string ⟨#[32]⟩] W fun e w'=>∃ b,e=.returned (.slice (some ⟨b,0,none⟩) 6 6)∧W.heap.size≤b∧w'.heap[b]? = some (.cells (strV (words6 bd x)).toArray 9 (0,0))∧Below W.heap.size W w'):=fun W hb=>by
      have h:=split_strs W (HT.out.below hb) jn 32 (words6 bd x) hsp6 (by omega)
      refine h.mono ?_
      rintro e w' ⟨rfl,rfl⟩
      exact ⟨_,rfl,Nat.le_refl _,heap_alloc_new _ _,alloc_below _ _⟩
     have x0:wr.cell? ⟨lb,1+q,none⟩=some (.string ⟨jn.toArray⟩):=strV_at hlbr hzq
     have HBW:=Lib.hid hbw
     have HLN:=Lib.hid hln.out
     have hqn:(q:Int)<(n:Int):=by omega
     have hq0:(0:Int)≤(q:Int):=by omega
     clear hzq hsp6 huq htk hmem hnb hbw hlbr hon hln hjn hjl
     go_wp2_with (go_at_call 139;refine (HS3.out _ HBW.out).mono ?_;rintro e w7 ⟨g7,rfl,hl7,x7,b7⟩;have X7:=Lib.hid x7;have B7:=Lib.hid b7;clear x7 b7)
     have hs0:=scan_new X7.out
     have bd8:Below wr.heap.size wr (w7.alloc (.cells #[.slice (some ⟨g7,0,none⟩) 6 6,.bool false] 210)):=B7.out.alloc B7.out.size _
     have hsw:wr.heap.size≤w7.heap.size∧w7.heap.size<(w7.alloc (.cells #[.slice (some ⟨g7,0,none⟩) 6 6,.bool false] 210)).heap.size:=⟨B7.out.size,by simp⟩
     obtain ⟨ks,hks,hks1,hks2⟩:∃ ks:Int,bitT x.sealed=Lib.itoa ks∧(ks == 1)=x.sealed∧(0≤ks∧ks≤1):=⟨if x.sealed then 1 else 0,bitT_itoa _,by cases x.sealed <;> rfl,by split <;> omega⟩
     have hs1:ScanAt (w7.alloc (.cells #[.slice (some ⟨g7,0,none⟩) 6 6,.bool false] 210)) w7.heap.size g7 (x.name.data.toList :: Lib.itoa x.owner :: Lib.itoa x.read :: Lib.itoa ks :: [Lib.itoa bd,gmT x]) false:=by rw [← hks];exact hs0
     clear hs0 X7 B7 hl7 x0
     generalize w7.alloc (.cells #[.slice (some ⟨g7,0,none⟩) 6 6,.bool false] 210)=w8 at bd8 hsw hs1 ⊢
     generalize w7.heap.size=s at hsw hs1 ⊢
     have hl8:=HLN.out.same bd8
     have hol:=heap_lt HLN.out.out
     have hbw8:Below w.heap.size w w8:=HBW.out.trans (bd8.mono HBW.out.size)
     have hw2:=HBW.out.size
     have HL8:=Lib.hid hl8;have HBW8:=Lib.hid hbw8;have HB8:=Lib.hid bd8
     have HOC:Hid (∀ W,Only (fun y=>y=s) w8 W→W.cell? ⟨ob,1,none⟩=some (.slice ma k mc)):=fun W ho=>cells_at ((ho.block ob (heap_lt HL8.out.out) (by omega)).trans HL8.out.out) 1
     have hs2:2≤s:=by omega
     have HTB:Hid (∀ W,Only (fun y=>y=s) w8 W→Tabs W):=fun W ho=>(HT.out.below HBW8.out).only (by omega) ho
     have hk1:IntKind.i64.wrap ((k:Int) - 1)=(k:Int) - 1:=wrapI (by omega)
     have hC:Only (fun y=>y=s) w8 w8.drew:=(Only.refl _ _).drew
     have hX0:Took w8 s g7 (x.name.data.toList :: Lib.itoa x.owner :: Lib.itoa x.read :: Lib.itoa ks :: [Lib.itoa bd,gmT x]) w8.drew:=⟨hC,hs1.keep rfl rfl (Nat.le_refl _)⟩
     have H141:Hid (∀ (W:World) (r:List (List UInt8)),ScanAt W s g7 (x.name.data.toList :: r) false→Calls Tryz.prog 141 #[.pointer (some ⟨s,0,none⟩)] W fun e w'=>e=.returned (.string x.name)∧ScanAt w' s g7 r false∧Only (fun y=>y=s) W w'):=fun W r h=>by
      have h:=f141_any W s g7 _ r false h
      rw [mk_list] at h
      unfold ptr at h
      exact h
     have hg7:=hs1.glt.1
     clear hl8 hbw8 bd8 hs1 hw2
     refine wp_region_ord [0,2,3,4,5,6,8,10,1,7,9,11,12,13,14,15,16] (fun W=>Only (fun y=>y=s) w8 W) mixed (by kernel_rfl) (fun hg=>?_)
     generalize w8.drew=wd at hC hX0 ⊢
     iterate 8 (refine ord_rd hg hC (fun K hK=>?_);apply Exists.intro;refine ⟨fun W hW=>?_,?_⟩;(· have e1:=HOC.out W hW;go_simp;first | rfl | (rw [if_neg (by omega)];done));go_simp;refine hK _ ?_;clear hK K)
     refine float_enter (n:=8) (i:=15) (t:=13) (o0:=.cells #[.pointer none] 126) (base:=w8.heap.size) (X:=Took w8 s g7 (x.name.data.toList :: Lib.itoa x.owner :: Lib.itoa x.read :: Lib.itoa ks :: [Lib.itoa bd,gmT x])) hX0 ?_
     refine float_call (f:=fun _:Nat=>.string x.name) (Y:=fun _=>Took w8 s g7 (Lib.itoa x.owner :: Lib.itoa x.read :: Lib.itoa ks :: [Lib.itoa bd,gmT x])) 1 hg (by exact floatOp_alloc rfl rfl rfl rfl) (took_stays _ _ _ _ _) (fun _=>took_stays _ _ _ _ _) (fun W=>heap_alloc_new W _) (by kernel_rfl) (by kernel_rfl) rfl (by decide) (by first | rfl | (simp [Region.wanted,yielded];done)) (fun W hW K hK=>?_) (fun _=>?_)
     · go_simp
       go_at_call 141
       refine (H141.out W _ hW.2).mono ?_
       rintro e w9 ⟨rfl,hs9,ho9⟩
       exact hK 0 _ _ rfl (fun b h1 h2=>ho9.block b h2 (by omega)) ⟨hW.1.trans ho9 (fun _ _ h=>h),hs9⟩
     go_simp
     refine float_call (f:=fun _:Nat=>.int .i64 x.owner) (Y:=fun _=>Took w8 s g7 (Lib.itoa x.read :: Lib.itoa ks :: [Lib.itoa bd,gmT x])) 7 hg (by exact floatOp_alloc rfl rfl rfl rfl) (took_stays _ _ _ _ _) (fun _=>took_stays _ _ _ _ _) (fun W=>heap_alloc_new W _) (by kernel_rfl) (by kernel_rfl) rfl (by decide) (by first | rfl | (simp [Region.wanted,yielded];done)) (fun W hW K hK=>?_) (fun _=>?_)
     · go_simp
       go_at_call 140
       refine (H140.out W s g7 x.owner 0 _ _ (HTB.out W hW.1) hs2 hW.2 (by omega) (by omega) (by omega)).mono ?_
       rintro e w9 ⟨rfl,hs9,ho9⟩
       exact hK 0 _ _ rfl (fun b h1 h2=>ho9.block b h2 (by omega)) ⟨hW.1.trans ho9 (fun _ _ h=>h),hs9⟩
     go_simp
     refine float_call (f:=fun _:Nat=>.int .i64 x.read) (Y:=fun _=>Took w8 s g7 (Lib.itoa ks :: [Lib.itoa bd,gmT x])) 9 hg (by exact floatOp_alloc rfl rfl rfl rfl) (took_stays _ _ _ _ _) (fun _=>took_stays _ _ _ _ _) (fun W=>heap_alloc_new W _) (by kernel_rfl) (by kernel_rfl) rfl (by decide) (by first | rfl | (simp [Region.wanted,yielded];done)) (fun W hW K hK=>?_) (fun _=>?_)
     · go_simp
       go_at_call 140
       refine (H140.out W s g7 x.read 0 _ _ (HTB.out W hW.1) hs2 hW.2 (by omega) (by omega) (by omega)).mono ?_
       rintro e w9 ⟨rfl,hs9,ho9⟩
       exact hK 0 _ _ rfl (fun b h1 h2=>ho9.block b h2 (by omega)) ⟨hW.1.trans ho9 (fun _ _ h=>h),hs9⟩
     go_simp
     refine float_call (f:=fun _:Nat=>.int .i64 ks) (Y:=fun _=>Took w8 s g7 [Lib.itoa bd,gmT x]) 11 hg (by exact floatOp_alloc rfl rfl rfl rfl) (took_stays _ _ _ _ _) (fun _=>took_stays _ _ _ _ _) (fun W=>heap_alloc_new W _) (by kernel_rfl) (by kernel_rfl) rfl (by decide) (by first | rfl | (simp [Region.wanted,yielded];done)) (fun W hW K hK=>?_) (fun _=>?_)
     · go_simp
       go_at_call 140
       refine (H140.out W s g7 ks 0 _ _ (HTB.out W hW.1) hs2 hW.2 (by omega) (by omega) (by omega)).mono ?_
       rintro e w9 ⟨rfl,hs9,ho9⟩
       exact hK 0 _ _ rfl (fun b h1 h2=>ho9.block b h2 (by omega)) ⟨hW.1.trans ho9 (fun _ _ h=>h),hs9⟩
     go_simp
     refine float_call (f:=fun _:Nat=>.bool x.sealed) (Y:=fun _=>Took w8 s g7 [Lib.itoa bd,gmT x]) 12 hg (by exact floatOp_alloc rfl rfl rfl rfl) (took_stays _ _ _ _ _) (fun _=>took_stays _ _ _ _ _) (fun W=>heap_alloc_new W _) (by kernel_rfl) (by kernel_rfl) rfl (by decide) (by first | rfl | (simp [Region.wanted,yielded];done)) (fun W hW K hK=>?_) (fun _=>?_)
     · go_simp
       try rw [hks1]
       exact hK 0 _ _ rfl (fun b _ _=>rfl) hW
     go_simp
     refine float_call (f:=fun _:Nat=>.agg #[.string x.name,.slice none 0 0,.int .i64 x.read,.pointer none,.bool x.sealed,.int .i64 x.owner]) (Y:=fun _=>Took w8 s g7 [Lib.itoa bd,gmT x]) 13 hg (by exact floatOp_alloc rfl rfl rfl rfl) (took_stays _ _ _ _ _) (fun _=>took_stays _ _ _ _ _) (fun W=>heap_alloc_new W _) (by kernel_rfl) (by kernel_rfl) rfl (by decide) (by first | rfl | (simp [Region.wanted,yielded];done)) (fun W hW K hK=>?_) (fun _=>?_)
     · go_simp
       exact hK 0 _ _ rfl (fun b _ _=>rfl) hW
     go_simp
     refine float_call (f:=fun y=>.pointer (some ⟨y,0,none⟩)) (Y:=fun y=>TookX w8 s g7 [Lib.itoa bd,gmT x] (.cells #[.string x.name,.slice none 0 0,.int .i64 x.read,.pointer none,.bool x.sealed,.int .i64 x.owner] 129) y) 14 hg (by exact floatOp_alloc rfl rfl rfl rfl) (took_stays _ _ _ _ _) (fun y=>tookX_stays _ _ _ _ _ _ _) (fun W=>heap_alloc_new W _) (by kernel_rfl) (by kernel_rfl) rfl (by decide) (by first | rfl | (simp [Region.wanted,yielded];done)) (fun W hW K hK=>?_) (fun xn=>?_)
     · go_simp
       exact hK W.heap.size _ _ rfl (fun b h1 h2=>Below.heap_alloc W _ _ h2) ⟨⟨hW.1.alloc _,hW.2.below (alloc_below _ _)⟩,heap_alloc_new _ _,hW.1.size⟩
     go_simp
     refine float_exit (by exact floatOp_alloc rfl rfl rfl rfl) (tookX_stays _ _ _ _ _ _ _) (fun W=>heap_alloc_new W _) (by kernel_rfl) (fun W vb hX hvb hvl=>?_)
     unfold ptr
     go_simp
     show wpOrd Tryz.prog _ _ _ [16] _ _ _
     refine ord_on (fun K hK=>?_)
     have v0:=cells_at hvb 0
     have hvf:W.frozen? ⟨vb,0,none⟩=false:=by simp [World.frozen?,hvb]
     go_simp
     refine hK _ _ rfl (hX.1.1.setCell (p:=⟨vb,0,none⟩) (fun h=>absurd hvl (Nat.not_le.2 h)) _) ?_
     clear hK K
     refine ord_end (by kernel_rfl) ?_
     have hxv:xn≠vb:=fun e=>by
      have h1:=hX.2.1
      rw [e,hvb] at h1
      injection h1 with h1
      injection h1 with _ h1
      cases h1
     have hx9:=(heap_set_ne (w:=W) (j:=0) (.pointer (some ⟨xn,0,none⟩)) hxv).trans hX.2.1
     have hv9:=heap_set (j:=0) (v:=.pointer (some ⟨xn,0,none⟩)) hvb
     have hs9:ScanAt (W.setCell ⟨vb,0,none⟩ (.pointer (some ⟨xn,0,none⟩))) s g7 [Lib.itoa bd,gmT x] false:=hX.1.2.keep (heap_set_ne _ (by omega)) (heap_set_ne _ (by omega)) (by simp)
     have ho9:Only (fun y=>y=s) w8 (W.setCell ⟨vb,0,none⟩ (.pointer (some ⟨xn,0,none⟩))):=hX.1.1.setCell (p:=⟨vb,0,none⟩) (fun h=>absurd hvl (Nat.not_le.2 h)) _
     have hxl:=hX.2.2
     have hxl2:=heap_lt hX.2.1
     have hz9:(W.setCell ⟨vb,0,none⟩ (.pointer (some ⟨xn,0,none⟩))).heap.size=W.heap.size:=by simp
     have hvl2:=heap_lt hvb
     clear hX hvb v0 hvf
     generalize W.setCell ⟨vb,0,none⟩ (.pointer (some ⟨xn,0,none⟩))=w9 at hx9 hv9 hs9 ho9 hz9 ⊢
     have hb9:Below wr.heap.size wr w9:=HB8.out.trans (ho9.below (B:=wr.heap.size) HB8.out.size (fun y hy=>by subst hy;exact hsw.1))
     have hl9:=HLN.out.same hb9
     obtain ⟨pa,pc,hpv⟩:=hl9.own.form
     rw [htl] at hpv
     subst hpv
     obtain ⟨sa9,sc9,hsc9,hsl9,-,-,hsw9⟩:=hs9
     replace hsw9:=hsw9.resolve_left (by simp)
     obtain ⟨so9,rfl,hsw9⟩:=hsw9
     have htb9:Tabs w9:=HTB.out _ ho9
     have HCL:Hid (∀ W,Below w9.heap.size w9 W→W.cell? ⟨s,0,none⟩=some (.slice (some ⟨g7,so9,none⟩) 2 sc9)∧W.cell? ⟨s,1,none⟩=some (.bool false)∧W.cell? ⟨vb,0,none⟩=some (.pointer (some ⟨xn,0,none⟩))∧W.cell? ⟨xn,0,none⟩=some (.string x.name)∧W.cell? ⟨ob,2,none⟩=some (.slice pa q pc)∧W.frozen? ⟨xn,3,none⟩=false∧W.cell? ⟨xn,3,none⟩=some (.pointer none)∧Tabs W):=fun W hb=>by
      have g1:=(hb.block _ (heap_lt hsc9)).trans hsc9
      have g2:=(hb.block _ (heap_lt hv9)).trans hv9
      have g3:=(hb.block _ (heap_lt hx9)).trans hx9
      have g4:=(hb.block _ (heap_lt hl9.out)).trans hl9.out
      exact ⟨cells_at g1 0,cells_at g1 1,by rw [cells_at g2 0];rfl,cells_at g3 0,cells_at g4 2,by simp [World.frozen?,g3],cells_at g3 3,htb9.below hb⟩
     have H85:Hid (∀ W,Below w9.heap.size w9 W→Calls Tryz.prog 85 #[.slice (some ⟨g7,so9,none⟩) 2 sc9,.string ⟨#[32]⟩] W fun e w'=>e=.returned (.string ⟨(gaugeT bd x.mark x.done).toArray⟩)∧Below W.heap.size W w'):=fun W hb=>by
      have hg9:=cell_lt (hsw9 0 _ rfl)
      have h:=f85_any W g7 so9 sc9 ([Lib.itoa bd,gmT x].map fun y=>(⟨y.toArray⟩:ByteArray)) ⟨#[32]⟩ (fun j y hy=>by
       rw [List.getElem?_map,Option.map_eq_some_iff] at hy
       obtain ⟨z,hz,rfl⟩:=hy
       rw [hb.cell (p:=⟨g7,so9+j,none⟩) hg9]
       exact hsw9 j z hz) (by have:=hb.size;omega) (by simp) (by simpa using hsl9) (by
        rw [strs_map]
        show (Lib.join [Lib.itoa bd,gmT x] [32]).length≤_
        rw [rest_gauge]
        have:=gaugeT_len (cl:=x.done) hbb hmk
        omega)
      rw [strs_map] at h
      have e3:(⟨#[32]⟩:ByteArray).data.toList=[32]:=rfl
      rw [e3,rest_gauge] at h
      exact h
     have H142:Hid (∀ W,Tabs W→Calls Tryz.prog 142 #[.string ⟨(gaugeT bd x.mark x.done).toArray⟩] W fun e w'=>∃ g,e=.returned (.tuple #[.pointer (some ⟨g,0,none⟩),.int .i64 0])∧W.heap.size≤g∧w'.heap[g]? = some (.cells #[.int .i64 bd,.int .i64 x.mark,.bool x.done] 215 (0,0))∧Below W.heap.size W w'):=fun W hT=>by
      cases hd:x.done with
      | true =>
        have e1:x.mark=1000000000001:=by unfold SpM.mark;rw [hd];rfl
        rw [e1]
        exact gauge_closed HMX.out W hT bd hbb
      | false=>exact gauge_open HMX.out W hT bd x.mark hbb ⟨hmk.1,hgm hd⟩
     have H103:Hid (∀ W,Calls Tryz.prog 103 #[.string x.name] W fun e w'=>e=.returned (.bool true)∧W=w'):=fun W=>by
      have h:=f103_any x.name (by omega) W
      rw [HNB.out] at h
      exact h
     have H86:Hid (∀ (W:World) (g:Nat),Tabs W→W.heap[g]? = some (.cells #[.int .i64 bd,.int .i64 x.mark,.bool x.done] 215 (0,0))→Calls Tryz.prog 86 #[.pointer (some ⟨g,0,none⟩)] W fun e w'=>e=.returned (.string ⟨(gaugeT bd x.mark x.done).toArray⟩)∧Below W.heap.size W w'):=fun W g hT hg=>by
      have h:=f86_any HMX.out W hT g bd x.mark x.done hg hbb hmk
      unfold ptr at h
      exact h
     have H84:Hid (∀ W,Tabs W→Calls Tryz.prog 84 #[.int .i64 bd] W fun e w'=>e=.returned (.string ⟨(Lib.itoa bd).toArray⟩)∧Below W.heap.size W w'):=fun W hT=>f84_any W hT bd (by omega) (by omega)
     have H143:Hid (∀ W,Calls Tryz.prog 143 #[.string ⟨(gaugeT bd x.mark x.done).toArray⟩,.string (⟨(Lib.itoa bd).toArray⟩ ++ ⟨#[32]⟩)] W fun e w'=>e=.returned (.bool true)∧w'=W):=fun W=>by
      have h:=f143_any W ⟨(gaugeT bd x.mark x.done).toArray⟩ (⟨(Lib.itoa bd).toArray⟩ ++ ⟨#[32]⟩)
      have e1:((⟨(Lib.itoa bd).toArray⟩:ByteArray) ++ ⟨#[32]⟩).data.toList=Lib.itoa bd ++ [32]:=by simp
      have e2:((⟨(gaugeT bd x.mark x.done).toArray⟩:ByteArray)).data.toList=(Lib.itoa bd ++ [32]) ++ (if x.done then closedT else Lib.itoa x.mark):=by simp [gaugeT]
      rw [e1,e2,hasPrefix_append] at h
      exact h
     have H75:Hid (∀ W,Below w9.heap.size w9 W→Calls Tryz.prog 75 #[.slice pa q pc,.func (.func 144) #[] #[.pointer (some ⟨vb,0,none⟩)]] W fun e w'=>e=.returned (.bool false)∧Below W.heap.size W w'):=fun W hb=>by
      have hlw:=hl9.same hb
      have hv:=(hb.block _ (heap_lt hv9)).trans hv9
      have hx:=(hb.block _ (heap_lt hx9)).trans hx9
      have hnm:∀ i (hi:i<q),∃ nmi:ByteArray,W.cell? ⟨xb i,0,none⟩=some (.string nmi)∧(nmi == x.name)=false:=fun i hi=>by
       have hi2:i<(m.splits.take q).length:=by omega
       have h:=(hlw.sp i hi2).1
       refine ⟨((m.splits.take q)[i]).name,cells_at h 0,?_⟩
       have hne:=HUQ.out i (by omega) hi
       have he:(m.splits.take q)[i]=m.splits[i]'(by omega):=by simp
       rw [he]
       cases hq2:(m.splits[i].name == x.name) with
       | false=>rfl
       | true=>rw [eqS_beq] at hq2;exact absurd (eqS_true.mp hq2) hne
      have h:=f75_144 W pa pc q xb vb (fun _=>false) (by omega) (by
       by_cases h0:q=0
       · exact .inl h0
       · have ho:=hlw.own
         rw [htl] at ho
         obtain ⟨g,o,rfl⟩:=ho.some_of (by omega)
         exact .inr ⟨g,o,rfl,fun i hi=>ho.cell i _ (by simp [hi])⟩) (fun W2 i hi hb2=>by
       obtain ⟨nmi,c1,c2⟩:=hnm i hi
       have h:=f144_any HMX.out W2 (xb i) xn vb nmi x.name (by rw [hb2.cell (p:=⟨xb i,0,none⟩) (cell_lt c1)];exact c1) (by rw [hb2.cell (p:=⟨vb,0,none⟩) (heap_lt hv)];rw [cells_at hv 0];rfl) (by rw [hb2.cell (p:=⟨xn,0,none⟩) (heap_lt hx)];exact cells_at hx 0)
       rw [c2] at h
       exact h)
      have ha:((List.range q).any fun _=>false)=false:=by simp
      rw [ha] at h
      exact h
     obtain ⟨i1,hi1,hz10,hz11,hz12⟩:=info_parts info126
     have HHL9:=Lib.hid hl9;have HX9:=Lib.hid hx9;have HB9:=Lib.hid hb9
     have B9:=Below.refl w9.heap.size w9
     obtain ⟨c1,c2,c3,c4,c5,c6,c7,c8⟩:=HCL.out w9 B9
     clear c2 c3 c4 c5 c6 c7 hsc9 hsw9 hl9 hx9 hv9 hb9 htb9
     go_wp2_with (first
      | (go_at_call 85;refine (H85.out _ B9).mono ?_;rintro e w10 ⟨rfl,b10⟩;have B10:=Lib.hid b10;obtain ⟨-,-,-,-,-,-,-,t10⟩:=HCL.out w10 b10;clear b10)
      | (go_at_call 142;refine (H142.out _ t10).mono ?_;rintro e w11 ⟨gn,rfl,hgl,hgc,b11⟩;have b11':=B10.out.trans (b11.mono B10.out.size);obtain ⟨-,d2,d3,d4,d5,d6,d7,t11⟩:=HCL.out w11 b11';have B11:=Lib.hid b11';have HGC:=Lib.hid hgc;have HGL:Hid (w9.heap.size≤gn):=Nat.le_trans B10.out.size hgl;clear b11 b11' hgc)
      | (go_at_call 103;refine (H103.out _).mono ?_;rintro e w12 ⟨rfl,rfl⟩)
      | (go_at_call 86;refine (H86.out _ gn t11 HGC.out).mono ?_;rintro e w12 ⟨rfl,b12⟩;have b12':=B11.out.trans (b12.mono B11.out.size);obtain ⟨-,-,-,-,-,-,-,t12⟩:=HCL.out w12 b12';have B12:=Lib.hid b12';have HG12:=Lib.hid ((b12.block _ (heap_lt HGC.out)).trans HGC.out);clear b12 b12')
      | (go_at_call 84;refine (H84.out _ t12).mono ?_;rintro e w13 ⟨rfl,b13⟩;have b13':=B12.out.trans (b13.mono B12.out.size);obtain ⟨-,-,-,-,h5,-,-,t13⟩:=HCL.out w13 b13';have B13:=Lib.hid b13';have HG13:=Lib.hid ((b13.block _ (heap_lt HG12.out)).trans HG12.out);clear b13 b13')
      | (go_at_call 143;refine (H143.out _).mono ?_;rintro e w14 ⟨rfl,rfl⟩)
      | (go_at_call 75;refine (H75.out _ B13.out).mono ?_;rintro e w15 ⟨rfl,b15⟩;have b15':=B13.out.trans (b15.mono B13.out.size);obtain ⟨-,-,k3,k4,k5,k6,k7,t15⟩:=HCL.out w15 b15';have B15:=Lib.hid b15';have HG15:=Lib.hid ((b15.block _ (heap_lt HG13.out)).trans HG13.out)
         have x15:=(b15'.block _ (heap_lt HX9.out)).trans HX9.out
         have hgn:=HGL.out
         have bq15:Below wr.heap.size wr (w15.setCell ⟨xn,3,none⟩ (.pointer (some ⟨gn,0,none⟩))):=(HB9.out.trans (b15'.mono HB9.out.size)).setCell (p:=⟨xn,3,none⟩) (by show wr.heap.size≤xn;omega) _
         have HBQ:=Lib.hid bq15
         have HX16:Hid ((w15.setCell ⟨xn,3,none⟩ (.pointer (some ⟨gn,0,none⟩))).heap[xn]? = some (.cells (spR x gn) 129 (0,0))):=by
          show _=_
          rw [heap_set x15]
          rfl
         have HG16:Hid ((w15.setCell ⟨xn,3,none⟩ (.pointer (some ⟨gn,0,none⟩))).heap[gn]? = some (.cells #[.int .i64 bd,.int .i64 x.mark,.bool x.done] 215 (0,0))):=(heap_set_ne _ (by omega)).trans HG15.out
         have HOWNA:Hid (SlOwn ((w15.setCell ⟨xn,3,none⟩ (.pointer (some ⟨gn,0,none⟩))).alloc (.cells #[.pointer (some ⟨xn,0,none⟩)] 126)) 126 1 (.slice pa q pc) q ((List.range q).map fun i=>ptr (xb i)) sblk):=by
          have h:=(HLN.out.same (bq15.alloc bq15.size (.cells #[.pointer (some ⟨xn,0,none⟩)] 126))).own
          rw [htl] at h
          exact h
         have HSRC:Hid (Src ((w15.setCell ⟨xn,3,none⟩ (.pointer (some ⟨gn,0,none⟩))).alloc (.cells #[.pointer (some ⟨xn,0,none⟩)] 126)) 1 (.slice (some ⟨w15.heap.size,0,none⟩) 1 1) 1 [ptr xn]):=by
          have h0:(w15.setCell ⟨xn,3,none⟩ (.pointer (some ⟨gn,0,none⟩))).heap.size=w15.heap.size:=by simp
          have h:=World.alloc_heap_new (w15.setCell ⟨xn,3,none⟩ (.pointer (some ⟨gn,0,none⟩))) (.cells #[.pointer (some ⟨xn,0,none⟩)] 126)
          rw [h0] at h
          exact SlOwn.src (e:=126) (blk:=some w15.heap.size) ⟨rfl,.inr ⟨_,0,1,_,rfl,rfl,h,Nat.le_refl _,by simp [maxLen],by simp,rfl⟩⟩
         clear b15 b15' bq15 x15 hgn)
      | (at_builtin
         refine wpList_append_S rfl (.tmp 159) (.tmp 161) 96 rfl 126 i1 _ 1 8 Tryz.underlying96 hi1 hz10 hz11 hz12 rfl (by omega) (.slice pa q pc) q ((List.range q).map fun i=>ptr (xb i)) sblk rfl HOWNA.out (.slice (some ⟨w15.heap.size,0,none⟩) 1 1) 1 [ptr xn] rfl HSRC.out (fun u hu=>by rw [List.mem_singleton] at hu;subst hu;rfl) (by simp only [maxLen];omega) (by omega) ?_
         intro v16 w16 b16 h1 h2 h3
         obtain ⟨a16,c16,rfl⟩:=h1.form
         have hgn:=HGL.out
         have hLW:=HLN.out.same HBQ.out
         have hob16:w16.heap[ob]? = some (.cells #[.bool m.sealed,.slice ma k mc,.slice pa q pc] 140 (0,0)):=(h2.block ob (by have:=heap_lt hLW.out;simp;simp at this;omega) (fun e=>by have:=(hLW.sb _ e.symm).1;omega)).trans ((Below.heap_alloc _ _ _ (heap_lt hLW.out)).trans hLW.out)
         have HPUT:=Lib.hid (HLN.out.put (xn:=xn) (gn:=gn) (x:=x) HBQ.out HX16.out HG16.out (by omega) (by omega) (by rw [htl];exact h1) h2 h3)
         have m2:=cells_at hob16 2
         have mf:w16.frozen? ⟨ob,2,none⟩=false:=by simp [World.frozen?,hob16]
         clear h1 h2 h3 hLW hob16 hgn))
     all_goals first
      | (exfalso;have:=itoa_len (n:=bd) (by omega) (by omega);omega)
      | (go_roundw
         case rel=>exact ⟨q+1,_,_,_,_,by omega,by go_num,by rw [HTK.out];exact HPUT⟩
         case measure=>simp [intOf];omega)
   · have hqn:q=n:=by omega
     subst hqn
     have hx0:¬ (q:Int)<(q:Int):=by omega
     have hall:m.splits.take q=m.splits:=by rw [← hns,List.take_length]
     rw [hall] at hln
     have hrbr:=(hon.block _ (heap_lt HRB6.out) (by omega)).trans HRB6.out
     have o0:=cells_at hln.out.out 0
     have o1:=cells_at hln.out.out 1
     have o2:=cells_at hln.out.out 2
     have r0:=cells_at hrbr 0
     have r1:=cells_at hrbr 1
     have r2:=cells_at hrbr 2
     have rf:∀ j,wr.frozen? ⟨w.heap.size,j,none⟩=false:=fun j=>by simp [World.frozen?,hrbr]
     have HLN:=Lib.hid hln.out
     have HRBR:=Lib.hid hrbr
     have HON:=Lib.hid hon
     have HBW:=Lib.hid hbw
     obtain ⟨pa,pc,hpv⟩:=hln.out.own.form
     subst hpv
     clear hlbr hon hln hrbr hbw
     go_wp2_with fail
     have z1:=heap_set (j:=0) (v:=.bool m.sealed) HRBR.out
     have z2:=heap_set (j:=1) (v:=.slice ma k mc) z1
     have z3:(((wr.setCell ⟨w.heap.size,0,none⟩ (.bool m.sealed)).setCell ⟨w.heap.size,1,none⟩ (.slice ma k mc)).setCell ⟨w.heap.size,2,none⟩ (.slice pa q pc)).heap[w.heap.size]? = some (.cells #[.bool m.sealed,.slice ma k mc,.slice pa q pc] 140 (0,0)):=by rw [heap_set z2];rfl
     have hoz:Only (fun y=>y=w.heap.size) wr (((wr.setCell ⟨w.heap.size,0,none⟩ (.bool m.sealed)).setCell ⟨w.heap.size,1,none⟩ (.slice ma k mc)).setCell ⟨w.heap.size,2,none⟩ (.slice pa q pc)):=(((Only.refl (fun y=>y=w.heap.size) wr).setCell (p:=⟨w.heap.size,0,none⟩) (fun _=>rfl) _).setCell (p:=⟨w.heap.size,1,none⟩) (fun _=>rfl) _).setCell (p:=⟨w.heap.size,2,none⟩) (fun _=>rfl) _
     clear z1 z2 r0 r1 r2 rf o0 o1 o2
     generalize ((wr.setCell ⟨w.heap.size,0,none⟩ (.bool m.sealed)).setCell ⟨w.heap.size,1,none⟩ (.slice ma k mc)).setCell ⟨w.heap.size,2,none⟩ (.slice pa q pc)=wz at z3 hoz ⊢
     refine bodyPost_ret (results_cell_row_tmp rfl _ _ w.heap.size 140 _ (0,0) _ rfl z3 Tryz.underlying140 rfl size140) rfl ?_
     have HOZ:=Lib.hid hoz
     have hls:=HON.out.size
     have hw0:=HBW6.out.size
     have keep:∀ b,b<wr.heap.size→b≠w.heap.size→wz.heap[b]? = wr.heap[b]? := fun b hb2 hne=>HOZ.out.block b hb2 hne
     refine ⟨ma,mc,pa,pc,by rfl,xb,gb,blk,sblk,?_,?_,?_,?_,?_,?_,?_⟩
     · have h:=HMO.out.keep (w':=wz) fun b e=>(keep b (by have:=HMO.out.lt_of e;omega) (by have:=HMN2.out b e;omega)).trans (HON.out.block b (HMO.out.lt_of e) (HMNE.out b e))
       rw [hnm] at h ⊢
       exact h
     · have h:=HLN.out.own.keep (w':=wz) fun b e=>keep b (HLN.out.own.lt_of e) (by have:=(HLN.out.sb b e).1;omega)
       rw [hns] at h ⊢
       exact h
     · intro j hj
       obtain ⟨a1,a2,a3,a4⟩:=HLN.out.sp j hj
       rw [hbd]
       exact ⟨(keep _ (heap_lt a1) (by omega)).trans a1,(keep _ (heap_lt a2) (by omega)).trans a2,by omega,a4⟩
     · exact HLN.out.sep
     · intro b e
       refine ⟨by have:=HMN2.out b e;omega,fun j hj=>?_⟩
       have h1:=(HLN.out.sp j hj).2.2
       have h2:=HMO.out.lt_of e
       omega
     · exact fun b e=>⟨by have:=(HLN.out.sb b e).1;omega,(HLN.out.sb b e).2⟩
     · exact HBW.out.trans (HOZ.out.below HBW.out.size (fun y hy=>by subst hy;exact Nat.le_refl _))
end leaves
end Go.Proofs.YtimahogkcmmcnaaGreatDoor
