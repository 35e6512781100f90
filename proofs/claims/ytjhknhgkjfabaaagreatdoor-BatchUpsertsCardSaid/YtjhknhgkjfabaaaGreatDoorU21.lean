/-
 A value's text: what row's Text answers at one value. If the row lies in the world as the words say; the library's table of powers lies there.
-/
import Derived.Test.YtjhknhgkjfabaaaGreatDoorU13
import Derived.Test.YtjhknhgkjfabaaaGreatDoorU20
import Derived.Test.YtjhknhgkjfabaaaGreatDoorU16
import Derived.Shelf.SlSortCmp.PdqK
import Derived.Shelf.Small.Bits
import Derived.MapKept
import Derived.Maps.RangeWalk
set_option linter.unusedSimpArgs false
set_option linter.unusedVariables false
namespace Go.Proofs.YtjhknhgkjfabaaaGreatDoor
open Go.RowKit Go.Proofs.YtjhknhgkjfabaaaGreatDoor.Cmps Go.Shelf
theorem pow_at:Tryz.prog.globalNamed "internal/strconv.uint64pow10"=some 0:=by kernel_rfl
def TabsU (w:World):Prop:=Lib.TabIs Tryz.prog w "internal/strconv.uint64pow10" .u64 Lib.pow10Tab
theorem TabsU.pos {w:World} (h:TabsU w):0<w.heap.size:=by
 unfold TabsU Lib.TabIs World.var? at h
 rw [pow_at] at h
 simp only [Option.bind_some] at h
 rcases Nat.eq_zero_or_pos w.heap.size with e | e
 · rw [Array.getElem?_eq_none (by omega)] at h
   cases h
 · exact e
theorem TabsU.below {w w':World} (h:TabsU w) (hb:Below w.heap.size w w'):TabsU w':=by
 have h0:=hb.block 0 h.pos
 unfold TabsU Lib.TabIs World.var? at h ⊢
 rw [pow_at] at h ⊢
 simp only [Option.bind_some] at h ⊢
 rw [h0]
 exact h
theorem info9:(Tryz.prog.info? 9).map (fun i=>(i.zero,i.size,i.bytes))=some (some (.string ⟨#[]⟩),1,16):=by kernel_rfl
theorem str_src' (w:World) (n:Nat) (hn:n=w.heap.size) (x:ByteArray):Src (w.alloc (.cells #[.string x] 9)) 1 (.slice (some ⟨n,0,none⟩) 1 1) 1 [.string x]:=by
 subst hn
 exact SlOwn.src (e:=9) (blk:=some w.heap.size) ⟨rfl,.inr ⟨_,0,1,_,rfl,rfl,World.alloc_heap_new w _,Nat.le_refl _,by simp [maxLen],by simp,rfl⟩⟩
section leaves
set_option maxHeartbeats 1000000
set_option maxRecDepth 100000
theorem f77_any (n:Int) (h0 : -9223372036854775808≤n) (h1:n≤9223372036854775807) (w:World) (ht:TabsU w) :
 Calls Tryz.prog 77 #[.int .i64 n] w fun e w'=>e=.returned (.string ⟨(Lib.itoa n).toArray⟩)∧Below w.heap.size w w':=by
 have:Calls Tryz.prog 77 #[.int .i64 n] w fun e w'=>e=.returned (.string ⟨(Lib.itoa n).toArray⟩)∧∃ k os,w'=Sort.grow (w.drewN k) os:=Any.strconv_Itoa lays171 n h0 h1 w ht
 refine this.mono ?_
 rintro e w' ⟨rfl,k,os,rfl⟩
 exact ⟨rfl,below_regrown w (w.drawn+k) os⟩
theorem f79_one (w:World) (g o c:Nat) (x sep:ByteArray) (hc:w.cell? ⟨g,o,none⟩=some (.string x)) :
 Calls Tryz.prog 79 #[.slice (some ⟨g,o,none⟩) 1 c,.string sep] w fun e w'=>e=.returned (.string x)∧w'=w:=by
 go_enter Tryz.func79,Tryz.ntmps79
 go_wp2
 go_ret
 exact ⟨rfl,rfl⟩
theorem f42_one (w:World) (r:Value) (v:Val) (D:Nat→Prop) (hr:RowAt w D r [v]) (hv:validValue v=true) (ht:TabsU w) :
 Calls Tryz.prog 42 #[r] w fun e w'=>e=.returned (.string ⟨(textV v).toArray⟩)∧Below w.heap.size w w':=by
 have hvr:validRow [v]=true:=by simp [validRow,hv]
 have H75:=Lib.hid (f75_any w r [v] D hr)
 rw [hvr] at H75
 obtain ⟨i0,hi0,hz0,hz1,hz2⟩:=info_parts info9
 obtain ⟨a,cap,rfl,-,hx⟩:=hr
 obtain ⟨b,off,rfl,-,hc⟩:=hx.resolve_left (by simp)
 obtain ⟨x0,x1,x2⟩:=hc 0 (by simp)
 simp only [Nat.zero_mul,Nat.add_zero,List.getElem_cons_zero] at x0 x1 x2
 have hbb:=cell_lt x0
 have HX:Hid (∀ W,Below w.heap.size w W→W.cell? ⟨b,off,none⟩=some (.int .i64 v.k)∧W.cell? ⟨b,off+1,none⟩=some (.int .i64 v.n)∧W.cell? ⟨b,off+2,none⟩=some (.string v.s)):=fun W hb =>
  ⟨(hb.cell (p:=⟨b,_,none⟩) hbb).trans x0,(hb.cell (p:=⟨b,_,none⟩) hbb).trans x1,(hb.cell (p:=⟨b,_,none⟩) hbb).trans x2⟩
 replace H75:Hid (Calls Tryz.prog 75 #[.slice (some ⟨b,off,none⟩) 1 cap] w fun e w'=>e=.returned (.bool true)∧Below w.heap.size w w'):=H75
 clear hc hx x0 x1 x2
 have HT:=Lib.hid (fun W (hb:Below w.heap.size w W)=>ht.below hb)
 obtain ⟨vk,vn,vs⟩:=v
 simp only at HX
 have hcase:(vk=0∨vk=1∨vk=2)∧(vk=1→-1000000000000000≤vn∧vn≤1000000000000000)∧(vk=2→vs.size≤200):=by
  unfold validValue at hv
  simp only at hv
  by_cases h0:vk=0
  · simp [h0]
  · by_cases h1:vk=1
    · simp [h1,withinB] at hv
      exact ⟨.inr (.inl h1),fun _=>hv.1,fun e=>by omega⟩
    · by_cases h2:vk=2
      · simp [h2] at hv
        exact ⟨.inr (.inr h2),fun e=>absurd e h1,fun _=>by omega⟩
      · simp [h0,h1,h2] at hv
 obtain ⟨hk,hkn,hks⟩:=hcase
 clear hv hvr
 rcases hk with rfl | rfl | rfl
 · go_enter Tryz.func42,Tryz.ntmps42
   go_wp2_with (go_at_call 75;with_reducible refine H75.out.mono ?_;rintro e w1 ⟨rfl,hb1⟩;have HB1:=Lib.hid hb1;obtain ⟨c0,c1,c2⟩:=HX.out _ hb1;clear hb1)
   refine wp_loop_rounds 2 ?_
   rw [rounds_succ]
   have HBX:Hid (Below w.heap.size w (w1.alloc (.cells #[.int .i64 0,.int .i64 vn,.string vs] 44))):=HB1.out.alloc HB1.out.size _
   have HBQ:=HBX
   go_wp2_with (at_builtin;refine wpList_append_S rfl (.tmp 17) (.tmp 18) 82 rfl 9 i0 _ 1 16 Tryz.underlying82 hi0 hz0 hz1 hz2 rfl (by omega) (.slice none 0 0) 0 [] none rfl (SlOwn.nil _ _ _) (.slice (some ⟨w1.heap.size+1,0,none⟩) 1 1) 1 [.string ⟨#[126]⟩] rfl (str_src' _ _ (by simp) _) (fun u hu=>by simp at hu;subst hu;rfl) (by simp only [maxLen];omega) (by omega) ?_;intro v8 w8 blk8 hown8 hgrow8 hat8;obtain ⟨a8,c8,rfl⟩:=hown8.form;obtain ⟨g8,o8,rfl,-⟩:=hown8.some_of (by omega);have d8:=hown8.cell 0 (.string ⟨#[126]⟩) rfl;simp only [Nat.add_zero] at d8;have HW8:=Lib.hid hgrow8;clear hown8 hgrow8 hat8)
   rw [rounds_succ]
   have H79:=Lib.hid (f79_one w8 g8 o8 c8 ⟨#[126]⟩ ⟨#[44]⟩ d8)
   go_wp2_with (go_at_call 79;with_reducible refine H79.out.mono ?_;rintro e w9 ⟨rfl,rfl⟩)
   go_ret
   refine ⟨rfl,(HBQ.out.alloc HBQ.out.size _).grown HW8.out (by have:=HBQ.out.size;simp at this ⊢;omega) (fun k e=>by cases e)⟩
 · have hvn:=hkn rfl
   go_enter Tryz.func42,Tryz.ntmps42
   go_wp2_with (go_at_call 75;with_reducible refine H75.out.mono ?_;rintro e w1 ⟨rfl,hb1⟩;have HB1:=Lib.hid hb1;obtain ⟨c0,c1,c2⟩:=HX.out _ hb1;clear hb1)
   refine wp_loop_rounds 2 ?_
   rw [rounds_succ]
   have HBX:Hid (Below w.heap.size w (w1.alloc (.cells #[.int .i64 1,.int .i64 vn,.string vs] 44))):=HB1.out.alloc HB1.out.size _
   have H77:=Lib.hid (f77_any vn (by omega) (by omega) _ (HT.out _ HBX.out))
   go_wp2_with (first
    | (go_at_call 77;with_reducible refine H77.out.mono ?_;rintro e w7 ⟨rfl,hb7⟩;have HBQ:=Lib.hid (HBX.out.trans (hb7.mono HBX.out.size));clear hb7)
    | (at_builtin;refine wpList_append_S rfl (.tmp 22) (.tmp 26) 82 rfl 9 i0 _ 1 16 Tryz.underlying82 hi0 hz0 hz1 hz2 rfl (by omega) (.slice none 0 0) 0 [] none rfl (SlOwn.nil _ _ _) (.slice (some ⟨w7.heap.size,0,none⟩) 1 1) 1 [.string ⟨(Lib.itoa vn).toArray⟩] rfl (str_src' _ _ (by simp) _) (fun u hu=>by simp at hu;subst hu;rfl) (by simp only [maxLen];omega) (by omega) ?_;intro v8 w8 blk8 hown8 hgrow8 hat8;obtain ⟨a8,c8,rfl⟩:=hown8.form;obtain ⟨g8,o8,rfl,-⟩:=hown8.some_of (by omega);have d8:=hown8.cell 0 (.string ⟨(Lib.itoa vn).toArray⟩) rfl;simp only [Nat.add_zero] at d8;have HW8:=Lib.hid hgrow8;clear hown8 hgrow8 hat8))
   rw [rounds_succ]
   have H79:=Lib.hid (f79_one w8 g8 o8 c8 ⟨(Lib.itoa vn).toArray⟩ ⟨#[44]⟩ d8)
   go_wp2_with (go_at_call 79;with_reducible refine H79.out.mono ?_;rintro e w9 ⟨rfl,rfl⟩)
   go_ret
   refine ⟨rfl,(HBQ.out.alloc HBQ.out.size _).grown HW8.out (by have:=HBQ.out.size;simp at this ⊢;omega) (fun k e=>by cases e)⟩
 · have hvs:=hks rfl
   go_enter Tryz.func42,Tryz.ntmps42
   go_wp2_with (go_at_call 75;with_reducible refine H75.out.mono ?_;rintro e w1 ⟨rfl,hb1⟩;have HB1:=Lib.hid hb1;obtain ⟨c0,c1,c2⟩:=HX.out _ hb1;clear hb1)
   refine wp_loop_rounds 2 ?_
   rw [rounds_succ]
   have HBX:Hid (Below w.heap.size w (w1.alloc (.cells #[.int .i64 2,.int .i64 vn,.string vs] 44))):=HB1.out.alloc HB1.out.size _
   have H78:=Lib.hid (f78_any vs (by omega) (w1.alloc (.cells #[.int .i64 2,.int .i64 vn,.string vs] 44)))
   go_wp2_with (first
    | (go_at_call 78;with_reducible refine H78.out.mono ?_;rintro e w7 ⟨rfl,hb7⟩;have HBQ:=Lib.hid (HBX.out.trans (hb7.mono HBX.out.size));clear hb7)
    | (at_builtin;refine wpList_append_S rfl (.tmp 30) (.tmp 34) 82 rfl 9 i0 _ 1 16 Tryz.underlying82 hi0 hz0 hz1 hz2 rfl (by omega) (.slice none 0 0) 0 [] none rfl (SlOwn.nil _ _ _) (.slice (some ⟨w7.heap.size,0,none⟩) 1 1) 1 [.string ⟨(quotedL vs.data.toList).toArray⟩] rfl (str_src' _ _ (by simp) _) (fun u hu=>by simp at hu;subst hu;rfl) (by simp only [maxLen];omega) (by omega) ?_;intro v8 w8 blk8 hown8 hgrow8 hat8;obtain ⟨a8,c8,rfl⟩:=hown8.form;obtain ⟨g8,o8,rfl,-⟩:=hown8.some_of (by omega);have d8:=hown8.cell 0 (.string ⟨(quotedL vs.data.toList).toArray⟩) rfl;simp only [Nat.add_zero] at d8;have HW8:=Lib.hid hgrow8;clear hown8 hgrow8 hat8))
   rw [rounds_succ]
   have H79:=Lib.hid (f79_one w8 g8 o8 c8 ⟨(quotedL vs.data.toList).toArray⟩ ⟨#[44]⟩ d8)
   go_wp2_with (go_at_call 79;with_reducible refine H79.out.mono ?_;rintro e w9 ⟨rfl,rfl⟩)
   go_ret
   refine ⟨rfl,(HBQ.out.alloc HBQ.out.size _).grown HW8.out (by have:=HBQ.out.size;simp at this ⊢;omega) (fun k e=>by cases e)⟩
end leaves
def NumsAt (w:World) (v:Value) (l:List Int):Prop :=
 ∃ a cap,v=.slice a l.length cap∧l.length≤9223372036854775807∧(l=[]∨∃ b off,a=some ⟨b,off,none⟩∧b<w.heap.size∧∀ i,(h:i<l.length)→w.cell? ⟨b,off+i,none⟩=some (.int .i64 l[i]))
theorem NumsAt.below {w w':World} {v:Value} {l:List Int} (h:NumsAt w v l) (hb:Below w.heap.size w w'):NumsAt w' v l:=by
 obtain ⟨a,cap,rfl,hl,hx⟩:=h
 refine ⟨a,cap,rfl,hl,?_⟩
 rcases hx with rfl | ⟨b,off,rfl,hd,hc⟩
 · exact .inl rfl
 · exact .inr ⟨b,off,rfl,Nat.lt_of_lt_of_le hd hb.size,fun i hi=>(hb.cell (p:=⟨b,_,none⟩) hd).trans (hc i hi)⟩
theorem NumsAt.at {w:World} {a:Option Addr} {n cap:Nat} {l:List Int} (h:NumsAt w (.slice a n cap) l) {k:Nat} (hk:k<l.length):∃ b off,a=some ⟨b,off,none⟩∧w.cell? ⟨b,off+k,none⟩=some (.int .i64 l[k]):=by
 obtain ⟨a',cap',hv,hl,hx⟩:=h
 injection hv with ha _ _
 subst ha
 rcases hx with rfl | ⟨b,off,rfl,hb,hc⟩
 · simp at hk
 · exact ⟨b,off,rfl,hc k hk⟩
def valAt (row:List Val) (c:Int):Val:=row.getD c.toNat ⟨0,0,⟨#[]⟩⟩
def okCol (row:List Val) (c:Int):Bool:=withinB c 0 ((row.length:Int) - 1)
def keyStep (row:List Val) (o:Option (List UInt8)) (c:Int):Option (List UInt8):=o.bind fun acc=>if okCol row c=true then some (acc ++ (textV (valAt row c) ++ [44])) else none
def keyP (row:List Val) (cols:List Int):Option (List UInt8):=cols.foldl (keyStep row) (some [])
theorem keyP_none (row:List Val) (l:List Int):l.foldl (keyStep row) none=none:=by
 induction l with
 | nil=>rfl
 | cons c t ih=>exact ih
theorem keyP_succ {row:List Val} {l:List Int} {k:Nat} (hk:k<l.length):keyP row (l.take (k+1))=keyStep row (keyP row (l.take k)) l[k]:=by
 rw [List.take_succ_eq_append_getElem hk]
 unfold keyP
 rw [List.foldl_append];rfl
theorem keyP_bad {row:List Val} {l:List Int} {k:Nat} (hk:k<l.length) (h:okCol row l[k]=false):keyP row l=none:=by
 have h1:keyP row (l.take (k+1))=none:=by
  rw [keyP_succ hk]
  unfold keyStep
  cases keyP row (l.take k) with
  | none=>rfl
  | some acc=>simp [h]
 have h2:l=l.take (k+1) ++ l.drop (k+1):=(List.take_append_drop _ _).symm
 unfold keyP at h1 ⊢
 rw [h2,List.foldl_append,h1,keyP_none]
theorem bytes_app (a b:List UInt8):(⟨(a ++ b).toArray⟩:ByteArray)=(⟨a.toArray⟩:ByteArray) ++ (⟨b.toArray⟩:ByteArray):=by
 apply bytes_eq
 rw [ByteArray.toList_eq,ByteArray.toList_eq]
 simp [ByteArray.data_append]
theorem valAt_mem {row:List Val} {i:Nat} (h:i<row.length):valAt row (i:Int) ∈ row:=by
 have:valAt row (i:Int)=row[i]:=by simp [valAt,h]
 rw [this];exact List.getElem_mem h
theorem RowAt.sub {w:World} {D:Nat→Prop} {a:Option Addr} {cap:Nat} {row:List Val} (h:RowAt w D (.slice a row.length cap) row) {i:Nat} (hi:i<row.length) (c:Nat) :
 ∃ b off,a=some ⟨b,off,none⟩∧RowAt w D (.slice (some ⟨b,off+i * 3,none⟩) 1 c) [valAt row (i:Int)]:=by
 obtain ⟨a',cap',hv,hl,hx⟩:=h
 injection hv with ha _ _
 subst ha
 obtain ⟨b,off,rfl,hb,hc⟩:=hx.resolve_left (fun e=>by rw [e] at hi;simp at hi)
 have hva:valAt row (i:Int)=row[i]:=by simp [valAt,hi]
 refine ⟨b,off,rfl,some ⟨b,off+i * 3,none⟩,c,rfl,by simp,.inr ⟨b,off+i * 3,rfl,hb,fun j hj=>?_⟩⟩
 have hj0:j=0:=by simpa using hj
 subst hj0
 rw [hva]
 simpa using hc i hi
theorem textV_len {v:Val} (h:validValue v=true):(textV v).length≤900:=by
 unfold validValue at h
 unfold textV
 by_cases h1:v.k=1
 · have h0:¬ v.k=0:=by omega
   simp [h0,h1,withinB] at h
   rw [if_pos h1]
   have:=itoa_len (n:=v.n) (by omega) (by omega)
   omega
 · rw [if_neg h1]
   by_cases h2:v.k=2
   · have h0:¬ v.k=0:=by omega
     simp [h0,h1,h2] at h
     rw [if_pos h2]
     have h3:=escL_len v.s.data.toList
     have h4:v.s.data.toList.length=v.s.size:=Array.length_toList
     simp only [quotedL,List.length_append,List.length_cons,List.length_nil]
     omega
   · rw [if_neg h2];simp
def keyR:Option (List UInt8)→Array Value
 | some t=>#[.string ⟨t.toArray⟩,.bool true]
 | none=>#[.string ⟨#[]⟩,.bool false]
section leaves
set_option maxHeartbeats 1000000
set_option maxRecDepth 100000
theorem f20_any (w:World) (a:Option Addr) (cap:Nat) (cv:Value) (row:List Val) (cols:List Int) (D:Nat→Prop) (hr:RowAt w D (.slice a row.length cap) row) (hcap:row.length≤cap) (hv:∀ v ∈ row,validValue v=true) (hl8:row.length≤8)
 (hc:NumsAt w cv cols) (hl:cols.length≤100) (ht:TabsU w) :
 Calls Tryz.prog 20 #[.slice a row.length cap,cv] w fun e w'=>e=.returned (.tuple (keyR (keyP row cols)))∧Below w.heap.size w w':=by
 have HN:=Lib.hid hc
 have HV:=Lib.hid hv
 have HR:=Lib.hid hr
 obtain ⟨ca,cc,rfl,-,-⟩:=id hc
 have hw1:IntKind.i64.wrap ((row.length:Int) - 1)=(row.length:Int) - 1:=by rw [IntKind.wrap_i64];omega
 have HT:=Lib.hid (fun W (hb:Below w.heap.size w W)=>ht.below hb)
 clear hc hv hr ht
 go_enter Tryz.func20,Tryz.ntmps20
 go_wp2
 go_loopw [6,11] (fun s6 s11 wr=>∃ (k:Nat) (acc:List UInt8),s11=.int .i64 k∧k≤cols.length∧s6=.string ⟨acc.toArray⟩∧acc.length≤1000 * k∧Hid (keyP row (cols.take k)=some acc)∧Hid (Below w.heap.size w wr)) (fun _ i _=>cols.length - (intOf i).toNat)
 case atStart=>exact ⟨0,[],rfl,by omega,rfl,by simp,rfl,Below.refl _ _⟩
 case round =>
  obtain ⟨k,acc,rfl,hk,rfl,hal,HK,HB⟩:=hrel
  by_cases hlt:k<cols.length
  · obtain ⟨bC,oC,rfl,hcc⟩:=(HN.out.below HB.out).at hlt
    obtain ⟨c,hcx⟩:∃ c,c=cols[k]:=⟨_,rfl⟩
    rw [← hcx] at hcc
    have HCX:=Lib.hid hcx
    have hkz:(k:Int)<(cols.length:Int):=by omega
    clear hcx
    cases hok:okCol row c
    · have H24:=Lib.hid (f24_any c 0 ((row.length:Int) - 1) wr)
      have hok':withinB c 0 ((row.length:Int) - 1)=false:=hok
      rw [hok'] at H24
      have hok2:=hok
      clear hok'
      go_wp2_with (go_at_call 24;with_reducible refine H24.out.mono ?_;rintro e w2 ⟨rfl,rfl⟩)
      go_ret2
      have hbad:keyP row cols=none:=keyP_bad hlt (by rw [← HCX.out];exact hok2)
      exact ⟨by rw [hbad];rfl,HB.out⟩
    · have hcb:0≤c∧c<(row.length:Int):=by simp [okCol,withinB] at hok;omega
      have H24:=Lib.hid (f24_any c 0 ((row.length:Int) - 1) wr)
      have hok':withinB c 0 ((row.length:Int) - 1)=true:=hok
      rw [hok'] at H24
      have HOK:=Lib.hid hok
      clear hok hok'
      obtain ⟨i,hi⟩:∃ i:Nat,c=(i:Int):=⟨c.toNat,by omega⟩
      subst hi
      have hir:i<row.length:=by omega
      obtain ⟨b,off,rfl,hsub⟩:=HR.out.sub hir (cap - i)
      have H42:=Lib.hid (f42_one wr _ _ D (hsub.below HB.out) (HV.out _ (valAt_mem hir)) (HT.out _ HB.out))
      have hicap:i<cap:=by omega
      have hiw:(i:Int)+1≤(cap:Int):=by omega
      obtain ⟨tv,htv⟩:∃ tv,tv=textV (valAt row (i:Int)):=⟨_,rfl⟩
      have htl:tv.length≤900:=by rw [htv];exact textV_len (HV.out _ (valAt_mem hir))
      rw [← htv] at H42
      have HTV:=Lib.hid htv
      clear hsub htv
      go_wp2_with (first
       | (go_at_call 24;with_reducible refine H24.out.mono ?_;rintro e w2 ⟨rfl,rfl⟩)
       | (go_at_call 42;with_reducible refine H42.out.mono ?_;rintro e w3 ⟨rfl,hb3⟩;have HB3:=Lib.hid (HB.out.trans (hb3.mono HB.out.size));clear hb3))
      refine ⟨⟨k+1,acc ++ (tv ++ [44]),by go_num,by omega,?_,by simp;omega,?_,HB3⟩,by simp [intOf];omega⟩
      · rw [bytes_app acc,bytes_app tv]
      · show _=_
        rw [keyP_succ hlt,HK.out,← HCX.out]
        simp only [keyStep,Option.bind_some,HOK.out,if_true]
        rw [← HTV.out]
  · have hkl:k=cols.length:=by omega
    have HKE:Hid (keyP row cols=some acc):=by
     have:=HK.out
     rw [hkl,List.take_length] at this
     exact this
    clear hkl
    go_wp2
    go_ret2
    exact ⟨by rw [HKE.out];rfl,HB.out⟩
end leaves
def badCol (c:Int):Bool := !withinB c 0 7
section leaves
set_option maxHeartbeats 400000
set_option maxRecDepth 10000
theorem f23_any (w:World) (c:Int):Calls Tryz.prog 23 #[.int .i64 c] w fun e w'=>e=.returned (.bool (badCol c))∧Below w.heap.size w w':=by
 have H24:=Lib.hid (f24_any c 0 7 w)
 go_enter Tryz.func23,Tryz.ntmps23
 go_wp2_with (go_at_call 24;refine H24.out.mono ?_;rintro e w' ⟨rfl,rfl⟩)
 go_ret
 exact ⟨rfl,Below.refl _ _⟩
theorem f45_any (w:World) (v:Value) (l:List Int) (h:NumsAt w v l) :
 Calls Tryz.prog 45 #[v,.func (.func 23) #[] #[]] w fun e w'=>e=.returned (.int .i64 (firstAt badCol l))∧Below w.heap.size w w':=by
 obtain ⟨a,cap,rfl,hl,hx⟩:=h
 go_enter Tryz.func45,Tryz.ntmps45
 go_wp2
 go_loopw [8] (fun i wr=>∃ k:Nat,k≤l.length∧i=.int .i64 k∧(∀ j (h:j<l.length),j<k→badCol l[j]=false)∧Below w.heap.size w wr) (fun i _=>l.length - (intOf i).toNat)
 case atStart=>exact ⟨0,by omega,rfl,by omega,Below.refl _ _⟩
 case round =>
  obtain ⟨k,hk,rfl,hv,hb⟩:=hrel
  by_cases hlt:k<l.length
  · rcases hx with rfl | ⟨b,off,rfl,hbD,hc⟩
    · simp at hlt
    · have h0:=hc k hlt
      rw [← hb.cell (p:=⟨b,_,none⟩) hbD] at h0
      clear hc
      have HGK:=Lib.hid (f23_any wr l[k])
      go_wp2_with (go_at_call 23;refine HGK.out.mono ?_;rintro e w' ⟨rfl,hb1⟩)
      · have hbad:badCol l[k]=true:=by assumption
        go_ret
        exact ⟨ret_int (firstAt_hit hlt hbad hv).symm,hb.trans (hb1.mono hb.size)⟩
      · have hok:badCol l[k]=false:=by assumption
        go_roundw
        case rel =>
         refine ⟨k+1,by omega,by go_num,fun j hj hjk=>?_,hb.trans (hb1.mono hb.size)⟩
         by_cases e:j=k
         · subst e;exact hok
         · exact hv j hj (by omega)
        case measure=>simp [intOf];omega
  · go_wp2
    go_ret
    exact ⟨ret_int (firstAt_none (fun j hj=>hv j hj (by omega))).symm,hb⟩
theorem f22_any (w:World) (v:Value) (l:List Int) (h:NumsAt w v l) :
 Calls Tryz.prog 22 #[v,.func (.func 23) #[] #[]] w fun e w'=>e=.returned (.bool (l.any badCol))∧Below w.heap.size w w':=by
 have e:=firstAt_any badCol l
 have HF:=Lib.hid (f45_any w v l h)
 obtain ⟨a,cap,rfl,-,-⟩:=h
 go_enter Tryz.func22,Tryz.ntmps22
 go_wp2_with (go_at_call 45;refine HF.out.mono ?_;rintro e w' ⟨rfl,hb1⟩)
 go_ret
 exact ⟨rfl,hb1⟩
end leaves
structure Itm where
 r:List Val
 n:Int
def iel (p:Itm×Value):List Value:=[p.2,.int .i64 p.1.n]
def iels (xs:List (Itm×Value)):List Value:=xs.flatMap iel
theorem iel_len (p:Itm×Value):(iel p).length=2:=rfl
theorem iels_add (ys:List (Itm×Value)) (p:Itm×Value):iels ys ++ [p.2,.int .i64 p.1.n]=iels (ys ++ [p]):=by simp [iels,iel]
def BagAt (w:World) (D:Nat→Prop) (v:Value) (l:List Itm):Prop :=
 ∃ a cap,v=.slice a l.length cap∧l.length≤9223372036854775807∧(l=[]∨∃ b off,a=some ⟨b,off,none⟩∧D b∧∃ rs:Nat→Value,∀ i,(h:i<l.length) →
  w.cell? ⟨b,off+i * 2,none⟩=some (rs i)∧w.cell? ⟨b,off+i * 2+1,none⟩=some (.int .i64 l[i].n)∧RowAt w D (rs i) l[i].r)
theorem BagAt.keep {w w':World} {D:Nat→Prop} {v:Value} {l:List Itm} (h:BagAt w D v l) (hk:∀ b,D b→b<w.heap.size→w'.heap[b]? = w.heap[b]?):BagAt w' D v l:=by
 obtain ⟨a,cap,rfl,hl,hx⟩:=h
 refine ⟨a,cap,rfl,hl,?_⟩
 rcases hx with rfl | ⟨b,off,rfl,hd,rs,hc⟩
 · exact .inl rfl
 · refine .inr ⟨b,off,rfl,hd,rs,fun i hi=>?_⟩
   obtain ⟨h1,h2,h3⟩:=hc i hi
   have hb:=hk b hd (cell_lt h1)
   exact ⟨(cell_keep hb _).trans h1,(cell_keep hb _).trans h2,h3.keep hk⟩
theorem BagAt.below {w w':World} {D:Nat→Prop} {v:Value} {l:List Itm} (h:BagAt w D v l) (hb:Below w.heap.size w w'):BagAt w' D v l:=h.keep fun b _ hl=>hb.block b hl
theorem BagAt.mono {w:World} {D D':Nat→Prop} {v:Value} {l:List Itm} (h:BagAt w D v l) (hd:∀ b,D b→D' b):BagAt w D' v l:=by
 obtain ⟨a,cap,rfl,hl,hx⟩:=h
 refine ⟨a,cap,rfl,hl,?_⟩
 rcases hx with rfl | ⟨b,off,rfl,hb,rs,hc⟩
 · exact .inl rfl
 · exact .inr ⟨b,off,rfl,hd b hb,rs,fun i hi=>⟨(hc i hi).1,(hc i hi).2.1,(hc i hi).2.2.mono hd⟩⟩
theorem BagAt.at {w:World} {D:Nat→Prop} {a:Option Addr} {n cap:Nat} {l:List Itm} (h:BagAt w D (.slice a n cap) l) {k:Nat} (hk:k<l.length) :
 ∃ b off r,a=some ⟨b,off,none⟩∧(w.cell? ⟨b,off+k * 2,none⟩=some r∧w.cell? ⟨b,off+k * 2+1,none⟩=some (.int .i64 l[k].n))∧RowAt w D r l[k].r:=by
 obtain ⟨a',cap',hv,hl,hx⟩:=h
 injection hv with ha _ _
 subst ha
 rcases hx with rfl | ⟨b,off,rfl,hb,rs,hc⟩
 · simp at hk
 · obtain ⟨h1,h2,h3⟩:=hc k hk
   exact ⟨b,off,rs k,rfl,⟨h1,h2⟩,h3⟩
theorem bag_of {w:World} {D:Nat→Prop} {v:Value} {xs:List (Itm×Value)} {a:Option Addr} {c:Nat} (hv:v=.slice a xs.length c) (hl:xs.length≤9223372036854775807) (h:xs=[]∨∃ b o,a=some ⟨b,o,none⟩∧D b∧∀ j u,(iels xs)[j]? = some u→w.cell? ⟨b,o+j,none⟩=some u)
 (hr:∀ p ∈ xs,RowAt w D p.2 p.1.r):BagAt w D v (xs.map (·.1)):=by
 subst hv
 refine ⟨a,c,by simp,by simpa using hl,?_⟩
 rcases h with rfl | ⟨b,o,rfl,hb,hc⟩
 · exact .inl rfl
 · refine .inr ⟨b,o,rfl,hb,fun i=>(xs[i]?.map (·.2)).getD (.bool false),fun i hi=>?_⟩
   have hi':i<xs.length:=by simpa using hi
   have hg:=fun j (hj:j<2)=>flat_get iel 2 iel_len xs i j hi' hj
   refine ⟨?_,?_,?_⟩
   · have:=hc (i * 2+0) _ ((hg 0 (by omega)).trans rfl)
     simpa [hi'] using this
   · have:=hc (i * 2+1) _ ((hg 1 (by omega)).trans rfl)
     rw [← Nat.add_assoc] at this
     simpa [hi'] using this
   · have:=hr xs[i] (List.getElem_mem hi')
     simpa [hi'] using this
theorem SlOwn.bag {w:World} {D:Nat→Prop} {v:Value} {xs:List (Itm×Value)} {blk:Option Nat} (h:SlOwn w 65 2 v xs.length (iels xs) blk) (hl:xs.length≤9223372036854775807) (hb:∀ b,blk=some b→D b) (hr:∀ p ∈ xs,RowAt w D p.2 p.1.r):BagAt w D v (xs.map (·.1)):=by
 rcases h.2 with ⟨hv,h0,_⟩ | ⟨g,o,cap,cur,hg,hv,_⟩
 · exact bag_of (a:=none) (c:=0) (by rw [hv,h0]) hl (.inl (List.eq_nil_of_length_eq_zero h0)) hr
 · subst hv
   exact bag_of rfl hl (.inr ⟨g,o,rfl,hb g hg,fun j u hu=>h.cell j u hu⟩) hr
theorem info65:(Tryz.prog.info? 65).map (fun i=>(i.zero,i.size,i.bytes))=some (some (.agg #[.slice none 0 0,.int .i64 0]),2,32):=by kernel_rfl
theorem itm_src (w:World) (n:Nat) (hn:n=w.heap.size) (a b:Value) (ha:a.oneCell'=true):Src (w.alloc (.cells #[a,b] 65)) 2 (.slice (some ⟨n,0,none⟩) 1 1) 1 [a,b]:=by
 subst hn
 exact SlOwn.src (e:=65) (blk:=some w.heap.size) ⟨rfl,.inr ⟨_,0,1,_,rfl,rfl,World.alloc_heap_new w _,Nat.le_refl _,by simp [maxLen],by simp,rfl⟩⟩
structure OutI (D0:Nat→Prop) (w0 w:World) (v:Value) (ys:List (Itm×Value)) (blk:Option Nat):Prop where
 own:SlOwn w 65 2 v ys.length (iels ys) blk
 new:∀ g,blk=some g→w0.heap.size≤g
 rows:∀ p ∈ ys,RowAt w (fun b=>(D0 b∨w0.heap.size≤b)∧b<w.heap.size∧blk≠some b) p.2 p.1.r
 below:Below w0.heap.size w0 w
theorem OutI.start (D0:Nat→Prop) (w:World):OutI D0 w w (.slice none 0 0) [] none :=
 ⟨SlOwn.nil _ _ _,(fun g e=>by cases e),(fun p hp=>by simp at hp),Below.refl _ _⟩
theorem OutI.next {D0:Nat→Prop} {w0 w w':World} {v:Value} {ys:List (Itm×Value)} {blk:Option Nat} (h:OutI D0 w0 w v ys blk) (hb:Below w.heap.size w w'):OutI D0 w0 w' v ys blk :=
 ⟨h.own.keep fun g hg=>hb.block g (h.own.lt_of hg),h.new,fun p hp=>((h.rows p hp).below hb).mono fun b hb'=>⟨hb'.1,Nat.lt_of_lt_of_le hb'.2.1 hb.size,hb'.2.2⟩,h.below.trans (hb.mono h.below.size)⟩
theorem OutI.add {D0:Nat→Prop} {w0 w w':World} {v v':Value} {ys:List (Itm×Value)} {blk blk':Option Nat} (h:OutI D0 w0 w v ys blk) (c:Itm) (rv:Value) (hr:RowAt w (fun b=>(D0 b∨w0.heap.size≤b)∧b<w.heap.size∧blk≠some b) rv c.r) {o:Obj}
 (hs:SlOwn w' 65 2 v' (ys.length+1) (iels ys ++ [rv,.int .i64 c.n]) blk') (hg:(w.alloc o).grownBy w' blk) (hat:blk'=blk∨blk'=some (w.alloc o).heap.size):OutI D0 w0 w' v' (ys ++ [(c,rv)]) blk':=by
 have hsz:=h.below.size
 have hgw:w.grownBy w' blk:=(World.grownBy.but (a:=w) (c:=w.alloc o) ⟨rfl,rfl,rfl,by simp,fun b hb _=>Below.heap_alloc w o b hb⟩ blk).trans hg
 have hrow:∀ {r:Value} {row:List Val},RowAt w (fun b=>(D0 b∨w0.heap.size≤b)∧b<w.heap.size∧blk≠some b) r row→RowAt w' (fun b=>(D0 b∨w0.heap.size≤b)∧b<w'.heap.size∧blk'≠some b) r row:=fun h=>(h.keep fun b hb hlt=>hgw.block b hlt (fun e=>hb.2.2 e.symm)).mono fun b hb=>⟨hb.1,Nat.lt_of_lt_of_le hb.2.1 hgw.size,fun e=>by
  rcases hat with ha | ha
  · exact hb.2.2 (ha ▸ e)
  · rw [ha] at e;injection e with e;simp at e;omega⟩
 refine ⟨by rw [List.length_append,← iels_add];exact hs,fun g e=>?_,fun p hp=>?_,h.below.grown hgw hsz h.new⟩
 · rcases hat with ha | ha
   · exact h.new g (ha ▸ e)
   · rw [ha] at e;injection e with e;simp at e;omega
 · rcases List.mem_append.1 hp with hp | hp
   · exact hrow (h.rows p hp)
   · rw [List.mem_singleton] at hp;subst hp;exact hrow hr
theorem OutI.bag {D0:Nat→Prop} {w0 w:World} {v:Value} {ys:List (Itm×Value)} {blk:Option Nat} (h:OutI D0 w0 w v ys blk) (hl:ys.length≤9223372036854775807):BagAt w (fun b=>D0 b∨w0.heap.size≤b) v (ys.map (·.1)) :=
 h.own.bag hl (fun b e=>.inr (h.new b e)) fun p hp=>(h.rows p hp).mono fun b hb=>hb.1
end Go.Proofs.YtjhknhgkjfabaaaGreatDoor
namespace Go.Proofs.YtjhknhgkjfabaaaGreatDoor
open Go.RowKit Go.Proofs.YtjhknhgkjfabaaaGreatDoor.Cmps Go.Shelf Go.Sort
theorem two_itms (w:World) (r1 r2:Value) (n1 n2:Int):∃ w2,w2=(w.alloc (.cells #[r1,.int .i64 n1] 65)).alloc (.cells #[r2,.int .i64 n2] 65) ∧
 w.heap.size<w2.heap.size∧w.heap.size+1<w2.heap.size∧w2.cell? ⟨w.heap.size,0,none⟩=some r1∧w2.cell? ⟨w.heap.size+1,0,none⟩=some r2∧Hid (Grew w w2):=by
 refine ⟨_,rfl,by simp;omega,by simp,?_,?_,((Grew.refl w).alloc _).alloc _⟩
 · rw [new_cell _ _ _ _ (by simp)];simp
 · have:w.heap.size+1=(w.alloc (.cells #[r1,.int .i64 n1] 65)).heap.size:=by simp
   rw [this];simp
abbrev IR (w:World) (D:Nat→Prop):Type:={ p:Itm×Value // RowAt w D p.2 p.1.r }
instance (w:World) (D:Nat→Prop):Inhabited (IR w D):=⟨⟨(⟨[],0⟩,.slice none 0 0),none,0,rfl,by simp,.inl rfl⟩⟩
def irE {w:World} {D:Nat→Prop} (x:IR w D):List Value:=iel x.1
def irC {w:World} {D:Nat→Prop} (x y:IR w D):Int:=cmpRow x.1.1.r y.1.1.r
theorem irC_3 (w:World) (D:Nat→Prop):Cmp3 (irC (w:=w) (D:=D)):=cmpRow_3.comap (fun x:IR w D=>x.1.1.r)
theorem irs_of {w:World} {D:Nat→Prop} (xs:List (Itm×Value)) (hr:∀ p ∈ xs,RowAt w D p.2 p.1.r):∃ ys:List (IR w D),ys.map (·.1)=xs:=by
 induction xs with
 | nil=>exact ⟨[],rfl⟩
 | cons p t ih =>
   obtain ⟨ys,hy⟩:=ih fun q hq=>hr q (List.mem_cons_of_mem _ hq)
   exact ⟨⟨p,hr p List.mem_cons_self⟩ :: ys,by rw [List.map_cons,hy]⟩
theorem irs_iels {w:World} {D:Nat→Prop} (ys:List (IR w D)):ys.flatMap irE=iels (ys.map (·.1)):=by
 induction ys with
 | nil=>rfl
 | cons p t ih =>
   show irE p ++ t.flatMap irE=iel p.1 ++ iels (t.map (·.1))
   rw [ih];rfl
theorem sorted_bag {w:World} {D:Nat→Prop} {n:Nat} {d:Array (IR w D)} (hn:d.size=n) (h:Sort.SortedIn (ltOf irC) 0 n d):d.toList.Pairwise (fun a b=>irC a b≤0):=by
 rw [List.pairwise_iff_getElem]
 intro i j hi hj hij
 have:=h i j (Nat.zero_le _) hij (by rw [← hn];simpa using hj)
 rw [getElem!_pos d j (by simpa using hj),getElem!_pos d i (by simpa using hi)] at this
 have h2:¬ irC d[j] d[i]<0:=of_decide_eq_false this
 have h3:=(irC_3 w D).swap d[j] d[i]
 simp only [Array.getElem_toList]
 omega
section leaves
set_option maxHeartbeats 1000000
set_option maxRecDepth 10000
theorem f27_any (hm:Tryz.prog.follows .mixedOrders=true) (w:World) (x y:Itm) (r1 r2:Value) (D1 D2:Nat→Prop) (h1:RowAt w D1 r1 x.r) (h2:RowAt w D2 r2 y.r) :
 Calls Tryz.prog 27 #[.agg #[r1,.int .i64 x.n],.agg #[r2,.int .i64 y.n]] w fun e w'=>e=.returned (.int .i64 (cmpRow x.r y.r))∧Grew w w':=by
 obtain ⟨w2,hw2,z1,z2,c0,d0,H0⟩:=two_itms w r1 r2 x.n y.n
 have HR:=Lib.hid (f28_any hm w2 r1 r2 _ _ D1 D2 (h1.below H0.out.below) (h2.below H0.out.below))
 obtain ⟨a1,cap1,rfl,-,-⟩:=h1
 obtain ⟨a2,cap2,rfl,-,-⟩:=h2
 go_enter Tryz.func27,Tryz.ntmps27
 go_wp2_with fail
 rw [← hw2]
 clear hw2
 go_wp2_with (go_at_call 28;refine HR.out.mono ?_;rintro e w3 ⟨rfl,hg⟩)
 go_ret
 exact ⟨rfl,H0.out.trans hg⟩
theorem cmpLays27 (hm:Tryz.prog.follows .mixedOrders=true) (w:World) (D:Nat→Prop) (g o n:Nat) (hd:¬ D g):CmpLays Tryz.prog 27 #[] (irE (w:=w) (D:=D)) 2 irC g o n w:=by
 intro m os dk hs x y
 have hk:∀ (z:IR w D),RowAt (Sort.grow (Sort.putRowK irE 2 (Sort.ahead w m) g o dk) os) D z.1.2 z.1.1.r:=fun z=>z.2.keep fun b hb hlt=>sortK_block (enc:=irE) (k:=2) w g o m dk os b hlt (fun e=>hd (e ▸ hb))
 exact f27_any hm (Sort.grow (Sort.putRowK irE 2 (Sort.ahead w m) g o dk) os) x.1.1 y.1.1 x.1.2 y.1.2 D D (hk x) (hk y)
theorem f81_none (w:World) :
 Calls Tryz.prog 81 #[.slice none 0 0,.int .i64 0,.int .i64 0,.func (.func 27) #[] #[]] w fun e w'=>e=.returned (.tuple #[])∧w'=w:=by
 go_enter Tryz.func81,Tryz.ntmps81
 go_wp2
 refine wp_loop_rounds 1 ?_
 rw [rounds_succ]
 go_wp2
 go_end0
 exact ⟨rfl,rfl⟩
theorem f47_zero (n:Nat) (h:n≤9223372036854775807) (w:World):Calls Tryz.prog 47 #[.int .u64 (n:Int)] w fun e w'=>e=.returned (.int .i64 (Lib.bitLen n:Nat))∧w'=w:=by
 have h:=Any.bits_Len lays125 (n:Int) w (by omega) (by omega)
 rwa [Int.toNat_natCast] at h
theorem f46_none (w:World) (m:Int) :
 Calls Tryz.prog 46 #[.slice none 0 0,.int .i64 0,.int .i64 0,.int .i64 m,.func (.func 27) #[] #[]] w fun e w'=>e=.returned (.tuple #[])∧w'=w:=by
 go_enter Tryz.func46,Tryz.ntmps46
 go_wp2
 refine wp_loop_rounds 1 ?_
 rw [rounds_succ]
 go_wp2_with (go_at_call 81;refine (f81_none _).mono ?_;rintro e w1 ⟨rfl,rfl⟩)
 refine bodyPost_ret (results_none rfl _ _ _) rfl ?_
 exact ⟨rfl,rfl⟩
theorem f26_any (hm:Tryz.prog.follows .mixedOrders=true) (w:World) (v:Value) (xs:List (Itm×Value)) (blk:Option Nat) (D:Nat→Prop) (ho:SlOwn w 65 2 v xs.length (iels xs) blk) (hl:xs.length≤1000) (hr:∀ p ∈ xs,RowAt w D p.2 p.1.r) (hd:∀ g,blk=some g→¬ D g) :
 Calls Tryz.prog 26 #[v,.func (.func 27) #[] #[]] w fun e w'=>e=.returned (.tuple #[])∧(∃ l',l'.Perm (xs.map (·.1))∧l'.Pairwise (fun a b=>cmpRow a.r b.r≤0)∧BagAt w' (fun b=>D b∨blk=some b) v l')∧w.grownBy w' blk:=by
 have HL:=Lib.hid (f47_zero xs.length (by omega))
 rcases id ho.2 with ⟨rfl,h0,rfl⟩ | ⟨g,o,cap,cur,rfl,rfl,hg,hnc,hcm,hcs,htk⟩
 · have hn:xs=[]:=List.eq_nil_of_length_eq_zero h0
   subst hn
   go_enter Tryz.func26,Tryz.ntmps26
   go_wp2_with (first | (go_at_call 47;refine (HL.out _).mono ?_;rintro e w1 ⟨rfl,rfl⟩) | (go_at_call 46;refine (f46_none _ _).mono ?_;rintro e w1 ⟨rfl,rfl⟩))
   go_end0
   exact ⟨rfl,⟨[],List.Perm.nil,List.Pairwise.nil,none,0,rfl,by simp,.inl rfl⟩,World.grownBy.refl _ _⟩
 · obtain ⟨ys,rfl⟩:=irs_of xs hr
   have hys:(ys.map (·.1)).length=ys.toArray.size:=by simp
   rw [← irs_iels] at ho
   have hH:Sort.HoldsK irE 2 w g o ys.toArray:=holdsK_of irE 2 (fun x=>iel_len x.1) hys.symm ho
   have hgl:=heap_lt hg
   have hsz0:ys.toArray.size<4611686018427387904:=by simp at hl ⊢;omega
   have hlim:Lib.bitLen ys.toArray.size<4611686018427387904:=Nat.lt_of_le_of_lt (Lib.bitLen_le ys.toArray.size 62 (by omega) (by omega)) (by omega)
   have hO:SWO (ltOf (irC (w:=w) (D:=D))):=(irC_3 w D).swo
   have hk:=AnyQ.pdqsortCmpFunc_all (P:=Tryz.prog) laysPdq 2 Tryz.isAgg65 Tryz.sizeOf65 (irE (w:=w) (D:=D)) irC 27 #[] hO g o cap ys.toArray w (enters_of Tryz.func27 (by kernel_rfl) rfl) (cmpLays27 hm w D g o _ (hd g rfl))
    ⟨fun x=>iel_len x.1,fun x u hu=>by simp [irE,iel] at hu;rcases hu with rfl | rfl;exact x.2.one;rfl,hH,hgl⟩ (ys.toArray.size+1) 0 ys.toArray.size (Lib.bitLen ys.toArray.size) ys.toArray w (by omega) rfl (SWK.start hH) (Nat.zero_le _) (Nat.le_refl _) hsz0 hlim (Or.inl rfl)
   have hps:=pdq_sorts (ltOf (irC (w:=w) (D:=D))) hO ys.toArray 0 ys.toArray.size (Lib.bitLen ys.toArray.size) true true (Nat.zero_le _) (Nat.le_refl _) (Or.inl rfl)
   obtain ⟨d',hd'⟩:∃ d',d'=pdq (ltOf (irC (w:=w) (D:=D))) ys.toArray 0 ys.toArray.size (Lib.bitLen ys.toArray.size) true true:=⟨_,rfl⟩
   rw [← hd'] at hk hps
   rw [← hys] at hk hps
   have HPS:=Lib.hid hps
   have HO:=Lib.hid ho
   have HY:=Lib.hid hys
   have wr:IntKind.u64.wrap ((ys.map (·.1)).length:Int)=((ys.map (·.1)).length:Int):=by simp [IntKind.wrap,IntKind.bits,IntKind.signed];simp at hl;omega
   obtain ⟨n,hn⟩:∃ n,n=(ys.map (·.1)).length:=⟨_,rfl⟩
   have HN:=Lib.hid hn
   rw [← hn] at hk wr HL ⊢
   have HK:=Lib.hid hk
   clear hk hH ho hys hn hnc htk hr hps hd' hsz0 hlim hO
   go_enter Tryz.func26,Tryz.ntmps26
   go_wp2_with (first | (go_at_call 47;refine (HL.out _).mono ?_;rintro e w1 ⟨rfl,rfl⟩) | (go_at_call 46;refine HK.out.mono ?_;rintro e w1 ⟨rfl,hS⟩;have HW:=Lib.hid hS;clear hS))
   go_end0
   have hn:=HN.out
   subst hn
   have ho:=HO.out
   have hys:=HY.out
   have hsz:d'.size=(ys.map (·.1)).length:=by rw [HPS.out.1.1];simp
   have hG:=swK_grown HW.out
   refine ⟨rfl,⟨d'.toList.map (·.1.1),?_,?_,?_⟩,hG⟩
   · have:=(perm_of_permIn hys.symm HPS.out.1).map (fun x:IR _ D=>x.1.1)
     rw [List.map_map]
     exact this
   · rw [List.pairwise_map]
     exact sorted_bag hsz HPS.out.2
   · have hH2:=HW.out.holds hgl (d0:=ys.toArray) (holdsK_of irE 2 (fun x=>iel_len x.1) hys.symm ho) (by rw [HPS.out.1.1])
     have hc:=bag_of (w:=w1) (D:=fun b=>D b∨some g=some b) (v:=.slice (some ⟨g,o,none⟩) (ys.map (·.1)).length cap) (xs:=d'.toList.map (·.1)) (a:=some ⟨g,o,none⟩) (c:=cap) (by simp [hsz]) (by simp [hsz];simp at hl;omega)
      (.inr ⟨g,o,rfl,.inr rfl,fun j u hu=>cells_of_holdsK irE 2 (fun x=>iel_len x.1) hH2 j u (by rw [irs_iels];exact hu)⟩)
      (fun p hp=>by
        obtain ⟨x,hx,rfl⟩:=List.mem_map.1 hp
        exact (x.2.keep fun b hb hlt=>hG.block b hlt (fun e=>hd g rfl (by injection e with e;exact e ▸ hb))).mono fun b h=>.inl h)
     rw [List.map_map] at hc
     exact hc
end leaves
end Go.Proofs.YtjhknhgkjfabaaaGreatDoor
namespace Go.Proofs.YtjhknhgkjfabaaaGreatDoor
open Go.RowKit Go.Proofs.YtjhknhgkjfabaaaGreatDoor.Cmps Go.Shelf
structure Ent where
 k:List UInt8
 c:Chg
 rv:Value
 born:Nat
abbrev keyV (k:List UInt8):Value:=.string ⟨k.toArray⟩
def Ent.entry (e:Ent):MapEntry:={ key:=keyV e.k,val:=chgV e.c e.rv,born:=e.born }
abbrev entsA (E:List Ent):Array MapEntry:=(E.map Ent.entry).toArray
def entAt (E:List Ent) (k:List UInt8) (i:Nat):Option (Nat×Ent) :=
 match E with
 | []=>none
 | e :: E=>if e.k=k then some (i,e) else entAt E k (i+1)
theorem keyV_beq (a b:List UInt8):((⟨a.toArray⟩:ByteArray) == (⟨b.toArray⟩:ByteArray))=decide (a=b):=by
 by_cases h:a=b
 · subst h;simp [MapKept.bytes_beq]
 · rw [decide_eq_false h]
   cases hb:((⟨a.toArray⟩:ByteArray) == (⟨b.toArray⟩:ByteArray)) with
   | false=>rfl
   | true =>
     have:=(MapKept.bytes_beq _ _).1 hb
     injection this with this
     have:=congrArg Array.toList this
     simp at this
     exact absurd this h
theorem findNow_ents:∀ (E:List Ent) (k:List UInt8) (i:Nat),Instr.findNow .string (keyV k) (E.map Ent.entry) i=some ((entAt E k i).map fun p=>(p.1,chgV p.2.c p.2.rv))
 | [],k,i=>rfl
 | e :: E,k,i=>by
   have ih:=findNow_ents E k (i+1)
   have hs:Instr.sameNow .string (keyV k) e.entry.key=some (decide (k=e.k)):=by
    show some (_ == _)=_
    rw [keyV_beq]
   rw [List.map_cons]
   unfold Instr.findNow
   rw [hs]
   by_cases h:e.k=k
   · have h':k=e.k:=h.symm
     rw [decide_eq_true h']
     simp only [entAt,if_pos h]
     rfl
   · have h':¬ k=e.k:=fun x=>h x.symm
     rw [decide_eq_false h']
     simp only [entAt,if_neg h]
     exact ih
theorem entAt_none {E:List Ent} {k:List UInt8} (h:∀ e ∈ E,e.k≠k):∀ i,entAt E k i=none:=by
 induction E with
 | nil=>intro i;rfl
 | cons e E ih =>
   intro i
   simp only [entAt,if_neg (h e List.mem_cons_self)]
   exact ih (fun x hx=>h x (List.mem_cons_of_mem _ hx)) (i+1)
theorem entAt_some {E:List Ent} {k:List UInt8} (h:∃ e ∈ E,e.k=k):∀ i,∃ j e,entAt E k i=some (i+j,e)∧E[j]? = some e∧e.k=k:=by
 induction E with
 | nil=>obtain ⟨e,h,_⟩:=h;cases h
 | cons e E ih =>
   intro i
   by_cases hk:e.k=k
   · exact ⟨0,e,by simp only [entAt,if_pos hk];rfl,rfl,hk⟩
   · obtain ⟨e',he',hk'⟩:=h
     have:e' ∈ E:=by
      rcases List.mem_cons.1 he' with rfl | h
      · exact absurd hk' hk
      · exact h
     obtain ⟨j,x,h1,h2,h3⟩:=ih ⟨e',this,hk'⟩ (i+1)
     refine ⟨j+1,x,?_,by simpa using h2,h3⟩
     simp only [entAt,if_neg hk]
     rw [h1,show i+1+j=i+(j+1) by omega]
theorem run_checkKey9 (b:Bool) (k:List UInt8) (W:World):(Instr.checkKey b 10000 9 (keyV k)).run Tryz.prog W=.ok () W :=
 MapKept.run_checkKey Tryz.underlying9 (by simp [MapKept.IsKey,keyV]) b 9999
theorem run_findKey9 (W:World) (E:List Ent) (k:List UInt8):(Instr.findKey 9 (keyV k) (entsA E).toList).run Tryz.prog W=.ok ((entAt E k 0).map fun p=>(p.1,chgV p.2.c p.2.rv)) W:=by
 have u9:=Tryz.underlying9
 simp [Instr.findKey,run_underlying u9,findNow_ents]
abbrev zeroChg:Value:=.agg #[.int .i64 0,.slice none 0 0,.int .i64 0]
theorem lookup_none (W:World) (r clock:Nat) (k:List UInt8) {E:List Ent} (h:W.heap[r]? = some (.map (entsA E) clock)) (hk:entAt E k 0=none) :
 (Instr.lookup 55 (.map (some r)) (keyV k) true).run Tryz.prog W=.ok (.tuple #[zeroChg,.bool false]) W:=by
 have hz:∀ w,(zeroValue 42).run Tryz.prog w=.ok zeroChg w:=fun w=>by kernel_rfl
 have u:=Tryz.underlying55
 have ho:(getObj r).run Tryz.prog W=.ok (.map (entsA E) clock) W:=by simp [getObj,Sem.run,h]
 have hf:=run_findKey9 W E k
 rw [hk] at hf
 unfold entsA at hf ho
 simp only [List.toList_toArray] at hf
 simp [Instr.lookup,run_underlying u,ho,run_checkKey9,hf,hz]
theorem lookup_some (W:World) (r clock:Nat) (k:List UInt8) {E:List Ent} (h:W.heap[r]? = some (.map (entsA E) clock)) {i:Nat} {e:Ent} (hk:entAt E k 0=some (i,e)) :
 (Instr.lookup 55 (.map (some r)) (keyV k) true).run Tryz.prog W=.ok (.tuple #[chgV e.c e.rv,.bool true]) W:=by
 have u:=Tryz.underlying55
 have ho:(getObj r).run Tryz.prog W=.ok (.map (entsA E) clock) W:=by simp [getObj,Sem.run,h]
 have hf:=run_findKey9 W E k
 rw [hk] at hf
 unfold entsA at hf ho
 simp only [List.toList_toArray] at hf
 simp [Instr.lookup,run_underlying u,ho,run_checkKey9,hf]
theorem store_new (W:World) (r clock:Nat) (k:List UInt8) (c:Chg) (rv:Value) {E:List Ent} (h:W.heap[r]? = some (.map (entsA E) clock)) (hk:entAt E k 0=none) :
 (Instr.mapUpdate 55 (.map (some r)) (keyV k) (chgV c rv)).run Tryz.prog W=.ok () (W.putObj r (.map (entsA (E ++ [⟨k,c,rv,clock⟩])) (clock+1))):=by
 have u:=Tryz.underlying55
 have ho:(getObj r).run Tryz.prog W=.ok (.map (entsA E) clock) W:=by simp [getObj,Sem.run,h]
 have hs:∀ o,(setObj r o).run Tryz.prog W=.ok () (W.putObj r o):=fun o=>by simp [setObj,Sem.run,World.putObj,h]
 have hf:=run_findKey9 W E k
 rw [hk] at hf
 unfold entsA at hf ho ⊢
 simp only [List.toList_toArray] at hf
 simp [Instr.mapUpdate,run_underlying u,ho,run_checkKey9,hf,hs,Ent.entry]
theorem store_old (W:World) (r clock:Nat) (k:List UInt8) (c:Chg) (rv:Value) {E:List Ent} (h:W.heap[r]? = some (.map (entsA E) clock)) {i:Nat} {e:Ent} (hk:entAt E k 0=some (i,e)) (hi:E[i]? = some e) (hek:e.k=k) :
 (Instr.mapUpdate 55 (.map (some r)) (keyV k) (chgV c rv)).run Tryz.prog W=.ok () (W.putObj r (.map (entsA (E.set i ⟨k,c,rv,e.born⟩)) clock)):=by
 have u:=Tryz.underlying55
 have ho:(getObj r).run Tryz.prog W=.ok (.map (entsA E) clock) W:=by simp [getObj,Sem.run,h]
 have hs:∀ o,(setObj r o).run Tryz.prog W=.ok () (W.putObj r o):=fun o=>by simp [setObj,Sem.run,World.putObj,h]
 have hf:=run_findKey9 W E k
 rw [hk] at hf
 have hkey:((entsA E)[i]?.map (·.key)).getD (keyV k)=keyV k:=by
  simp [entsA,hi,Ent.entry,hek]
 have hst:(Instr.keyThatStays (keyV k) (keyV k)).run Tryz.prog W=.ok (keyV k) W:=by
  have:Instr.sameBits 10000 (keyV k) (keyV k)=true:=by
   show (_ == _)=true
   rw [keyV_beq];simp
  simp [Instr.keyThatStays,this]
 have hmod:((entsA E).modify i fun x=>{ x with key:=keyV k,val:=chgV c rv })=entsA (E.set i ⟨k,c,rv,e.born⟩):=by
  apply Array.ext_getElem?
  intro j
  simp only [Array.getElem?_modify,entsA,List.getElem?_toArray,List.getElem?_map,List.getElem?_set]
  by_cases hij:i=j
  · subst hij
    have hlt:i<E.length:=(List.getElem?_eq_some_iff.1 hi).1
    have hei:E[i]=e:=(List.getElem?_eq_some_iff.1 hi).2
    simp [hi,hlt,Ent.entry,hei]
  · simp [hij]
 unfold entsA at hf ho hkey hmod ⊢
 simp only [List.toList_toArray] at hf
 simp only [Instr.mapUpdate,Sem.run_bind,run_underlying u,Result.andThen,ho,run_checkKey9,List.toList_toArray,hf,Option.map_some,hkey,hst,hs,hmod]
structure EntsOk (E:List Ent) (clock:Nat):Prop where
 apart:E.Pairwise fun x y=>x.k≠y.k∧x.born≠y.born
 old:∀ e ∈ E,e.born<clock
theorem EntsOk.nil:EntsOk [] 0:=⟨List.Pairwise.nil,fun e h=>by cases h⟩
theorem EntsOk.add {E:List Ent} {clock:Nat} (h:EntsOk E clock) {k:List UInt8} (hk:∀ e ∈ E,e.k≠k) (c:Chg) (rv:Value):EntsOk (E ++ [⟨k,c,rv,clock⟩]) (clock+1):=by
 refine ⟨List.pairwise_append.2 ⟨h.apart,List.pairwise_singleton _ _,fun x hx y hy=>?_⟩,fun e he=>?_⟩
 · rw [List.mem_singleton] at hy;subst hy
   exact ⟨hk x hx,Nat.ne_of_lt (h.old x hx)⟩
 · rcases List.mem_append.1 he with he | he
   · exact Nat.lt_succ_of_lt (h.old e he)
   · rw [List.mem_singleton] at he;subst he;exact Nat.lt_succ_self _
theorem map_set_same {α β:Type} (f:α→β) {l:List α} {i:Nat} {x y:α} (hx:l[i]? = some x) (h:f y=f x):(l.set i y).map f=l.map f:=by
 rw [List.map_set,h]
 have hi:=(List.getElem?_eq_some_iff.1 hx).1
 have he:=(List.getElem?_eq_some_iff.1 hx).2
 have:=@List.set_getElem_self _ (l.map f) i (by simpa using hi)
 rw [List.getElem_map,he] at this
 exact this
theorem EntsOk.put {E:List Ent} {clock i:Nat} (h:EntsOk E clock) {e:Ent} (hi:E[i]? = some e) (c:Chg) (rv:Value):EntsOk (E.set i ⟨e.k,c,rv,e.born⟩) clock:=by
 have hm:(E.set i ⟨e.k,c,rv,e.born⟩).map (fun x=>(x.k,x.born))=E.map (fun x=>(x.k,x.born)):=map_set_same (fun x:Ent=>(x.k,x.born)) hi rfl
 refine ⟨?_,fun x hx=>?_⟩
 · have h1:(E.map (fun x=>(x.k,x.born))).Pairwise (fun p q=>p.1≠q.1∧p.2≠q.2):=List.pairwise_map.2 h.apart
   rw [← hm,List.pairwise_map] at h1
   exact h1
 · have:(x.k,x.born) ∈ E.map (fun x=>(x.k,x.born)):=by rw [← hm];exact List.mem_map.2 ⟨x,hx,rfl⟩
   obtain ⟨y,hy,e⟩:=List.mem_map.1 this
   injection e with _ e
   rw [← e];exact h.old y hy
theorem ents_born {E:List Ent} {clock:Nat} (h:EntsOk E clock):((entsA E).toList.map (·.born)).Nodup:=by
 unfold entsA
 simp only [List.map_map]
 unfold List.Nodup
 rw [List.pairwise_map]
 exact h.apart.imp fun h=>h.2
theorem range_step {wr:World} {mp r clock:Nat} {E:List Ent} {seen:Array Nat} {c0:Nat} (hm:wr.heap[mp]? = some (.map (entsA E) clock)) (hr:wr.heap[r]? = some (.mapIter (some mp) clock seen c0)) (hle:clock≤c0) (hok:EntsOk E clock) (ty:TypeId) :
 ((∀ y ∈ E,seen.contains y.born=true)∧(Instr.next (.pointer (some ⟨r,0,none⟩)) false ty).run Tryz.prog wr=.ok (.tuple #[.bool false]) wr) ∨
 ∃ y ∈ E,seen.contains y.born=false∧∃ w2,(Instr.next (.pointer (some ⟨r,0,none⟩)) false ty).run Tryz.prog wr=.ok (.tuple #[.bool true,keyV y.k,chgV y.c y.rv]) w2∧w2.rangeLeft mp r<wr.rangeLeft mp r ∧
  (Instr.entry (.pointer (some ⟨r,0,none⟩))).run Tryz.prog w2=.ok (.tuple #[keyV y.k,chgV y.c y.rv]) w2∧w2.heap[mp]? = some (.map (entsA E) clock)∧w2.heap[r]? = some (.mapIter (some mp) clock (seen.push y.born) clock)∧(∀ b,b≠r→w2.heap[b]? = wr.heap[b]?)∧(w2.os=wr.os∧w2.tape=wr.tape∧w2.output=wr.output∧w2.heap.size=wr.heap.size):=by
 have hold:∀ x ∈ (entsA E).toList,x.born<clock:=fun x hx=>by
  obtain ⟨y,hy,rfl⟩:=List.mem_map.1 hx
  exact hok.old y hy
 have hne:mp≠r:=fun e=>by rw [e,hr] at hm;cases hm
 rcases run_next_at (P:=Tryz.prog) wr ty r mp clock c0 seen _ clock hr hm hold hle with ⟨h0,hrun⟩ | ⟨e,he,w2,hal,hrun⟩
 · refine .inl ⟨fun y hy=>?_,hrun⟩
   exact all_seen _ seen h0 y.entry (List.mem_map.2 ⟨y,hy,rfl⟩)
 · obtain ⟨hem,hes⟩:=mem_left he
   obtain ⟨y,hy,rfl⟩:=List.mem_map.1 hem
   have hr2:w2.heap[r]? = some (.mapIter (some mp) clock seen c0):=by rcases hal with rfl | rfl <;> exact hr
   have hm2:w2.heap[mp]? = some (.map (entsA E) clock):=by rcases hal with rfl | rfl <;> exact hm
   have hlt:=heap_lt hr2
   have hset:(ChangeMaps.setBlock w2 r (.mapIter (some mp) clock (seen.push y.entry.born) clock)).heap[r]? = some (.mapIter (some mp) clock (seen.push y.entry.born) clock):=by
    simp only [ChangeMaps.setBlock,Array.getElem?_setIfInBounds,if_true]
    rw [if_pos hlt]
   have hset2:∀ b,b≠r→(ChangeMaps.setBlock w2 r (.mapIter (some mp) clock (seen.push y.entry.born) clock)).heap[b]? = w2.heap[b]? := fun b hb=>by
    simp only [ChangeMaps.setBlock,Array.getElem?_setIfInBounds]
    rw [if_neg (fun e=>hb e.symm)]
   have hmm:=(hset2 mp hne).trans hm2
   refine .inr ⟨y,hy,hes,_,hrun,?_,run_entry_at _ r mp clock seen _ clock y.entry hset hmm hem (ents_born hok),hmm,hset,fun b hb=>?_,?_⟩
   · unfold World.rangeLeft
     rw [hmm,hset,hm,hr]
     exact left_shrinks _ seen _ he
   · rw [hset2 b hb];rcases hal with rfl | rfl <;> rfl
   · rcases hal with rfl | rfl <;> exact ⟨rfl,rfl,rfl,by simp [ChangeMaps.setBlock]⟩
end Go.Proofs.YtjhknhgkjfabaaaGreatDoor
