/-
 The well's state, part 1: what is written of a gauge and of a well. If the well lies in the world as the words say.
-/
import Derived.Test.YtimahogkcmmcnaaGreatDoorL27
import Derived.Test.YtimahogkcmmcnaaGreatDoorL14
set_option linter.unusedSimpArgs false
set_option linter.unusedVariables false
namespace Go.Proofs.YtimahogkcmmcnaaGreatDoor
open Go.RowKit Go.Proofs.YtimahogkcmmcnaaGreatDoor.Cmps
def bitT (b:Bool):List UInt8:=if b then [49] else [48]
def closedT:List UInt8:=[99,108,111,115,101,100]
def gaugeT (bd mk:Int) (cl:Bool):List UInt8:=Lib.itoa bd ++ 32 :: (if cl then closedT else Lib.itoa mk)
def headW (m:WlM):List (List UInt8):=bitT m.sealed :: m.marks.map Lib.itoa
def lineW (bd:Int) (x:SpM):List (List UInt8):=[x.name.data.toList,Lib.itoa x.owner,Lib.itoa x.read,bitT x.sealed,gaugeT bd x.mark x.done]
def stateT (m:WlM):List UInt8:=linesT (Lib.join (headW m) [32] :: m.splits.map fun x=>Lib.join (lineW m.bound x) [32])
theorem bytes_append (a b:List UInt8):(⟨a.toArray⟩:ByteArray) ++ ⟨b.toArray⟩=⟨(a ++ b).toArray⟩:=by
 apply ByteArray.ext
 simp
theorem ret_str {a b:ByteArray} (h:a=b):Ending.returned (.string a)=.returned (.string b):=by rw [h]
theorem mk_list (s:ByteArray):(⟨s.data.toList.toArray⟩:ByteArray)=s:=by cases s;rfl
section leaves
set_option maxHeartbeats 1000000
set_option maxRecDepth 10000
theorem f83_any (b:Bool) (w:World):Calls Tryz.prog 83 #[.bool b] w fun e w'=>e=.returned (.string ⟨(bitT b).toArray⟩)∧w=w':=by
 cases b
 · go_enter Tryz.func83,Tryz.ntmps83
   go_wp2
   go_ret
   exact ⟨rfl,rfl⟩
 · go_enter Tryz.func83,Tryz.ntmps83
   go_wp2
   go_ret
   exact ⟨rfl,rfl⟩
theorem f77_any (w:World) (g:Nat) (bd mk:Int) (cl:Bool) (h:w.heap[g]? = some (.cells #[.int .i64 bd,.int .i64 mk,.bool cl] 215 (0,0))) :
 Calls Tryz.prog 77 #[ptr g] w fun e w'=>e=.returned (.bool cl)∧w=w':=by
 have c2:=cells_at h 2
 unfold ptr
 go_enter Tryz.func77,Tryz.ntmps77
 go_wp2
 go_ret
 exact ⟨rfl,rfl⟩
theorem f86_any (hm:Tryz.prog.follows .mixedOrders=true) (w:World) (hT:Tabs w) (g:Nat) (bd mk:Int) (cl:Bool) (h:w.heap[g]? = some (.cells #[.int .i64 bd,.int .i64 mk,.bool cl] 215 (0,0))) (hb:0≤bd∧bd≤1000000000) (hk : -1000000000000≤mk∧mk≤1000000000001) :
 Calls Tryz.prog 86 #[ptr g] w fun e w'=>e=.returned (.string ⟨(gaugeT bd mk cl).toArray⟩)∧Below w.heap.size w w':=by
 have mixed:=hm
 have h77:=f77_any w g bd mk cl h
 unfold ptr at h77
 have H77:=Lib.hid h77
 clear h77
 have HC:Hid (∀ W,Below w.heap.size w W→W.cell? ⟨g,0,none⟩=some (.int .i64 bd)∧W.cell? ⟨g,1,none⟩=some (.int .i64 mk)):=fun W hb=>⟨cells_at ((hb.block _ (heap_lt h)).trans h) 0,cells_at ((hb.block _ (heap_lt h)).trans h) 1⟩
 have H84:Hid (∀ W n,Below w.heap.size w W→-1000000000000≤n→n≤1000000000001→Calls Tryz.prog 84 #[.int .i64 n] W fun e w'=>e=.returned (.string ⟨(Lib.itoa n).toArray⟩)∧Below W.heap.size W w'):=fun W n hb h0 h1=>f84_any W (hT.below hb) n (by omega) (by omega)
 obtain ⟨c0,c1⟩:=HC.out w (Below.refl _ _)
 have hlb:(Lib.itoa bd).length≤18:=itoa_len (by omega) (by omega)
 have hlk:(Lib.itoa mk).length≤18:=itoa_len (by omega) (by omega)
 unfold ptr
 clear h hT
 cases cl
 · go_enter Tryz.func86,Tryz.ntmps86
   go_wp2_with (go_at_call 77;(with_reducible refine H77.out.mono ?_);rintro e w1 ⟨rfl,rfl⟩)
   have hC:Below w.heap.size w w.drew:=(Below.refl _ _).drew
   refine wp_region_ord [0,1,2,3,6,7,8,9,4,5,10,11,12] (fun W=>Below w.heap.size w W) mixed (by kernel_rfl) (fun hg=>?_)
   generalize w.drew=wd at hC ⊢
   repeat (refine ord_rd hg hC (fun K hK=>?_);apply Exists.intro;refine ⟨fun W hW=>?_,?_⟩;(· obtain ⟨u0,u1⟩:=HC.out W hW;go_simp;first | rfl | (rw [if_neg (by omega)];done));go_simp;refine hK _ ?_;clear hK K)
   refine ord_on (fun K hK=>?_)
   go_simp
   go_at_call 84
   refine (H84.out _ bd hC (by omega) (by omega)).mono ?_
   rintro e w2 ⟨rfl,hb2⟩
   replace hC:=hC.trans (hb2.mono hC.size)
   clear hb2
   refine hK _ _ rfl hC ?_
   clear hK K
   repeat (refine ord_rd hg hC (fun K hK=>?_);apply Exists.intro;refine ⟨fun W hW=>?_,?_⟩;(· obtain ⟨u0,u1⟩:=HC.out W hW;go_simp;first | rfl | (rw [if_neg (by omega)];done));go_simp;refine hK _ ?_;clear hK K)
   refine ord_on (fun K hK=>?_)
   go_simp
   go_at_call 84
   refine (H84.out _ mk hC (by omega) (by omega)).mono ?_
   rintro e w3 ⟨rfl,hb2⟩
   replace hC:=hC.trans (hb2.mono hC.size)
   clear hb2
   refine hK _ _ rfl hC ?_
   clear hK K
   repeat (refine ord_rd hg hC (fun K hK=>?_);apply Exists.intro;refine ⟨fun W hW=>?_,?_⟩;(· obtain ⟨u0,u1⟩:=HC.out W hW;go_simp;first | rfl | (rw [if_neg (by omega)];done));go_simp;refine hK _ ?_;clear hK K)
   refine ord_end (by kernel_rfl) ?_
   have HCF:=Lib.hid hC
   clear hC
   go_wp2_with fail
   go_ret
   exact ⟨ret_str (by rw [show (⟨#[32]⟩:ByteArray)=⟨[32].toArray⟩ from rfl,bytes_append,bytes_append];simp [gaugeT]),HCF.out⟩
 · go_enter Tryz.func86,Tryz.ntmps86
   go_wp2_with (first
    | (go_at_call 77;(with_reducible refine H77.out.mono ?_);rintro e w1 ⟨rfl,rfl⟩)
    | (go_at_call 84;(with_reducible refine (H84.out _ bd (Below.refl _ _) (by omega) (by omega)).mono ?_);rintro e w2 ⟨rfl,hb2⟩;have HB2:=Lib.hid hb2;clear hb2))
   go_ret
   exact ⟨ret_str (by rw [show (⟨#[32,99,108,111,115,101,100]⟩:ByteArray)=⟨(32 :: closedT).toArray⟩ from rfl,bytes_append];rfl),HB2.out⟩
end leaves
structure OneL (w w':World) (e:TypeId) (v:Value) (xs:List Value) (b:Option Nat):Prop where
 own:SlOwn w' e 1 v xs.length xs b
 new:∀ g,b=some g→w.heap.size≤g
 below:Below w.heap.size w w'
theorem OneL.to {w w' w2:World} {e:TypeId} {v:Value} {xs:List Value} {b:Option Nat} (h:OneL w w' e v xs b) (hb:Below w'.heap.size w' w2):OneL w w2 e v xs b :=
 ⟨h.own.keep fun g hg=>hb.block g (h.own.lt_of hg),h.new,h.below.trans (hb.mono h.below.size)⟩
theorem OneL.add {w w' w3:World} {e:TypeId} {v v3:Value} {xs:List Value} {b b3:Option Nat} {x:Value} (h:OneL w w' e v xs b) (ho:SlOwn w3 e 1 v3 (xs.length+1) (xs ++ [x]) b3)
 (hg:w'.grownBy w3 b) (hat:b3=b∨b3=some w'.heap.size):OneL w w3 e v3 (xs ++ [x]) b3:=by
 have hs:=h.below.size
 refine ⟨by simpa using ho,fun g hgg=>?_,h.below.grown hg hs (fun q hq=>h.new q hq)⟩
 rcases hat with e | e
 · exact h.new g (e ▸ hgg)
 · rw [hgg] at e;injection e with e;omega
theorem OneL.start {w w':World} (e:TypeId) (hb:Below w.heap.size w w'):OneL w w' e (.slice none 0 0) [] none:=⟨SlOwn.nil _ _ _,fun _ h=>(by cases h),hb⟩
theorem OneL.one {w w':World} (e:TypeId) (v:Value) (hb:Below w.heap.size w w'):OneL w (w'.alloc (.cells #[v] e)) e (.slice (some ⟨w'.heap.size,0,none⟩) 1 1) [v] (some w'.heap.size) :=
 ⟨⟨rfl,.inr ⟨_,0,1,_,rfl,rfl,World.alloc_heap_new w' _,Nat.le_refl _,by simp [maxLen],by simp,rfl⟩⟩,fun g hg=>by injection hg with hg;have:=hb.size;omega,hb.alloc hb.size _⟩
def strV (l:List (List UInt8)):List Value:=l.map fun x=>.string ⟨x.toArray⟩
theorem strV_len (l:List (List UInt8)):(strV l).length=l.length:=by simp [strV]
theorem strV_snoc (l:List (List UInt8)) (x:List UInt8):strV (l ++ [x])=strV l ++ [.string ⟨x.toArray⟩]:=by simp [strV]
theorem strs_map (l:List (List UInt8)):(l.map fun x=>(⟨x.toArray⟩:ByteArray)).map (·.data.toList)=l:=by
 rw [List.map_map]
 conv=>rhs;rw [← List.map_id l]
 apply List.map_congr_left
 intro x _
 simp
theorem lens_le {l:List (List UInt8)} {k:Nat} (h:∀ x ∈ l,x.length≤k):Lib.lens l≤k * l.length:=by
 induction l with
 | nil=>simp [Lib.lens]
 | cons x l ih =>
   have h1:=h x List.mem_cons_self
   have h2:=ih fun y hy=>h y (List.mem_cons_of_mem _ hy)
   simp only [Lib.lens,List.map_cons,List.sum_cons,List.length_cons] at h2 ⊢
   rw [Nat.mul_add,Nat.mul_one]
   omega
theorem join_le {l:List (List UInt8)} {k:Nat} (h:∀ x ∈ l,x.length≤k):(Lib.join l [32]).length≤(k+1) * l.length:=by
 cases l with
 | nil=>simp [Lib.join_nil]
 | cons x r =>
   rw [Lib.join_length]
   have:=lens_le h
   have e:=Nat.succ_mul k (x :: r).length
   have e2:(x :: r).length=r.length+1:=rfl
   have e3:[(32:UInt8)].length * r.length=r.length:=Nat.one_mul _
   rw [e3]
   show _≤Nat.succ k * (x :: r).length
   omega
theorem linesT_le {l:List (List UInt8)} {k:Nat} (h:∀ x ∈ l,x.length≤k):(linesT l).length≤(k+1) * l.length:=by
 induction l with
 | nil=>simp [linesT]
 | cons x l ih =>
   have h1:=h x List.mem_cons_self
   have h2:=ih fun y hy=>h y (List.mem_cons_of_mem _ hy)
   simp only [linesT,List.length_append,List.length_cons]
   rw [Nat.mul_add,Nat.mul_one]
   omega
theorem bitT_len (b:Bool):(bitT b).length=1:=by cases b <;> rfl
theorem mark_bounds {m:WlM} (hok:WOk m) {x:SpM} (hx:x ∈ m.splits) : -1000000000000≤x.mark∧x.mark≤1000000000001:=by
 have:=hok.gauge x hx
 unfold SpM.mark
 split
 · decide
 · exact this
theorem gaugeT_len {bd mk:Int} {cl:Bool} (hb:0≤bd∧bd≤1000000000) (hk : -1000000000000≤mk∧mk≤1000000000001):(gaugeT bd mk cl).length≤40:=by
 have h1:(Lib.itoa bd).length≤18:=itoa_len (by omega) (by omega)
 have h2:(Lib.itoa mk).length≤18:=itoa_len (by omega) (by omega)
 unfold gaugeT
 rw [List.length_append,List.length_cons]
 split
 · simp [closedT];omega
 · omega
theorem lineW_len {m:WlM} (hok:WOk m) {x:SpM} (hx:x ∈ m.splits):∀ y ∈ lineW m.bound x,y.length≤40:=by
 have h0:=hok.name x hx
 have h1:=hok.owner x hx
 have h2:=hok.read x hx
 have h3:=hok.hi
 have h4:x.evs.length≤allN m.splits:=by
  obtain ⟨k,hk,rfl⟩:=List.mem_iff_getElem.1 hx
  have:=allN_take hk
  have:=allN_le m.splits (k+1)
  omega
 have h5:=hok.all
 have h6:=gaugeT_len (cl:=x.done) hok.bound (mark_bounds hok hx)
 have a1:(Lib.itoa x.owner).length≤18:=itoa_len (by omega) (by omega)
 have a2:(Lib.itoa x.read).length≤18:=itoa_len (by omega) (by omega)
 intro y hy
 simp only [lineW,List.mem_cons,List.not_mem_nil,or_false] at hy
 rcases hy with rfl | rfl | rfl | rfl | rfl
 · rw [Lib.size_eq] at h0;omega
 · omega
 · omega
 · rw [bitT_len];omega
 · exact h6
theorem headW_len {m:WlM} (hok:WOk m):∀ y ∈ headW m,y.length≤40:=by
 intro y hy
 unfold headW at hy
 rcases List.mem_cons.1 hy with rfl | hy
 · rw [bitT_len];omega
 · obtain ⟨n,hn,rfl⟩:=List.mem_map.1 hy
   have:=hok.marks n hn
   have:(Lib.itoa n).length≤18:=itoa_len (by omega) (by omega)
   omega
theorem SlOwn.room {w:World} {e:TypeId} {size:Nat} {a:Option Addr} {n c:Nat} {xs:List Value} {blk:Option Nat} (h:SlOwn w e size (.slice a n c) n xs blk):n≤c:=by
 rcases h.2 with ⟨hv,h0,_⟩ | ⟨g,o,cap,cur,_,hv,_,hc,_⟩
 · omega
 · injection hv with _ _ hv;omega
theorem join_own {w:World} {bk o c n:Nat} {l:List (List UInt8)} {blk:Option Nat} (hn:l.length=n) (h:SlOwn w 9 1 (.slice (some ⟨bk,o,none⟩) n c) n (strV l) blk) (hl:(Lib.join l [32]).length≤100000) (hn2:n≤100000) :
 Calls Tryz.prog 85 #[.slice (some ⟨bk,o,none⟩) n c,.string ⟨#[32]⟩] w fun e w'=>e=.returned (.string ⟨(Lib.join l [32]).toArray⟩)∧Below w.heap.size w w':=by
 subst hn
 have h0:∀ j x,((l.map fun x=>(⟨x.toArray⟩:ByteArray)))[j]? = some x→w.cell? ⟨bk,o+j,none⟩=some (.string x):=fun j x hx=>h.cell j _ (by
  rw [List.getElem?_map,Option.map_eq_some_iff] at hx
  obtain ⟨y,hy,rfl⟩:=hx
  simp [strV,hy])
 have hbk:bk<w.heap.size:=by
  rcases h.2 with ⟨hv,_⟩ | ⟨g,o',cap,cur,hb,hv,hg,_⟩
  · cases hv
  · injection hv with hv _ _;injection hv with hv;injection hv with hv _ _;subst hv;exact heap_lt hg
 have hj:=f85_any w bk o c (l.map fun x=>(⟨x.toArray⟩:ByteArray)) ⟨#[32]⟩ h0 hbk (by simp;omega) (by simpa using h.room) (by rw [strs_map];show (Lib.join l [32]).length≤_;omega)
 rw [strs_map,List.length_map] at hj
 exact hj
theorem five_own (w:World) (a b c d e:Value):SlOwn (w.alloc (.cells #[a,b,c,d,e] 9)) 9 1 (.slice (some ⟨w.heap.size,0,none⟩) 5 5) 5 [a,b,c,d,e] (some w.heap.size) :=
 ⟨rfl,.inr ⟨_,0,5,_,rfl,rfl,World.alloc_heap_new w _,Nat.le_refl _,by simp [maxLen],by simp,rfl⟩⟩
theorem join_line (W:World) (bd:Int) (x:SpM) (hj:(Lib.join (lineW bd x) [32]).length≤100000) :
 Calls Tryz.prog 85 #[.slice (some ⟨W.heap.size,0,none⟩) 5 5,.string ⟨#[32]⟩] (W.alloc (.cells #[.string x.name,.string ⟨(Lib.itoa x.owner).toArray⟩,.string ⟨(Lib.itoa x.read).toArray⟩,.string ⟨(bitT x.sealed).toArray⟩,.string ⟨(gaugeT bd x.mark x.done).toArray⟩] 9)) fun e w'=>e=.returned (.string ⟨(Lib.join (lineW bd x) [32]).toArray⟩)∧Below W.heap.size W w':=by
 have h5:=five_own W (.string x.name) (.string ⟨(Lib.itoa x.owner).toArray⟩) (.string ⟨(Lib.itoa x.read).toArray⟩) (.string ⟨(bitT x.sealed).toArray⟩) (.string ⟨(gaugeT bd x.mark x.done).toArray⟩)
 have hs:strV (lineW bd x)=[.string x.name,.string ⟨(Lib.itoa x.owner).toArray⟩,.string ⟨(Lib.itoa x.read).toArray⟩,.string ⟨(bitT x.sealed).toArray⟩,.string ⟨(gaugeT bd x.mark x.done).toArray⟩]:=by
  simp only [strV,lineW,List.map_cons,List.map_nil,mk_list]
 rw [← hs] at h5
 have hb:Below W.heap.size W (W.alloc (.cells #[.string x.name,.string ⟨(Lib.itoa x.owner).toArray⟩,.string ⟨(Lib.itoa x.read).toArray⟩,.string ⟨(bitT x.sealed).toArray⟩,.string ⟨(gaugeT bd x.mark x.done).toArray⟩] 9)):=(Below.refl _ _).alloc (Nat.le_refl _) _
 exact (join_own (l:=lineW bd x) (n:=5) rfl h5 hj (by omega)).mono fun e w' ⟨h1,h2⟩=>⟨h1,hb.trans (h2.mono hb.size)⟩
section leaves
set_option maxHeartbeats 2000000
set_option maxRecDepth 100000
theorem f28_any (hm:Tryz.prog.follows .mixedOrders=true) (w:World) (hT:Tabs w) (col:Nat→Nat) (s:List Col) (ws:WS) (m:WlM) (h:WAt w col s ws m) (hok:WOk m) :
 Calls Tryz.prog 28 #[ptr ws.W] w fun e w'=>e=.returned (.string ⟨(stateT m).toArray⟩)∧Below w.heap.size w w':=by
 have mixed:=hm
 obtain ⟨i0,hi0,hz0,hz1,hz2⟩:=info_parts info9
 obtain ⟨sa,sc,se⟩:=h.splForm
 obtain ⟨ra,rc,re⟩:=h.rdForm
 have HCW:Hid (∀ W,Below w.heap.size w W→W.cell? ⟨ws.W,2,none⟩=some (.slice sa m.splits.length sc)∧W.cell? ⟨ws.W,4,none⟩=some (.slice ra m.marks.length rc)∧W.cell? ⟨ws.W,5,none⟩=some (.bool m.sealed)):=fun W hb=>by
  obtain ⟨_,_,c2,_,c4,c5,_⟩:=(h.below hb).cells
  rw [se] at c2;rw [re] at c4
  exact ⟨c2,c4,c5⟩
 have HMX:=Lib.hid hm
 have H:=Lib.hid h
 have HOK:=Lib.hid hok
 have HT:=Lib.hid hT
 have h50:=hok.splits
 have h16:=hok.hi
 obtain ⟨c2,c4,c5⟩:=HCW.out w (Below.refl _ _)
 have hWl:=cell_lt c5
 have H83:Hid (∀ W b,Calls Tryz.prog 83 #[.bool b] W fun e w'=>e=.returned (.string ⟨(bitT b).toArray⟩)∧W=w'):=fun W b=>f83_any b W
 unfold ptr
 clear h hok hT
 go_enter Tryz.func28,Tryz.ntmps28
 go_wp2_with (go_at_call 83;(with_reducible refine (H83.out _ _).mono ?_);rintro e w1 ⟨rfl,rfl⟩)
 have HST:Hid (OneL w (w.alloc (.cells #[.string ⟨(bitT m.sealed).toArray⟩] 9)) 9 (.slice (some ⟨w.heap.size,0,none⟩) 1 1) (strV [bitT m.sealed]) (some w.heap.size)):=OneL.one (w:=w) (w':=w) 9 _ (Below.refl _ _)
 generalize w.alloc (.cells #[.string ⟨(bitT m.sealed).toArray⟩] 9)=w1 at HST ⊢
 clear c2 c4 c5
 go_loopw [3,22] (fun hv i wr=>∃ (k:Nat) (blk:Option Nat),k≤m.marks.length∧i=.int .i64 k∧Hid (OneL w wr 9 hv (strV (bitT m.sealed :: (m.marks.take k).map Lib.itoa)) blk)) (fun _ i _=>m.marks.length - (intOf i).toNat)
 case atStart=>exact ⟨0,_,by omega,rfl,HST⟩
 clear HST
 obtain ⟨k,blk,hk,rfl,ho⟩:=hrel
 have hl1:(strV (bitT m.sealed :: (m.marks.take k).map Lib.itoa)).length=k+1:=by rw [strV_len];simp;omega
 obtain ⟨ua,uc,hu⟩:=ho.out.own.form
 rw [hl1] at hu
 subst hu
 by_cases hlt:k<m.marks.length
 · obtain ⟨g,o,rfl,hgl,x0,x1⟩:=(H.out.below ho.out.below).reader re hlt
   unfold ptr at x0
   have hkl:(k:Int)<(m.marks.length:Int):=by omega
   have hk0:(0:Int)≤(k:Int):=by omega
   have hmb:=HOK.out.marks _ (List.getElem_mem hlt)
   have HNX:Hid (strV (bitT m.sealed :: (m.marks.take (k+1)).map Lib.itoa)=strV (bitT m.sealed :: (m.marks.take k).map Lib.itoa) ++ [.string ⟨(Lib.itoa m.marks[k]).toArray⟩]):=by
    show _=_
    rw [← List.take_append_getElem hlt,List.map_append,← strV_snoc]
    rfl
   obtain ⟨mk,hmk⟩:∃ v,m.marks[k]=v:=⟨_,rfl⟩
   rw [hmk] at x1 hmb HNX
   have hxl:=cell_lt x1
   have H48:Hid (∀ W,Below wr.heap.size wr W→Calls Tryz.prog 48 #[.pointer (some ⟨ws.mb k,0,none⟩)] W fun e w'=>e=.returned (.int .i64 mk)∧W=w'):=fun W hb=>f48_any W (ws.mb k) mk (by rw [hb.cell (p:=⟨ws.mb k,1,none⟩) hxl];exact x1)
   have HB6:Hid (Below wr.heap.size wr (wr.alloc (.cells #[.pointer (some ⟨ws.mb k,0,none⟩)] 104))):=(Below.refl _ _).alloc (Nat.le_refl _) _
   have HO:=ho
   have HL1:=Lib.hid hl1
   clear ho hmk hl1 x1
   go_wp2_with (first
    | (go_at_call 48;(with_reducible refine (H48.out _ HB6.out).mono ?_);rintro e w2 ⟨rfl,rfl⟩)
    | (go_at_call 84;(with_reducible refine (f84_any _ (HT.out.below (HO.out.below.trans (HB6.out.mono HO.out.below.size))) mk (by omega) (by omega)).mono ?_);rintro e w2 ⟨rfl,hb2⟩;have HO2:=Lib.hid (HO.out.to (HB6.out.trans (hb2.mono HB6.out.size)));have HO3:=Lib.hid ((HO2.out.to ((Below.refl _ _).alloc (Nat.le_refl _) (.cells #[.string ⟨(Lib.itoa mk).toArray⟩] 9))));have hown:=HO3.out.own;rw [HL1.out] at hown;have HOWN:=Lib.hid hown;clear hb2 hown)
    | (at_builtin
       refine wpList_append_S rfl (.tmp 26) (.tmp 31) 120 rfl 9 i0 _ 1 16 Tryz.underlying120 hi0 hz0 hz1 hz2 rfl (by omega) (.slice ua (k+1) uc) (k+1) (strV (bitT m.sealed :: (m.marks.take k).map Lib.itoa)) blk rfl HOWN.out (.slice (some ⟨w2.heap.size,0,none⟩) 1 1) 1 [.string ⟨(Lib.itoa mk).toArray⟩] rfl (one_src _) (fun u hu=>by rw [List.mem_singleton] at hu;subst hu;rfl) (by simp only [maxLen];omega) (by omega) ?_
       intro v1 w3 b3 h1 h2 h3
       have HF:=Lib.hid (HO3.out.add (x:=.string ⟨(Lib.itoa mk).toArray⟩) (by rw [HL1.out];exact h1) h2 h3)
       clear h1 h2 h3))
   go_roundw
   case rel=>exact ⟨k+1,b3,by omega,by go_num,by rw [HNX.out];exact HF⟩
   case measure=>simp [intOf];omega
 have hkn:m.marks.length=k:=by omega
 have hown:=ho.out.own
 rw [hl1] at hown
 have hcut:m.marks.take k=m.marks:=by rw [← hkn,List.take_length]
 rw [hcut] at hown
 have HBR:=Lib.hid ho.out.below
 clear ho hl1 hcut hlt hk
 subst hkn
 obtain ⟨bk,ob,rfl⟩:=hown.some_of (by omega)
 have hjl:(Lib.join (headW m) [32]).length≤100000:=by
  have h1:=join_le (headW_len HOK.out)
  have h2:(headW m).length=m.marks.length+1:=by simp [headW]
  omega
 have H85:=Lib.hid (join_own (l:=headW m) (by simp [headW]) hown hjl (by omega))
 have HS:Hid (stateT m=linesT (Lib.join (headW m) [32] :: (m.splits.take m.splits.length).map fun x=>Lib.join (lineW m.bound x) [32])):=by show _=_;rw [List.take_length];rfl
 generalize Lib.join (headW m) [32]=hd at H85 HS hjl
 obtain ⟨c2,c4,c5⟩:=HCW.out wr HBR.out
 clear hown c4 c5
 have HL2:Hid (∀ w2,Below wr.heap.size wr w2→w2.cell? ⟨ws.W,2,none⟩=some (.slice sa m.splits.length sc)∧Below w.heap.size w w2):=fun w2 hb=>by
  have hb2:=HBR.out.trans (hb.mono HBR.out.size)
  exact ⟨(HCW.out w2 hb2).1,hb2⟩
 go_wp2_with (go_at_call 85;(with_reducible refine H85.out.mono ?_);rintro e w2 ⟨rfl,hb2⟩;obtain ⟨c2',hbw2⟩:=HL2.out w2 hb2;have HB2:=Lib.hid hbw2;clear hb2 hbw2)
 clear H85 HL2 c2 c2' HBR
 go_loopw [6,42] (fun t i wr=>∃ k:Nat,k≤m.splits.length∧t=.string ⟨(linesT (hd :: (m.splits.take k).map fun x=>Lib.join (lineW m.bound x) [32])).toArray⟩∧i=.int .i64 k∧Hid (Below w.heap.size w wr)) (fun _ i _=>m.splits.length - (intOf i).toNat)
 case atStart=>exact ⟨0,by omega,by rw [show (⟨#[10]⟩:ByteArray)=⟨[10].toArray⟩ from rfl,bytes_append];simp [linesT],rfl,HB2⟩
 clear HB2
 obtain ⟨k,hk,rfl,rfl,hbr⟩:=hrel
 by_cases hlt:k<m.splits.length
 · obtain ⟨g,o,e1,e2,rfl,hgl,x0,hev,hxb,-⟩:=(H.out.below hbr.out).split se hlt
   have hmem:=List.getElem_mem hlt
   have hln:=lineW_len HOK.out hmem
   have hmk:=mark_bounds HOK.out hmem
   have hown1:=HOK.out.owner _ hmem
   have hrd1:=HOK.out.read _ hmem
   have hbd:=HOK.out.bound
   have hev4:m.splits[k].evs.length≤400:=by
    have:=allN_take hlt
    have:=allN_le m.splits (k+1)
    have:=HOK.out.all
    omega
   have HCL:Hid (∀ W,Below w.heap.size w W→W.cell? ⟨ws.xb k,0,none⟩=some (.string m.splits[k].name)∧W.cell? ⟨ws.xb k,2,none⟩=some (.int .i64 m.splits[k].read)∧W.cell? ⟨ws.xb k,3,none⟩=some (.pointer (some ⟨ws.gb k,0,none⟩))∧W.cell? ⟨ws.xb k,4,none⟩=some (.bool m.splits[k].sealed)∧W.cell? ⟨ws.xb k,5,none⟩=some (.int .i64 m.splits[k].owner)):=fun W hb=>by
    obtain ⟨g',o',e1',e2',_,_,_,_,_,y0,_,y2,y3,y4,y5⟩:=(H.out.below hb).split se hlt
    exact ⟨y0,y2,y3,y4,y5⟩
   have H86:Hid (∀ W,Below w.heap.size w W→Calls Tryz.prog 86 #[.pointer (some ⟨ws.gb k,0,none⟩)] W fun e w'=>e=.returned (.string ⟨(gaugeT m.bound m.splits[k].mark m.splits[k].done).toArray⟩)∧Below W.heap.size W w'):=fun W hb=>by
    have h:=f86_any HMX.out W (HT.out.below hb) (ws.gb k) _ _ _ ((H.out.below hb).hG k hlt) hbd hmk
    unfold ptr at h
    exact h
   have H84:Hid (∀ W n,Below w.heap.size w W→0≤n→n≤400→Calls Tryz.prog 84 #[.int .i64 n] W fun e w'=>e=.returned (.string ⟨(Lib.itoa n).toArray⟩)∧Below W.heap.size W w'):=fun W n hb h0 h1=>f84_any W (HT.out.below hb) n (by omega) (by omega)
   have HNX:Hid (linesT (hd :: (m.splits.take (k+1)).map fun x=>Lib.join (lineW m.bound x) [32])=linesT (hd :: (m.splits.take k).map fun x=>Lib.join (lineW m.bound x) [32]) ++ (Lib.join (lineW m.bound m.splits[k]) [32] ++ [10])):=by
    show _=_
    rw [← List.take_append_getElem hlt,List.map_append,← List.cons_append,linesT_append]
    rfl
   have hjn:(Lib.join (lineW m.bound m.splits[k]) [32]).length≤100000:=by
    have:=join_le hln
    have h2:(lineW m.bound m.splits[k]).length=5:=rfl
    omega
   have htx:(linesT (hd :: (m.splits.take k).map fun x=>Lib.join (lineW m.bound x) [32])).length≤10000000:=by
    have h1:∀ y ∈ (hd :: (m.splits.take k).map fun x=>Lib.join (lineW m.bound x) [32]),y.length≤100000:=by
     intro y hy
     rcases List.mem_cons.1 hy with rfl | hy
     · exact hjl
     · obtain ⟨x,hx,rfl⟩:=List.mem_map.1 hy
       have:=join_le (lineW_len HOK.out (List.mem_of_mem_take hx))
       have h2:(lineW m.bound x).length=5:=rfl
       omega
    have h2:=linesT_le h1
    have h3:(hd :: (m.splits.take k).map fun x=>Lib.join (lineW m.bound x) [32]).length=k+1:=by simp;omega
    rw [h3] at h2
    omega
   have HJ:Hid (∀ W:World,_):=fun W=>join_line W m.bound m.splits[k] hjn
   clear hln hmem
   generalize hx:m.splits[k]=x at HCL H86 HNX hmk hown1 hrd1 hev4 hjn HJ
   clear hx hev
   generalize Lib.join (lineW m.bound x) [32]=jn at HNX hjn HJ
   generalize linesT (hd :: (m.splits.take k).map fun x=>Lib.join (lineW m.bound x) [32])=tx at HNX htx ⊢
   have HBR:=hbr
   have HLS:Hid (tx.length≤10000000∧jn.length≤100000):=⟨htx,hjn⟩
   have hxo:(0:Int)≤(x.owner:Int)∧(x.owner:Int)≤400:=by omega
   have hxr:(0:Int)≤(x.read:Int)∧(x.read:Int)≤400:=by omega
   go_wp2_with fail
   have hC:Below w.heap.size w wr.drew:=hbr.out.trans ((Below.refl wr.heap.size wr).drew.mono hbr.out.size)
   clear x0 hbr
   refine wp_region_ord [0,1,2,3,4,5,6,7,8,10,11,12,13,15,16,17,18,20,21,22,23,9,14,19,24,25,26,27,28,29] (fun W=>Below w.heap.size w W) mixed (by kernel_rfl) (fun hg=>?_)
   generalize wr.drew=wd at hC ⊢
   repeat (refine ord_rd hg hC (fun K hK=>?_);apply Exists.intro;refine ⟨fun W hW=>?_,?_⟩;(· obtain ⟨u0,u2,u3,u4,u5⟩:=HCL.out W hW;go_simp;first | rfl | (rw [if_neg (by omega)];done));go_simp;refine hK _ ?_;clear hK K)
   refine ord_on (fun K hK=>?_)
   go_simp
   go_at_call 84
   refine (H84.out _ x.owner hC hxo.1 hxo.2).mono ?_
   rintro e w3 ⟨rfl,hb2⟩
   replace hC:=hC.trans (hb2.mono hC.size)
   clear hb2
   refine hK _ _ rfl hC ?_
   clear hK K
   refine ord_on (fun K hK=>?_)
   go_simp
   go_at_call 84
   refine (H84.out _ x.read hC hxr.1 hxr.2).mono ?_
   rintro e w4 ⟨rfl,hb2⟩
   replace hC:=hC.trans (hb2.mono hC.size)
   clear hb2
   refine hK _ _ rfl hC ?_
   clear hK K
   refine ord_on (fun K hK=>?_)
   go_simp
   go_at_call 83
   refine (H83.out _ _).mono ?_
   rintro e w5 ⟨rfl,rfl⟩
   refine hK _ _ rfl hC ?_
   clear hK K
   refine ord_on (fun K hK=>?_)
   go_simp
   go_at_call 86
   refine (H86.out _ hC).mono ?_
   rintro e w6 ⟨rfl,hb2⟩
   replace hC:=hC.trans (hb2.mono hC.size)
   clear hb2
   refine hK _ _ rfl hC ?_
   clear hK K
   refine ord_on (fun K hK=>?_)
   go_simp
   have hC2:Below w.heap.size w (w6.alloc (.cells #[.string x.name,.string ⟨(Lib.itoa x.owner).toArray⟩,.string ⟨(Lib.itoa x.read).toArray⟩,.string ⟨(bitT x.sealed).toArray⟩,.string ⟨(gaugeT m.bound x.mark x.done).toArray⟩] 9)):=hC.alloc hC.size _
   refine hK _ _ rfl hC2 ?_
   clear hK K hC2
   refine ord_on (fun K hK=>?_)
   go_simp
   go_at_call 85
   refine (HJ.out w6).mono ?_
   rintro e w7 ⟨rfl,hb2⟩
   replace hC:=hC.trans (hb2.mono hC.size)
   clear hb2
   refine hK _ _ rfl hC ?_
   clear hK K
   repeat (refine ord_rd hg hC (fun K hK=>?_);apply Exists.intro;refine ⟨fun W hW=>?_,?_⟩;(· obtain ⟨u0,u2,u3,u4,u5⟩:=HCL.out W hW;go_simp;first | rfl | (rw [if_neg (by omega)];done));go_simp;refine hK _ ?_;clear hK K)
   refine ord_end (by kernel_rfl) ?_
   have HC7:=Lib.hid hC
   clear hC
   go_wp2_with fail
   go_roundw
   case rel=>exact ⟨k+1,by omega,by rw [HNX.out,show (⟨#[10]⟩:ByteArray)=⟨[10].toArray⟩ from rfl,bytes_append,bytes_append],by go_num,HC7⟩
   case measure=>simp [intOf];omega
 have hkn:m.splits.length=k:=by omega
 have HF:=Lib.hid (by rw [HS.out,hkn]:stateT m=linesT (hd :: (m.splits.take k).map fun x=>Lib.join (lineW m.bound x) [32]))
 have HBR:=hbr
 clear hbr
 go_wp2_with fail
 go_ret
 exact ⟨ret_str (by rw [HF.out]),HBR.out⟩
end leaves
end Go.Proofs.YtimahogkcmmcnaaGreatDoor
