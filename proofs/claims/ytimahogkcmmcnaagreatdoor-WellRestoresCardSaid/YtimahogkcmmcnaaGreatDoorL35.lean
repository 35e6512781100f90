/-
 The well restored, part 14: both wells between two acts. If they lie in the world as the words say.
-/
import Derived.Test.YtimahogkcmmcnaaGreatDoorL32
import Derived.Test.YtimahogkcmmcnaaGreatDoorL33
import Derived.Test.YtimahogkcmmcnaaGreatDoorL34
import Derived.Test.YtimahogkcmmcnaaGreatDoorL31
import Derived.Test.YtimahogkcmmcnaaGreatDoorL15
set_option linter.unusedSimpArgs false
set_option linter.unusedVariables false
namespace Go.Proofs.YtimahogkcmmcnaaGreatDoor
open Go.RowKit Go.Proofs.YtimahogkcmmcnaaGreatDoor.Cmps
structure Both (E:Nat→Prop) (w0 wr:World) (gs W:Nat) (s:List Col) (col:Nat→Nat) (ws:WS) (m:WlM) (p:RS) (bx:Array Value):Prop where
 hW:ws.W=W
 wat:WAt wr col s ws m
 ref:RefAt wr (fun x=>Calm wr col x∧x≠gs∧¬ E x) s m p
 good:Good m
 box:wr.heap[gs]? = some (.cells bx 45 (0,0))
 mute:Mute wr gs
 below:Below w0.heap.size w0 wr
 c0:∀ x,x<w0.heap.size→col x=0
 cg:col gs=0
 og:w0.heap.size≤gs
 hE:∀ x,E x→w0.heap.size≤x∧x<wr.heap.size
section both
variable {E : Nat → Prop} {w0 wr W' : World} {gs W : Nat} {s : List Col} {col : Nat → Nat} {ws : WS} {m : WlM} {p : RS} {bx : Array Value}
theorem Both.to (h:Both E w0 wr gs W s col ws m p bx) (hb:Below wr.heap.size wr W'):Both E w0 W' gs W s col ws m p bx:=by
 have hg:=heap_lt h.box
 exact ⟨h.hW,h.wat.below hb,(h.ref.below hb).mono fun x hx=>⟨⟨Nat.lt_of_lt_of_le hx.1.1 hb.size,hx.1.2⟩,hx.2⟩,h.good,(hb.block _ hg).trans h.box,h.mute.keep (hb.block _ hg),h.below.trans (hb.mono h.below.size),h.c0,h.cg,h.og,fun x hx=>⟨(h.hE x hx).1,Nat.lt_of_lt_of_le (h.hE x hx).2 hb.size⟩⟩
theorem Both.form (h:Both E w0 wr gs W s col ws m p bx):∃ (sha sa ma ba:Option Addr) (shc sc mc bc:Nat),p=⟨.slice sha s.length shc,(sa,sc),(ma,mc),.slice ba m.late.length bc⟩:=by
 obtain ⟨sch,⟨sa,sc⟩,⟨ma,mc⟩,back⟩:=p
 obtain ⟨sha,shc,rfl⟩:∃ a c,sch=.slice a s.length c:=by obtain ⟨a,c,e,_⟩:=h.ref.sch;exact ⟨a,c,e⟩
 obtain ⟨ba,bc,rfl⟩:∃ a c,back=.slice a m.late.length c:=by obtain ⟨a,c,e,_⟩:=h.ref.back;exact ⟨a,c,e⟩
 exact ⟨sha,sa,ma,ba,shc,sc,mc,bc,rfl⟩
theorem Both.did (h:Both E w0 wr gs W s col ws m p bx) {m':WlM} {p':RS} {w5:World} (hd:DidTo wr col (fun x=>Calm wr col x∧x≠gs∧¬ E x) s W m' p' w5) (hg:Good m'):(∃ col' ws',Both E w0 w5 gs W s col' ws' m' p' bx∧∀ b,b<wr.heap.size→col' b=col b)∧Only (fun b=>col b≠0) wr w5:=by
 obtain ⟨col',ws',e,hwa,hra,hwent⟩:=hd
 refine ⟨?_,hwent.only⟩
 have h1:=heap_lt h.box
 have hz:=h.below.size
 have hbl:∀ y,y<wr.heap.size→col y=0→w5.heap[y]? = wr.heap[y]? := fun y hy h0=>hwent.only.block y hy (fun hn=>hn h0)
 refine ⟨col',ws',⟨e,hwa,hra.mono fun x hx=>⟨hx.1,?_,fun hE=>?_⟩,hg,(hbl _ h1 h.cg).trans h.box,h.mute.keep (hbl _ h1 h.cg),?_,fun x hx=>(hwent.colE x (by omega)).trans (h.c0 x hx),(hwent.colE _ h1).trans h.cg,h.og,fun x hx=>⟨(h.hE x hx).1,Nat.lt_of_lt_of_le (h.hE x hx).2 hwent.only.size⟩⟩,hwent.colE⟩
 · rcases hx.2 with hx | hx
   · exact hx.2.1
   · omega
 · rcases hx.2 with hx | hx
   · exact hx.2.2 hE
   · have:=(h.hE x hE).2;omega
 · exact h.below.trans (hwent.only.below hz fun x hx=>by
    by_cases hq:w0.heap.size≤x
    · exact hq
    · exact absurd (h.c0 x (by omega)) hx)
theorem Both.fill (h:Both E w0 wr gs W s col ws m p bx) {a b c d e f:Value} (hb:wr.heap[gs]? = some (.cells #[a,b,c,d,e,f] 45 (0,0))) {a1 a2 a3 a4:Option Addr} {n1 n2 n3 n4 c1 c2 c3 c4:Nat} {i:Int} {q:Bool} :
 Both E w0 (fill45 wr gs (.slice a1 n1 c1) (.int .i64 i) (.slice a2 n2 c2) (.slice a3 n3 c3) (.bool q) (.slice a4 n4 c4)) gs W s col ws m p #[.slice a1 n1 c1,.int .i64 i,.slice a2 n2 c2,.slice a3 n3 c3,.bool q,.slice a4 n4 c4]:=by
 have h1:=heap_lt h.box
 have o:Only (fun y=>y=gs) wr (fill45 wr gs (.slice a1 n1 c1) (.int .i64 i) (.slice a2 n2 c2) (.slice a3 n3 c3) (.bool q) (.slice a4 n4 c4)):=(Only.refl (fun y=>y=gs) wr).fill (g:=gs) (fun _=>rfl) _ _ _ _ _ _
 have hbx:=box45_fill (w:=wr) (g:=gs) hb (.slice a1 n1 c1) (.int .i64 i) (.slice a2 n2 c2) (.slice a3 n3 c3) (.bool q) (.slice a4 n4 c4)
 have hog:=h.og
 exact ⟨h.hW,h.wat.turn h.mute h.cg h1 o,(h.ref.keep fun y hy hl=>o.block y hl hy.2.1).mono fun y hy=>⟨⟨Nat.lt_of_lt_of_le hy.1.1 o.size,hy.1.2⟩,hy.2⟩,h.good,hbx,mute45v hbx,h.below.trans (o.below h.below.size (fun y hy=>by omega)),h.c0,h.cg,h.og,fun x hx=>⟨(h.hE x hx).1,Nat.lt_of_lt_of_le (h.hE x hx).2 o.size⟩⟩
theorem both_19 (hm:Tryz.prog.follows .mixedOrders=true) (h:Both E w0 wr gs W s col ws m p bx) (x:ActM) (ev:Value) (he:EvtsAt wr (fun b=>b<w0.heap.size) ev x.evs) (hn:x.name.size≤9223372036854775807) :
 Calls Tryz.prog 19 #[ptr W,refV m p,.agg #[.int .u8 x.kind,.int .i64 x.reader,.string x.name,ev]] wr fun e w'=>∃ p' col' ws',e=.returned (.tuple #[refV (actR s m x) p',.bool true])∧Both E w0 w' gs W s col' ws' (actR s m x) p' bx∧(∀ b,b<wr.heap.size→col' b=col b)∧∀ b,b<wr.heap.size→col b=0→w'.heap[b]? = wr.heap[b]? := by
 have hz:=h.below.size
 have h19:=f19_any hm wr col s ws m p x ev (fun x=>Calm wr col x∧x≠gs∧¬ E x) (fun y hy=>hy.1) h.wat h.ref h.good (he.mono fun y hy=>⟨⟨by omega,h.c0 y hy⟩,by have:=h.og;omega,fun e=>by have:=(h.hE y e).1;omega⟩) hn
 rw [h.hW] at h19
 refine h19.mono ?_
 rintro e w' ⟨p',rfl,hd⟩
 obtain ⟨⟨col',ws',ho,hce⟩,hon⟩:=h.did hd (actR_good h.good)
 exact ⟨p',col',ws',rfl,ho,hce,fun b hb h0=>hon.block b hb (fun e=>e h0)⟩
theorem both_24 (hm:Tryz.prog.follows .mixedOrders=true) (h:Both E w0 wr gs W s col ws m p bx):Calls Tryz.prog 24 #[ptr W,refV m p] wr fun e w'=>e=.returned (.bool true)∧Below wr.heap.size wr w':=by
 have h24:=f24_any hm wr col _ s ws m p h.wat h.ref h.good.ok h.good.row
 rwa [h.hW] at h24
abbrev zeroO:Obj:=.cells #[.slice none 0 0,.int .i64 0,.slice none 0 0,.slice none 0 0,.bool false,.slice none 0 0] 45
theorem Both.var (h:Both (fun _=>False) w0 wr gs W s col ws m p bx):Both (fun x=>x=wr.heap.size) w0 (wr.alloc zeroO) gs W s col ws m p bx∧col wr.heap.size=0:=by
 have h1:=h.to (alloc_below wr zeroO)
 refine ⟨⟨h1.hW,h1.wat,((h.ref.imp (D':=fun x=>(Calm wr col x∧x≠gs)∧x<wr.heap.size) fun x hl hx=>⟨⟨hx.1,hx.2.1⟩,hl⟩).below (alloc_below wr zeroO)).mono fun x hx=>⟨⟨by simp;omega,hx.1.1.2⟩,hx.1.2,by omega⟩,h1.good,h1.box,h1.mute,h1.below,h1.c0,h1.cg,h1.og,fun x hx=>⟨by have:=h.below.size;omega,by simp;omega⟩⟩,?_⟩
 by_cases e:col wr.heap.size=0
 · exact e
 · have:=h.wat.c0 _ e;omega
theorem Both.put {vb:Nat} (h:Both (fun x=>x=vb) w0 wr gs W s col ws m p bx) (hv:wr.heap[vb]? = some zeroO) (hg:vb≠gs) (hc:col vb=0) {a1 a2 a3 a4:Option Addr} {n1 n2 n3 n4 c1 c2 c3 c4:Nat} {i:Int} {q:Bool} :
 Both (fun x=>x=vb) w0 (fill45 wr vb (.slice a1 n1 c1) (.int .i64 i) (.slice a2 n2 c2) (.slice a3 n3 c3) (.bool q) (.slice a4 n4 c4)) gs W s col ws m p bx∧(fill45 wr vb (.slice a1 n1 c1) (.int .i64 i) (.slice a2 n2 c2) (.slice a3 n3 c3) (.bool q) (.slice a4 n4 c4)).heap[vb]? = some (.cells #[.slice a1 n1 c1,.int .i64 i,.slice a2 n2 c2,.slice a3 n3 c3,.bool q,.slice a4 n4 c4] 45 (0,0)):=by
 have h1:=heap_lt h.box
 have o:Only (fun y=>y=vb) wr (fill45 wr vb (.slice a1 n1 c1) (.int .i64 i) (.slice a2 n2 c2) (.slice a3 n3 c3) (.bool q) (.slice a4 n4 c4)):=(Only.refl (fun y=>y=vb) wr).fill (g:=vb) (fun _=>rfl) _ _ _ _ _ _
 have hog:=(h.hE vb rfl).1
 exact ⟨⟨h.hW,h.wat.turn (mute45 hv) hc (heap_lt hv) o,(h.ref.keep fun y hy hl=>o.block y hl hy.2.2).mono fun y hy=>⟨⟨Nat.lt_of_lt_of_le hy.1.1 o.size,hy.1.2⟩,hy.2⟩,h.good,(o.block _ h1 (Ne.symm hg)).trans h.box,h.mute.keep (o.block _ h1 (Ne.symm hg)),h.below.trans (o.below h.below.size (fun y hy=>by omega)),h.c0,h.cg,h.og,fun x hx=>⟨(h.hE x hx).1,Nat.lt_of_lt_of_le (h.hE x hx).2 o.size⟩⟩,box45_fill hv _ _ _ _ _ _⟩
theorem Both.free (h:Both E w0 wr gs W s col ws m p bx):Both (fun _=>False) w0 wr gs W s col ws m p bx :=
 ⟨h.hW,h.wat,h.ref.mono fun x hx=>⟨hx.1,hx.2.1,id⟩,h.good,h.box,h.mute,h.below,h.c0,h.cg,h.og,fun x hx=>hx.elim⟩
end both
section leaves
set_option maxHeartbeats 400000
set_option maxRecDepth 10000
theorem f90_big (w:World) (D:Nat→Prop) (s:List Col) (m:WlM) (p:RS) (h:RefAt w D s m p) (h50:m.splits.length≤50) (hall:allN m.splits≤1000) :
 Calls Tryz.prog 90 #[refV m p] w fun e w'=>e=.returned (.int .i64 (allN m.splits))∧Below w.heap.size w w':=by
 have HB:Hid (∀ o,Below w.heap.size w (w.alloc o)):=fun o=>(Below.refl _ _).alloc (Nat.le_refl _) o
 obtain ⟨sch,⟨sa,sc⟩,⟨ma,mc⟩,back⟩:=p
 have HS:=Lib.hid h.spl
 dsimp only at HS
 have HA:=Lib.hid hall
 clear h hall
 go_enter Tryz.func90,Tryz.ntmps90
 go_wp2_with fail
 go_loopw [3,4] (fun z i wr=>∃ (k:Nat),k≤m.splits.length∧z=.int .i64 (allN (m.splits.take k))∧i=.int .i64 k∧w.alloc (.cells #[sch,.int .i64 m.bound,.slice sa m.splits.length sc,.slice ma m.marks.length mc,.bool m.sealed,back] 45)=wr) (fun _ i _=>m.splits.length - (intOf i).toNat)
 case atStart=>exact ⟨0,by omega,by rfl,rfl,rfl⟩
 case round =>
  obtain ⟨k,hk,rfl,rfl,rfl⟩:=hrel
  by_cases hlt:k<m.splits.length
  · obtain ⟨b,off,e1,e2,rfl,hbw,-,-,-,x2,-⟩:=(HS.out.below (HB.out (.cells #[sch,.int .i64 m.bound,.slice sa m.splits.length sc,.slice ma m.marks.length mc,.bool m.sealed,back] 45))).at hlt
    have hb1:allN (m.splits.take k)+m.splits[k].evs.length≤1000:=by
     rw [← allN_take hlt]
     exact Nat.le_trans (allN_le _ _) HA.out
    have HT:=Lib.hid (allN_take hlt)
    obtain ⟨n1,e1'⟩:∃ n,allN (m.splits.take k)=n:=⟨_,rfl⟩
    obtain ⟨n2,e2'⟩:∃ n,m.splits[k].evs.length=n:=⟨_,rfl⟩
    rw [e1',e2'] at HT hb1
    rw [e2'] at x2
    rw [e1']
    go_wp2_with fail
    go_roundw
    case rel=>exact ⟨k+1,by omega,by rw [HT.out];go_num,by go_num,trivial⟩
    case measure=>simp [intOf];omega
  · have hk':k=m.splits.length:=by omega
    subst hk'
    go_wp2_with fail
    go_ret
    exact ⟨ret_int (by rw [List.take_length]),HB.out _⟩
end leaves
def evF (l:List GivM) (x:SpM):SpM:={ x with evs:=(gOf l x.name).evs }
def evX (l:List GivM) (i:Nat) (x:SpM):SpM:=if (l.take i).any (fun g=>eqS g.name x.name) then evF l x else x
theorem evX_zero (l:List GivM) (xs:List SpM):xs.map (evX l 0)=xs:=by
 have:evX l 0=id:=by funext x;simp [evX]
 rw [this,List.map_id]
theorem evX_set {l:List GivM} {m:WlM} (hg:GUniq l) (hu:Uniq m) {i k:Nat} (hi:i<l.length) (hk:k<m.splits.length) (hn:m.splits[k].name=l[i].name) :
 (m.splits.map (evX l i)).set k { (m.splits.map (evX l i))[k]'(by simpa using hk) with evs:=l[i].evs }=m.splits.map (evX l (i+1)):=by
 apply List.ext_getElem (by simp)
 intro q h1 h2
 have hq:q<m.splits.length:=by simpa using h2
 have ht:l.take (i+1)=l.take i ++ [l[i]]:=(List.take_append_getElem hi).symm
 by_cases e:q=k
 · subst e
   rw [List.getElem_set_self,List.getElem_map,List.getElem_map]
   have h3:evX l (i+1) m.splits[q]=evF l m.splits[q]:=by
    unfold evX
    rw [if_pos]
    rw [ht,List.any_append]
    simp [eqS_true.mpr hn.symm]
   rw [h3]
   have h4:gOf l m.splits[q].name=l[i]:=by rw [hn];exact gOf_at hg hi
   unfold evF evX evF
   rw [h4]
   split <;> rfl
 · rw [List.getElem_set_ne (Ne.symm e)]
   simp only [List.getElem_map]
   have h5:eqS l[i].name m.splits[q].name=false:=by
    cases hq2:eqS l[i].name m.splits[q].name with
    | false=>rfl
    | true=>exact absurd (hu q k hq hk ((eqS_true.mp hq2).symm.trans hn.symm)) e
   have key:∀ x:SpM,eqS l[i].name x.name=false→evX l i x=evX l (i+1) x:=fun x hx=>by
    unfold evX
    rw [ht,List.any_append]
    simp [hx]
   exact key _ h5
theorem evX_all {l:List GivM} {m:WlM} (hp:∀ x ∈ m.splits,∃ j,∃ h:j<l.length,l[j].name=x.name):m.splits.map (evX l l.length)=m.splits.map (evF l):=by
 apply List.map_congr_left
 intro x hx
 obtain ⟨j,hj,e⟩:=hp x hx
 unfold evX
 rw [if_pos]
 rw [List.take_length,List.any_eq_true]
 exact ⟨l[j],List.getElem_mem hj,eqS_true.mpr e⟩
theorem restM_same {m:WlM} {l:List GivM}:restM m m.marks.length l=⟨m.bound,m.splits.map (evF l),m.marks,m.sealed,[]⟩:=by
 unfold restM
 rw [show (m.marks.length == m.marks.length)=true by simp,resK_same (Nat.le_refl _),List.take_length]
 congr 1
 apply List.ext_getElem (by simp)
 intro i h1 h2
 simp [finK,List.getD,h2]
def ownK (no:Nat) (l:List GivM) (xs:List SpM) (i:Nat):List SpM:=resK false no l xs i ++ (xs.drop i).map (evF l)
theorem ownK_len {no:Nat} {l:List GivM} {xs:List SpM} {i:Nat} (h:i≤xs.length):(ownK no l xs i).length=xs.length:=by
 unfold ownK
 rw [List.length_append,resK_len h]
 simp
 omega
theorem ownK_take {no:Nat} {l:List GivM} {xs:List SpM} {i:Nat} (h:i≤xs.length):(ownK no l xs i).take i=resK false no l xs i:=by
 unfold ownK
 rw [List.take_append_of_le_length (by rw [resK_len h];exact Nat.le_refl _),List.take_of_length_le (by rw [resK_len h];exact Nat.le_refl _)]
theorem ownK_at {no:Nat} {l:List GivM} {xs:List SpM} {i:Nat} (h:i<xs.length):(ownK no l xs i)[i]'(by rw [ownK_len (by omega)];exact h)=evF l xs[i]:=by
 unfold ownK
 have h1:(resK false no l xs i).length=i:=resK_len (by omega)
 rw [List.getElem_append_right (by omega)]
 simp [h1]
theorem ownK_set {no:Nat} {l:List GivM} {xs:List SpM} {i:Nat} (h:i<xs.length):(ownK no l xs i).set i { (ownK no l xs i)[i]'(by rw [ownK_len (by omega)];exact h) with owner:=fewN (resK false no l xs i) (no - 1) }=ownK no l xs (i+1):=by
 rw [ownK_at h]
 unfold ownK
 have h1:(resK false no l xs i).length=i:=resK_len (by omega)
 rw [List.set_append_right _ _ (by omega),h1,Nat.sub_self,List.drop_eq_getElem_cons h,List.map_cons,List.set_cons_zero,resK_succ h,List.append_assoc]
 rfl
theorem ownK_zero {no:Nat} {l:List GivM} {xs:List SpM}:ownK no l xs 0=xs.map (evF l):=rfl
theorem ownK_end {no:Nat} {l:List GivM} {xs:List SpM}:ownK no l xs xs.length=resK false no l xs xs.length:=by
 unfold ownK
 simp
theorem resK_owner {no:Nat} (h1:1≤no) {l:List GivM} {xs:List SpM}:∀ {k:Nat},k≤xs.length→∀ x ∈ resK false no l xs k,x.owner<no
 | 0,_,x,hx=>by cases hx
 | k+1,hk,x,hx=>by
   rw [resK_succ (by omega)] at hx
   rcases List.mem_append.1 hx with hx | hx
   · exact resK_owner h1 (by omega) x hx
   · rw [List.mem_singleton] at hx
     rw [hx]
     show ownX false no (resK false no l xs k) xs[k]<no
     exact ownX_lt h1 (fun e=>by cases e)
theorem countN_app {a b:List SpM} {r:Int}:countN (a ++ b) r=countN a r+countN b r:=by
 unfold countN
 simp [List.countP_append,List.filter_append]
theorem mkK_none {no:Nat} {l:List GivM} {xs:List SpM} {ms:List Int} {r:Nat} (hr:r<no):∀ {k:Nat},k≤xs.length→countN (resK false no l xs k) r=0→(mkK false no l xs ms k).getD r 0=1000000000001
 | 0,_,_=>by simp [mkK,List.getD,hr]
 | k+1,hk,hc=>by
   rw [resK_succ (by omega),countN_app] at hc
   rw [mkK_succ (by omega)]
   have ih:=mkK_none (l:=l) (xs:=xs) (ms:=ms) hr (k:=k) (by omega) (by omega)
   have hne:ownX false no (resK false no l xs k) xs[k]≠r:=by
    intro e
    have h2:countN [resX l (ownX false no (resK false no l xs k) xs[k]) xs[k]] (r:Int)=0:=by omega
    have h3:=countN_any [resX l (ownX false no (resK false no l xs k) xs[k]) xs[k]] (r:Int)
    rw [h2] at h3
    simp [resX,e] at h3
   rw [← ih]
   simp [List.getD,List.getElem?_set,hne]
structure RMid (wB wr:World) (D:Nat→Prop) (s:List Col) (m:WlM) (ob:Nat) (sch:Value) (sa:Option Addr) (sc:Nat) (sb:Option Nat) (mv:Value) (mb:Option Nat) (xs:List SpM) (ms:List Int):Prop where
 out:wr.heap[ob]? = some (.cells #[sch,.int .i64 m.bound,.slice sa xs.length sc,mv,.bool m.sealed,.slice none 0 0] 45 (0,0))
 sch:SchemaAt wr D sch s
 spl:SplsOwn wr D (.slice sa xs.length sc) xs sb
 mks:SlOwn wr 3 1 mv ms.length (ms.map (Value.int .i64)) mb
 hD:∀ b,D b→b<wB.heap.size
 hob:wB.heap.size≤ob
 hsb:∀ b,sb=some b→wB.heap.size≤b∧b≠ob
 hmb:∀ b,mb=some b→wB.heap.size≤b∧b≠ob∧sb≠some b
 below:Below wB.heap.size wB wr
section mid
variable {wB wr w' : World} {D : Nat → Prop} {s : List Col} {m : WlM} {ob : Nat} {sch : Value} {sa : Option Addr} {sc : Nat} {sb : Option Nat} {mv : Value} {mb : Option Nat} {xs : List SpM} {ms : List Int}
theorem RMid.keep (h:RMid wB wr D s m ob sch sa sc sb mv mb xs ms) (hb:Below wr.heap.size wr w'):RMid wB w' D s m ob sch sa sc sb mv mb xs ms :=
 ⟨(hb.block _ (heap_lt h.out)).trans h.out,h.sch.keep fun b _ hl=>hb.block b hl,h.spl.keep fun b _ hl=>hb.block b hl,h.mks.keep fun b e=>hb.block b (h.mks.lt_of e),h.hD,h.hob,h.hsb,h.hmb,h.below.trans (hb.mono h.below.size)⟩
theorem RMid.spls (h:RMid wB wr D s m ob sch sa sc sb mv mb xs ms):SplsAt wr (fun b=>D b∨sb=some b) (.slice sa xs.length sc) xs:=h.spl.spls
theorem RMid.setEv {g o:Nat} (h:RMid wB wr D s m ob sch (some ⟨g,o,none⟩) sc sb mv mb xs ms) {k:Nat} (hk:k<xs.length) {e:List Evt} {v:Value} (hv:EvtsAt wr D v e) :
 RMid wB (wr.setCell ⟨g,o+k * 6+2,none⟩ v) D s m ob sch (some ⟨g,o,none⟩) sc sb mv mb (xs.set k { xs[k] with evs:=e }) ms:=by
 have esb:sb=some g:=by obtain ⟨_,_,q,_⟩:=h.spl;exact own_blk q
 obtain ⟨hg1,hg2⟩:=h.hsb g esb
 have hD:¬ D g:=fun hh=>by have:=h.hD g hh;omega
 have hs:=h.spl
 rw [esb] at hs
 have h1:=hs.setEv hD hk hv
 rw [← Nat.add_assoc] at h1
 refine ⟨by rw [heap_set_ne _ (Ne.symm hg2),List.length_set];exact h.out,h.sch.keep fun b hb _=>heap_set_ne _ (by rintro rfl;exact hD hb),by rw [esb,List.length_set];exact h1,h.mks.keep fun b e=>heap_set_ne _ (by rintro rfl;exact (h.hmb _ e).2.2 esb),h.hD,h.hob,h.hsb,h.hmb,h.below.setCell (p:=⟨g,o+k * 6+2,none⟩) hg1 _⟩
theorem RMid.setOwn {g o:Nat} (h:RMid wB wr D s m ob sch (some ⟨g,o,none⟩) sc sb mv mb xs ms) {k:Nat} (hk:k<xs.length) (r:Nat) :
 RMid wB (wr.setCell ⟨g,o+k * 6+1,none⟩ (.int .i64 r)) D s m ob sch (some ⟨g,o,none⟩) sc sb mv mb (xs.set k { xs[k] with owner:=r }) ms:=by
 have esb:sb=some g:=by obtain ⟨_,_,q,_⟩:=h.spl;exact own_blk q
 obtain ⟨hg1,hg2⟩:=h.hsb g esb
 have hD:¬ D g:=fun hh=>by have:=h.hD g hh;omega
 have hs:=h.spl
 rw [esb] at hs
 have h1:=hs.setS hD hk (j:=1) (by omega) (x:={ xs[k] with owner:=r }) (v:=.int .i64 r) (fun ev=>rfl) rfl
 rw [← Nat.add_assoc] at h1
 refine ⟨by rw [heap_set_ne _ (Ne.symm hg2),List.length_set];exact h.out,h.sch.keep fun b hb _=>heap_set_ne _ (by rintro rfl;exact hD hb),by rw [esb,List.length_set];exact h1,h.mks.keep fun b e=>heap_set_ne _ (by rintro rfl;exact (h.hmb _ e).2.2 esb),h.hD,h.hob,h.hsb,h.hmb,h.below.setCell (p:=⟨g,o+k * 6+1,none⟩) hg1 _⟩
theorem RMid.setMk {g o c:Nat} (h:RMid wB wr D s m ob sch sa sc sb (.slice (some ⟨g,o,none⟩) ms.length c) mb xs ms) {i:Nat} (hi:i<ms.length) (v:Int) :
 RMid wB (wr.setCell ⟨g,o+i,none⟩ (.int .i64 v)) D s m ob sch sa sc sb (.slice (some ⟨g,o,none⟩) ms.length c) mb xs (ms.set i v):=by
 have hmb:mb=some g:=own_blk h.mks
 obtain ⟨hg1,hg2,hg3⟩:=h.hmb g hmb
 have hD:¬ D g:=fun hh=>by have:=h.hD g hh;omega
 have hs:=h.mks
 rw [hmb] at hs
 have h1:=hs.setJ (j:=i) (by simpa using hi) (.int .i64 v)
 refine ⟨by rw [heap_set_ne _ (Ne.symm hg2)];exact h.out,h.sch.keep fun b hb _=>heap_set_ne _ (by rintro rfl;exact hD hb),h.spl.keep fun b hb _=>heap_set_ne _ (by rintro rfl;rcases hb with hb | hb;exact hD hb;exact hg3 hb),by rw [hmb,List.length_set,List.map_set];exact h1,h.hD,h.hob,h.hsb,h.hmb,h.below.setCell (p:=⟨g,o+i,none⟩) hg1 _⟩
theorem RMid.setMkN {g o c n:Nat} (h:RMid wB wr D s m ob sch sa sc sb (.slice (some ⟨g,o,none⟩) n c) mb xs ms) (hn:ms.length=n) {i:Nat} (hi:i<n) (v:Int) :
 RMid wB (wr.setCell ⟨g,o+i,none⟩ (.int .i64 v)) D s m ob sch sa sc sb (.slice (some ⟨g,o,none⟩) n c) mb xs (ms.set i v):=by
 subst hn
 exact h.setMk hi v
theorem RMid.addMk {w5:World} {O:Obj} {v':Value} {mb':Option Nat} {x:Int} (h:RMid wB wr D s m ob sch sa sc sb mv mb xs ms) (hs:SlOwn w5 3 1 v' (ms.length+1) (ms.map (Value.int .i64) ++ [.int .i64 x]) mb') (hg:(wr.alloc O).grownBy w5 mb) (hat:mb'=mb∨mb'=some (wr.alloc O).heap.size) :
 RMid wB (w5.setCell ⟨ob,3,none⟩ v') D s m ob sch sa sc sb v' mb' xs (ms ++ [x]):=by
 have hza:(wr.alloc O).heap.size=wr.heap.size+1:=by simp
 have hbz:=h.below.size
 have hk:∀ b,b<wr.heap.size→mb≠some b→w5.heap[b]? = wr.heap[b]? := fun b hb hn=>(hg.block b (by omega) (fun e=>hn e.symm)).trans (Below.heap_alloc _ _ _ hb)
 have hol:=heap_lt h.out
 have hom:mb≠some ob:=fun e=>(h.hmb _ e).2.1 rfl
 have ho:=(hk ob hol hom).trans h.out
 have hDl:∀ b,D b→b<wr.heap.size∧mb≠some b∧b≠ob:=fun b hb=>⟨by have:=h.hD b hb;omega,fun e=>by have:=(h.hmb b e).1;have:=h.hD b hb;omega,fun e=>by have:=h.hob;have:=h.hD b hb;omega⟩
 have hmb':∀ b,mb'=some b→wB.heap.size≤b∧b≠ob∧sb≠some b:=fun b e=>by
  rcases hat with e2 | e2
  · exact h.hmb b (e2 ▸ e)
  · rw [e] at e2;injection e2 with e2
    exact ⟨by omega,by omega,fun e3=>by obtain ⟨_,_,q,_⟩:=h.spl;have:=q.lt_of e3;omega⟩
 refine ⟨by rw [heap_set ho];rfl,h.sch.keep fun b hb hl=>(heap_set_ne _ (hDl b hb).2.2).trans (hk b hl (hDl b hb).2.1),h.spl.keep fun b hb hl=>?_,?_,h.hD,h.hob,h.hsb,hmb',((h.below.alloc hbz O).grown hg (by omega) (fun q e=>(h.hmb q e).1)).setCell (p:=⟨ob,3,none⟩) h.hob _⟩
 · rcases hb with hb | hb
   · exact (heap_set_ne _ (hDl b hb).2.2).trans (hk b hl (hDl b hb).2.1)
   · exact (heap_set_ne _ (h.hsb b hb).2).trans (hk b hl (fun e=>(h.hmb b e).2.2 hb))
 · have h1:=hs.keep (w':=w5.setCell ⟨ob,3,none⟩ v') fun b e=>heap_set_ne _ (hmb' b e).2.1
   simpa using h1
theorem RMid.noMk (h:RMid wB wr D s m ob sch sa sc sb mv mb xs ms):RMid wB (wr.setCell ⟨ob,3,none⟩ (.slice none 0 0)) D s m ob sch sa sc sb (.slice none 0 0) none xs []:=by
 have hDl:∀ b,D b→b≠ob:=fun b hb e=>by have:=h.hob;have:=h.hD b hb;omega
 refine ⟨by rw [heap_set h.out];rfl,h.sch.keep fun b hb hl=>heap_set_ne _ (hDl b hb),h.spl.keep fun b hb hl=>?_,SlOwn.nil _ _ _,h.hD,h.hob,h.hsb,(fun b e=>by cases e),h.below.setCell (p:=⟨ob,3,none⟩) h.hob _⟩
 rcases hb with hb | hb
 · exact heap_set_ne _ (hDl b hb)
 · exact heap_set_ne _ (h.hsb b hb).2
theorem SplsAt.take {w:World} {D:Nat→Prop} {a:Option Addr} {c:Nat} {l:List SpM} (h:SplsAt w D (.slice a l.length c) l) {i:Nat} (hi:i≤l.length):SplsAt w D (.slice a (l.take i).length c) (l.take i):=by
 obtain ⟨a',c',e,h⟩:=h
 injection e with e1 e2 e3
 subst e1 e3
 refine ⟨a,c,rfl,?_⟩
 rcases h with h | ⟨b,off,e,hD,h⟩
 · exact .inl (by rw [h];simp)
 · refine .inr ⟨b,off,e,hD,fun q hq=>?_⟩
   have hq2:q<l.length:=by simp at hq;omega
   rw [List.getElem_take]
   exact h q hq2
theorem RMid.ref {ma:Option Addr} {mc:Nat} (h:RMid wB wr D s m ob sch sa sc sb (.slice ma ms.length mc) mb xs ms):RefAt wr (fun b=>D b∨wB.heap.size≤b) s ⟨m.bound,xs,ms,m.sealed,[]⟩ ⟨sch,(sa,sc),(ma,mc),.slice none 0 0⟩ :=
 ⟨h.sch.mono fun _ h=>.inl h,h.spl.spls.mono fun b hb=>hb.imp id fun e=>(h.hsb b e).1,(own_nums h.mks).mono fun b e=>.inr (h.hmb b e).1,⟨none,0,rfl,by simp,.inl rfl⟩⟩
end mid
def finR (no:Nat) (l:List GivM) (m:WlM) (r:Nat):List Int:=(List.range r).map (finK false no l m) ++ (mkK false no l m.splits m.marks m.splits.length).drop r
theorem finR_len {no:Nat} {l:List GivM} {m:WlM} {r:Nat} (h:r≤no):(finR no l m r).length=no:=by
 unfold finR
 have:=mkK_len (same:=false) (no:=no) (l:=l) (xs:=m.splits) (ms:=m.marks) (k:=m.splits.length) (Nat.le_refl _)
 rw [List.length_append,List.length_drop,List.length_map,List.length_range]
 omega
theorem finR_set {no:Nat} {l:List GivM} {m:WlM} {r:Nat} (h:r<no):(finR no l m r).set r (finK false no l m r)=finR no l m (r+1):=by
 have hl:=mkK_len (same:=false) (no:=no) (l:=l) (xs:=m.splits) (ms:=m.marks) (k:=m.splits.length) (Nat.le_refl _)
 unfold finR
 rw [List.set_append_right _ _ (by simp),List.length_map,List.length_range,Nat.sub_self,List.drop_eq_getElem_cons (by omega),List.set_cons_zero,List.range_succ,List.map_append,List.append_assoc]
 rfl
theorem finR_same {no:Nat} {l:List GivM} {m:WlM} {r:Nat} (h:r<no) (he:finK false no l m r=(mkK false no l m.splits m.marks m.splits.length).getD r 0):finR no l m r=finR no l m (r+1):=by
 have hl:=mkK_len (same:=false) (no:=no) (l:=l) (xs:=m.splits) (ms:=m.marks) (k:=m.splits.length) (Nat.le_refl _)
 unfold finR
 rw [List.range_succ,List.map_append,List.append_assoc,List.drop_eq_getElem_cons (by omega)]
 congr 1
 rw [List.map_cons,List.map_nil,he,List.singleton_append]
 congr 1
 simp [List.getD,hl,h]
theorem finR_end {no:Nat} {l:List GivM} {m:WlM}:finR no l m no=(List.range no).map (finK false no l m):=by
 have hl:=mkK_len (same:=false) (no:=no) (l:=l) (xs:=m.splits) (ms:=m.marks) (k:=m.splits.length) (Nat.le_refl _)
 unfold finR
 rw [List.drop_of_length_le (by omega),List.append_nil]
theorem restM_other {m:WlM} {no:Nat} {l:List GivM} (h:no≠m.marks.length):restM m no l=⟨m.bound,resK false no l m.splits m.splits.length,(List.range no).map (finK false no l m),m.sealed,[]⟩:=by
 unfold restM
 rw [show (no == m.marks.length)=false by simpa using h]
theorem set_same {l:List Int} {i:Nat} {v:Int} (h:i<l.length) (e:l.getD i 0=v):l.set i v=l:=by
 subst e
 apply List.ext_getElem?
 intro q
 rw [List.getElem?_set]
 split
 · rename_i e;subst e;simp [h,List.getD]
 · rfl
end Go.Proofs.YtimahogkcmmcnaaGreatDoor
