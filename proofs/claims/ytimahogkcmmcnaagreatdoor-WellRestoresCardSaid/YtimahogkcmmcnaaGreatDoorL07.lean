/-
 The well, part 11: whether nothing more comes of the program's well. If the well lies in the world as the words say.
-/
import Derived.Test.YtimahogkcmmcnaaGreatDoorL06
import Derived.Handy
set_option linter.unusedSimpArgs false
set_option linter.unusedVariables false
namespace Go.Proofs.YtimahogkcmmcnaaGreatDoor
open Go.RowKit Go.Proofs.YtimahogkcmmcnaaGreatDoor.Cmps
section leaves
set_option maxHeartbeats 400000
set_option maxRecDepth 10000
theorem f137_any (w:World) (b:Nat) (sl:Bool) (r n:Nat) (a:Option Addr) (c:Nat) (h1:w.cell? ⟨b,1,none⟩=some (.slice a n c)) (h2:w.cell? ⟨b,2,none⟩=some (.int .i64 r)) (h4:w.cell? ⟨b,4,none⟩=some (.bool sl)) :
 Calls Tryz.prog 137 #[ptr b] w fun e w'=>e=.returned (.bool (!(sl && ((r:Int) == (n:Int)))))∧Below w.heap.size w w':=by
 have H:=Lib.hid (f138_any w b sl r n a c h1 h2 h4)
 generalize (sl && ((r:Int) == (n:Int)))=q at H ⊢
 unfold ptr at H ⊢
 clear h1 h2 h4
 go_enter Tryz.func137,Tryz.ntmps137
 go_wp2_with (go_at_call 138;with_reducible refine H.out.mono ?_;rintro e w1 ⟨rfl,hb1⟩;have HB1:=Lib.hid hb1;clear hb1)
 go_ret
 exact ⟨rfl,HB1.out⟩
theorem f145_any (w:World) (col:Nat→Nat) (s:List Col) (ws:WS) (m:WlM) (h:WAt w col s ws m) (hok:WOk m) :
 Calls Tryz.prog 145 #[ws.spl,.func (.func 137) #[] #[]] w fun e w'=>e=.returned (.int .i64 (idxI (fun x:SpM => !x.done) m.splits))∧Below w.heap.size w w':=by
 obtain ⟨a,c,e⟩:=h.splForm
 rw [e]
 have H:=Lib.hid h
 have h50:=hok.splits
 clear h hok
 go_enter Tryz.func145,Tryz.ntmps145
 go_wp2_with fail
 go_loopw [8] (fun i wr=>∃ k:Nat,k≤m.splits.length∧i=.int .i64 k∧Hid (∀ j (h:j<m.splits.length),j<k→(!m.splits[j].done)=false)∧Hid (Below w.heap.size w wr)) (fun i _=>m.splits.length - (intOf i).toNat)
 case atStart=>exact ⟨0,by omega,rfl,Lib.hid (by omega),Lib.hid (Below.refl _ _)⟩
 case round =>
  obtain ⟨k,hk,rfl,hv,hbr⟩:=hrel
  by_cases hlt:k<m.splits.length
  · obtain ⟨g,o,e1,e2,rfl,hg,x0,-,hxb,-,y1,y2,-,y4,-⟩:=(H.out.below hbr.out).split e hlt
    have H137:=Lib.hid (f137_any wr (ws.xb k) _ _ _ _ _ y1 y2 y4)
    obtain ⟨dn,hdn⟩:∃ b,m.splits[k].done=b:=⟨_,rfl⟩
    have hdn':(m.splits[k].sealed && ((m.splits[k].read:Int) == (m.splits[k].evs.length:Int)))=dn:=hdn
    rw [hdn'] at H137
    have HDN:=Lib.hid hdn
    unfold ptr at H137
    clear hdn hdn' e y1 y2 y4
    cases dn
    · go_wp2_with (go_at_call 137;with_reducible refine H137.out.mono ?_;rintro e w1 ⟨rfl,hb1⟩;have HB1:=Lib.hid hb1;clear hb1)
      go_ret
      exact ⟨ret_int (idxI_hit (p:=fun x:SpM => !x.done) hlt (by rw [HDN.out];rfl) hv.out).symm,below_then hbr.out HB1.out⟩
    · go_wp2_with (go_at_call 137;with_reducible refine H137.out.mono ?_;rintro e w1 ⟨rfl,hb1⟩;have HB1:=Lib.hid hb1;clear hb1)
      go_roundw
      case rel =>
       refine ⟨k+1,by omega,by go_num,Lib.hid fun j hj hjk=>?_,Lib.hid (below_then hbr.out HB1.out)⟩
       by_cases e:j=k
       · subst e;rw [HDN.out];rfl
       · exact hv.out j hj (by omega)
      case measure=>simp [intOf];omega
  · clear e
    go_wp2_with fail
    go_ret
    exact ⟨ret_int (idxI_none (p:=fun x:SpM => !x.done) (fun j hj=>hv.out j hj (by omega))).symm,hbr.out⟩
theorem f75_any (w:World) (col:Nat→Nat) (s:List Col) (ws:WS) (m:WlM) (h:WAt w col s ws m) (hok:WOk m) :
 Calls Tryz.prog 75 #[ws.spl,.func (.func 137) #[] #[]] w fun e w'=>e=.returned (.bool (!m.splits.all SpM.done))∧Below w.heap.size w w':=by
 have hc:=f145_any w col s ws m h hok
 have ha:decide (0≤idxI (fun x:SpM => !x.done) m.splits) = !m.splits.all SpM.done:=by rw [idxI_any,any_not]
 obtain ⟨a,c,e⟩:=h.splForm
 rw [e] at hc ⊢
 clear h hok e
 go_enter Tryz.func75,Tryz.ntmps75
 go_wp2_with (go_at_call 145;refine hc.mono ?_;rintro e w' ⟨rfl,hb1⟩)
 go_ret
 exact ⟨ret_bool (by rw [← ha]),hb1⟩
theorem f70_any (w:World) (col:Nat→Nat) (s:List Col) (ws:WS) (m:WlM) (h:WAt w col s ws m) (hok:WOk m) :
 Calls Tryz.prog 70 #[ptr ws.W] w fun e w'=>e=.returned (.bool (doneB m))∧Below w.heap.size w w':=by
 have H75:=Lib.hid (f75_any w col s ws m h hok)
 obtain ⟨a,c,e⟩:=h.splForm
 obtain ⟨_,_,c2,_,_,c5,_⟩:=h.cells
 rw [e] at c2 H75
 have HE:Hid (doneB m=(m.splits.all SpM.done && m.sealed)):=rfl
 generalize m.splits.all SpM.done=b1 at H75 HE
 generalize m.sealed=b2 at c5 HE
 unfold ptr
 clear h hok e
 cases b2
 · go_enter Tryz.func70,Tryz.ntmps70
   go_wp2_with fail
   go_ret
   exact ⟨ret_bool (by rw [HE.out];simp),Below.refl _ _⟩
 · go_enter Tryz.func70,Tryz.ntmps70
   go_wp2_with (go_at_call 75;with_reducible refine H75.out.mono ?_;rintro e w1 ⟨rfl,hb1⟩;have HB1:=Lib.hid hb1;clear hb1)
   go_ret
   exact ⟨ret_bool (by rw [HE.out];simp),HB1.out⟩
end leaves
def TextsAt (w:World) (D:Nat→Prop) (v:Value) (l:List ByteArray):Prop :=
 ∃ a cap,v=.slice a l.length cap∧(l=[]∨∃ b off,a=some ⟨b,off,none⟩∧D b∧∀ i,(h:i<l.length)→w.cell? ⟨b,off+i,none⟩=some (.string l[i]))
theorem TextsAt.keep {w w':World} {D:Nat→Prop} {v:Value} {l:List ByteArray} (h:TextsAt w D v l) (hk:∀ b,D b→b<w.heap.size→w'.heap[b]? = w.heap[b]?):TextsAt w' D v l:=by
 obtain ⟨a,cap,rfl,hx⟩:=h
 refine ⟨a,cap,rfl,?_⟩
 rcases hx with rfl | ⟨b,off,rfl,hb,hc⟩
 · exact .inl rfl
 · refine .inr ⟨b,off,rfl,hb,fun i hi=>?_⟩
   have h0:=hc i hi
   rw [cell_keep (hk b hb (cell_lt h0))]
   exact h0
theorem TextsAt.below {w w':World} {D:Nat→Prop} {v:Value} {l:List ByteArray} (h:TextsAt w D v l) (hb:Below w.heap.size w w'):TextsAt w' D v l :=
 h.keep fun b _ hlt=>hb.block b hlt
theorem TextsAt.at {w:World} {D:Nat→Prop} {a:Option Addr} {cap:Nat} {l:List ByteArray} (h:TextsAt w D (.slice a l.length cap) l) {k:Nat} (hk:k<l.length) :
 ∃ b off,a=some ⟨b,off,none⟩∧b<w.heap.size∧w.cell? ⟨b,off+k,none⟩=some (.string l[k]):=by
 obtain ⟨a',cap',hv,hx⟩:=h
 injection hv with hv _ _
 subst hv
 obtain ⟨b,off,rfl,hD,hc⟩:=hx.resolve_left (fun e=>by rw [e] at hk;simp at hk)
 exact ⟨b,off,rfl,cell_lt (hc k hk),hc k hk⟩
def sameT:List ByteArray→List ByteArray→Bool
 | [],[]=>true
 | x :: xs,y :: ys=>eqS x y && sameT xs ys
 | _,_=>false
def sameN:List Int→List Int→Bool
 | [],[]=>true
 | x :: xs,y :: ys=>(x == y) && sameN xs ys
 | _,_=>false
theorem sameT_len {a b:List ByteArray} (h:a.length≠b.length):sameT a b=false:=by
 induction a generalizing b with
 | nil=>cases b with | nil=>simp at h | cons y ys=>rfl
 | cons x xs ih=>cases b with | nil=>rfl | cons y ys=>simp only [sameT,ih (b:=ys) (by simpa using h),Bool.and_false]
theorem sameT_step {a b:List ByteArray} {k:Nat} (ha:k<a.length) (hb:k<b.length):sameT (a.drop k) (b.drop k)=(eqS a[k] b[k] && sameT (a.drop (k+1)) (b.drop (k+1))):=by
 rw [List.drop_eq_getElem_cons ha,List.drop_eq_getElem_cons hb,sameT]
theorem sameT_refl (l:List ByteArray):sameT l l=true:=by
 induction l with
 | nil=>rfl
 | cons x l ih=>simp [sameT,ih,eqS]
theorem sameN_len {a b:List Int} (h:a.length≠b.length):sameN a b=false:=by
 induction a generalizing b with
 | nil=>cases b with | nil=>simp at h | cons y ys=>rfl
 | cons x xs ih=>cases b with | nil=>rfl | cons y ys=>simp only [sameN,ih (b:=ys) (by simpa using h),Bool.and_false]
theorem sameN_step {a b:List Int} {k:Nat} (ha:k<a.length) (hb:k<b.length):sameN (a.drop k) (b.drop k)=((a[k] == b[k]) && sameN (a.drop (k+1)) (b.drop (k+1))):=by
 rw [List.drop_eq_getElem_cons ha,List.drop_eq_getElem_cons hb,sameN]
theorem sameN_refl (l:List Int):sameN l l=true:=by
 induction l with
 | nil=>rfl
 | cons x l ih=>simp [sameN,ih,eqS]
section leaves
set_option maxHeartbeats 400000
set_option maxRecDepth 10000
theorem f68_any (w:World) (D1 D2:Nat→Prop) (v1 v2:Value) (a b:List ByteArray) (h1:TextsAt w D1 v1 a) (h2:TextsAt w D2 v2 b) (ha:a.length≤9223372036854775807) :
 Calls Tryz.prog 68 #[v1,v2] w fun e w'=>e=.returned (.bool (sameT a b))∧Below w.heap.size w w':=by
 have H1:=Lib.hid h1
 have H2:=Lib.hid h2
 obtain ⟨p1,c1,rfl,-⟩:=h1
 obtain ⟨p2,c2,rfl,-⟩:=h2
 cases hl:(a.length != b.length)
 · have hl':a.length=b.length:=by simpa using hl
   have hl2:((a.length:Int) != (b.length:Int))=false:=by simp [hl']
   have HL:=Lib.hid hl'
   clear hl hl'
   go_enter Tryz.func68,Tryz.ntmps68
   go_wp2_with fail
   go_loopw [5] (fun i wr=>∃ k:Nat,k≤a.length∧i=.int .i64 k∧Hid (sameT (a.drop k) (b.drop k)=sameT a b)∧Hid (Below w.heap.size w wr)) (fun i _=>a.length - (intOf i).toNat)
   case atStart=>exact ⟨0,by omega,rfl,Lib.hid rfl,Lib.hid (Below.refl _ _)⟩
   case round =>
    obtain ⟨k,hk,rfl,HV,hbr⟩:=hrel
    by_cases hlt:k<a.length
    · have hlt':k<b.length:=by have:=HL.out;omega
      obtain ⟨g,o,rfl,hg,x0⟩:=(H1.out.below hbr.out).at hlt
      obtain ⟨g',o',rfl,hg',y0⟩:=(H2.out.below hbr.out).at hlt'
      have HS:=Lib.hid (sameT_step hlt hlt')
      have t1:(k:Int)<(b.length:Int):=by omega
      cases he:eqS a[k] b[k]
      · rw [he] at HS
        have hne:(a[k].toList == b[k].toList)=false:=he
        go_wp2_with fail
        go_quiet (fail)
        go_wp2_with fail
        go_ret
        exact ⟨ret_bool (by rw [← HV.out,HS.out];rfl),below_then hbr.out (Drew.belowW ⟨_,rfl⟩)⟩
      · rw [he] at HS
        have hne:(a[k].toList == b[k].toList)=true:=he
        go_wp2_with fail
        go_quiet (fail)
        go_wp2_with fail
        go_roundw
        case rel=>exact ⟨k+1,by omega,by go_num,Lib.hid (by rw [← HV.out,HS.out,Bool.true_and]),Lib.hid (below_then hbr.out (Drew.belowW ⟨_,rfl⟩))⟩
        case measure=>simp [intOf];omega
    · have he:sameT (a.drop k) (b.drop k)=true:=by rw [List.drop_of_length_le (by omega),List.drop_of_length_le (by have:=HL.out;omega)];rfl
      rw [HV.out] at he
      have HE:=Lib.hid he
      clear he
      go_wp2_with fail
      go_ret
      exact ⟨ret_bool HE.out.symm,hbr.out⟩
 · have hl':a.length≠b.length:=by simpa using hl
   have hl2:((a.length:Int) != (b.length:Int))=true:=by simp;omega
   have HS:=Lib.hid (sameT_len hl')
   clear hl hl'
   go_enter Tryz.func68,Tryz.ntmps68
   go_wp2_with fail
   go_ret
   exact ⟨ret_bool HS.out.symm,Below.refl _ _⟩
theorem f69_any (w:World) (D1 D2:Nat→Prop) (v1 v2:Value) (a b:List Int) (h1:NumsAt w D1 v1 a) (h2:NumsAt w D2 v2 b) (ha:a.length≤9223372036854775807) :
 Calls Tryz.prog 69 #[v1,v2] w fun e w'=>e=.returned (.bool (sameN a b))∧Below w.heap.size w w':=by
 have H1:=Lib.hid h1
 have H2:=Lib.hid h2
 obtain ⟨p1,c1,rfl,-⟩:=h1
 obtain ⟨p2,c2,rfl,-⟩:=h2
 cases hl:(a.length != b.length)
 · have hl':a.length=b.length:=by simpa using hl
   have hl2:((a.length:Int) != (b.length:Int))=false:=by simp [hl']
   have HL:=Lib.hid hl'
   clear hl hl'
   go_enter Tryz.func69,Tryz.ntmps69
   go_wp2_with fail
   go_loopw [5] (fun i wr=>∃ k:Nat,k≤a.length∧i=.int .i64 k∧Hid (sameN (a.drop k) (b.drop k)=sameN a b)∧Hid (Below w.heap.size w wr)) (fun i _=>a.length - (intOf i).toNat)
   case atStart=>exact ⟨0,by omega,rfl,Lib.hid rfl,Lib.hid (Below.refl _ _)⟩
   case round =>
    obtain ⟨k,hk,rfl,HV,hbr⟩:=hrel
    by_cases hlt:k<a.length
    · have hlt':k<b.length:=by have:=HL.out;omega
      obtain ⟨g,o,rfl,hg,x0⟩:=(H1.out.below hbr.out).at hlt
      obtain ⟨g',o',rfl,hg',y0⟩:=(H2.out.below hbr.out).at hlt'
      have HS:=Lib.hid (sameN_step hlt hlt')
      have t1:(k:Int)<(b.length:Int):=by omega
      cases he:(a[k] == b[k])
      · rw [he] at HS
        have hne:=he
        go_wp2_with fail
        go_quiet (fail)
        go_wp2_with fail
        go_ret
        exact ⟨ret_bool (by rw [← HV.out,HS.out];rfl),below_then hbr.out (Drew.belowW ⟨_,rfl⟩)⟩
      · rw [he] at HS
        have hne:=he
        go_wp2_with fail
        go_quiet (fail)
        go_wp2_with fail
        go_roundw
        case rel=>exact ⟨k+1,by omega,by go_num,Lib.hid (by rw [← HV.out,HS.out,Bool.true_and]),Lib.hid (below_then hbr.out (Drew.belowW ⟨_,rfl⟩))⟩
        case measure=>simp [intOf];omega
    · have he:sameN (a.drop k) (b.drop k)=true:=by rw [List.drop_of_length_le (by omega),List.drop_of_length_le (by have:=HL.out;omega)];rfl
      rw [HV.out] at he
      have HE:=Lib.hid he
      clear he
      go_wp2_with fail
      go_ret
      exact ⟨ret_bool HE.out.symm,hbr.out⟩
 · have hl':a.length≠b.length:=by simpa using hl
   have hl2:((a.length:Int) != (b.length:Int))=true:=by simp;omega
   have HS:=Lib.hid (sameN_len hl')
   clear hl hl'
   go_enter Tryz.func69,Tryz.ntmps69
   go_wp2_with fail
   go_ret
   exact ⟨ret_bool HS.out.symm,Below.refl _ _⟩
end leaves
def sameEv (x y:Evt):Bool:=(x.t == y.t) && (x.r.length == y.r.length) && (cmpRow x.r y.r == 0)
def sameE:List Evt→List Evt→Bool
 | [],[]=>true
 | x :: xs,y :: ys=>sameEv x y && sameE xs ys
 | _,_=>false
theorem sameE_len {a b:List Evt} (h:a.length≠b.length):sameE a b=false:=by
 induction a generalizing b with
 | nil=>cases b with | nil=>simp at h | cons y ys=>rfl
 | cons x xs ih=>cases b with | nil=>rfl | cons y ys=>simp only [sameE,ih (b:=ys) (by simpa using h),Bool.and_false]
theorem sameE_step {a b:List Evt} {k:Nat} (ha:k<a.length) (hb:k<b.length):sameE (a.drop k) (b.drop k)=(sameEv a[k] b[k] && sameE (a.drop (k+1)) (b.drop (k+1))):=by
 rw [List.drop_eq_getElem_cons ha,List.drop_eq_getElem_cons hb,sameE]
theorem EvtsAt.at {w:World} {D:Nat→Prop} {a:Option Addr} {cap:Nat} {l:List Evt} (h:EvtsAt w D (.slice a l.length cap) l) {k:Nat} (hk:k<l.length) :
 ∃ b off r1 r2,a=some ⟨b,off,none⟩∧b<w.heap.size∧w.cell? ⟨b,off+k * 2,none⟩=some (.int .i64 l[k].t)∧w.cell? ⟨b,off+k * 2+1,none⟩=some (.slice r1 l[k].r.length r2)∧RowAt w D (.slice r1 l[k].r.length r2) l[k].r∧l[k].r.length≤9223372036854775807:=by
 obtain ⟨a',cap',hv,-,hx⟩:=h
 injection hv with hv _ _
 subst hv
 obtain ⟨b,off,rfl,hD,hc⟩:=hx.resolve_left (fun e=>by rw [e] at hk;simp at hk)
 obtain ⟨h0,r,h1,hr⟩:=hc k hk
 have hr':=hr
 obtain ⟨r1,r2,rfl,hl,-⟩:=hr'
 exact ⟨b,off,r1,r2,rfl,cell_lt h0,h0,h1,hr,hl⟩
section leaves
set_option maxHeartbeats 1000000
set_option maxRecDepth 10000
theorem f61_any (hm:Tryz.prog.follows .mixedOrders=true) (w:World) (D1 D2:Nat→Prop) (v1 v2:Value) (a b:List Evt) (h1:EvtsAt w D1 v1 a) (h2:EvtsAt w D2 v2 b) :
 Calls Tryz.prog 61 #[v1,v2] w fun e w'=>e=.returned (.bool (sameE a b))∧Grew w w':=by
 have mixed:=hm
 have H1:=Lib.hid h1
 have H2:=Lib.hid h2
 obtain ⟨p1,c1,rfl,ha,-⟩:=h1
 obtain ⟨p2,c2,rfl,-,-⟩:=h2
 cases hl:(a.length != b.length)
 · have hl':a.length=b.length:=by simpa using hl
   have hl2:((a.length:Int) != (b.length:Int))=false:=by simp [hl']
   have HL:=Lib.hid hl'
   clear hl hl'
   go_enter Tryz.func61,Tryz.ntmps61
   go_wp2_with fail
   go_loopw [5] (fun i wr=>∃ k:Nat,k≤a.length∧i=.int .i64 k∧Hid (sameE (a.drop k) (b.drop k)=sameE a b)∧Hid (Grew w wr)) (fun i _=>a.length - (intOf i).toNat)
   case atStart=>exact ⟨0,by omega,rfl,Lib.hid rfl,Lib.hid (Grew.refl _)⟩
   case round =>
    obtain ⟨k,hk,rfl,HV,hbr⟩:=hrel
    by_cases hlt:k<a.length
    · have hlt':k<b.length:=by have:=HL.out;omega
      obtain ⟨g,o,r1,r2,rfl,hg,x0,x1,xr,xl⟩:=(H1.out.below hbr.out.below).at hlt
      obtain ⟨g',o',q1,q2,rfl,hg',y0,y1,yr,yl⟩:=(H2.out.below hbr.out.below).at hlt'
      have HS:=Lib.hid (sameE_step hlt hlt')
      have t1:(k:Int)<(b.length:Int):=by omega
      have t0:(0:Int)≤(k:Int):=by omega
      have t2:(k:Int)<(a.length:Int):=by omega
      have HC:Hid (∀ W,Below wr.heap.size wr W→Calls Tryz.prog 135 #[.slice r1 a[k].r.length r2,.slice q1 b[k].r.length q2] W fun e w'=>e=.returned (.int .i64 (cmpRow a[k].r b[k].r))∧Grew W w'):=fun W h=>f135_any hm W _ _ a[k].r b[k].r D1 D2 (xr.below h) (yr.below h)
      have HB:Hid (∀ n os,Below wr.heap.size wr (Sort.grow (wr.drewN n) os)):=fun n os=>Grew.below ⟨n,os,rfl⟩
      have HF:Hid (sameEv a[k] b[k]=((a[k].t == b[k].t) && (a[k].r.length == b[k].r.length) && (cmpRow a[k].r b[k].r == 0))):=rfl
      clear xr yr
      generalize cmpRow a[k].r b[k].r=cv at HC HF
      generalize a[k].t=ta at x0 HF
      generalize b[k].t=tb at y0 HF
      generalize a[k].r.length=la at x1 xl HC HF
      generalize b[k].r.length=lb at y1 yl HC HF
      have hcl:=fun n os b' o' h=>grown_cl wr n os b' o' h
      cases e1:(ta == tb)
      · rw [e1] at HF
        have e1n:(ta != tb)=true:=by simp [bne,e1]
        go_wp2_with fail
        refine wp_region_quiet_grown mixed (by kernel_rfl) ?_
        repeat (first | go_big_quiet_skip | quiet_step (fail))
        refine wpQuiet_nil ?_
        intro w3 hw'
        have hb3:=Lib.hid (hbr.out.trans (Grew.of hw'))
        clear hw' hcl
        go_wp2_with fail
        go_ret
        exact ⟨ret_bool (by rw [← HV.out,HS.out,HF.out];rfl),hb3.out⟩
      · rw [e1] at HF
        have e1n:(ta != tb)=false:=by simp [bne,e1]
        cases e2:(la == lb)
        · rw [e2] at HF
          have e2':((la:Int) != (lb:Int))=true:=by simp at e2 ⊢;omega
          go_wp2_with fail
          refine wp_region_quiet_grown mixed (by kernel_rfl) ?_
          repeat (first | go_big_quiet_skip | quiet_step (fail))
          refine wpQuiet_nil ?_
          intro w3 hw'
          have hb3:=Lib.hid (hbr.out.trans (Grew.of hw'))
          clear hw' hcl
          go_wp2_with fail
          go_ret
          exact ⟨ret_bool (by rw [← HV.out,HS.out,HF.out];rfl),hb3.out⟩
        · rw [e2] at HF
          have e2':((la:Int) != (lb:Int))=false:=by simp at e2 ⊢;omega
          cases e3:(cv == 0)
          · rw [e3] at HF
            have e3n:(cv != 0)=true:=by simp [bne,e3]
            go_wp2_with fail
            refine wp_region_quiet_grown mixed (by kernel_rfl) ?_
            repeat (first | go_big_quiet_skip | quiet_step (with_reducible exact Calls.grown_of (HC.out _ (HB.out _ _))))
            refine wpQuiet_nil ?_
            intro w3 hw'
            have hb3:=Lib.hid (hbr.out.trans (Grew.of hw'))
            clear hw' hcl
            go_wp2_with fail
            go_ret
            exact ⟨ret_bool (by rw [← HV.out,HS.out,HF.out];rfl),hb3.out⟩
          · rw [e3] at HF
            have e3n:(cv != 0)=false:=by simp [bne,e3]
            go_wp2_with fail
            refine wp_region_quiet_grown mixed (by kernel_rfl) ?_
            repeat (first | go_big_quiet_skip | quiet_step (with_reducible exact Calls.grown_of (HC.out _ (HB.out _ _))))
            refine wpQuiet_nil ?_
            intro w3 hw'
            have hb3:=Lib.hid (hbr.out.trans (Grew.of hw'))
            clear hw' hcl
            go_wp2_with fail
            go_roundw
            case rel=>exact ⟨k+1,by omega,by go_num,Lib.hid (by rw [← HV.out,HS.out,HF.out];rfl),hb3⟩
            case measure=>simp [intOf];omega
    · have he:sameE (a.drop k) (b.drop k)=true:=by rw [List.drop_of_length_le (by omega),List.drop_of_length_le (by have:=HL.out;omega)];rfl
      rw [HV.out] at he
      have HE:=Lib.hid he
      clear he
      go_wp2_with fail
      go_ret
      exact ⟨ret_bool HE.out.symm,hbr.out⟩
 · have hl':a.length≠b.length:=by simpa using hl
   have hl2:((a.length:Int) != (b.length:Int))=true:=by simp;omega
   have HS:=Lib.hid (sameE_len hl')
   clear hl hl'
   go_enter Tryz.func61,Tryz.ntmps61
   go_wp2_with fail
   go_ret
   exact ⟨ret_bool HS.out.symm,Grew.refl _⟩
end leaves
structure RdM where
 reader:Int
 split:ByteArray
 ev:Evt
 late:Bool
 mark:Int
def sameRd (a b:RdM):Bool:=(a.reader == b.reader) && eqS a.split b.split && sameE [a.ev] [b.ev] && (a.late == b.late) && (a.mark == b.mark)
theorem evts_one {w:World} {D:Nat→Prop} {b:Nat} {x:Evt} {r:Value} (h0:w.cell? ⟨b,0,none⟩=some (.int .i64 x.t)) (h1:w.cell? ⟨b,1,none⟩=some r) (hr:RowAt w D r x.r) (hb:D b) :
 EvtsAt w D (.slice (some ⟨b,0,none⟩) 1 1) [x]:=by
 refine ⟨_,_,rfl,by simp,.inr ⟨b,0,rfl,hb,fun i hi=>?_⟩⟩
 have:i=0:=by simpa using hi
 subst this
 exact ⟨by simpa using h0,r,by simpa using h1,hr⟩
section leaves
set_option maxHeartbeats 1000000
set_option maxRecDepth 10000
theorem f59_any (hm:Tryz.prog.follows .mixedOrders=true) (w:World) (D1 D2:Nat→Prop) (a b:RdM) (r1 r2:Value) (h1:RowAt w D1 r1 a.ev.r) (h2:RowAt w D2 r2 b.ev.r) :
 Calls Tryz.prog 59 #[.agg #[.int .i64 a.reader,.string a.split,.int .i64 a.ev.t,r1,.bool a.late,.int .i64 a.mark],.agg #[.int .i64 b.reader,.string b.split,.int .i64 b.ev.t,r2,.bool b.late,.int .i64 b.mark]] w
  fun e w'=>e=.returned (.bool (sameRd a b))∧Below w.heap.size w w':=by
 have HB4:Below w.heap.size w ((((w.alloc (.cells #[.int .i64 a.reader,.string a.split,.int .i64 a.ev.t,r1,.bool a.late,.int .i64 a.mark] 90)).alloc (.cells #[.int .i64 b.reader,.string b.split,.int .i64 b.ev.t,r2,.bool b.late,.int .i64 b.mark] 116)).alloc (.cells #[.int .i64 a.ev.t,r1] 30)).alloc (.cells #[.int .i64 b.ev.t,r2] 30)):=(((((Below.refl _ _).alloc (Nat.le_refl _) _).alloc (by simp) _).alloc (by simp;omega) _).alloc (by simp;omega) _)
 have HB2:Hid (Below w.heap.size w ((w.alloc (.cells #[.int .i64 a.reader,.string a.split,.int .i64 a.ev.t,r1,.bool a.late,.int .i64 a.mark] 90)).alloc (.cells #[.int .i64 b.reader,.string b.split,.int .i64 b.ev.t,r2,.bool b.late,.int .i64 b.mark] 116))):=((Below.refl _ _).alloc (Nat.le_refl _) _).alloc (by simp) _
 have e3:(((w.alloc (.cells #[.int .i64 a.reader,.string a.split,.int .i64 a.ev.t,r1,.bool a.late,.int .i64 a.mark] 90)).alloc (.cells #[.int .i64 b.reader,.string b.split,.int .i64 b.ev.t,r2,.bool b.late,.int .i64 b.mark] 116)).alloc (.cells #[.int .i64 a.ev.t,r1] 30)).heap.size=w.heap.size+1+1+1:=by simp
 have e2:((w.alloc (.cells #[.int .i64 a.reader,.string a.split,.int .i64 a.ev.t,r1,.bool a.late,.int .i64 a.mark] 90)).alloc (.cells #[.int .i64 b.reader,.string b.split,.int .i64 b.ev.t,r2,.bool b.late,.int .i64 b.mark] 116)).heap.size=w.heap.size+1+1:=by simp
 obtain ⟨k0,k1⟩:=two_new ((w.alloc (.cells #[.int .i64 a.reader,.string a.split,.int .i64 a.ev.t,r1,.bool a.late,.int .i64 a.mark] 90)).alloc (.cells #[.int .i64 b.reader,.string b.split,.int .i64 b.ev.t,r2,.bool b.late,.int .i64 b.mark] 116)) (.int .i64 a.ev.t) r1 30
 obtain ⟨l0,l1⟩:=two_new (((w.alloc (.cells #[.int .i64 a.reader,.string a.split,.int .i64 a.ev.t,r1,.bool a.late,.int .i64 a.mark] 90)).alloc (.cells #[.int .i64 b.reader,.string b.split,.int .i64 b.ev.t,r2,.bool b.late,.int .i64 b.mark] 116)).alloc (.cells #[.int .i64 a.ev.t,r1] 30)) (.int .i64 b.ev.t) r2 30
 rw [e2] at k0 k1
 rw [e3] at l0 l1
 have hs:Below (w.heap.size+1+1+1) (((w.alloc (.cells #[.int .i64 a.reader,.string a.split,.int .i64 a.ev.t,r1,.bool a.late,.int .i64 a.mark] 90)).alloc (.cells #[.int .i64 b.reader,.string b.split,.int .i64 b.ev.t,r2,.bool b.late,.int .i64 b.mark] 116)).alloc (.cells #[.int .i64 a.ev.t,r1] 30)) ((((w.alloc (.cells #[.int .i64 a.reader,.string a.split,.int .i64 a.ev.t,r1,.bool a.late,.int .i64 a.mark] 90)).alloc (.cells #[.int .i64 b.reader,.string b.split,.int .i64 b.ev.t,r2,.bool b.late,.int .i64 b.mark] 116)).alloc (.cells #[.int .i64 a.ev.t,r1] 30)).alloc (.cells #[.int .i64 b.ev.t,r2] 30)):=(Below.refl _ _).alloc (by rw [e3];omega) _
 have k0':((((w.alloc (.cells #[.int .i64 a.reader,.string a.split,.int .i64 a.ev.t,r1,.bool a.late,.int .i64 a.mark] 90)).alloc (.cells #[.int .i64 b.reader,.string b.split,.int .i64 b.ev.t,r2,.bool b.late,.int .i64 b.mark] 116)).alloc (.cells #[.int .i64 a.ev.t,r1] 30)).alloc (.cells #[.int .i64 b.ev.t,r2] 30)).cell? ⟨w.heap.size+1+1,0,none⟩=some (.int .i64 a.ev.t):=by rw [hs.cell (p:=⟨w.heap.size+1+1,0,none⟩) (by show w.heap.size+1+1<_;omega)];exact k0
 have k1':((((w.alloc (.cells #[.int .i64 a.reader,.string a.split,.int .i64 a.ev.t,r1,.bool a.late,.int .i64 a.mark] 90)).alloc (.cells #[.int .i64 b.reader,.string b.split,.int .i64 b.ev.t,r2,.bool b.late,.int .i64 b.mark] 116)).alloc (.cells #[.int .i64 a.ev.t,r1] 30)).alloc (.cells #[.int .i64 b.ev.t,r2] 30)).cell? ⟨w.heap.size+1+1,1,none⟩=some r1:=by rw [hs.cell (p:=⟨w.heap.size+1+1,1,none⟩) (by show w.heap.size+1+1<_;omega)];exact k1
 have H61:=Lib.hid (f61_any hm ((((w.alloc (.cells #[.int .i64 a.reader,.string a.split,.int .i64 a.ev.t,r1,.bool a.late,.int .i64 a.mark] 90)).alloc (.cells #[.int .i64 b.reader,.string b.split,.int .i64 b.ev.t,r2,.bool b.late,.int .i64 b.mark] 116)).alloc (.cells #[.int .i64 a.ev.t,r1] 30)).alloc (.cells #[.int .i64 b.ev.t,r2] 30)) (fun _=>True) (fun _=>True) (.slice (some ⟨w.heap.size+1+1,0,none⟩) 1 1) (.slice (some ⟨w.heap.size+1+1+1,0,none⟩) 1 1) [a.ev] [b.ev]
  (evts_one k0' k1' ((h1.below HB4).mono fun _ _=>trivial) trivial) (evts_one l0 l1 ((h2.below HB4).mono fun _ _=>trivial) trivial))
 have HF:Hid (sameRd a b=((a.reader == b.reader) && (a.split.toList == b.split.toList) && sameE [a.ev] [b.ev] && (a.late == b.late) && (a.mark == b.mark))):=rfl
 have HC:Hid (∀ w1,Below ((((w.alloc (.cells #[.int .i64 a.reader,.string a.split,.int .i64 a.ev.t,r1,.bool a.late,.int .i64 a.mark] 90)).alloc (.cells #[.int .i64 b.reader,.string b.split,.int .i64 b.ev.t,r2,.bool b.late,.int .i64 b.mark] 116)).alloc (.cells #[.int .i64 a.ev.t,r1] 30)).alloc (.cells #[.int .i64 b.ev.t,r2] 30)).heap.size ((((w.alloc (.cells #[.int .i64 a.reader,.string a.split,.int .i64 a.ev.t,r1,.bool a.late,.int .i64 a.mark] 90)).alloc (.cells #[.int .i64 b.reader,.string b.split,.int .i64 b.ev.t,r2,.bool b.late,.int .i64 b.mark] 116)).alloc (.cells #[.int .i64 a.ev.t,r1] 30)).alloc (.cells #[.int .i64 b.ev.t,r2] 30)) w1→w1.cell? ⟨w.heap.size,4,none⟩=some (.bool a.late)∧w1.cell? ⟨w.heap.size,5,none⟩=some (.int .i64 a.mark)∧w1.cell? ⟨w.heap.size+1,4,none⟩=some (.bool b.late)∧w1.cell? ⟨w.heap.size+1,5,none⟩=some (.int .i64 b.mark)):=by
  intro w1 h
  have h3:=below_box h
  have h2:=below_box h3
  have h1:=below_box h2
  have e1:(w.alloc (.cells #[.int .i64 a.reader,.string a.split,.int .i64 a.ev.t,r1,.bool a.late,.int .i64 a.mark] 90)).heap.size=w.heap.size+1:=by simp
  refine ⟨?_,?_,?_,?_⟩
  · rw [h1.cell (p:=⟨w.heap.size,4,none⟩) (by simp)];simp
  · rw [h1.cell (p:=⟨w.heap.size,5,none⟩) (by simp)];simp
  · rw [← e1,h2.cell (p:=⟨_,4,none⟩) (by simp)];simp
  · rw [← e1,h2.cell (p:=⟨_,5,none⟩) (by simp)];simp
 have HB4':=Lib.hid HB4
 obtain ⟨ra,rc,rfl,-⟩:=h1
 obtain ⟨rb,rd,rfl,-⟩:=h2
 clear HB4 k0 k1 l0 l1 k0' k1' hs e3 e2
 generalize sameE [a.ev] [b.ev]=c3 at H61 HF
 cases h0:(a.reader == b.reader)
 · rw [h0] at HF
   go_enter Tryz.func59,Tryz.ntmps59
   go_wp2_with fail
   go_ret
   exact ⟨ret_bool (by rw [HF.out];simp),HB2.out⟩
 · rw [h0] at HF
   cases h1:(a.split.toList == b.split.toList)
   · rw [h1] at HF
     go_enter Tryz.func59,Tryz.ntmps59
     go_wp2_with fail
     go_ret
     exact ⟨ret_bool (by rw [HF.out];simp),HB2.out⟩
   · rw [h1] at HF
     cases c3
     · skip
       go_enter Tryz.func59,Tryz.ntmps59
       go_wp2_with (go_at_call 61;with_reducible refine H61.out.mono ?_;rintro e w1 ⟨rfl,hg1⟩;obtain ⟨d1,d2,d3,d4⟩:=HC.out w1 hg1.below;have HG:=Lib.hid hg1;clear hg1)
       go_ret
       exact ⟨ret_bool (by rw [HF.out];simp),HB4'.out.trans (HG.out.below.mono HB4'.out.size)⟩
     · skip
       cases h3:(a.late == b.late)
       · rw [h3] at HF
         go_enter Tryz.func59,Tryz.ntmps59
         go_wp2_with (go_at_call 61;with_reducible refine H61.out.mono ?_;rintro e w1 ⟨rfl,hg1⟩;obtain ⟨d1,d2,d3,d4⟩:=HC.out w1 hg1.below;have HG:=Lib.hid hg1;clear hg1)
         go_ret
         exact ⟨ret_bool (by rw [HF.out];simp),HB4'.out.trans (HG.out.below.mono HB4'.out.size)⟩
       · rw [h3] at HF
         cases h4:(a.mark == b.mark)
         · rw [h4] at HF
           go_enter Tryz.func59,Tryz.ntmps59
           go_wp2_with (go_at_call 61;with_reducible refine H61.out.mono ?_;rintro e w1 ⟨rfl,hg1⟩;obtain ⟨d1,d2,d3,d4⟩:=HC.out w1 hg1.below;have HG:=Lib.hid hg1;clear hg1)
           go_ret
           exact ⟨ret_bool (by rw [HF.out];simp),HB4'.out.trans (HG.out.below.mono HB4'.out.size)⟩
         · rw [h4] at HF
           go_enter Tryz.func59,Tryz.ntmps59
           go_wp2_with (go_at_call 61;with_reducible refine H61.out.mono ?_;rintro e w1 ⟨rfl,hg1⟩;obtain ⟨d1,d2,d3,d4⟩:=HC.out w1 hg1.below;have HG:=Lib.hid hg1;clear hg1)
           go_ret
           exact ⟨ret_bool (by rw [HF.out];simp),HB4'.out.trans (HG.out.below.mono HB4'.out.size)⟩
end leaves
def AnyB (e:Ending):Prop:=∃ b,e=.returned (.bool b)
theorem AnyB.out {e:Ending} (h:AnyB e):∃ b,e=.returned (.bool b):=h
section leaves
set_option maxHeartbeats 400000
set_option maxRecDepth 10000
theorem f14_any (w:World) (D:Nat→Prop) (v:Value) (l:List Col) (h:SchemaAt w D v l) :
 Calls Tryz.prog 14 #[v] w fun e w'=>AnyB e∧w=w':=by
 obtain ⟨a,cap,rfl,hc0,hl,hn,hx⟩:=h
 go_enter Tryz.func14,Tryz.ntmps14
 go_wp2_with fail
 go_loopw [3] (fun i wr=>∃ k:Nat,k≤l.length∧i=.int .i64 k∧w=wr) (fun i _=>l.length - (intOf i).toNat)
 case atStart=>exact ⟨0,by omega,rfl,rfl⟩
 case round =>
  obtain ⟨k,hk,rfl,rfl⟩:=hrel
  by_cases hlt:k<l.length
  · rcases hx with rfl | ⟨b,off,rfl,hD,hc⟩
    · simp at hlt
    obtain ⟨x0,x1⟩:=hc k hlt
    have hs:=hn _ (List.getElem_mem hlt)
    clear hc
    go_wp2_with fail
    · go_ret
      exact ⟨⟨_,rfl⟩,rfl⟩
    · go_roundw
      case rel=>exact ⟨k+1,by omega,by go_num,trivial⟩
      case measure=>simp [intOf];omega
  · go_wp2_with fail
    go_ret
    exact ⟨⟨_,rfl⟩,rfl⟩
theorem f25_any (w:World) (D:Nat→Prop) (v:Value) (l:List Evt) (h:EvtsAt w D v l) (hz:∀ x ∈ l,∀ y ∈ x.r,y.s.size≤9223372036854775807) :
 Calls Tryz.prog 25 #[v] w fun e w'=>AnyB e∧w=w':=by
 have H:=Lib.hid h
 obtain ⟨a,cap,rfl,hl,-⟩:=h
 go_enter Tryz.func25,Tryz.ntmps25
 go_wp2_with fail
 go_loopw [3,4] (fun i _ wr=>∃ k:Nat,k≤l.length∧i=.int .i64 k∧w=wr) (fun i _ _=>l.length - (intOf i).toNat)
 case atStart=>exact ⟨0,by omega,rfl,rfl⟩
 case round =>
  obtain ⟨k,hk,rfl,rfl⟩:=hrel
  by_cases hlt:k<l.length
  · obtain ⟨g,o,r1,r2,rfl,hg,x0,x1,xr,xl⟩:=H.out.at hlt
    have hy:=hz _ (List.getElem_mem hlt)
    by_cases h20:(20:Int)<(l[k].r.length:Int)
    · go_wp2_with fail
      go_ret
      exact ⟨⟨_,rfl⟩,rfl⟩
    · go_wp2_with fail
      go_loopw [4] (fun i wr=>∃ j:Nat,j≤l[k].r.length∧i=.int .i64 j∧w=wr) (fun i _=>l[k].r.length - (intOf i).toNat)
      case atStart=>exact ⟨0,by omega,rfl,rfl⟩
      case round =>
       obtain ⟨j,hj,rfl,rfl⟩:=hrel
       by_cases hlj:j<l[k].r.length
       · obtain ⟨a',cap',hv,-,hx⟩:=xr
         injection hv with hv _ _
         subst hv
         obtain ⟨b,off,rfl,hD,hc⟩:=hx.resolve_left (fun e=>by rw [e] at hlj;simp at hlj)
         obtain ⟨c0,c1,c2⟩:=hc j hlj
         have hs:=hy _ (List.getElem_mem hlj)
         clear hc
         go_wp2_with fail
         · go_ret
           exact ⟨⟨_,rfl⟩,rfl⟩
         · go_roundw
           case rel=>exact ⟨j+1,by omega,by go_num,trivial⟩
           case measure=>simp [intOf];omega
       · go_wp2_with fail
         go_roundw
         case rel=>exact ⟨k+1,by omega,by go_num,trivial⟩
         case measure=>simp [intOf];omega
  · go_wp2_with fail
    go_ret
    exact ⟨⟨_,rfl⟩,rfl⟩
end leaves
structure ActM where
 kind:Int
 reader:Int
 name:ByteArray
 evs:List Evt
def EvsSmall (l:List Evt):Prop:=∀ x ∈ l,∀ y ∈ x.r,y.s.size≤9223372036854775807
def ActsAt (w:World) (D:Nat→Prop) (v:Value) (l:List ActM):Prop :=
 ∃ a cap,v=.slice a l.length cap∧l.length≤9223372036854775807∧(l=[]∨∃ b off,a=some ⟨b,off,none⟩∧D b∧∀ i,(h:i<l.length)→∃ ev,EvtsAt w D ev l[i].evs∧EvsSmall l[i].evs∧l[i].name.size≤9223372036854775807 ∧
  w.cell? ⟨b,off+i * 4,none⟩=some (.int .u8 l[i].kind)∧w.cell? ⟨b,off+i * 4+1,none⟩=some (.int .i64 l[i].reader)∧w.cell? ⟨b,off+i * 4+2,none⟩=some (.string l[i].name)∧w.cell? ⟨b,off+i * 4+3,none⟩=some ev)
theorem ActsAt.at {w:World} {D:Nat→Prop} {a:Option Addr} {cap:Nat} {l:List ActM} (h:ActsAt w D (.slice a l.length cap) l) {k:Nat} (hk:k<l.length) :
 ∃ b off e1 e2,a=some ⟨b,off,none⟩∧b<w.heap.size∧EvtsAt w D (.slice e1 l[k].evs.length e2) l[k].evs∧EvsSmall l[k].evs∧l[k].name.size≤9223372036854775807 ∧
 w.cell? ⟨b,off+k * 4,none⟩=some (.int .u8 l[k].kind)∧w.cell? ⟨b,off+k * 4+1,none⟩=some (.int .i64 l[k].reader)∧w.cell? ⟨b,off+k * 4+2,none⟩=some (.string l[k].name)∧w.cell? ⟨b,off+k * 4+3,none⟩=some (.slice e1 l[k].evs.length e2):=by
 obtain ⟨a',cap',hv,-,hx⟩:=h
 injection hv with hv _ _
 subst hv
 obtain ⟨b,off,rfl,hD,hc⟩:=hx.resolve_left (fun e=>by rw [e] at hk;simp at hk)
 obtain ⟨ev,he,hs,hz,h0,h1,h2,h3⟩:=hc k hk
 have he':=he
 obtain ⟨e1,e2,rfl,-⟩:=he'
 exact ⟨b,off,e1,e2,rfl,cell_lt h0,he,hs,hz,h0,h1,h2,h3⟩
section leaves
set_option maxHeartbeats 400000
set_option maxRecDepth 10000
theorem f15_any (w:World) (D:Nat→Prop) (v:Value) (l:List ActM) (h:ActsAt w D v l) :
 Calls Tryz.prog 15 #[v] w fun e w'=>AnyB e∧w=w':=by
 have H:=Lib.hid h
 obtain ⟨a,cap,rfl,hl,-⟩:=h
 go_enter Tryz.func15,Tryz.ntmps15
 go_wp2_with fail
 go_loopw [3] (fun i wr=>∃ k:Nat,k≤l.length∧i=.int .i64 k∧w=wr) (fun i _=>l.length - (intOf i).toNat)
 case atStart=>exact ⟨0,by omega,rfl,rfl⟩
 case round =>
  obtain ⟨k,hk,rfl,rfl⟩:=hrel
  by_cases hlt:k<l.length
  · obtain ⟨g,o,e1,e2,rfl,hg,he,hs,hz,x0,x1,x2,x3⟩:=H.out.at hlt
    have H25:=Lib.hid (f25_any w D _ l[k].evs he hs)
    clear he hs
    by_cases h100:(100:Int)<(l[k].name.size:Int)
    · go_wp2_with fail
      go_ret
      exact ⟨⟨_,rfl⟩,rfl⟩
    · go_wp2_with (go_at_call 25;with_reducible refine H25.out.mono ?_;rintro e w1 ⟨hb,rfl⟩;obtain ⟨bb,rfl⟩:=hb.out;clear hb)
      · go_ret
        exact ⟨⟨_,rfl⟩,rfl⟩
      · go_roundw
        case rel=>exact ⟨k+1,by omega,by go_num,trivial⟩
        case measure=>simp [intOf];omega
  · go_wp2_with fail
    go_ret
    exact ⟨⟨_,rfl⟩,rfl⟩
theorem f120_any (w:World) (n:Int) (h0:0≤n) (h1:n≤1000000000) :
 Calls Tryz.prog 120 #[.int .i64 n] w fun e w'=>e=.returned (.tuple #[ptr w.heap.size,.int .i64 0])∧w'=w.alloc (.cells #[.int .i64 n,.int .i64 (-1000000000000),.bool false] 215):=by
 have H:=Lib.hid (f129_any w n 0 1000000000)
 rw [show withinB n 0 1000000000=true by simp [withinB,h0,h1]] at H
 unfold ptr
 go_enter Tryz.func120,Tryz.ntmps120
 go_wp2_with (go_at_call 129;with_reducible refine H.out.mono ?_;rintro e w1 ⟨rfl,rfl⟩)
 go_ret2
 exact ⟨rfl,rfl⟩
end leaves
structure Only (S:Nat→Prop) (w w':World):Prop where
 os:w'.os=w.os
 tape:w'.tape=w.tape
 output:w'.output=w.output
 size:w.heap.size≤w'.heap.size
 block:∀ k,k<w.heap.size→¬ S k→w'.heap[k]? = w.heap[k]?
theorem Only.refl (S:Nat→Prop) (w:World):Only S w w:=⟨rfl,rfl,rfl,Nat.le_refl _,fun _ _ _=>rfl⟩
theorem Only.trans {S S':Nat→Prop} {a b c:World} (h:Only S a b) (k:Only S' b c) (hs:∀ x,x<a.heap.size→S' x→S x):Only S a c :=
 ⟨k.os.trans h.os,k.tape.trans h.tape,k.output.trans h.output,Nat.le_trans h.size k.size,fun i hi hn=>(k.block i (Nat.lt_of_lt_of_le hi h.size) (fun e=>hn (hs i hi e))).trans (h.block i hi hn)⟩
theorem Only.of_below {S:Nat→Prop} {w w':World} (h:Below w.heap.size w w'):Only S w w':=⟨h.os,h.tape,h.output,h.size,fun k hk _=>h.block k hk⟩
theorem Only.below {S:Nat→Prop} {w w':World} {B:Nat} (h:Only S w w') (hB:B≤w.heap.size) (hs:∀ x,S x→B≤x):Below B w w' :=
 ⟨h.os,h.tape,h.output,h.size,fun k hk=>h.block k (by omega) (fun e=>by have:=hs k e;omega)⟩
theorem Only.mono {S S':Nat→Prop} {w w':World} (h:Only S w w') (hs:∀ x,x<w.heap.size→S x→S' x):Only S' w w' :=
 ⟨h.os,h.tape,h.output,h.size,fun k hk hn=>h.block k hk (fun e=>hn (hs k hk e))⟩
theorem Only.setCell {S:Nat→Prop} {a w:World} (h:Only S a w) {p:Addr} (hp:p.block<a.heap.size→S p.block) (u:Value):Only S a (w.setCell p u) :=
 ⟨h.os,h.tape,h.output,by simpa [World.setCell] using h.size,fun k hk hn=>(Below.heap_setCell w p u k (fun e=>hn (by subst e;exact hp hk))).trans (h.block k hk hn)⟩
theorem Only.alloc {S:Nat→Prop} {a w:World} (h:Only S a w) (o:Obj):Only S a (w.alloc o) :=
 ⟨h.os,h.tape,h.output,Nat.le_trans h.size (by simp),fun k hk hn=>(Below.heap_alloc w o k (Nat.lt_of_lt_of_le hk h.size)).trans (h.block k hk hn)⟩
theorem Only.drew {S:Nat→Prop} {a w:World} (h:Only S a w):Only S a w.drew:=⟨h.os,h.tape,h.output,h.size,h.block⟩
theorem Only.grown {S:Nat→Prop} {a w w':World} {blk:Option Nat} (h:Only S a w) (hg:w.grownBy w' blk) (hb:∀ k,blk=some k→k<a.heap.size→S k):Only S a w' :=
 ⟨hg.os.trans h.os,hg.tape.trans h.tape,hg.output.trans h.output,Nat.le_trans h.size hg.size,fun k hk hn=>(hg.block k (Nat.lt_of_lt_of_le hk h.size) (fun e=>hn (hb k e.symm hk))).trans (h.block k hk hn)⟩
theorem Only.cell {S:Nat→Prop} {w w':World} (h:Only S w w') (b o:Nat) (hb:b<w.heap.size) (hn:¬ S b):w'.cell? ⟨b,o,none⟩=w.cell? ⟨b,o,none⟩:=World.cell?_of_block (a:=⟨b,o,none⟩) (h.block b hb hn)
theorem heap_set {w:World} {g j:Nat} {cs:Array Value} {t:TypeId} {fr:Nat×Nat} (h:w.heap[g]? = some (.cells cs t fr)) (v:Value):(w.setCell ⟨g,j,none⟩ v).heap[g]? = some (.cells (cs.setIfInBounds j v) t fr):=by
 simp [World.setCell,Array.getElem?_modify,h]
theorem heap_set_ne {w:World} {g j b:Nat} (v:Value) (h:b≠g):(w.setCell ⟨g,j,none⟩ v).heap[b]? = w.heap[b]? := Below.heap_setCell w ⟨g,j,none⟩ v b h
structure Turned (w w':World) (b:Nat) (cs:Array Value) (t:TypeId):Prop where
 blk:w'.heap[b]? = some (.cells cs t (0,0))
 only:Only (fun k=>k=b) w w'
 size:w'.heap.size=w.heap.size
section leaves
set_option maxHeartbeats 400000
set_option maxRecDepth 10000
theorem f184_any (w:World) (b:Nat) (x y:Int) (z:Bool) (h:w.heap[b]? = some (.cells #[.int .i64 x,.int .i64 y,.bool z] 215 (0,0))) :
 Calls Tryz.prog 184 #[ptr b] w fun e w'=>e=.returned (.tuple #[])∧Turned w w' b #[.int .i64 x,.int .i64 1000000000001,.bool true] 215:=by
 have c1:=cells_at h 1
 have c2:=cells_at h 2
 have hlt:=heap_lt h
 have hf1:w.frozen? ⟨b,1,none⟩=false:=by simp [World.frozen?,h]
 have h2:=heap_set (j:=1) h (.int .i64 1000000000001)
 have hf2:(w.setCell ⟨b,1,none⟩ (.int .i64 1000000000001)).frozen? ⟨b,2,none⟩=false:=by simp [World.frozen?,h2]
 unfold ptr
 go_enter Tryz.func184,Tryz.ntmps184
 go_wp2_with fail
 go_returns
 have h3:=heap_set (j:=2) h2 (.bool true)
 exact ⟨rfl,by simpa using h3,Only.setCell (S:=fun k=>k=b) (p:=⟨b,2,none⟩) (Only.setCell (S:=fun k=>k=b) (p:=⟨b,1,none⟩) (Only.refl _ _) (fun _=>rfl) _) (fun _=>rfl) _,by simp⟩
end leaves
end Go.Proofs.YtimahogkcmmcnaaGreatDoor
