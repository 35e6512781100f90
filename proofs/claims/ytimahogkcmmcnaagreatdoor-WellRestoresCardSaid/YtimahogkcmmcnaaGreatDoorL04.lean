/-
 Schemas: what the reference's ValidSchema answers, part 8. If the schema lies in the world as the words say.
-/
import Derived.Test.YtimahogkcmmcnaaGreatDoorL03
set_option linter.unusedSimpArgs false
set_option linter.unusedVariables false
namespace Go.Proofs.YtimahogkcmmcnaaGreatDoor
open Go.RowKit Go.Proofs.YtimahogkcmmcnaaGreatDoor.Cmps
def Drew (w w':World):Prop:=∃ q,w'=w.drewN q
theorem Drew.refl (w:World):Drew w w:=⟨0,rfl⟩
theorem Drew.trans {a b c:World} (h:Drew a b) (k:Drew b c):Drew a c:=by
 obtain ⟨q,rfl⟩:=h
 obtain ⟨r,rfl⟩:=k
 exact ⟨q+r,by rw [World.drewN_drewN]⟩
theorem Drew.more {a b:World} (h:Drew a b) (n:Nat):Drew a (b.drewN n):=h.trans ⟨n,rfl⟩
theorem Drew.heap {a b:World} (h:Drew a b):b.heap=a.heap:=by
 obtain ⟨q,rfl⟩:=h;rfl
theorem Drew.cell {a b:World} (h:Drew a b) (p:Addr):b.cell? p=a.cell? p:=by
 obtain ⟨q,rfl⟩:=h;rfl
theorem Drew.grew {a b:World} (h:Drew a b):Grew a b:=by
 obtain ⟨q,rfl⟩:=h
 exact ⟨q,#[],by rw [Sort.grow_empty]⟩
theorem Drew.of {w w':World} (h:∃ n,w'=w.drewN n):Drew w w':=h
theorem quiet_same {f:FuncId} {args:Array Value} {w:World} {n:Nat} {v v':Value}
 (h:Calls Tryz.prog f args (w.drewN n) fun e w'=>e=.returned v∧w.drewN n=w') (hv:v=v'):Calls Tryz.prog f args (w.drewN n) fun e w''=>e=.returned v'∧∃ m,w''=w.drewN m :=
 h.mono fun _ _ ⟨he,hm⟩=>⟨he.trans (by rw [hv]),n,hm.symm⟩
section leaves
set_option maxHeartbeats 400000
set_option maxRecDepth 10000
theorem f39_any (hm:Tryz.prog.follows .mixedOrders=true) (w:World) (D:Nat→Prop) (v:Value) (l:List Col) (h:SchemaAt w D v l) :
 Calls Tryz.prog 39 #[v] w fun e w'=>e=.returned (.bool (validSchema l))∧Drew w w':=by
 have mixed:=hm
 have HS:=Lib.hid h
 obtain ⟨a,cap,rfl,hc0,hl,hn,hx⟩:=h
 go_enter Tryz.func39,Tryz.ntmps39
 go_wp2
 go_loopw [3] (fun i wr=>∃ (k:Nat),k≤l.length∧i=.int .i64 k∧Hid (schemaFrom (namesTo l k) (l.drop k)=schemaFrom [] l)∧Hid (Drew w wr)) (fun i _=>l.length - (intOf i).toNat)
 case atStart=>exact ⟨0,by omega,rfl,Lib.hid rfl,Lib.hid (Drew.refl _)⟩
 case round =>
  obtain ⟨k,hk,rfl,hv,hq⟩:=hrel
  by_cases hlt:k<l.length
  · rcases hx with rfl | ⟨b,off,rfl,hD,hc⟩
    · simp at hlt
    obtain ⟨x0,x1⟩:=hc k hlt
    rw [← hq.out.cell] at x0 x1
    have hns:=hn l[k] (List.getElem_mem hlt)
    have g1:(0:Int)≤(k:Int):=by omega
    have g2:(k:Int)<(l.length:Int):=by omega
    have g3:(k:Int)≤(cap:Int):=by omega
    have hat:∀ n,Calls Tryz.prog 114 #[.slice (some ⟨b,off,none⟩) k cap,.string l[k].n] (wr.drewN n) fun e w'=>e=.returned (.int .i64 (atS (l.take k) l[k].n))∧wr.drewN n=w' :=
     fun n=>f114_any (wr.drewN n) D _ (l.take k) l[k].n ((HS.out.pre rfl k hk).keep fun b _ _=>by rw [(hq.out.more n).heap])
    have HAT:=Lib.hid hat
    have hhas:=atS_has (l.take k) l[k].n
    have e0:hasS ((l.take k).map Col.n) l[k].n=hasS (namesTo l k) l[k].n:=rfl
    rw [e0] at hhas
    clear hat hc e0 hD hn hc0
    cases h1:nameB l[k].n
    · go_wp2_with fail
      go_quiet (first
       | (go_at_call 113;exact quiet_same (f113_any _ hns _) rfl)
       | (go_at_call 114;exact quiet_same (HAT.out _) rfl))
      go_wp2_with fail
      go_ret
      exact ⟨ret_bool (schema_bad hlt hv.out (.inl h1)).symm,hq.out.more _⟩
    · cases h2:(l[k].k != 1)
      · cases h4:hasS (namesTo l k) l[k].n
        · rw [h4] at hhas
          go_wp2_with fail
          go_quiet (first
           | (go_at_call 113;exact quiet_same (f113_any _ hns _) rfl)
           | (go_at_call 114;exact quiet_same (HAT.out _) rfl))
          go_wp2_with fail
          go_roundw
          case rel=>exact ⟨k+1,by omega,by go_num,Lib.hid (schema_go hlt hv.out h1 h4 (by simp only [withinB,decide_eq_true_eq];simp at h2;omega)),Lib.hid (hq.out.more _)⟩
          case measure=>simp [intOf];omega
        · rw [h4] at hhas
          go_wp2_with fail
          go_quiet (first
           | (go_at_call 113;exact quiet_same (f113_any _ hns _) rfl)
           | (go_at_call 114;exact quiet_same (HAT.out _) rfl))
          go_wp2_with fail
          go_ret
          exact ⟨ret_bool (schema_bad hlt hv.out (.inr (.inl h4))).symm,hq.out.more _⟩
      · cases h3:(l[k].k != 2)
        · cases h4:hasS (namesTo l k) l[k].n
          · rw [h4] at hhas
            go_wp2_with fail
            go_quiet (first
             | (go_at_call 113;exact quiet_same (f113_any _ hns _) rfl)
             | (go_at_call 114;exact quiet_same (HAT.out _) rfl))
            go_wp2_with fail
            go_roundw
            case rel=>exact ⟨k+1,by omega,by go_num,Lib.hid (schema_go hlt hv.out h1 h4 (by simp only [withinB,decide_eq_true_eq];simp at h3;omega)),Lib.hid (hq.out.more _)⟩
            case measure=>simp [intOf];omega
          · rw [h4] at hhas
            go_wp2_with fail
            go_quiet (first
             | (go_at_call 113;exact quiet_same (f113_any _ hns _) rfl)
             | (go_at_call 114;exact quiet_same (HAT.out _) rfl))
            go_wp2_with fail
            go_ret
            exact ⟨ret_bool (schema_bad hlt hv.out (.inr (.inl h4))).symm,hq.out.more _⟩
        · go_wp2_with fail
          go_quiet (first
           | (go_at_call 113;exact quiet_same (f113_any _ hns _) rfl)
           | (go_at_call 114;exact quiet_same (HAT.out _) rfl))
          go_wp2_with fail
          go_ret
          exact ⟨ret_bool (schema_bad hlt hv.out (.inr (.inr (by simp only [withinB,decide_eq_false_iff_not];simp at h2 h3;omega)))).symm,hq.out.more _⟩
  · go_wp2_with (go_at_call 115;refine (f115_any _ _ _ _).mono ?_;rintro e w' ⟨rfl,rfl⟩)
    go_ret
    obtain rfl:k=l.length:=by omega
    exact ⟨ret_bool (by rw [validSchema,← hv.out,schemaFrom_end,Bool.true_and];simp only [withinB];rw [Bool.eq_iff_iff];simp only [decide_eq_true_eq];omega),hq.out⟩
end leaves
def fitsB (s:List Col) (r:List Val):Bool:=validSchema s && validRow r && decide (r.length=s.length) && fitsFrom s r
theorem fits_len {s:List Col} {r:List Val} (h:((r.length:Int) != (s.length:Int))=true):fitsB s r=false:=by
 have:decide (r.length=s.length)=false:=by simp at h;simp;omega
 simp [fitsB,this]
theorem fits_two {s:List Col} {r:List Val} (h:validSchema s=false∨validRow r=false):fitsB s r=false:=by
 rcases h with h | h <;> simp [fitsB,h]
theorem fits_as {s:List Col} {r:List Val} (h1:validSchema s=true) (h2:validRow r=true) (h:r.length=s.length):fitsB s r=fitsFrom s r:=by
 simp [fitsB,h1,h2,h]
theorem new_cell (w:World) (b o:Nat) (x:Obj) (h:b<w.heap.size):(w.alloc x).cell? ⟨b,o,none⟩=w.cell? ⟨b,o,none⟩:=cell_keep (Below.heap_alloc w x b h) o
theorem below_drew {B:Nat} {a w:World} (h:Below B a w) (n:Nat):Below B a (w.drewN n):=⟨h.os,h.tape,h.output,h.size,h.block⟩
section leaves
set_option maxHeartbeats 400000
set_option maxRecDepth 10000
theorem f175_any (hm:Tryz.prog.follows .mixedOrders=true) (w:World) (D D':Nat→Prop) (v v':Value) (s:List Col) (r:List Val) (hs:SchemaAt w D v s) (hr:RowAt w D' v' r) :
 Calls Tryz.prog 175 #[v,v'] w fun e w'=>e=.returned (.bool (fitsB s r))∧Below w.heap.size w w':=by
 have mixed:=hm
 have H36:=Lib.hid (f36_any w D v s hs)
 have H235:Hid (∀ W,Below w.heap.size w W→Calls Tryz.prog 235 #[v'] W fun e w'=>e=.returned (.bool (validRow r))∧Below W.heap.size W w'):=fun W hb=>f235_any W v' r D' (hr.below hb)
 obtain ⟨a,cap,rfl,hc0,hl,hn,hx⟩:=hs
 obtain ⟨a',cap',rfl,hl',hx'⟩:=hr
 go_enter Tryz.func175,Tryz.ntmps175
 go_wp2_with (first
  | (go_at_call 36;refine H36.out.mono ?_;rintro e w1 ⟨rfl,hb1⟩;have HB1:=Lib.hid hb1;clear hb1)
  | (go_at_call 235;refine (H235.out _ HB1.out).mono ?_;rintro e w2 ⟨rfl,hb2⟩;have HB2:=Lib.hid hb2;clear hb2))
 · rename_i hne
   go_ret
   exact ⟨ret_bool (fits_len hne).symm,below_then HB1.out HB2.out⟩
 · have he1:validSchema s=true:=by assumption
   have he2:validRow r=true:=by assumption
   have he3:((r.length:Int) != (s.length:Int))=false:=by assumption
   have hlen:r.length=s.length:=by simp at he3;omega
   have HF:=Lib.hid (fits_as he1 he2 hlen)
   have HB0:Hid (Below w.heap.size w w2):=below_then HB1.out HB2.out
   clear HB1 HB2
   go_loopw [24] (fun i wr=>∃ k:Nat,k≤r.length∧i=.int .i64 k∧Hid (fitsFrom (s.drop k) (r.drop k)=fitsFrom s r)∧Hid (Below w.heap.size w wr)) (fun i _=>r.length - (intOf i).toNat)
   case atStart=>exact ⟨0,by omega,rfl,Lib.hid rfl,HB0⟩
   case round =>
    obtain ⟨k,hk,rfl,hv,hb⟩:=hrel
    by_cases hlt:k<r.length
    · rcases hx' with rfl | ⟨b1,o1,rfl,hD1,hc1⟩
      · simp at hlt
      obtain ⟨x0,x1,x2⟩:=hc1 k hlt
      have hlt':k<s.length:=by omega
      rcases hx with rfl | ⟨b2,o2,rfl,hD2,hc2⟩
      · simp at hlt'
      obtain ⟨y0,y1⟩:=hc2 k hlt'
      have hb1:=cell_lt x0
      have hb2:=cell_lt y0
      rw [← hb.out.cell (p:=⟨b1,_,none⟩) hb1] at x0 x1 x2
      rw [← hb.out.cell (p:=⟨b2,_,none⟩) hb2] at y0 y1
      have hb1':b1<wr.heap.size:=Nat.lt_of_lt_of_le hb1 hb.out.size
      have hb2':b2<wr.heap.size:=Nat.lt_of_lt_of_le hb2 hb.out.size
      have hbn:¬ b2=wr.heap.size:=by omega
      have g1:(0:Int)≤(k:Int):=by omega
      have g2:(k:Int)<(r.length:Int):=by omega
      have g3:(k:Int)<(s.length:Int):=by omega
      clear hc1 hc2 hb1 hb2 H36 H235
      cases h1:(r[k].k != 0)
      · go_wp2_with fail
        go_quiet (fail)
        go_wp2_with fail
        go_roundw
        case rel=>exact ⟨k+1,by omega,by go_num,Lib.hid (by rw [fitsFrom_go hlt' hlt (by simp at h1;simp [h1]),hv.out]),Lib.hid (below_drew (hb.out.alloc hb.out.size _) _)⟩
        case measure=>simp [intOf];omega
      · cases h2:(r[k].k != s[k].k)
        · go_wp2_with fail
          go_quiet (fail)
          go_wp2_with fail
          go_roundw
          case rel=>exact ⟨k+1,by omega,by go_num,Lib.hid (by rw [fitsFrom_go hlt' hlt (by simp at h2;simp [h2]),hv.out]),Lib.hid (below_drew (hb.out.alloc hb.out.size _) _)⟩
          case measure=>simp [intOf];omega
        · go_wp2_with fail
          go_quiet (fail)
          go_wp2_with fail
          go_ret
          exact ⟨ret_bool (by rw [HF.out,← hv.out,fitsFrom_bad hlt' hlt (by simp at h1 h2;simp [h1,h2])]),below_drew (hb.out.alloc hb.out.size _) _⟩
    · go_wp2
      go_ret
      obtain rfl:k=r.length:=by omega
      exact ⟨ret_bool (by rw [HF.out,← hv.out,fitsFrom_end]),hb.out⟩
 · rename_i hne
   go_ret
   exact ⟨ret_bool (fits_two (.inr (by simpa using hne))).symm,below_then HB1.out HB2.out⟩
 · rename_i hne
   go_ret
   exact ⟨ret_bool (fits_two (.inl (by simpa using hne))).symm,HB1.out⟩
theorem f117_any (hm:Tryz.prog.follows .mixedOrders=true) (w:World) (D D':Nat→Prop) (v v':Value) (s:List Col) (r:List Val) (hs:SchemaAt w D v s) (hr:RowAt w D' v' r) :
 Calls Tryz.prog 117 #[v,v'] w fun e w'=>e=.returned (.bool (fitsB s r))∧Below w.heap.size w w':=by
 have mixed:=hm
 have H36:=Lib.hid (f39_any hm w D v s hs)
 have H235:Hid (∀ W,Drew w W→Calls Tryz.prog 182 #[v'] W fun e w'=>e=.returned (.bool (validRow r))∧Below W.heap.size W w'):=fun W hb=>f182_any W v' r D' (hr.below hb.grew.below)
 obtain ⟨a,cap,rfl,hc0,hl,hn,hx⟩:=hs
 obtain ⟨a',cap',rfl,hl',hx'⟩:=hr
 go_enter Tryz.func117,Tryz.ntmps117
 go_wp2_with (first
  | (go_at_call 39;refine H36.out.mono ?_;rintro e w1 ⟨rfl,hb1⟩;have HB1:=Lib.hid hb1;clear hb1)
  | (go_at_call 182;refine (H235.out _ HB1.out).mono ?_;rintro e w2 ⟨rfl,hb2⟩;have HB2:=Lib.hid hb2;clear hb2))
 · rename_i hne
   go_ret
   exact ⟨ret_bool (fits_len hne).symm,below_then HB1.out.grew.below HB2.out⟩
 · have he1:validSchema s=true:=by assumption
   have he2:validRow r=true:=by assumption
   have he3:((r.length:Int) != (s.length:Int))=false:=by assumption
   have hlen:r.length=s.length:=by simp at he3;omega
   have HF:=Lib.hid (fits_as he1 he2 hlen)
   have HB0:Hid (Below w.heap.size w w2):=below_then HB1.out.grew.below HB2.out
   clear HB1 HB2
   go_loopw [5] (fun i wr=>∃ k:Nat,k≤r.length∧i=.int .i64 k∧Hid (fitsFrom (s.drop k) (r.drop k)=fitsFrom s r)∧Hid (Below w.heap.size w wr)) (fun i _=>r.length - (intOf i).toNat)
   case atStart=>exact ⟨0,by omega,rfl,Lib.hid rfl,HB0⟩
   case round =>
    obtain ⟨k,hk,rfl,hv,hb⟩:=hrel
    by_cases hlt:k<r.length
    · rcases hx' with rfl | ⟨b1,o1,rfl,hD1,hc1⟩
      · simp at hlt
      obtain ⟨x0,x1,x2⟩:=hc1 k hlt
      have hlt':k<s.length:=by omega
      rcases hx with rfl | ⟨b2,o2,rfl,hD2,hc2⟩
      · simp at hlt'
      obtain ⟨y0,y1⟩:=hc2 k hlt'
      have hb1:=cell_lt x0
      have hb2:=cell_lt y0
      rw [← hb.out.cell (p:=⟨b1,_,none⟩) hb1] at x0 x1 x2
      rw [← hb.out.cell (p:=⟨b2,_,none⟩) hb2] at y0 y1
      have g1:(0:Int)≤(k:Int):=by omega
      have g2:(k:Int)<(r.length:Int):=by omega
      have g3:(k:Int)<(s.length:Int):=by omega
      clear hc1 hc2 hb1 hb2 H36 H235
      cases h1:(r[k].k != 0)
      · go_wp2_with fail
        go_quiet (fail)
        go_wp2_with fail
        go_roundw
        case rel=>exact ⟨k+1,by omega,by go_num,Lib.hid (by rw [fitsFrom_go hlt' hlt (by simp at h1;simp [h1]),hv.out]),Lib.hid (below_drew hb.out _)⟩
        case measure=>simp [intOf];omega
      · cases h2:(r[k].k != s[k].k)
        · go_wp2_with fail
          go_quiet (fail)
          go_wp2_with fail
          go_roundw
          case rel=>exact ⟨k+1,by omega,by go_num,Lib.hid (by rw [fitsFrom_go hlt' hlt (by simp at h2;simp [h2]),hv.out]),Lib.hid (below_drew hb.out _)⟩
          case measure=>simp [intOf];omega
        · go_wp2_with fail
          go_quiet (fail)
          go_wp2_with fail
          go_ret
          exact ⟨ret_bool (by rw [HF.out,← hv.out,fitsFrom_bad hlt' hlt (by simp at h1 h2;simp [h1,h2])]),below_drew hb.out _⟩
    · go_wp2
      go_ret
      obtain rfl:k=r.length:=by omega
      exact ⟨ret_bool (by rw [HF.out,← hv.out,fitsFrom_end]),hb.out⟩
 · rename_i hne
   go_ret
   exact ⟨ret_bool (fits_two (.inr (by simpa using hne))).symm,below_then HB1.out.grew.below HB2.out⟩
 · rename_i hne
   go_ret
   exact ⟨ret_bool (fits_two (.inl (by simpa using hne))).symm,HB1.out.grew.below⟩
end leaves
def idxI {α:Type} (p:α→Bool) (l:List α):Int:=match l.findIdx? p with | some i=>i | none => -1
theorem idxI_hit {α:Type} {p:α→Bool} {l:List α} {k:Nat} (hk:k<l.length) (hb:p l[k]=true) (h:∀ j (h:j<l.length),j<k→p l[j]=false):idxI p l=k:=by
 have:l.findIdx? p=some k:=by
  rw [List.findIdx?_eq_some_iff_getElem]
  exact ⟨hk,hb,fun j hj=>by simp [h j (by omega) hj]⟩
 simp [idxI,this]
theorem idxI_none {α:Type} {p:α→Bool} {l:List α} (h:∀ j (h:j<l.length),p l[j]=false):idxI p l = -1:=by
 have:l.findIdx? p=none:=by
  rw [List.findIdx?_eq_none_iff]
  intro x hx
  obtain ⟨i,hi,rfl⟩:=List.mem_iff_getElem.1 hx
  exact h i hi
 simp [idxI,this]
theorem idxI_any {α:Type} (p:α→Bool) (l:List α):decide (0≤idxI p l)=l.any p:=by
 unfold idxI
 cases h:l.findIdx? p with
 | none =>
   rw [List.findIdx?_eq_none_iff] at h
   have:l.any p=false:=by
    rw [List.any_eq_false]
    intro x hx
    simp [h x hx]
   simp only [this];decide
 | some i =>
   rw [List.findIdx?_eq_some_iff_getElem] at h
   obtain ⟨hi,hb,_⟩:=h
   have:l.any p=true:=by
    rw [List.any_eq_true];exact ⟨l[i],List.getElem_mem hi,hb⟩
   simp only [this];simp
def eventB (s:List Col) (x:Evt):Bool:=validTime x.t && fitsB s x.r
theorem any_not {α:Type} (p:α→Bool) (l:List α):l.any (fun x => !p x) = !l.all p:=by
 induction l with
 | nil=>rfl
 | cons a l ih=>simp [ih,Bool.not_and]
section leaves
set_option maxHeartbeats 400000
set_option maxRecDepth 10000
end leaves
theorem two_boxes (w:World) (a b:Val):∃ w2,w2=(w.alloc (.cells #[.int .i64 a.k,.int .i64 a.n,.string a.s] 78)).alloc (.cells #[.int .i64 b.k,.int .i64 b.n,.string b.s] 78) ∧
 w.heap.size<w2.heap.size∧w.heap.size+1<w2.heap.size ∧
 (w2.cell? ⟨w.heap.size,0,none⟩=some (.int .i64 a.k)∧w2.cell? ⟨w.heap.size,1,none⟩=some (.int .i64 a.n)∧w2.cell? ⟨w.heap.size,2,none⟩=some (.string a.s)) ∧
 (w2.cell? ⟨w.heap.size+1,0,none⟩=some (.int .i64 b.k)∧w2.cell? ⟨w.heap.size+1,1,none⟩=some (.int .i64 b.n)∧w2.cell? ⟨w.heap.size+1,2,none⟩=some (.string b.s))∧Hid (Grew w w2):=by
 refine ⟨_,rfl,by simp;omega,by simp,⟨?_,?_,?_⟩,⟨?_,?_,?_⟩,((Grew.refl w).alloc _).alloc _⟩
 · rw [new_cell _ _ _ _ (by simp)];simp
 · rw [new_cell _ _ _ _ (by simp)];simp
 · rw [new_cell _ _ _ _ (by simp)];simp
 · have:w.heap.size+1=(w.alloc (.cells #[.int .i64 a.k,.int .i64 a.n,.string a.s] 78)).heap.size:=by simp
   rw [this];simp
 · have:w.heap.size+1=(w.alloc (.cells #[.int .i64 a.k,.int .i64 a.n,.string a.s] 78)).heap.size:=by simp
   rw [this];simp
 · have:w.heap.size+1=(w.alloc (.cells #[.int .i64 a.k,.int .i64 a.n,.string a.s] 78)).heap.size:=by simp
   rw [this];simp
theorem cmpVal_eq {a b:Val} (h:cls a.k=cls b.k):cmpVal a b=if cls a.k == 1 then cmpI a.n b.n else if cls a.k == 2 then cmpS a.s b.s else 0:=by
 have:cmpI (cls a.k) (cls b.k)=0:=by rw [h];exact cmpI_3.refl _
 rw [cmpVal,orI,this]
 rfl
theorem cmpVal_ne {a b:Val} (h:(cls a.k != cls b.k)=true):cmpVal a b=if cls a.k<cls b.k then -1 else 1:=by
 have h':cls a.k≠cls b.k:=by simpa using h
 have:cmpI (cls a.k) (cls b.k)=if cls a.k<cls b.k then -1 else 1:=by
  unfold cmpI
  split
  · rfl
  · rw [if_pos (by omega)]
 rw [cmpVal,orI,this]
 split <;> rfl
section leaves
set_option maxHeartbeats 1000000
set_option maxRecDepth 10000
theorem f246_grew (v:Val) (w:World) :
 Calls Tryz.prog 246 #[v.v] w fun e w'=>e=.returned (.int .i64 (cls v.k))∧Grew w w':=by
 go_enter Tryz.func246,Tryz.ntmps246
 go_wp2
 all_goals go_ret
 all_goals (exact ⟨ret_int (by simp_all [cls]),(Grew.refl _).alloc _⟩)
theorem f188_any (hm:Tryz.prog.follows .mixedOrders=true) (a b:Val) (w:World) :
 Calls Tryz.prog 188 #[a.v,b.v] w fun e w'=>e=.returned (.int .i64 (cmpVal a b))∧Grew w w':=by
 have mixed:=hm
 obtain ⟨w2,hw2,z1,z2,⟨c0,c1,c2⟩,⟨d0,d1,d2⟩,H0⟩:=two_boxes w a b
 have HA:Hid (∀ W,Calls Tryz.prog 246 #[a.v] W fun e w'=>e=.returned (.int .i64 (cls a.k))∧Grew W w'):=fun W=>f246_grew a W
 have HB:Hid (∀ W,Calls Tryz.prog 246 #[b.v] W fun e w'=>e=.returned (.int .i64 (cls b.k))∧Grew W w'):=fun W=>f246_grew b W
 cases hne:(cls a.k != cls b.k)
 · have he:cls a.k=cls b.k:=by simpa using hne
   have HE:=Lib.hid (cmpVal_eq he)
   have hg:=gtr_less a.s.toList b.s.toList
   go_enter Tryz.func188,Tryz.ntmps188
   go_wp2_with fail
   rw [← hw2]
   clear hw2
   have hcl:=fun n os b' o' h=>grown_cl w2 n os b' o' h
   refine wp_region_quiet_grown mixed (by kernel_rfl) ?_
   repeat (quiet_step (first | with_reducible exact Calls.grown_of (HA.out _) | with_reducible exact Calls.grown_of (HB.out _)))
   refine wpQuiet_nil ?_
   intro w3 hw'
   have hb3:=Grew.of hw'
   clear hw' hcl
   rw [← (grown_cells hb3).1 _ _ z1] at c0 c1 c2
   rw [← (grown_cells hb3).1 _ _ z2] at d0 d1 d2
   replace z1:=Nat.lt_of_lt_of_le z1 hb3.below.size
   replace z2:=Nat.lt_of_lt_of_le z2 hb3.below.size
   have H3:Hid (Grew w w3):=H0.out.trans hb3
   clear hb3 H0
   rw [← he] at HB hne
   clear he
   rcases cls_vals a.k with e | e | e
   all_goals (rw [e] at HE HA HB hne)
   · go_wp2_with (go_at_call 246;with_reducible refine (HA.out _).mono ?_;rintro e w4 ⟨rfl,hb4⟩;rw [← (grown_cells hb4).1 _ _ z1] at c0 c1 c2;rw [← (grown_cells hb4).1 _ _ z2] at d0 d1 d2;replace z1:=Nat.lt_of_lt_of_le z1 hb4.below.size;replace z2:=Nat.lt_of_lt_of_le z2 hb4.below.size;replace H3:=Lib.hid (H3.out.trans hb4);clear hb4)
     go_ret
     exact ⟨ret_int (by rw [HE.out];rfl),H3.out⟩
   · go_wp2_with (go_at_call 246;with_reducible refine (HA.out _).mono ?_;rintro e w4 ⟨rfl,hb4⟩;rw [← (grown_cells hb4).1 _ _ z1] at c0 c1 c2;rw [← (grown_cells hb4).1 _ _ z2] at d0 d1 d2;replace z1:=Nat.lt_of_lt_of_le z1 hb4.below.size;replace z2:=Nat.lt_of_lt_of_le z2 hb4.below.size;replace H3:=Lib.hid (H3.out.trans hb4);clear hb4)
     all_goals go_ret
     all_goals (refine ⟨ret_int ?_,H3.out⟩;rw [HE.out];simp only [cmpI];simp;(repeat' split) <;> omega)
   · go_wp2_with (go_at_call 246;with_reducible refine (HA.out _).mono ?_;rintro e w4 ⟨rfl,hb4⟩;rw [← (grown_cells hb4).1 _ _ z1] at c0 c1 c2;rw [← (grown_cells hb4).1 _ _ z2] at d0 d1 d2;replace z1:=Nat.lt_of_lt_of_le z1 hb4.below.size;replace z2:=Nat.lt_of_lt_of_le z2 hb4.below.size;replace H3:=Lib.hid (H3.out.trans hb4);clear hb4)
     all_goals go_ret
     all_goals (refine ⟨ret_int ?_,H3.out⟩;rw [HE.out];simp only [cmpS,lessS];simp_all)
 · have HNE:=Lib.hid hne
   go_enter Tryz.func188,Tryz.ntmps188
   go_wp2_with fail
   rw [← hw2]
   clear hw2
   have hcl:=fun n os b' o' h=>grown_cl w2 n os b' o' h
   refine wp_region_quiet_grown mixed (by kernel_rfl) ?_
   repeat (quiet_step (first | with_reducible exact Calls.grown_of (HA.out _) | with_reducible exact Calls.grown_of (HB.out _)))
   refine wpQuiet_nil ?_
   intro w3 hw'
   have hb3:=Grew.of hw'
   clear hw' hcl
   rw [← (grown_cells hb3).1 _ _ z1] at c0 c1 c2
   rw [← (grown_cells hb3).1 _ _ z2] at d0 d1 d2
   replace z1:=Nat.lt_of_lt_of_le z1 hb3.below.size
   replace z2:=Nat.lt_of_lt_of_le z2 hb3.below.size
   have H3:Hid (Grew w w3):=H0.out.trans hb3
   clear hb3 H0
   go_wp2_with fail
   have hcl:=fun n os b' o' h=>grown_cl w3 n os b' o' h
   refine wp_region_quiet_grown mixed (by kernel_rfl) ?_
   repeat (quiet_step (first | with_reducible exact Calls.grown_of (HA.out _) | with_reducible exact Calls.grown_of (HB.out _)))
   refine wpQuiet_nil ?_
   intro w4 hw'
   have hb3:=Grew.of hw'
   clear hw' hcl
   rw [← (grown_cells hb3).1 _ _ z1] at c0 c1 c2
   rw [← (grown_cells hb3).1 _ _ z2] at d0 d1 d2
   replace z1:=Nat.lt_of_lt_of_le z1 hb3.below.size
   replace z2:=Nat.lt_of_lt_of_le z2 hb3.below.size
   have H4:Hid (Grew w w4):=H3.out.trans hb3
   clear hb3 H3
   go_wp2_with fail
   all_goals go_ret
   all_goals (exact ⟨ret_int (by rw [cmpVal_ne HNE.out];split <;> omega),H4.out⟩)
theorem f135_any (hm:Tryz.prog.follows .mixedOrders=true) (w:World) (r1 r2:Value) (a b:List Val) (D1 D2:Nat→Prop) (h1:RowAt w D1 r1 a) (h2:RowAt w D2 r2 b) :
 Calls Tryz.prog 135 #[r1,r2] w fun e w'=>e=.returned (.int .i64 (cmpRow a b))∧Grew w w':=by
 have mixed:=hm
 obtain ⟨p1,cap1,rfl,hl1,hx1⟩:=h1
 obtain ⟨p2,cap2,rfl,hl2,hx2⟩:=h2
 go_enter Tryz.func135,Tryz.ntmps135
 go_wp2
 go_loopw [5] (fun i wr=>∃ k:Nat,k≤a.length∧k≤b.length∧i=.int .i64 k∧Hid (cmpRow (a.drop k) (b.drop k)=cmpRow a b)∧Hid (Grew w wr)) (fun i _=>a.length - (intOf i).toNat)
 case atStart=>exact ⟨0,by omega,by omega,rfl,Lib.hid rfl,Lib.hid (Grew.refl _)⟩
 case round =>
  obtain ⟨k,hk,hk',rfl,HV,hg⟩:=hrel
  by_cases hlt:k<a.length
  · by_cases hlt':k<b.length
    · rcases hx1 with rfl | ⟨b1,o1,rfl,hD1,hc1⟩
      · simp at hlt
      obtain ⟨x0,x1,x2⟩:=hc1 k hlt
      rcases hx2 with rfl | ⟨b2,o2,rfl,hD2,hc2⟩
      · simp at hlt'
      obtain ⟨y0,y1,y2⟩:=hc2 k hlt'
      have hbx:=cell_lt x0
      have hby:=cell_lt y0
      rw [← hg.out.below.cell (p:=⟨b1,_,none⟩) hbx] at x0 x1 x2
      rw [← hg.out.below.cell (p:=⟨b2,_,none⟩) hby] at y0 y1 y2
      have hbx':b1<wr.heap.size:=Nat.lt_of_lt_of_le hbx hg.out.below.size
      have hby':b2<wr.heap.size:=Nat.lt_of_lt_of_le hby hg.out.below.size
      have g1:(0:Int)≤(k:Int):=by omega
      have g2:(k:Int)<(a.length:Int):=by omega
      have g3:(k:Int)<(b.length:Int):=by omega
      have HC:Hid (∀ W,Calls Tryz.prog 188 #[a[k].v,b[k].v] W fun e w'=>e=.returned (.int .i64 (cmpVal a[k] b[k]))∧Grew W w'):=fun W=>f188_any hm a[k] b[k] W
      clear hc1 hc2 hbx hby
      go_wp2_with fail
      have hcl:=fun n os b' o' h=>grown_cl wr n os b' o' h
      refine wp_region_quiet_grown mixed (by kernel_rfl) ?_
      repeat (quiet_step (with_reducible exact Calls.grown_of (HC.out _)))
      refine wpQuiet_nil ?_
      intro w3 hw'
      have hb3:=Lib.hid (hg.out.trans (Grew.of hw'))
      clear hw' hcl
      go_wp2_with fail
      · rename_i hne
        go_ret
        exact ⟨ret_int (by rw [← HV.out,cmpRow_hit hlt hlt' hne]),hb3.out⟩
      · rename_i hne
        go_roundw
        case rel=>exact ⟨k+1,by omega,by omega,by go_num,Lib.hid (by rw [cmpRow_miss hlt hlt' hne,HV.out]),hb3⟩
        case measure=>simp [intOf];omega
    · have he:=cmpRow_end hk hk' (fun h=>hlt' h.2)
      rw [HV.out,if_neg (by omega),if_pos (by omega)] at he
      have HE:=Lib.hid he
      have g4:(b.length:Int)≤(k:Int):=by omega
      have g5:¬ (k:Int)<(b.length:Int):=by omega
      have g6:(b.length:Int)<(a.length:Int):=by omega
      have g7:¬ (a.length:Int)<(b.length:Int):=by omega
      clear he
      go_wp2
      go_ret
      exact ⟨ret_int HE.out.symm,hg.out⟩
  · have he:=cmpRow_end hk hk' (fun h=>hlt h.1)
    rw [HV.out] at he
    have HE:=Lib.hid he
    clear he
    by_cases l1:a.length<b.length
    · go_wp2
      go_ret
      exact ⟨ret_int (by rw [HE.out,if_pos l1]),hg.out⟩
    · have g7:¬ (a.length:Int)<(b.length:Int):=by omega
      have g8:¬ (b.length:Int)<(a.length:Int):=by omega
      go_wp2
      go_ret
      exact ⟨ret_int (by rw [HE.out,if_neg l1,if_neg (by omega)]),hg.out⟩
end leaves
def rightB (s:List Col) (l:List Evt):Bool:=decide (l.length≤400) && l.all (eventB s)
theorem validTime_lo {n:Int} (h:n < -1000000000000):validTime n=false:=by simp only [validTime,withinB];simp;omega
theorem validTime_hi {n:Int} (h:1000000000000<n):validTime n=false:=by simp only [validTime,withinB];simp;omega
theorem validTime_in {n:Int} (h:¬ n < -1000000000000) (h':¬ 1000000000000<n):validTime n=true:=by simp only [validTime,withinB];simp;omega
theorem right_bad {s:List Col} {l:List Evt} {k:Nat} (hk:k<l.length) (h:eventB s l[k]=false):rightB s l=false:=by
 have:l.all (eventB s)=false:=by
  rw [List.all_eq_false];exact ⟨l[k],List.getElem_mem hk,by simp [h]⟩
 rw [rightB,this,Bool.and_false]
section leaves
set_option maxHeartbeats 400000
set_option maxRecDepth 10000
theorem f187_any (hm:Tryz.prog.follows .mixedOrders=true) (w:World) (D D':Nat→Prop) (v r:Value) (bs:Nat) (s:List Col) (x:Evt) (hv:w.cell? ⟨bs,0,none⟩=some v) (hs:SchemaAt w D v s) (hr:RowAt w D' r x.r) :
 Calls Tryz.prog 187 #[.agg #[.int .i64 x.t,r],.pointer (some ⟨bs,0,none⟩)] w fun e w'=>e=.returned (.bool (!eventB s x))∧Below w.heap.size w w':=by
 obtain ⟨a,cap,hv'⟩:∃ a cap,v=.slice a s.length cap:=by
  obtain ⟨a,cap,hv,_⟩:=hs;exact ⟨a,cap,hv⟩
 obtain ⟨a',cap',hr'⟩:∃ a cap,r=.slice a x.r.length cap:=by
  obtain ⟨a,cap,hv,_⟩:=hr;exact ⟨a,cap,hv⟩
 have H:Hid (∀ W,Below w.heap.size w W→Calls Tryz.prog 175 #[v,r] W fun e w'=>e=.returned (.bool (fitsB s x.r))∧Below W.heap.size W w') :=
  fun W hb=>f175_any hm W D D' v r s x.r (hs.below hb) (hr.below hb)
 have HB:Hid (∀ o,Below w.heap.size w (w.alloc o)):=fun o=>(Below.refl _ _).alloc (Nat.le_refl _) o
 have hlt:=cell_lt hv
 have hbn:¬ bs=w.heap.size:=by omega
 clear hs hr
 subst hv' hr'
 by_cases h1:x.t < -1000000000000
 · have hE:=Lib.hid (validTime_lo h1)
   go_enter Tryz.func187,Tryz.ntmps187
   go_wp2_with fail
   go_ret
   exact ⟨ret_bool (by rw [eventB,hE.out];rfl),HB.out _⟩
 · by_cases h2:1000000000000<x.t
   · have hE:=Lib.hid (validTime_hi h2)
     go_enter Tryz.func187,Tryz.ntmps187
     go_wp2_with fail
     go_ret
     exact ⟨ret_bool (by rw [eventB,hE.out];rfl),HB.out _⟩
   · have hE:=Lib.hid (validTime_in h1 h2)
     go_enter Tryz.func187,Tryz.ntmps187
     go_wp2_with (go_at_call 175;refine (H.out _ (HB.out _)).mono ?_;rintro e w2 ⟨rfl,hb2⟩;have HB2:=Lib.hid hb2;clear hb2)
     go_ret
     exact ⟨ret_bool (by rw [eventB,hE.out];simp),below_box HB2.out⟩
theorem f173_w (hm:Tryz.prog.follows .mixedOrders=true) (w:World) (D D':Nat→Prop) (v v':Value) (bs:Nat) (s:List Col) (l:List Evt) (hv:w.cell? ⟨bs,0,none⟩=some v) (hs:SchemaAt w D v s) (hl:EvtsAt w D' v' l) :
 Calls Tryz.prog 173 #[v',.func (.func 187) #[] #[.pointer (some ⟨bs,0,none⟩)]] w fun e w'=>e=.returned (.int .i64 (idxI (fun x => !eventB s x) l))∧Below w.heap.size w w':=by
 have H:Hid (∀ W r x,Below w.heap.size w W→RowAt W D' r x.r→Calls Tryz.prog 187 #[.agg #[.int .i64 x.t,r],.pointer (some ⟨bs,0,none⟩)] W fun e w'=>e=.returned (.bool (!eventB s x))∧Below W.heap.size W w') :=
  fun W r x hb hr=>f187_any hm W D D' v r bs s x (by rw [hb.cell (p:=⟨bs,_,none⟩) (cell_lt hv)];exact hv) (hs.below hb) hr
 clear hv hs
 obtain ⟨a,cap,rfl,hl',hx⟩:=hl
 go_enter Tryz.func173,Tryz.ntmps173
 go_wp2
 go_loopw [8] (fun i wr=>∃ k:Nat,k≤l.length∧i=.int .i64 k∧Hid (∀ j (h:j<l.length),j<k→(!eventB s l[j])=false)∧Hid (Below w.heap.size w wr)) (fun i _=>l.length - (intOf i).toNat)
 case atStart=>exact ⟨0,by omega,rfl,Lib.hid (by omega),Lib.hid (Below.refl _ _)⟩
 case round =>
  obtain ⟨k,hk,rfl,hh,hb⟩:=hrel
  by_cases hlt:k<l.length
  · rcases hx with rfl | ⟨b,off,rfl,hbD,hc⟩
    · simp at hlt
    obtain ⟨h0,r,h1,hr⟩:=hc k hlt
    have hbb:=cell_lt h0
    rw [← hb.out.cell (p:=⟨b,_,none⟩) hbb] at h0 h1
    have HR:=Lib.hid (hr.below hb.out)
    clear hc hr
    go_wp2_with (go_at_call 187;refine (H.out _ r l[k] hb.out HR.out).mono ?_;rintro e w' ⟨rfl,hb1⟩;have HB1:=Lib.hid hb1;clear hb1)
    · have hbad:(!eventB s l[k])=true:=by assumption
      go_ret
      exact ⟨ret_int (idxI_hit hlt hbad hh.out).symm,below_then hb.out HB1.out⟩
    · have hok:(!eventB s l[k])=false:=by assumption
      go_roundw
      case rel =>
       refine ⟨k+1,by omega,by go_num,Lib.hid fun j hj hjk=>?_,Lib.hid (below_then hb.out HB1.out)⟩
       by_cases e:j=k
       · subst e;exact hok
       · exact hh.out j hj (by omega)
      case measure=>simp [intOf];omega
  · go_wp2
    go_ret
    exact ⟨ret_int (idxI_none (fun j hj=>hh.out j hj (by omega))).symm,hb.out⟩
theorem f105_w (hm:Tryz.prog.follows .mixedOrders=true) (w:World) (D D':Nat→Prop) (v v':Value) (bs:Nat) (s:List Col) (l:List Evt) (hv:w.cell? ⟨bs,0,none⟩=some v) (hs:SchemaAt w D v s) (hl:EvtsAt w D' v' l) :
 Calls Tryz.prog 105 #[v',.func (.func 187) #[] #[.pointer (some ⟨bs,0,none⟩)]] w fun e w'=>e=.returned (.bool (!l.all (eventB s)))∧Below w.heap.size w w':=by
 have hc:=f173_w hm w D D' v v' bs s l hv hs hl
 have ha:decide (0≤idxI (fun x => !eventB s x) l) = !l.all (eventB s):=by rw [idxI_any,any_not]
 obtain ⟨a,cap,rfl,hl',hx⟩:=hl
 go_enter Tryz.func105,Tryz.ntmps105
 go_wp2_with (go_at_call 173;refine hc.mono ?_;rintro e w' ⟨rfl,hb1⟩)
 go_ret
 exact ⟨rfl,hb1⟩
theorem f131_any (hm:Tryz.prog.follows .mixedOrders=true) (w:World) (D D':Nat→Prop) (v v':Value) (s:List Col) (l:List Evt) (hs:SchemaAt w D v s) (hl:EvtsAt w D' v' l) :
 Calls Tryz.prog 131 #[v,v'] w fun e w'=>e=.returned (.bool (rightB s l))∧Below w.heap.size w w':=by
 obtain ⟨a,cap,hv⟩:∃ a cap,v=.slice a s.length cap:=by
  obtain ⟨a,cap,hv,_⟩:=hs;exact ⟨a,cap,hv⟩
 obtain ⟨a',cap',hv'⟩:∃ a cap,v'=.slice a l.length cap:=by
  obtain ⟨a,cap,hv,_⟩:=hl;exact ⟨a,cap,hv⟩
 have HB:Hid (∀ o,Below w.heap.size w (w.alloc o)):=fun o=>(Below.refl _ _).alloc (Nat.le_refl _) o
 have H:=Lib.hid (f105_w hm (w.alloc (.cells #[v] 23)) D D' v v' w.heap.size s l (by simp) (hs.below (HB.out _)) (hl.below (HB.out _)))
 have hlen:l.length≤9223372036854775807:=by obtain ⟨_,_,_,h,_⟩:=hl;exact h
 clear hs hl
 subst hv hv'
 by_cases h40:l.length≤400
 · have h41:(l.length:Int)≤400:=by omega
   go_enter Tryz.func131,Tryz.ntmps131
   go_wp2_with (go_at_call 105;refine H.out.mono ?_;rintro e w' ⟨rfl,hb1⟩;have HB1:=Lib.hid hb1;clear hb1)
   go_ret
   exact ⟨ret_bool (by rw [rightB,decide_eq_true h40,Bool.true_and]),below_box HB1.out⟩
 · have h41:¬ (l.length:Int)≤400:=by omega
   go_enter Tryz.func131,Tryz.ntmps131
   go_wp2_with fail
   go_ret
   exact ⟨ret_bool (by rw [rightB,decide_eq_false h40,Bool.false_and]),HB.out _⟩
theorem f132_any (hm:Tryz.prog.follows .mixedOrders=true) (w:World) (D D':Nat→Prop) (v v':Value) (s:List Col) (l:List Evt) (hs:SchemaAt w D v s) (hl:EvtsAt w D' v' l) :
 Calls Tryz.prog 132 #[v,v'] w fun e w'=>e=.returned (.bool (rightB s l))∧Below w.heap.size w w':=by
 have H:Hid (∀ (W:World) (r:Value) (x:Evt),Below w.heap.size w W→RowAt W D' r x.r→Calls Tryz.prog 117 #[v,r] W fun e w'=>e=.returned (.bool (fitsB s x.r))∧Below W.heap.size W w') :=
  fun W r x hb hr=>f117_any hm W D D' v r s x.r (hs.below hb) hr
 obtain ⟨a,cap,hv⟩:∃ a cap,v=.slice a s.length cap:=by
  obtain ⟨a,cap,hv,_⟩:=hs;exact ⟨a,cap,hv⟩
 clear hs
 subst hv
 obtain ⟨a',cap',rfl,hl',hx⟩:=hl
 go_enter Tryz.func132,Tryz.ntmps132
 go_wp2
 go_loopw [5] (fun i wr=>∃ k:Nat,k≤l.length∧i=.int .i64 k∧Hid (∀ j (h:j<l.length),j<k→eventB s l[j]=true)∧Hid (Below w.heap.size w wr)) (fun i _=>l.length - (intOf i).toNat)
 case atStart=>exact ⟨0,by omega,rfl,Lib.hid (by omega),Lib.hid (Below.refl _ _)⟩
 case round =>
  obtain ⟨k,hk,rfl,hh,hb⟩:=hrel
  by_cases hlt:k<l.length
  · rcases hx with rfl | ⟨b,off,rfl,hbD,hc⟩
    · simp at hlt
    obtain ⟨h0,r,h1,hr⟩:=hc k hlt
    have hbb:=cell_lt h0
    rw [← hb.out.cell (p:=⟨b,_,none⟩) hbb] at h0 h1
    have HR:=Lib.hid (hr.below hb.out)
    clear hc hr
    by_cases t1:l[k].t < -1000000000000
    · have hE:=Lib.hid (validTime_lo t1)
      go_wp2_with fail
      go_ret
      exact ⟨ret_bool (right_bad hlt (by rw [eventB,hE.out];rfl)).symm,hb.out⟩
    · by_cases t2:1000000000000<l[k].t
      · have hE:=Lib.hid (validTime_hi t2)
        go_wp2_with fail
        go_ret
        exact ⟨ret_bool (right_bad hlt (by rw [eventB,hE.out];rfl)).symm,hb.out⟩
      · have hE:=Lib.hid (validTime_in t1 t2)
        cases hf:fitsB s l[k].r
        · go_wp2_with (go_at_call 117;refine (H.out _ r l[k] hb.out HR.out).mono ?_;rintro e w' ⟨rfl,hb1⟩;have HB1:=Lib.hid hb1;clear hb1)
          go_ret
          exact ⟨ret_bool (right_bad hlt (by rw [eventB,hE.out,hf];rfl)).symm,below_then hb.out HB1.out⟩
        · go_wp2_with (go_at_call 117;refine (H.out _ r l[k] hb.out HR.out).mono ?_;rintro e w' ⟨rfl,hb1⟩;have HB1:=Lib.hid hb1;clear hb1)
          go_roundw
          case rel =>
           refine ⟨k+1,by omega,by go_num,Lib.hid fun j hj hjk=>?_,Lib.hid (below_then hb.out HB1.out)⟩
           by_cases e:j=k
           · subst e;rw [eventB,hE.out,hf];rfl
           · exact hh.out j hj (by omega)
          case measure=>simp [intOf];omega
  · have hall:l.all (eventB s)=true:=by
     rw [List.all_eq_true]
     intro x hx
     obtain ⟨j,hj,rfl⟩:=List.mem_iff_getElem.1 hx
     exact hh.out j hj (by omega)
    have HA:=Lib.hid hall
    clear hall
    go_wp2_with fail
    go_ret
    refine ⟨ret_bool ?_,hb.out⟩
    rw [rightB,HA.out,Bool.and_true,decide_eq_decide]
    omega
end leaves
end Go.Proofs.YtimahogkcmmcnaaGreatDoor
