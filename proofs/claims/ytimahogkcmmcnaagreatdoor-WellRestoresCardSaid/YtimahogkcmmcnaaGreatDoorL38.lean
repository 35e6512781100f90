/-
 The well restored, part 5: Restore, the walk. If what is given lies in the world as the words say.
-/
import Derived.Test.YtimahogkcmmcnaaGreatDoorL31
import Derived.Test.YtimahogkcmmcnaaGreatDoorL37
import Derived.Test.YtimahogkcmmcnaaGreatDoorL18
import Derived.Test.YtimahogkcmmcnaaGreatDoorL33
set_option linter.unusedSimpArgs false
set_option linter.unusedVariables false
namespace Go.Proofs.YtimahogkcmmcnaaGreatDoor
open Go.RowKit Go.Proofs.YtimahogkcmmcnaaGreatDoor.Cmps
section leaves
set_option maxHeartbeats 4000000
set_option maxRecDepth 100000
structure Noted (w wr:World) (mv mp:Nat) (l:List GivM) (ev:Nat→Value) (k:Nat):Prop where
 var:wr.heap[mv]? = some (.cells #[.map (some mp)] 138 (0,0))
 map:∃ es ck,wr.heap[mp]? = some (.map es ck)∧PEnts es.toList (entG l ev k)
 new:w.heap.size≤mv∧w.heap.size≤mp
 below:Below w.heap.size w wr
theorem fill_step {n q:Nat} (h:q<n):(List.replicate q (1000000000001:Int) ++ List.replicate (n - q) 0).set q 1000000000001=List.replicate (q+1) 1000000000001 ++ List.replicate (n - (q+1)) 0:=by
 have e:n - q=(n - (q+1))+1:=by omega
 rw [e,List.replicate_succ,List.set_append_right _ _ (by simp)]
 simp [List.replicate_succ',List.append_assoc]
theorem below_putObj {B r:Nat} {o:Obj} {w W:World} (h:Below B w W) (hr:B≤r):Below B w (W.putObj r o) :=
 ⟨h.os,h.tape,h.output,by simpa [World.putObj] using h.size,fun k hk=>(World.putObj_heap_other (by omega)).trans (h.block k hk)⟩
theorem sumG_le (l:List GivM) (k:Nat):sumG l k≤sumG l l.length:=by
 have h:sumG l l.length=sumG l k+((l.drop k).map fun x=>x.evs.length).sum:=by
  unfold sumG
  rw [List.take_length,← List.sum_append,← List.map_append,List.take_append_drop]
 omega
theorem f27_any (f:SpM→GivM) (hm:Tryz.prog.follows .mixedOrders=true) (w:World) (hT:Tabs w) (D:Nat→Prop) (s:List Col) (sa:Option Addr) (sc:Nat) (hs:SchemaAt w D (.slice sa s.length sc) s) (m:WlM) (hok:WOk m) (o:Int) (lv:Value) (l:List GivM) (ev:Nat→Value)
 (hl:GivsAt w D lv l ev) (hgu:GUniq l) (hln:l.length=m.splits.length) (hnz:∀ x ∈ l,x.name.size≤16) (hsum:sumG l l.length≤1000) (hnb:∀ x ∈ m.splits,nameB x.name=true) (hun:Uniq m) (hgm:∀ x ∈ m.splits,x.done=false→x.mark≤1000000000000 - m.bound+1) (hperm:∀ x ∈ m.splits,∃ j,∃ h:j<l.length,l[j].name=x.name) (hfit:∀ x ∈ m.splits,x.read≤(gOf l x.name).evs.length) (hgv:Gives m l f) (hlong:∀ x ∈ m.splits,x.evs.length≤(gOf l x.name).evs.length) (hris:Risen m) :
 Calls Tryz.prog 27 #[.slice sa s.length sc,.int .i64 m.bound,.int .i64 o,lv,.string ⟨(stateT m).toArray⟩] w fun e w'=>Below w.heap.size w w'∧((restE s m o l≠0∧e=.returned (.tuple #[.pointer none,.int .i64 (restE s m o l)]))∨(restE s m o l=0∧∃ no:Nat,o=no∧1≤no∧no≤16∧∃ col ws,e=.returned (.tuple #[.pointer (some ⟨ws.W,0,none⟩),.int .i64 0])∧WAt w' col s ws (restM m no l)∧∀ x,x<w.heap.size→col x=0)):=by
 have mixed:=hm
 have HMX:=Lib.hid hm
 have HOK:=Lib.hid hok
 have HT:=Lib.hid hT
 have HS:=Lib.hid hs
 have HGU:=Lib.hid hgu
 have HNZ:=Lib.hid hnz
 have hls:=hl
 obtain ⟨la,lc,rfl,hl⟩:=hl
 have HL:=Lib.hid hl
 have HLS:=Lib.hid hls
 obtain ⟨n,hn⟩:∃ n,l.length=n:=⟨_,rfl⟩
 have h50:=hok.splits
 have hn50:n≤50:=by omega
 have HSUM:=Lib.hid hsum
 rw [hn]
 obtain ⟨tx,htx⟩:∃ t:ByteArray,(⟨(stateT m).toArray⟩:ByteArray)=t:=⟨_,rfl⟩
 rw [htx]
 obtain ⟨bd,hbd⟩:∃ b,m.bound=b:=⟨_,rfl⟩
 rw [hbd]
 have H74:Hid (∀ W,Below w.heap.size w W→Calls Tryz.prog 74 #[.string tx,.int .i64 bd] W fun e w'=>∃ ma mc pa pc,e=.returned (.tuple #[.agg #[.bool m.sealed,.slice ma m.marks.length mc,.slice pa m.splits.length pc],.bool true])∧∃ xb gb mblk sblk,ScanRes W w' m (.slice ma m.marks.length mc) (.slice pa m.splits.length pc) xb gb mblk sblk):=fun W hb=>by
  rw [← htx,← hbd]
  exact f74_any HMX.out W (HT.out.below hb) m HOK.out hnb hun hgm
 clear hok hT hs hgu hnz hls hl hsum htx
 have hmm:=@run_makeMap Tryz.prog
 go_enter Tryz.func27,Tryz.ntmps27
 go_wp2_with fail
 have HN0:Hid (Noted w ((w.alloc (.map #[] 0)).alloc (.cells #[.map (some w.heap.size)] 138)) (w.heap.size+1) w.heap.size l ev 0):=by
  have h1:=heap_alloc_new (w.alloc (.map #[] 0)) (.cells #[.map (some w.heap.size)] 138)
  have h2:(w.alloc (.map #[] 0)).heap.size=w.heap.size+1:=by simp
  rw [h2] at h1
  exact ⟨h1,⟨#[],0,alloc_keep (heap_alloc_new w _),rfl⟩,⟨by omega,Nat.le_refl _⟩,((Below.refl _ _).alloc (Nat.le_refl _) _).alloc (by simp) _⟩
 go_loopw [13,30] (fun nv i wr=>∃ k:Nat,k≤n∧nv=.int .i64 (sumG l k:Nat)∧i=.int .i64 k∧Hid (∀ j (h:j<l.length),j<k→splitB s l[j].name l[j].evs=true)∧Hid (Noted w wr (w.heap.size+1) w.heap.size l ev k)) (fun _ i _=>n - (intOf i).toNat)
 case atStart=>exact ⟨0,by omega,rfl,rfl,fun j _ h=>absurd h (by omega),HN0⟩
 clear HN0
 obtain ⟨k,hk,rfl,rfl,hok,hnd⟩:=hrel
 by_cases hlt:k<n
 · have hkl:k<l.length:=by omega
   have hxx:=(HL.out.resolve_left (fun e=>by rw [e] at hkl;simp at hkl))
   obtain ⟨b,off,rfl,hDb,hxx⟩:=hxx
   obtain ⟨y0,y1,y2,y3⟩:=hxx k hkl
   have hb0:=hnd.out.below
   rw [← hb0.cell (p:=⟨b,off+k * 3,none⟩) (cell_lt y1)] at y1
   rw [← hb0.cell (p:=⟨b,off+k * 3+1,none⟩) (cell_lt y2)] at y2
   rw [← hb0.cell (p:=⟨b,off+k * 3+2,none⟩) (cell_lt y3)] at y3
   have hnk:=HNZ.out _ (List.getElem_mem hkl)
   have hsk:sumG l k+l[k].evs.length≤1000:=by
    rw [← sumG_succ hkl]
    exact Nat.le_trans (sumG_le l (k+1)) HSUM.out
   obtain ⟨ea,ec,hev⟩:∃ a c,ev k=.slice a l[k].evs.length c:=by obtain ⟨a,c,e,_⟩:=y0;exact ⟨a,c,e⟩
   rw [hev] at y0 y3
   have H50:Hid (∀ W,Below w.heap.size w W→Calls Tryz.prog 50 #[.slice sa s.length sc,.agg #[.string l[k].src,.string l[k].name,.slice ea l[k].evs.length ec]] W fun e w'=>e=.returned (.bool (splitB s l[k].name l[k].evs))∧Below W.heap.size W w'):=fun W hb =>
    f50_any HMX.out W D D _ _ s l[k].src l[k].name l[k].evs (HS.out.below hb) (y0.below hb) (by omega)
   have hsn:=entG_snoc (ev:=ev) hkl
   have hen:=entG_new (ev:=ev) HGU.out hkl
   have hsg:=sumG_succ hkl
   rw [hev] at hsn
   have hkn:(k:Int)<(n:Int):=by omega
   have hk0:(0:Int)≤(k:Int):=by omega
   have HOKB:=hok
   have HND:=hnd
   have hz:=hb0.size
   generalize hx:l[k]=x at y0 y1 y2 y3 hnk hsk H50 hsn hen hsg
   have HX:=Lib.hid hx
   clear hx hev hxx hnd
   obtain ⟨es,ck,hmp,hpe⟩:=HND.out.map
   have hva:=HND.out.var
   have HBA:Hid (Below w.heap.size w (wr.alloc (.cells #[.string x.src,.string x.name,.slice ea x.evs.length ec] 88))):=hb0.alloc hz _
   have hmvl:=heap_lt hva
   have hsum0:IntKind.i64.wrap ((sumG l k:Int)+(x.evs.length:Int))=(sumG l k:Int)+(x.evs.length:Int):=wrapI (by omega)
   obtain ⟨sp,hsp⟩:∃ sp,splitB s x.name x.evs=sp:=⟨_,rfl⟩
   rw [hsp] at H50
   have HSP:=Lib.hid hsp
   clear hsp hok
   cases sp
   · go_wp2_with (go_at_call 50;refine (H50.out _ HBA.out).mono ?_;rintro e w3 ⟨rfl,hb3⟩;have HB3:=Lib.hid (HBA.out.trans (hb3.mono HBA.out.size));clear hb3)
     go_ret2
     have hr:restE s m o l=1:=by
      unfold restE
      rw [if_pos]
      rw [List.all_eq_false]
      refine ⟨l[k],List.getElem_mem hkl,?_⟩
      rw [HX.out,HSP.out]
      simp
     exact ⟨HB3.out,.inl ⟨by rw [hr];decide,by rw [hr];rfl⟩⟩
   · have HST:Hid (∀ W,Below (wr.heap.size+1) (wr.alloc (.cells #[.string x.src,.string x.name,.slice ea x.evs.length ec] 88)) W→W.cell? ⟨wr.heap.size,0,none⟩=some (.string x.src)∧W.cell? ⟨wr.heap.size,1,none⟩=some (.string x.name)∧W.cell? ⟨wr.heap.size,2,none⟩=some (.slice ea x.evs.length ec)∧W.cell? ⟨w.heap.size+1,0,none⟩=some (.map (some w.heap.size)) ∧
      (Instr.mapUpdate 138 (.map (some w.heap.size)) (.string x.name) (.agg #[.string x.src,.string x.name,.slice ea x.evs.length ec])).run Tryz.prog W=.ok () (W.putObj w.heap.size (.map (es.push { key:=.string x.name,val:=.agg #[.string x.src,.string x.name,.slice ea x.evs.length ec],born:=ck }) (ck+1))) ∧
      (W.putObj w.heap.size (.map (es.push { key:=.string x.name,val:=.agg #[.string x.src,.string x.name,.slice ea x.evs.length ec],born:=ck }) (ck+1))).cell? ⟨wr.heap.size,2,none⟩=some (.slice ea x.evs.length ec) ∧
      Noted w (W.putObj w.heap.size (.map (es.push { key:=.string x.name,val:=.agg #[.string x.src,.string x.name,.slice ea x.evs.length ec],born:=ck }) (ck+1))) (w.heap.size+1) w.heap.size l ev (k+1)):=fun W hb=>by
      have hA:=heap_alloc_new wr (.cells #[.string x.src,.string x.name,.slice ea x.evs.length ec] 88)
      have hsz:(wr.alloc (.cells #[.string x.src,.string x.name,.slice ea x.evs.length ec] 88)).heap.size=wr.heap.size+1:=by simp
      have g0:=(hb.block wr.heap.size (by omega)).trans hA
      have g1:=(hb.block _ (by omega)).trans ((Below.heap_alloc wr _ _ hmvl).trans hva)
      have g2:=(hb.block _ (by have:=heap_lt hmp;omega)).trans ((Below.heap_alloc wr _ _ (heap_lt hmp)).trans hmp)
      have hml:=heap_lt hmp
      refine ⟨cells_at g0 0,cells_at g0 1,cells_at g0 2,by rw [cells_at g1 0];rfl,store_g W _ ck x.name _ hpe g2 hen,?_,?_,?_,HND.out.new,?_⟩
      · rw [cell_keep (World.putObj_heap_other (by omega))];exact cells_at g0 2
      · exact (World.putObj_heap_other (by omega)).trans g1
      · exact ⟨_,_,World.putObj_heap_same (heap_lt g2),by rw [hsn];exact hpe.push _ _ _⟩
      · exact below_putObj (HBA.out.trans (hb.mono (by omega))) (Nat.le_refl _)
     clear hmp hva hb0 hsn hen hpe
     go_wp2_with (go_at_call 50;refine (H50.out _ HBA.out).mono ?_;rintro e w3 ⟨rfl,hb3⟩;obtain ⟨c0,c1,c2,c3,c4,c5,c6⟩:=HST.out w3 (hb3.mono (by simp));have HN3:=Lib.hid c6;clear hb3 c6)
     go_roundw
     case rel =>
      refine ⟨k+1,by omega,by rw [hsg];push_cast;rfl,by go_num,Lib.hid fun j hj hjk=>?_,HN3⟩
      by_cases e:j=k
      · subst e;rw [HX.out];exact HSP.out
      · exact HOKB.out j hj (by omega)
     case measure=>simp [intOf];omega
 · have hkn:k=n:=by omega
   subst hkn
   have hx0:¬ (k:Int)<(k:Int):=by omega
   have H16:=Lib.hid (f16_any HMX.out wr D _ s bd o (HS.out.below hnd.out.below))
   have HND:=hnd
   have HOKB:=hok
   have hall:l.all (fun g=>splitB s g.name g.evs)=true:=by
    rw [List.all_eq_true]
    intro x hx
    obtain ⟨i,hi,rfl⟩:=List.mem_iff_getElem.1 hx
    exact HOKB.out i hi (by omega)
   have HALL:=Lib.hid hall
   clear hnd hok
   by_cases hne:newE s bd o=0
   · have hno:1≤o∧o≤16:=by
      have h0:=hne
      unfold newE at h0
      split at h0
      · omega
      · split at h0 <;> omega
     obtain ⟨no,rfl⟩:∃ no:Nat,o=no:=⟨o.toNat,by omega⟩
     have hmk:=fun (W:World)=>run_make_row' (P:=Tryz.prog) 31 3 (.int .i64 0) 8 Tryz.underlying31 info3 rfl .i64 .i64 no (by omega) (by omega) W
     have H16Z:Hid (Calls Tryz.prog 16 #[.slice sa s.length sc,.int .i64 bd,.int .i64 no] wr fun e w'=>∃ col ws,e=.returned (.tuple #[.pointer (some ⟨ws.W,0,none⟩),.int .i64 0])∧Below wr.heap.size wr w'∧WAt w' col s ws (newM bd no)∧∀ x,x<wr.heap.size→col x=0):=H16.out.mono fun e w' ⟨hb,h⟩=>by
      rcases h with ⟨h0,-⟩ | ⟨-,col,ws,rfl,h1,h2⟩
      · exact absurd hne h0
      · exact ⟨col,ws,rfl,hb,h1,h2⟩
     clear H16
     obtain ⟨qb,hqb⟩:∃ q,bigB m l=q:=⟨_,rfl⟩
     have HQB:=Lib.hid hqb
     clear hqb
     obtain rfl:k=m.splits.length:=by omega
     have hr0:restE s m no l=if bigB m l=true then 9 else if 400<sumG l l.length then 4 else 0:=by
      unfold restE
      rw [if_neg (by rw [hall];simp),hbd,if_neg (by simpa using hne)]
     have HR0:=Lib.hid hr0
     clear hr0
     cases qb
     case' false=>by_cases h4:400<sumG l m.splits.length
     case' pos=>have h4i:(400:Int)<(sumG l m.splits.length:Int):=by omega
     case' neg=>have h4i:¬ (400:Int)<(sumG l m.splits.length:Int):=by omega
     all_goals
      go_wp2_with (first
       | (go_at_call 16;refine H16Z.out.mono ?_;rintro e w4 ⟨col,ws,rfl,hb4,hwa,hcol⟩
          have HB4:=Lib.hid hb4;have HWA:=Lib.hid hwa;have HCOL:=Lib.hid hcol
          have HBW4:=Lib.hid (HND.out.below.trans (hb4.mono HND.out.below.size))
          clear hb4 hwa hcol)
       | (go_at_call 74;refine (H74.out w4 HBW4.out).mono ?_;rintro e w5 ⟨ma,mc,pa,pc,rfl,xb,gb,mblk,sblk,hsr⟩
          have HSR:=Lib.hid hsr
          have hbw5:=HBW4.out.trans (hsr.below.mono HBW4.out.size)
          have B5:Below wr.heap.size wr (w5.alloc (.cells #[.bool m.sealed,.slice ma m.marks.length mc,.slice pa m.splits.length pc] 140)):=by
           have h1:=HB4.out.trans (hsr.below.mono HB4.out.size)
           exact h1.alloc h1.size _
          have B55:Below w5.heap.size w5 (w5.alloc (.cells #[.bool m.sealed,.slice ma m.marks.length mc,.slice pa m.splits.length pc] 140)):=alloc_below _ _
          have HB45:=Lib.hid (hsr.below.alloc hsr.below.size (.cells #[.bool m.sealed,.slice ma m.marks.length mc,.slice pa m.splits.length pc] 140));have HB5A:=Lib.hid (hbw5.alloc hbw5.size (.cells #[.bool m.sealed,.slice ma m.marks.length mc,.slice pa m.splits.length pc] 140))
          have A5:=heap_alloc_new w5 (.cells #[.bool m.sealed,.slice ma m.marks.length mc,.slice pa m.splits.length pc] 140)
          obtain ⟨es,ck,hmp,hpe⟩:=HND.out.map
          have g1:=(B5.block _ (heap_lt HND.out.var)).trans HND.out.var
          have g2:=(B5.block _ (heap_lt hmp)).trans hmp
          have v1:=cells_at g1 0
          have s0:=cells_at A5 0
          have s1:=cells_at A5 1
          have s2:=cells_at A5 2
          have hes:es.size=m.splits.length:=by
           have:=congrArg List.length hpe
           simpa [entG] using this
          have H75:Hid (∀ W,Below (w5.heap.size+1) (w5.alloc (.cells #[.bool m.sealed,.slice ma m.marks.length mc,.slice pa m.splits.length pc] 140)) W→Calls Tryz.prog 75 #[.slice pa m.splits.length pc,.func (.func 76) #[] #[.pointer (some ⟨w.heap.size+1,0,none⟩)]] W fun e w'=>e=.returned (.bool (bigB m l))∧Below W.heap.size W w'):=fun W hbq=>by
           have hz5:(w5.alloc (.cells #[.bool m.sealed,.slice ma m.marks.length mc,.slice pa m.splits.length pc] 140)).heap.size=w5.heap.size+1:=by simp
           have hb:Below (w5.alloc (.cells #[.bool m.sealed,.slice ma m.marks.length mc,.slice pa m.splits.length pc] 140)).heap.size (w5.alloc (.cells #[.bool m.sealed,.slice ma m.marks.length mc,.slice pa m.splits.length pc] 140)) W:=by rw [hz5];exact hbq
           have h:=f75_76 W pa pc m.splits.length xb (w.heap.size+1) (bigI m l) (by omega) (by
            by_cases h0:m.splits.length=0
            · exact .inl h0
            · have ho:=hsr.spl
              obtain ⟨g,o,rfl⟩:=ho.some_of (by omega)
              refine .inr ⟨g,o,rfl,fun i hi=>?_⟩
              have hc:=ho.cell i (ptr (xb i)) (by simp [hi])
              rw [← hc]
              have hcl:=cell_lt hc
              have hcl2:g<w5.heap.size:=hcl
              rw [hb.cell (p:=⟨g,o+i,none⟩) (Nat.lt_of_lt_of_le hcl B55.size),B55.cell (p:=⟨g,o+i,none⟩) (cell_lt hc)]) (fun W2 i hi hb2=>by
            obtain ⟨a1,a2,-,-⟩:=hsr.sp i hi
            have hbb:=hb.trans (hb2.mono hb.size)
            have a1':=(hbb.block _ (by have:=heap_lt a1;have:=B55.size;omega)).trans ((B55.block _ (heap_lt a1)).trans a1)
            have a2':=(hbb.block _ (by have:=heap_lt a2;have:=B55.size;omega)).trans ((B55.block _ (heap_lt a2)).trans a2)
            have g1':=(hbb.block _ (heap_lt g1)).trans g1
            have g2':=(hbb.block _ (heap_lt g2)).trans g2
            obtain ⟨j,hj,hjn⟩:=hperm m.splits[i] (List.getElem_mem hi)
            have hfi:=hfit m.splits[i] (List.getElem_mem hi)
            have hgo:=gOf_at HGU.out hj
            rw [hjn] at hgo
            have hxx:=(HL.out.resolve_left (fun e=>by rw [e] at hj;simp at hj))
            obtain ⟨b,off,-,-,hxx⟩:=hxx
            obtain ⟨ea,ec,hev,-⟩:=(hxx j hj).1
            have hva:=entG_at (ev:=ev) HGU.out (n:=m.splits.length) (by omega) (show j<m.splits.length by omega)
            rw [hjn,hev] at hva
            have hle:l[j].evs.length≤1000:=by
             have h1:=sumG_succ hj
             have h2:=sumG_le l (j+1)
             have h3:=HSUM.out
             omega
            rw [hgo] at hfi
            have h:=f76_any HMX.out W2 (xb i) (gb i) (w.heap.size+1) w.heap.size ck l[j].evs.length ec m.splits[i].read m.splits[i].name l[j].src m.splits[i].name ea m.bound m.splits[i].mark m.splits[i].done (cells_at a1' 0) (cells_at a1' 2) (cells_at a1' 3) a2' (by rw [cells_at g1' 0];rfl) g2' hpe hva hfi hle
            have hbi:bigI m l i=(m.splits[i].done && !(l[j].evs.length == m.splits[i].read)):=by
             unfold bigI bigX
             rw [List.getElem?_eq_getElem hi,← hgo]
             rfl
            rw [hbi]
            exact h)
           rw [big_range] at h
           exact h
          have hlm:∀ ty,(Builtin.len_ #[138] ty #[.map (some w.heap.size)]).run Tryz.prog (w5.alloc (.cells #[.bool m.sealed,.slice ma m.marks.length mc,.slice pa m.splits.length pc] 140))=.ok (goInt m.splits.length) (w5.alloc (.cells #[.bool m.sealed,.slice ma m.marks.length mc,.slice pa m.splits.length pc] 140)):=fun ty=>by
           have h:=run_len_map (P:=Tryz.prog) (w5.alloc (.cells #[.bool m.sealed,.slice ma m.marks.length mc,.slice pa m.splits.length pc] 140)) 138 ty w.heap.size es ck (by simp [Program.mapKeyOf,Program.mapElemOf,Tryz.underlying138]) g2
           rw [hes] at h
           exact h
          have HA5:=Lib.hid A5;have HSRR:=Lib.hid hsr;have HMP:=Lib.hid g2;have HPE:=Lib.hid hpe;have HVAR:=Lib.hid g1
          clear hsr B5 B55 g1 A5 hmp hpe)
       | (go_at_call 75;refine (H75.out _ (Below.refl _ _)).mono ?_;rintro e w6 ⟨rfl,hb6⟩;rw [HQB.out];have HB6:=Lib.hid hb6;have z6:=(hb6.block _ (heap_lt HA5.out)).trans HA5.out;have t0:=cells_at z6 0;have t1:=cells_at z6 1;have t2:=cells_at z6 2;have wa6:=HWA.out.below (HB45.out.trans (hb6.mono HB45.out.size));have hW6:=wa6.hW;have wf:w6.frozen? ⟨ws.W,5,none⟩=false:=(by simp [World.frozen?,hW6]);have w5c:=cells_at hW6 5;have HZ6:=Lib.hid z6;have HWA6:=Lib.hid wa6;have HW6:=Lib.hid hW6;clear hb6 z6 wa6 hW6))
     rotate_left
     · go_ret2
       have hr:restE s m no l=4:=by rw [HR0.out,HQB.out,hn,if_neg (by simp),if_pos h4]
       exact ⟨HB5A.out.trans (HB6.out.mono HB5A.out.size),.inl ⟨by rw [hr];decide,by rw [hr];rfl⟩⟩
     · go_ret2
       have hr:restE s m no l=9:=by rw [HR0.out,HQB.out,if_pos rfl]
       exact ⟨HB5A.out.trans (HB6.out.mono HB5A.out.size),.inl ⟨by rw [hr];decide,by rw [hr];rfl⟩⟩
     have hmi:=ints_made (w6.setCell ⟨ws.W,5,none⟩ (.bool m.sealed)) no
     have hzz:(w6.setCell ⟨ws.W,5,none⟩ (.bool m.sealed)).heap.size=w6.heap.size:=by simp
     rw [hzz] at hmi
     have o7:Only (fun b=>b=ws.W) w6 ((w6.setCell ⟨ws.W,5,none⟩ (.bool m.sealed)).alloc (.cells (madeCells #[.int .i64 0] no) 3)):=((Only.refl (fun b=>b=ws.W) w6).setCell (p:=⟨ws.W,5,none⟩) (fun _=>rfl) _).alloc _
     have hW7:((w6.setCell ⟨ws.W,5,none⟩ (.bool m.sealed)).alloc (.cells (madeCells #[.int .i64 0] no) 3)).heap[ws.W]? = some (.cells #[ws.sch,.int .i64 (newM bd no).bound,ws.spl,.map (some ws.mp),ws.rd,.bool m.sealed,ws.late] 99 (0,0)):=by
      rw [Below.heap_alloc _ _ _ (by rw [hzz];exact heap_lt HW6.out),heap_set HW6.out]
      rfl
     have HW7:=Lib.hid hW7
     have HMI:=Lib.hid hmi;have HO7:=Lib.hid o7
     clear hmi hzz o7 hW7 t0 t1 t2 wf w5c v1 s0 s1 s2 hlm hmk
     generalize (w6.setCell ⟨ws.W,5,none⟩ (.bool m.sealed)).alloc (.cells (madeCells #[.int .i64 0] no) 3)=w7 at HW7 HMI HO7 ⊢
     obtain ⟨mk,hmk⟩:∃ x,w6.heap.size=x:=⟨_,rfl⟩
     rw [hmk] at HMI ⊢
     have HMK:=Lib.hid hmk
     clear hmk
     obtain ⟨w1,hw1⟩:∃ W:World,W=wr:=⟨_,rfl⟩
     subst hw1
     go_loopw [99] (fun i wr=>∃ q:Nat,q≤no∧i=.int .i64 q∧Hid (IntsB wr mk (List.replicate q 1000000000001 ++ List.replicate (no - q) 0))∧Hid (Only (fun x=>x=mk) w7 wr)) (fun i _=>no - (intOf i).toNat)
     case atStart=>exact ⟨0,by omega,rfl,by simpa using HMI,Lib.hid (Only.refl _ _)⟩
     obtain ⟨q,hq,rfl,hqi,hqo⟩:=hrel
     by_cases hlt:q<no
     · have hqn:(q:Int)<(no:Int):=by omega
       have hq0:(0:Int)≤(q:Int):=by omega
       have c0:=hqi.out.cell (i:=q) (by simp;omega)
       have cf:=hqi.out.frozen q
       have HQN:=Lib.hid (hqi.out.set q 1000000000001)
       rw [fill_step hlt] at HQN
       have HQO:=Lib.hid (hqo.out.setCell (p:=⟨mk,q,none⟩) (fun _=>rfl) (.int .i64 1000000000001))
       go_wp2_with fail
       go_roundw
       case rel=>exact ⟨q+1,by omega,by go_num,HQN,HQO⟩
       case measure=>simp [intOf];omega
     · have hqn:no=q:=by omega
       subst hqn
       have hx1:¬ (no:Int)<(no:Int):=by omega
       obtain ⟨w8,hw8⟩:∃ W:World,W=wr:=⟨_,rfl⟩
       subst hw8
       have hWA:WAt w4 col s ws (newM m.bound no):=by rw [hbd];exact HWA.out
       have hW4:=hWA.c0 ws.W (by rw [hWA.cW];omega)
       have hz56:=HB6.out.size
       have hzA:(w5.alloc (.cells #[.bool m.sealed,.slice ma m.marks.length mc,.slice pa m.splits.length pc] 140)).heap.size=w5.heap.size+1:=by simp
       have hmz:=HMK.out
       have hz45:=HSRR.out.below.size
       have oA8:Only (fun b=>b=ws.W) (w5.alloc (.cells #[.bool m.sealed,.slice ma m.marks.length mc,.slice pa m.splits.length pc] 140)) w8:=((Only.of_below (S:=fun b=>b=ws.W) HB6.out).trans HO7.out (fun _ _ e=>e)).trans hqo.out (fun b hb e=>absurd hb (by rw [e];omega))
       have o48:Only (fun b=>b=ws.W) w4 w8:=(Only.of_below (S:=fun b=>b=ws.W) HB45.out).trans oA8 (fun _ _ e=>e)
       have hW8:=(hqo.out.block ws.W (heap_lt HW7.out) (by omega)).trans HW7.out
       have hb8:Below w.heap.size w w8:=HBW4.out.trans (o48.below HBW4.out.size (fun x e=>by have:=HND.out.below.size;have h2:=HB4.out.size;have h3:=HCOL.out x;have h4:=hWA.cW;rw [← e] at h4;omega))
       have HB8:=Lib.hid hb8
       obtain ⟨mg,mo,hma,hen⟩:=HSRR.out.envi (mk:=mk) HOK.out.lo hWA.c0 HB4.out.size HCOL.out hWA.cW oA8 (by omega) HVAR.out (heap_lt HND.out.var) HMP.out (by have:=HND.out.new;have:=heap_lt HND.out.var;omega) HLS.out hb8 HND.out.below.size
       subst hma
       have hput:=Put.start (same:=(no == m.marks.length)) (l:=l) (m:=m) (mk:=mk) hWA o48 (by rw [hbd];exact hW8) (fun j hj=>by
        obtain ⟨a1,a2,a3,a4⟩:=HSRR.out.sp j hj
        have h1:=heap_lt a1
        have h2:=heap_lt a2
        exact ⟨(oA8.block _ (by omega) (by omega)).trans (alloc_keep a1),(oA8.block _ (by omega) (by omega)).trans (alloc_keep a2),a3,a4⟩) HSRR.out.sep (by omega) (fun j hj=>by
        obtain ⟨a1,a2,a3,a4⟩:=HSRR.out.sp j hj
        have h1:=heap_lt a2
        omega) (by simpa using hqi.out)
       have hc8:∀ b,b<w.heap.size→pcol (paint col (some mk) 6) xb gb m.splits.length b=0:=fun b hb=>by
        have:=HND.out.below.size
        have:=HB4.out.size
        rw [pcol_old (fun j hj=>by have:=(HSRR.out.sp j hj).2.2;omega)]
        unfold paint
        rw [if_neg (by simp;omega)]
        exact HCOL.out b (by omega)
       have HC8:=Lib.hid hc8
       have v2:=cells_at hen.var.1 2
       have HPUT:=Lib.hid hput;have HEN:=Lib.hid hen
       clear hput hen hc8 oA8 o48 hW8 hb8 hWA hzA hz56
       generalize pcol (paint col (some mk) 6) xb gb m.splits.length=c8 at HPUT HEN HC8
       have v2':=v2
       go_wp2_with fail
       obtain ⟨sm,hsm⟩:∃ b,(no == m.marks.length)=b:=⟨_,rfl⟩
       rw [hsm] at HPUT
       have HQM:=Lib.hid hsm
       have HALLJ:Hid (∀ x ∈ l,splitB s x.name x.evs=true):=fun x hx=>List.all_eq_true.1 HALL.out x hx
       clear hsm
       go_loopw [109] (fun i wr=>∃ k:Nat,k≤m.splits.length∧i=.int .i64 k∧∃ c ws',Hid (Put w8 wr c8 c s ws.W ws' m sm no l xb gb mk k)) (fun i _=>m.splits.length - (intOf i).toNat)
       case atStart=>exact ⟨0,by omega,rfl,c8,ws,HPUT⟩
       obtain ⟨k,hk,rfl,c,ws',HP⟩:=hrel
       by_cases hlt:k<m.splits.length
       · have hkn:(k:Int)<(m.splits.length:Int):=by omega
         have hk0:(0:Int)≤(k:Int):=by omega
         have hen:=HEN.out.keep HP.out.only
         obtain ⟨g,o,rfl,-,hgo⟩:=hen.spl.resolve_left (fun e=>by rw [e] at hlt;simp at hlt)
         have x0:=hgo k hlt
         unfold ptr at x0
         obtain ⟨a1,a2,a3,a4⟩:=HP.out.sp k hlt (Nat.le_refl _)
         have y5:wr.cell? ⟨xb k,5,none⟩=some (.int .i64 (m.splits[k].owner:Nat)):=cells_at a1 5
         have y0:wr.cell? ⟨xb k,0,none⟩=some (.string m.splits[k].name):=cells_at a1 0
         have v1:wr.cell? ⟨w5.heap.size,1,none⟩=some (.slice (some ⟨mg,mo,none⟩) m.marks.length mc):=cells_at hen.var.1 1
         have hW:ws'.W=ws.W:=HP.out.W
         clear hgo hen
         have hcs:sm=false∨sm=true:=by cases sm <;> simp
         rcases hcs with hs0 | hs0
         all_goals
          have HS0:=Lib.hid hs0
          clear hs0
         case' inl =>
          have hnm:((no:Int) == (m.marks.length:Int))=false:=by have h1:=HQM.out;rw [HS0.out] at h1;simp at h1 ⊢;omega
          have hwk:=resK_ok HOK.out (same:=sm) (no:=no) (by omega) (by omega) (fun e=>by rw [HS0.out] at e;cases e) hgv hun (by rw [hn];omega) hfit (fun g hg=>(right_facts (split_facts (HALLJ.out g hg)).2).2.1) (k:=k) (by omega) (mks:=List.replicate no (-1000000000000)) (by simp) (fun x hx=>by rw [List.eq_of_mem_replicate hx];omega) m.sealed
          have H78:Hid (Calls Tryz.prog 78 #[.pointer (some ⟨ws.W,0,none⟩)] wr fun e w'=>e=.returned (.int .i64 (ownX sm no (resK sm no l m.splits k) m.splits[k]:Nat))∧Below wr.heap.size wr w'):=Lib.hid (by
           have h:=f78_any HMX.out wr c s ws' _ HP.out.wat hwk
           rw [hW] at h
           rw [HS0.out] at h ⊢
           simpa [ownX,ptr] using h)
          have ha1:=Lib.hid a1
          clear hwk
          go_wp2_with (go_at_call 78;refine H78.out.mono ?_;rintro e w32 ⟨rfl,hb32⟩;have hc1:=(hb32.block _ (heap_lt ha1.out)).trans ha1.out;have wf32:w32.frozen? ⟨xb k,5,none⟩=false:=(by simp [World.frozen?,hc1]);have hxl:=heap_lt hc1;have wc32:w32.cell? ⟨xb k,5,none⟩=some (.int .i64 (m.splits[k].owner:Nat)):=cells_at hc1 5;have HC1:=Lib.hid hc1;have HB32:=Lib.hid hb32;clear hb32 hc1)
          have o33:Only (fun b=>b=xb k) wr (w32.setCell ⟨xb k,5,none⟩ (.int .i64 (ownX sm no (resK sm no l m.splits k) m.splits[k]:Nat))):=(Only.of_below HB32.out).setCell (S:=fun b=>b=xb k) (p:=⟨xb k,5,none⟩) (fun _=>rfl) _
          have X33:(w32.setCell ⟨xb k,5,none⟩ (.int .i64 (ownX sm no (resK sm no l m.splits k) m.splits[k]:Nat))).heap[xb k]? = some (.cells #[.string m.splits[k].name,.slice none 0 0,.int .i64 m.splits[k].read,ptr (gb k),.bool m.splits[k].sealed,.int .i64 (ownX sm no (resK sm no l m.splits k) m.splits[k]:Nat)] 129 (0,0)):=by
           rw [heap_set HC1.out];rfl
          generalize w32.setCell ⟨xb k,5,none⟩ (.int .i64 (ownX sm no (resK sm no l m.splits k) m.splits[k]:Nat))=w33 at o33 X33 ⊢
         case' inr =>
          have hnm:((no:Int) == (m.marks.length:Int))=true:=by have h1:=HQM.out;rw [HS0.out] at h1;simp at h1 ⊢;omega
          have X33:wr.heap[xb k]? = some (.cells #[.string m.splits[k].name,.slice none 0 0,.int .i64 m.splits[k].read,ptr (gb k),.bool m.splits[k].sealed,.int .i64 (ownX sm no (resK sm no l m.splits k) m.splits[k]:Nat)] 129 (0,0)):=by rw [HS0.out];exact a1
          go_wp2_with fail
          generalize hw33:wr=w33
          have o33:Only (fun b=>b=xb k) wr w33:=by rw [← hw33];exact Only.refl _ _
          rw [hw33] at X33
          clear hw33
         all_goals
          have HO33:=Lib.hid o33;have HX33:=Lib.hid X33
          have hen33:=HEN.out.keep (HP.out.to (o33.mono fun b _ e=>.inr (.inr (.inr (.inr (by rw [e];exact a3))))))
          obtain ⟨j,hj,hjn⟩:=hperm m.splits[k] (List.getElem_mem hlt)
          have hgo:=gOf_at HGU.out hj
          rw [hjn] at hgo
          have hsj:=HALLJ.out _ (List.getElem_mem hj)
          obtain ⟨hr1,hr2,hr3⟩:=right_facts (split_facts hsj).2
          have hge:=hen33.giv j hj
          have hva:=entG_at (ev:=ev) HGU.out (n:=m.splits.length) (by omega) (show j<m.splits.length by omega)
          rw [hjn] at hva
          rw [← hgo] at hr1 hr2 hr3 hge
          obtain ⟨ea,ec,hev⟩:∃ a c,ev j=.slice a (gOf l m.splits[k].name).evs.length c:=by obtain ⟨a,c,e,_⟩:=hge;exact ⟨a,c,e⟩
          rw [hev] at hge hva
          have HL34:Hid (∀ W,Below w33.heap.size w33 W→W.cell? ⟨w.heap.size+1,0,none⟩=some (.map (some w.heap.size))∧W.cell? ⟨xb k,0,none⟩=some (.string m.splits[k].name)∧(Instr.lookup 138 (.map (some w.heap.size)) (.string m.splits[k].name) false).run Tryz.prog W=.ok (.agg #[.string l[j].src,.string m.splits[k].name,.slice ea (gOf l m.splits[k].name).evs.length ec]) W):=fun W hb=>by
           have b1:=(hb.block _ (heap_lt hen33.mv.1)).trans hen33.mv.1
           have b2:=(hb.block _ (heap_lt X33)).trans X33
           have b3:=(hb.block _ (heap_lt hen33.map.1)).trans hen33.map.1
           have h:=lookup_g W w.heap.size ck m.splits[k].name HPE.out b3
           rw [hva] at h
           exact ⟨cells_at b1 0,cells_at b2 0,h⟩
          have H62:=Lib.hid (f62_any HMX.out w33.drew (fun b=>c8 b=0) (.slice ea (gOf l m.splits[k].name).evs.length ec) (gOf l m.splits[k].name).evs (hge.below (Below.refl _ _).drew) hr3 (by omega))
          clear x0 y5 y0 v1 a1 a2 hen33 hge hva hev hgo hsj hr1 hr2 hr3 o33 X33
          refine wp_region_float 8 1 (fun W=>Below w33.heap.size w33 W) mixed (by kernel_rfl) ((Below.refl _ _).drew) ?_
          simp only [List.take_succ_cons,List.take_zero,List.drop_succ_cons,List.drop_zero]
          repeat (
           refine wpFloat_ex (fun K hK=>?_)
           apply Exists.intro
           refine ⟨fun W hW=>?_,?_⟩
           · obtain ⟨k1,k2,k3⟩:=HL34.out W hW
             clear hW
             go_simp
             rfl
           go_simp
           refine hK _ ?_
           clear hK K)
          refine wpFloat_nil ?_
          refine wpChain_step (fun K hK=>?_)
          go_simp
          go_at_call 62
          refine H62.out.mono ?_
          rintro e w34 ⟨r,be,rfl,ho⟩
          have HOW:=Lib.hid ho
          obtain ⟨ra,rn,rc,rfl⟩:∃ a n c,r=.slice a n c:=by obtain ⟨a,c,h⟩:=ho.own.form;exact ⟨a,_,c,h⟩
          have HB34:Hid (Below w33.heap.size w33 w34):=((Below.refl _ _).drew).trans ho.below
          have X34:=(HB34.out.block _ (heap_lt HX33.out)).trans HX33.out
          have HX34:=Lib.hid X34
          have wf34:w34.frozen? ⟨xb k,1,none⟩=false:=by simp [World.frozen?,X34]
          have hxl34:=heap_lt X34
          have wc34:w34.cell? ⟨xb k,1,none⟩=some (.slice none 0 0):=cells_at X34 1
          refine hK _ _ rfl (fun _=>HB34.out) ?_
          clear hK K ho X34
          iterate 3 (
           refine wpChain_step (fun K hK=>?_)
           go_simp
           refine hK _ _ rfl (fun h=>by omega) ?_
           clear hK K)
          refine wpChain_nil ?_
          have o35:Only (fun b=>b=xb k) wr (w34.setCell ⟨xb k,1,none⟩ (.slice ra rn rc)):=(HO33.out.trans (Only.of_below (S:=fun b=>b=xb k) HB34.out) (fun _ _ e=>e)).setCell (S:=fun b=>b=xb k) (p:=⟨xb k,1,none⟩) (fun _=>rfl) _
          have X35:(w34.setCell ⟨xb k,1,none⟩ (.slice ra rn rc)).heap[xb k]? = some (.cells #[.string m.splits[k].name,.slice ra rn rc,.int .i64 m.splits[k].read,ptr (gb k),.bool m.splits[k].sealed,.int .i64 (ownX sm no (resK sm no l m.splits k) m.splits[k]:Nat)] 129 (0,0)):=by
           rw [heap_set HX34.out];rfl
          have hz35:(w34.setCell ⟨xb k,1,none⟩ (.slice ra rn rc)).heap.size=w34.heap.size:=by simp
          have hz33:=HO33.out.size
          have E35:EvsOwn (w34.setCell ⟨xb k,1,none⟩ (.slice ra rn rc)) (fun b=>wr.heap.size≤b∧b<(w34.setCell ⟨xb k,1,none⟩ (.slice ra rn rc)).heap.size∧be≠some b) (.slice ra rn rc) (gOf l m.splits[k].name).evs be:=by
           have hxw:xb k<wr.heap.size:=heap_lt (HP.out.sp k hlt (Nat.le_refl _)).1
           rw [hz35]
           refine (HOW.out.own.keep fun b hb hlt2=>heap_set_ne _ ?_).mono fun b hb=>⟨Nat.le_trans hz33 hb.1,hb.2⟩
           rcases hb with hb | hb
           · have h1:w33.heap.size≤b:=hb.1
             omega
           · have h1:w33.heap.size≤b:=HOW.out.new b hb
             omega
          have hbe:∀ b,be=some b→wr.heap.size≤b:=fun b hb=>Nat.le_trans hz33 (HOW.out.new b hb)
          have HO35:=Lib.hid o35;have HX35:=Lib.hid X35;have HE35:=Lib.hid E35;have HBE:=Lib.hid hbe
          clear hz35 hz33 wf34 wc34 hxl34
          generalize w34.setCell ⟨xb k,1,none⟩ (.slice ra rn rc)=w35 at HO35 HX35 HE35 o35 ⊢
          have hlen:(resK sm no l m.splits k).length=k:=resK_len (by omega)
          obtain ⟨spa,spc,espl⟩:=HP.out.wat.splForm
          have hS:=HP.out.wat.hS
          dsimp only at espl hS
          rw [hlen] at espl hS
          rw [espl] at hS
          obtain ⟨cW,cM,cK,cX,cS,c0⟩:=HP.out.apart hlt
          have hWw:=HP.out.wat.hW
          dsimp only at hWw
          rw [hW,espl] at hWw
          have hW35:=(o35.block _ (heap_lt hWw) (fun e=>by rw [e] at cW;omega)).trans hWw
          have q2:=cells_at hW35 2
          have hWl:=heap_lt hW35
          have howna:SlOwn (w35.alloc (.cells #[.pointer (some ⟨xb k,0,none⟩)] 126)) 126 1 (.slice spa k spc) k ((List.range k).map fun k=>ptr (ws'.xb k)) ws'.sb :=
           hS.keep fun b e=>(Below.heap_alloc _ _ _ (Nat.lt_of_lt_of_le (hS.lt_of e) o35.size)).trans (o35.block b (hS.lt_of e) (fun e2=>by have:=cS b e;rw [e2] at this;omega))
          have hsrc:Src (w35.alloc (.cells #[.pointer (some ⟨xb k,0,none⟩)] 126)) 1 (.slice (some ⟨w35.heap.size,0,none⟩) 1 1) 1 [ptr (xb k)] :=
           SlOwn.src (e:=126) (blk:=some w35.heap.size) ⟨rfl,.inr ⟨_,0,1,_,rfl,rfl,World.alloc_heap_new w35 _,Nat.le_refl _,by simp [maxLen],by simp,rfl⟩⟩
          have HOWNA:=Lib.hid howna;have HSRC:=Lib.hid hsrc;have HW35:=Lib.hid hW35;have HCS:=Lib.hid cS
          obtain ⟨i1,hi1,hz10,hz11,hz12⟩:=info_parts info126
          clear howna hsrc hS espl hWw hW35 cS c0 o35
          go_wp2_with (at_builtin
                       refine wpList_append_S rfl (.tmp 142) (.tmp 144) 96 rfl 126 i1 _ 1 8 Tryz.underlying96 hi1 hz10 hz11 hz12 rfl (by omega) (.slice spa k spc) k ((List.range k).map fun k=>ptr (ws'.xb k)) ws'.sb rfl HOWNA.out (.slice (some ⟨w35.heap.size,0,none⟩) 1 1) 1 [ptr (xb k)] rfl HSRC.out (fun u hu=>by rw [List.mem_singleton] at hu;subst hu;rfl) (by simp only [maxLen];omega) (by omega) ?_
                       intro v10 w10 sb' h1 h2 h3
                       obtain ⟨a10,c10,rfl⟩:=h1.form
                       have hW10:=(h2.block ws.W (by simp;omega) (fun e=>by have:=HCS.out _ e.symm;omega)).trans (alloc_keep HW35.out)
                       have r2:=cells_at hW10 2
                       have rf2:w10.frozen? ⟨ws.W,2,none⟩=false:=by simp [World.frozen?,hW10]
                       have H1:=Lib.hid h1;have H2:=Lib.hid h2;have H3:=Lib.hid h3;have HW10:=Lib.hid hW10
                       clear h1 h2 h3 hW10)
          have o36:Only (fun b=>b=ws.W) w10 (w10.setCell ⟨ws.W,2,none⟩ (.slice a10 (k+1) c10)):=(Only.refl _ _).setCell (S:=fun b=>b=ws.W) (p:=⟨ws.W,2,none⟩) (fun _=>rfl) _
          have hW36:(w10.setCell ⟨ws.W,2,none⟩ (.slice a10 (k+1) c10)).heap[ws.W]? = some (.cells #[ws'.sch,.int .i64 m.bound,.slice a10 (k+1) c10,.map (some ws'.mp),ws'.rd,.bool m.sealed,ws'.late] 99 (0,0)):=by rw [heap_set HW10.out];rfl
          clear q2 hWl r2 rf2
          generalize w10.setCell ⟨ws.W,2,none⟩ (.slice a10 (k+1) c10)=w36 at o36 hW36 ⊢
          obtain ⟨x1,x2,x3,x4,-⟩:=HP.out.mid36 hlt HO35.out HX35.out H2.out o36
          have HL36:Hid (∀ W,Below w36.heap.size w36 W→W.cell? ⟨ws.W,3,none⟩=some (.map (some ws'.mp))∧W.cell? ⟨xb k,0,none⟩=some (.string m.splits[k].name)):=fun W hb=>⟨cells_at ((hb.block _ (heap_lt hW36)).trans hW36) 3,cells_at ((hb.block _ (heap_lt x1)).trans x1) 0⟩
          have hst:=store_p w36.drew ws'.mp ws'.clock m.splits[k].name (.pointer (some ⟨xb k,0,none⟩)) HP.out.wat.ents x2 (resK_absent hun hlt)
          have HO36:=Lib.hid o36;have HW36:=Lib.hid hW36;have HM36:=Lib.hid x2
          clear x1 x2 x3 x4 o36 hW36
          refine wp_region_float 9 0 (fun W=>Below w36.heap.size w36 W) mixed (by kernel_rfl) ((Below.refl _ _).drew) ?_
          simp only [List.take_succ_cons,List.take_zero,List.drop_succ_cons,List.drop_zero]
          repeat (
           refine wpFloat_ex (fun K hK=>?_)
           apply Exists.intro
           refine ⟨fun W hW=>?_,?_⟩
           · obtain ⟨k1,k2⟩:=HL36.out W hW
             clear hW
             go_simp
             rfl
           go_simp
           refine hK _ ?_
           clear hK K)
          refine wpFloat_nil ?_
          refine wpChain_step (fun K hK=>?_)
          go_simp
          refine hK _ _ rfl (fun h=>by omega) ?_
          clear hK K
          refine wpChain_nil ?_
          have o37:Only (fun b=>b=ws'.mp) w36 (w36.drew.putObj ws'.mp (.map (ws'.ents.push { key:=.string m.splits[k].name,val:=.pointer (some ⟨xb k,0,none⟩),born:=ws'.clock }) (ws'.clock+1))):=⟨rfl,rfl,rfl,by simp [World.putObj],fun b _ hb=>World.putObj_heap_other hb⟩
          have hM37:(w36.drew.putObj ws'.mp (.map (ws'.ents.push { key:=.string m.splits[k].name,val:=.pointer (some ⟨xb k,0,none⟩),born:=ws'.clock }) (ws'.clock+1))).heap[ws'.mp]? = some (.map (ws'.ents.push { key:=.string m.splits[k].name,val:=.pointer (some ⟨xb k,0,none⟩),born:=ws'.clock }) (ws'.clock+1)):=World.putObj_heap_same (heap_lt HM36.out)
          clear hst
          generalize w36.drew.putObj ws'.mp (.map (ws'.ents.push { key:=.string m.splits[k].name,val:=.pointer (some ⟨xb k,0,none⟩),born:=ws'.clock }) (ws'.clock+1))=w37 at o37 hM37 ⊢
          obtain ⟨z1,z2,z3,-⟩:=HP.out.mid37 hlt HO35.out HX35.out H2.out HO36.out o37
          have hen37:=HEN.out.keep (HP.out.to z3)
          have hoc:=HOK.out.owner _ (List.getElem_mem hlt)
          have how:=ownX_lt (same:=sm) (acc:=resK sm no l m.splits k) (x:=m.splits[k]) (no:=no) (by omega) (fun e=>by have h:=HQM.out;rw [e] at h;simp at h;omega)
          obtain ⟨ow,hwo⟩:∃ q,ownX sm no (resK sm no l m.splits k) m.splits[k]=q:=⟨_,rfl⟩
          obtain ⟨A,hA⟩:∃ A,(mkK sm no l m.splits m.marks k).getD ow 0=A:=⟨_,rfl⟩
          obtain ⟨B,hB⟩:∃ B,m.marks.getD m.splits[k].owner 0=B:=⟨_,rfl⟩
          rw [hwo] at how z1
          have hml:=mkK_len (same:=sm) (no:=no) (l:=l) (xs:=m.splits) (ms:=m.marks) (k:=k) (by omega)
          have c1:=z2.cell (i:=ow) (by omega)
          have c2:=hen37.mks.1 m.splits[k].owner hoc
          rw [show (mkK sm no l m.splits m.marks k)[ow]'(by omega)=A by rw [← hA];simp [List.getD,hml,how]] at c1
          rw [show m.marks[m.splits[k].owner]=B by rw [← hB];simp [List.getD,hoc]] at c2
          have HL37:Hid (∀ W,Below w37.heap.size w37 W→W.cell? ⟨xb k,5,none⟩=some (.int .i64 ow)∧W.cell? ⟨mk,ow,none⟩=some (.int .i64 A)∧W.cell? ⟨w5.heap.size,1,none⟩=some (.slice (some ⟨mg,mo,none⟩) m.marks.length mc)∧W.cell? ⟨mg,mo+m.splits[k].owner,none⟩=some (.int .i64 B)):=fun W hb =>
           ⟨cells_at ((hb.block _ (heap_lt z1)).trans z1) 5,by rw [hb.cell (p:=⟨mk,ow,none⟩) (cell_lt c1)];exact c1,cells_at ((hb.block _ (heap_lt hen37.var.1)).trans hen37.var.1) 1,by rw [hb.cell (p:=⟨mg,mo+m.splits[k].owner,none⟩) (cell_lt c2)];exact c2⟩
          have how0:(0:Int)≤(ow:Int):=by omega
          have how1:(ow:Int)<(no:Int):=by omega
          have hoc0:(0:Int)≤(m.splits[k].owner:Int):=by omega
          have hoc1:(m.splits[k].owner:Int)<(m.marks.length:Int):=by omega
          have cf:=z2.frozen ow
          have HI37:=Lib.hid z2
          have HO37:=Lib.hid o37;have HM37:=Lib.hid hM37;have HWO:=Lib.hid hwo;have HA:=Lib.hid hA;have HB:=Lib.hid hB
          clear z1 z2 z3 hen37 hwo hA hB hM37 o37 c2 hml
          go_wp2_with fail
          refine wp_region_float 18 0 (fun W=>Below w37.heap.size w37 W) mixed (by kernel_rfl) ((Below.refl _ _).drew) ?_
          simp only [List.take_succ_cons,List.take_zero,List.drop_succ_cons,List.drop_zero]
          repeat (
           refine wpFloat_ex (fun K hK=>?_)
           apply Exists.intro
           refine ⟨fun W hW=>?_,?_⟩
           · obtain ⟨k1,k2,k3,k4⟩:=HL37.out W hW
             clear hW
             go_simp
             rfl
           go_simp
           refine hK _ ?_
           clear hK K)
          refine wpFloat_nil ?_
          iterate 2 (
           refine wpChain_step (fun K hK=>?_)
           go_simp
           refine hK _ _ rfl (fun h=>by omega) ?_
           clear hK K)
          refine wpChain_nil ?_
          have o38:Only (fun b=>b=mk) w37 ((w37.setCell ⟨mk,ow,none⟩ (.int .i64 (min A B))).drew):=((Only.refl _ _).setCell (S:=fun b=>b=mk) (p:=⟨mk,ow,none⟩) (fun _=>rfl) _).drew
          have hI38:IntsB ((w37.setCell ⟨mk,ow,none⟩ (.int .i64 (min A B))).drew) mk (mkK sm no l m.splits m.marks (k+1)):=by
           rw [mkK_succ hlt,HWO.out,HA.out,HB.out]
           exact HI37.out.set ow (min A B)
          have hbx:bigX l m.splits[k]=false:=by
           have h:=HQB.out
           unfold bigB at h
           rw [List.any_eq_false] at h
           simpa using h _ (List.getElem_mem hlt)
          obtain ⟨c',ws2,hnx⟩:=HP.out.round hlt HO35.out HX35.out HE35.out HBE.out H1.out H2.out H3.out HO36.out HW36.out HO37.out HM37.out (HP.out.wat.ents.push _ _ _) o38 hI38 (resX_mark hbx (HOK.out.read _ (List.getElem_mem hlt)) (hlong _ (List.getElem_mem hlt)))
          have HNX:=Lib.hid hnx
          clear hnx o38 hI38 cf c1
          generalize (w37.setCell ⟨mk,ow,none⟩ (.int .i64 (min A B))).drew=w38 at HNX ⊢
          go_wp2_with fail
          go_roundw
          case rel=>exact ⟨k+1,by omega,by go_num,c',ws2,HNX⟩
          case measure=>simp [intOf];omega
       · have hkn:k=m.splits.length:=by omega
         subst hkn
         obtain ⟨w20,hw20⟩:∃ W:World,W=wr:=⟨_,rfl⟩
         subst hw20
         have hW:ws'.W=ws.W:=HP.out.W
         have HCM:=Lib.hid HP.out.cmk
         have hfin:=HP.out.fin
         obtain ⟨ra,rc,hrd⟩:=hfin.wat.rdForm
         have hRR:=hfin.wat.hR
         have hWW:=hfin.wat.hW
         have hml:(finM sm no l m 0).marks.length=no:=finL_len (by omega)
         rw [hml] at hrd hRR
         rw [hrd] at hRR hWW
         rw [hW] at hWW
         obtain ⟨rg,ro,rfl⟩:=hRR.some_of (by omega)
         have q4:=cells_at hWW 4
         have HF0:=Lib.hid hfin
         have HRD:=Lib.hid hrd
         have hWA4:=fun (i:Nat) (hi:i≤no)=>resK_ok HOK.out (same:=sm) (no:=no) (by omega) (by omega) (fun e=>by have:=HQM.out;rw [e] at this;simpa using this) hgv hun (by rw [hn];omega) hfit (fun g hg=>(right_facts (split_facts (HALLJ.out g hg)).2).2.1) (k:=m.splits.length) (Nat.le_refl _) (mks:=finL sm no l m i) (finL_len hi) (finL_in HOK.out) m.sealed
         have HWO4:Hid (∀ i,i≤no→WOk (finM sm no l m i)):=hWA4
         clear hfin hrd hRR hWW hml hWA4
         go_wp2_with fail
         go_loopw [182] (fun i wr=>∃ q:Nat,q≤no∧i=.int .i64 q∧Hid (Fin4 w20 wr c s ws' m sm no l mk q)) (fun i _=>no - (intOf i).toNat)
         case atStart=>exact ⟨0,by omega,rfl,HF0⟩
         obtain ⟨q,hq,rfl,HF⟩:=hrel
         by_cases hlt:q<no
         · have hqn:(q:Int)<(no:Int):=by omega
           have hq0:(0:Int)≤(q:Int):=by omega
           have hen:=HEN.out.keep (Fin4.env HP.out HF.out)
           have hRR:=HF.out.wat.hR
           have hml:(finM sm no l m q).marks.length=no:=finL_len (by omega)
           rw [hml,HRD.out] at hRR
           have r0:wr.cell? ⟨rg,ro+q,none⟩=some (.pointer (some ⟨ws'.mb q,0,none⟩)):=hRR.cell q _ (by simp [hlt,ptr])
           have hrl:=cell_lt r0
           have hBq:=HF.out.wat.hB q (by omega)
           have hIq:=HF.out.wat.hI q (by omega)
           have hmq:(finM sm no l m q).marks[q]'(by omega) = -1000000000000:=by
            have h:=finL_at (same:=sm) (l:=l) (m:=m) hlt
            obtain ⟨_,e⟩:=List.getElem?_eq_some_iff.1 h
            exact e
           rw [hmq] at hBq hIq
           have cB:=HF.out.wat.cB q (by omega)
           have cI:=HF.out.wat.cI q (by omega)
           have v1:wr.cell? ⟨w5.heap.size,1,none⟩=some (.slice (some ⟨mg,mo,none⟩) m.marks.length mc):=cells_at hen.var.1 1
           have hvl:=cell_lt v1
           obtain ⟨L,hll,hIL,hlj⟩:=HF.out.mks
           have hmkl:=heap_lt hIL
           have cf:=hIL.frozen q
           obtain ⟨C,cq,hCC⟩:∃ C,wr.cell? ⟨mk,q,none⟩=some (.int .i64 C)∧L.getD q 0=C:=⟨L.getD q 0,by have h:=hIL.cell (i:=q) (by omega);rw [h];simp [List.getD,show q<L.length by omega],rfl⟩
           have HCC:=Lib.hid hCC
           have HIL:=Lib.hid hIL;have HLJ:=Lib.hid hlj;have HLL:=Lib.hid hll
           have HBQ:=Lib.hid hBq;have HIQ:=Lib.hid hIq;have HCB:=Lib.hid cB;have HCI:=Lib.hid cI
           have HBX:Hid ((wr.alloc (.cells #[.pointer (some ⟨ws'.mb q,0,none⟩)] 104)).heap[wr.heap.size]? = some (.cells #[.pointer (some ⟨ws'.mb q,0,none⟩)] 104 (0,0))):=heap_alloc_new wr _
           have hFq:=Lib.hid (finK_in (same:=sm) (no:=no) (l:=l) HOK.out q)
           clear hRR hml hBq hIq hmq cB cI hIL hlj hll hCC
           cases sm
           · have hnm:((no:Int) == (m.marks.length:Int))=false:=by have:=HQM.out;simp at this ⊢;omega
             have hwb:=HF.out.wat.below (alloc_below wr (.cells #[.pointer (some ⟨ws'.mb q,0,none⟩)] 104))
             have H79:=Lib.hid (f79_any _ c s ws' (finM false no l m q) q hwb (HWO4.out q (by omega)))
             rw [hW] at H79
             unfold ptr at H79
             have q5a:=cells_at HF.out.wat.hW 5
             have hWl:=heap_lt HF.out.wat.hW
             rw [hW] at q5a hWl
             obtain ⟨sl,hsl⟩:∃ b,m.sealed=b:=⟨_,rfl⟩
             have q5:wr.cell? ⟨ws.W,5,none⟩=some (.bool sl):=by rw [q5a];show some (Value.bool m.sealed)=_;rw [hsl]
             obtain ⟨cn,hcn⟩:∃ x,countN (finM false no l m q).splits q=x:=⟨_,rfl⟩
             rw [hcn] at H79
             have hFK:finK false no l m q=if cn=0∧sl=false then minK m.marks m.marks.length else (mkK false no l m.splits m.marks m.splits.length).getD q 0:=by
              rw [← hcn,← hsl];rfl
             have HFK:=Lib.hid hFK
             clear hcn hsl hFK hwb q5a
             by_cases hc:cn=0
             case' pos =>
              have hc1:((cn:Int) == 0)=true:=by simp [hc]
              cases sl
              case false =>
               have c2:∀ i (h:i<m.marks.length),(wr.alloc (.cells #[.pointer (some ⟨ws'.mb q,0,none⟩)] 104)).cell? ⟨mg,mo+i,none⟩=some (.int .i64 m.marks[i]):=fun i hi=>by
                have h:=hen.mks.1 i hi
                rw [(alloc_below wr _).cell (p:=⟨mg,mo+i,none⟩) (cell_lt h)]
                exact h
               have H80:=Lib.hid (f80_any _ mg mo mc m.marks.length m.marks rfl HOK.out.lo (by have:=HOK.out.hi;omega) c2)
               have HFK2:Hid (finK false no l m q=minK m.marks m.marks.length):=by show _=_;rw [HFK.out,if_pos ⟨hc,rfl⟩]
               clear c2 hen
               generalize minK m.marks m.marks.length=A at H80 HFK2
               go_wp2_with (first
                | (go_at_call 79;refine H79.out.mono ?_;rintro e w44 ⟨rfl,rfl⟩)
                | (go_at_call 80;refine H80.out.mono ?_;rintro e w44 ⟨rfl,rfl⟩))
               have hsz:(wr.setCell ⟨mk,q,none⟩ (.int .i64 A)).heap.size=wr.heap.size:=by simp
               have o45:Only (fun b=>b=mk) wr ((wr.setCell ⟨mk,q,none⟩ (.int .i64 A)).alloc (.cells #[.pointer (some ⟨ws'.mb q,0,none⟩)] 104)):=((Only.refl _ _).setCell (S:=fun b=>b=mk) (p:=⟨mk,q,none⟩) (fun _=>rfl) _).alloc _
               have I45:IntsB ((wr.setCell ⟨mk,q,none⟩ (.int .i64 A)).alloc (.cells #[.pointer (some ⟨ws'.mb q,0,none⟩)] 104)) mk (L.set q (finK false no l m q)):=by
                rw [HFK2.out]
                exact alloc_keep (HIL.out.set q A)
               have X45:((wr.setCell ⟨mk,q,none⟩ (.int .i64 A)).alloc (.cells #[.pointer (some ⟨ws'.mb q,0,none⟩)] 104)).heap[wr.heap.size]? = some (.cells #[.pointer (some ⟨ws'.mb q,0,none⟩)] 104 (0,0)):=by
                have h:=heap_alloc_new (wr.setCell ⟨mk,q,none⟩ (.int .i64 A)) (.cells #[.pointer (some ⟨ws'.mb q,0,none⟩)] 104)
                rw [hsz] at h
                exact h
               clear hsz
               generalize (wr.setCell ⟨mk,q,none⟩ (.int .i64 A)).alloc (.cells #[.pointer (some ⟨ws'.mb q,0,none⟩)] 104)=w45 at o45 I45 X45 ⊢
               have hb1:=(o45.block _ (heap_lt HBQ.out) (fun e=>by have:=HCB.out;rw [e,HCM.out] at this;omega)).trans HBQ.out
               have hi1:=(o45.block _ (heap_lt HIQ.out) (fun e=>by have:=HCI.out;rw [e,HCM.out] at this;omega)).trans HIQ.out
               have H81:=Lib.hid (f81_any w45.drew (ws'.mb q) (ws'.ib q) (-1000000000000) (finK false no l m q) hb1 hi1 hFq.out.1 hFq.out.2 hFq.out.1)
               unfold ptr at H81
               have HL45:Hid (∀ W,Below w45.heap.size w45 W→W.cell? ⟨wr.heap.size,0,none⟩=some (.pointer (some ⟨ws'.mb q,0,none⟩))∧W.cell? ⟨mk,q,none⟩=some (.int .i64 (finK false no l m q))):=fun W hb=>by
                have hlq:q<(L.set q (finK false no l m q)).length:=by rw [List.length_set,HLL.out];exact hlt
                have h:=I45.cell (i:=q) hlq
                rw [List.getElem_set_self] at h
                exact ⟨cells_at ((hb.block _ (heap_lt X45)).trans X45) 0,by rw [hb.cell (p:=⟨mk,q,none⟩) (cell_lt h)];exact h⟩
               have HO45:=Lib.hid o45;have HI45:=Lib.hid I45
               clear hb1 hi1 o45 I45 X45
               refine wp_region_float 6 1 (fun W=>W.cell? ⟨wr.heap.size,0,none⟩=some (.pointer (some ⟨ws'.mb q,0,none⟩))∧W.cell? ⟨mk,q,none⟩=some (.int .i64 (finK false no l m q))) mixed (by kernel_rfl) (HL45.out _ (Below.refl _ _).drew) ?_
               simp only [List.take_succ_cons,List.take_zero,List.drop_succ_cons,List.drop_zero]
               repeat (
                refine wpFloat_ex (fun K hK=>?_)
                apply Exists.intro
                refine ⟨fun W hW=>?_,?_⟩
                · obtain ⟨k1,k2⟩:=hW
                  go_simp
                  rfl
                go_simp
                refine hK _ ?_
                clear hK K)
               refine wpFloat_nil ?_
               refine wpChain_step (fun K hK=>?_)
               go_simp
               go_at_call 81
               refine H81.out.mono ?_
               rintro e w46 ⟨rfl,o46,b46,g46⟩
               have HNX:=Lib.hid (HF.out.next hlt HCM.out HIL.out HLL.out HLJ.out HO45.out HI45.out (show Only (fun b=>b=ws'.mb q∨b=ws'.ib q) w45 w46 from ⟨o46.os,o46.tape,o46.output,o46.size,o46.block⟩) b46 g46)
               have v46:w46.cell? ⟨w5.heap.size,1,none⟩=some (.slice (some ⟨mg,mo,none⟩) m.marks.length mc):=cells_at (HEN.out.keep (Fin4.env HP.out HNX.out)).var.1 1
               refine hK _ _ rfl (fun _=>by
                obtain ⟨k1,k2⟩:=HL45.out _ (Below.refl _ _).drew
                have h1:=heap_lt HBQ.out
                have h2:=heap_lt HIQ.out
                have h3:=HCB.out
                have h4:=HCI.out
                have h5:=HCM.out
                exact ⟨(o46.cell _ 0 (cell_lt k1) (by omega)).trans k1,(o46.cell _ q (cell_lt k2) (fun e=>by rcases e with e | e <;> (have h6:=congrArg c e;omega))).trans k2⟩) ?_
               clear hK K o46 b46 g46
               refine wpChain_nil ?_
               go_wp2_with fail
               go_roundw
               case rel=>exact ⟨q+1,by omega,by go_num,HNX⟩
               case measure=>simp [intOf];omega
              clear hen
              have HFK2:Hid (finK false no l m q=(mkK false no l m.splits m.marks m.splits.length).getD q 0):=by show _=_;rw [HFK.out,if_neg (by intro h;cases h.2)]
             case' neg =>
              have hc1:((cn:Int) == 0)=false:=by simp;exact hc
              clear hen
              have HFK2:Hid (finK false no l m q=(mkK false no l m.splits m.marks m.splits.length).getD q 0):=by show _=_;rw [HFK.out,if_neg (by intro h;exact hc h.1)]
             all_goals
              go_wp2_with (go_at_call 79;refine H79.out.mono ?_;rintro e w44 ⟨rfl,rfl⟩)
              have o45:Only (fun b=>b=mk) wr (wr.alloc (.cells #[.pointer (some ⟨ws'.mb q,0,none⟩)] 104)):=(Only.refl _ _).alloc _
              have I45:IntsB (wr.alloc (.cells #[.pointer (some ⟨ws'.mb q,0,none⟩)] 104)) mk (L.set q (finK false no l m q)):=by
               have e:L.set q (finK false no l m q)=L:=by
                rw [HFK2.out,← HLJ.out q (Nat.le_refl _)]
                have hql:q<L.length:=by rw [HLL.out];exact hlt
                apply List.ext_getElem? ;intro i
                rw [List.getElem?_set]
                split
                · rename_i e;subst e;simp [hql,List.getD]
                · rfl
               rw [e]
               exact alloc_keep HIL.out
              have X45:=HBX.out
              generalize wr.alloc (.cells #[.pointer (some ⟨ws'.mb q,0,none⟩)] 104)=w45 at o45 I45 X45 ⊢
              have hb1:=(o45.block _ (heap_lt HBQ.out) (fun e=>by have:=HCB.out;rw [e,HCM.out] at this;omega)).trans HBQ.out
              have hi1:=(o45.block _ (heap_lt HIQ.out) (fun e=>by have:=HCI.out;rw [e,HCM.out] at this;omega)).trans HIQ.out
              have H81:=Lib.hid (f81_any w45.drew (ws'.mb q) (ws'.ib q) (-1000000000000) (finK false no l m q) hb1 hi1 hFq.out.1 hFq.out.2 hFq.out.1)
              unfold ptr at H81
              have HL45:Hid (∀ W,Below w45.heap.size w45 W→W.cell? ⟨wr.heap.size,0,none⟩=some (.pointer (some ⟨ws'.mb q,0,none⟩))∧W.cell? ⟨mk,q,none⟩=some (.int .i64 (finK false no l m q))):=fun W hb=>by
               have hlq:q<(L.set q (finK false no l m q)).length:=by rw [List.length_set,HLL.out];exact hlt
               have h:=I45.cell (i:=q) hlq
               rw [List.getElem_set_self] at h
               exact ⟨cells_at ((hb.block _ (heap_lt X45)).trans X45) 0,by rw [hb.cell (p:=⟨mk,q,none⟩) (cell_lt h)];exact h⟩
              have HO45:=Lib.hid o45;have HI45:=Lib.hid I45
              clear hb1 hi1 o45 I45 X45
              refine wp_region_float 6 1 (fun W=>W.cell? ⟨wr.heap.size,0,none⟩=some (.pointer (some ⟨ws'.mb q,0,none⟩))∧W.cell? ⟨mk,q,none⟩=some (.int .i64 (finK false no l m q))) mixed (by kernel_rfl) (HL45.out _ (Below.refl _ _).drew) ?_
              simp only [List.take_succ_cons,List.take_zero,List.drop_succ_cons,List.drop_zero]
              repeat (
               refine wpFloat_ex (fun K hK=>?_)
               apply Exists.intro
               refine ⟨fun W hW=>?_,?_⟩
               · obtain ⟨k1,k2⟩:=hW
                 go_simp
                 rfl
               go_simp
               refine hK _ ?_
               clear hK K)
              refine wpFloat_nil ?_
              refine wpChain_step (fun K hK=>?_)
              go_simp
              go_at_call 81
              refine H81.out.mono ?_
              rintro e w46 ⟨rfl,o46,b46,g46⟩
              have HNX:=Lib.hid (HF.out.next hlt HCM.out HIL.out HLL.out HLJ.out HO45.out HI45.out (show Only (fun b=>b=ws'.mb q∨b=ws'.ib q) w45 w46 from ⟨o46.os,o46.tape,o46.output,o46.size,o46.block⟩) b46 g46)
              have v46:w46.cell? ⟨w5.heap.size,1,none⟩=some (.slice (some ⟨mg,mo,none⟩) m.marks.length mc):=cells_at (HEN.out.keep (Fin4.env HP.out HNX.out)).var.1 1
              refine hK _ _ rfl (fun _=>by
               obtain ⟨k1,k2⟩:=HL45.out _ (Below.refl _ _).drew
               have h1:=heap_lt HBQ.out
               have h2:=heap_lt HIQ.out
               have h3:=HCB.out
               have h4:=HCI.out
               have h5:=HCM.out
               exact ⟨(o46.cell _ 0 (cell_lt k1) (by omega)).trans k1,(o46.cell _ q (cell_lt k2) (fun e=>by rcases e with e | e <;> (have h6:=congrArg c e;omega))).trans k2⟩) ?_
              clear hK K o46 b46 g46
              refine wpChain_nil ?_
              go_wp2_with fail
              go_roundw
              case rel=>exact ⟨q+1,by omega,by go_num,HNX⟩
              case measure=>simp [intOf];omega
           · have hnm:((no:Int) == (m.marks.length:Int))=true:=by have:=HQM.out;simp at this ⊢;omega
             have hqm:q<m.marks.length:=by have:=HQM.out;simp at this;omega
             have c2:=hen.mks.1 q hqm
             obtain ⟨A,hA⟩:∃ A,finK true no l m q=A:=⟨_,rfl⟩
             rw [show m.marks[q]=A by rw [← hA];simp [finK,List.getD,hqm]] at c2
             have hql:(q:Int)<(m.marks.length:Int):=by omega
             have c2l:=cell_lt c2
             have HA:=Lib.hid hA
             clear hA hen
             go_wp2_with fail
             have hsz:(wr.setCell ⟨mk,q,none⟩ (.int .i64 A)).heap.size=wr.heap.size:=by simp
             have o45:Only (fun b=>b=mk) wr ((wr.setCell ⟨mk,q,none⟩ (.int .i64 A)).alloc (.cells #[.pointer (some ⟨ws'.mb q,0,none⟩)] 104)):=((Only.refl _ _).setCell (S:=fun b=>b=mk) (p:=⟨mk,q,none⟩) (fun _=>rfl) _).alloc _
             have I45:IntsB ((wr.setCell ⟨mk,q,none⟩ (.int .i64 A)).alloc (.cells #[.pointer (some ⟨ws'.mb q,0,none⟩)] 104)) mk (L.set q (finK true no l m q)):=by
              rw [HA.out]
              exact alloc_keep (HIL.out.set q A)
             have X45:((wr.setCell ⟨mk,q,none⟩ (.int .i64 A)).alloc (.cells #[.pointer (some ⟨ws'.mb q,0,none⟩)] 104)).heap[wr.heap.size]? = some (.cells #[.pointer (some ⟨ws'.mb q,0,none⟩)] 104 (0,0)):=by
              have h:=heap_alloc_new (wr.setCell ⟨mk,q,none⟩ (.int .i64 A)) (.cells #[.pointer (some ⟨ws'.mb q,0,none⟩)] 104)
              rw [hsz] at h
              exact h
             clear hsz
             generalize (wr.setCell ⟨mk,q,none⟩ (.int .i64 A)).alloc (.cells #[.pointer (some ⟨ws'.mb q,0,none⟩)] 104)=w45 at o45 I45 X45 ⊢
             have hb1:=(o45.block _ (heap_lt HBQ.out) (fun e=>by have:=HCB.out;rw [e,HCM.out] at this;omega)).trans HBQ.out
             have hi1:=(o45.block _ (heap_lt HIQ.out) (fun e=>by have:=HCI.out;rw [e,HCM.out] at this;omega)).trans HIQ.out
             have H81:=Lib.hid (f81_any w45.drew (ws'.mb q) (ws'.ib q) (-1000000000000) (finK true no l m q) hb1 hi1 hFq.out.1 hFq.out.2 hFq.out.1)
             unfold ptr at H81
             have HL45:Hid (∀ W,Below w45.heap.size w45 W→W.cell? ⟨wr.heap.size,0,none⟩=some (.pointer (some ⟨ws'.mb q,0,none⟩))∧W.cell? ⟨mk,q,none⟩=some (.int .i64 (finK true no l m q))):=fun W hb=>by
              have hlq:q<(L.set q (finK true no l m q)).length:=by rw [List.length_set,HLL.out];exact hlt
              have h:=I45.cell (i:=q) hlq
              rw [List.getElem_set_self] at h
              exact ⟨cells_at ((hb.block _ (heap_lt X45)).trans X45) 0,by rw [hb.cell (p:=⟨mk,q,none⟩) (cell_lt h)];exact h⟩
             have HO45:=Lib.hid o45;have HI45:=Lib.hid I45
             clear hb1 hi1 o45 I45 X45
             refine wp_region_float 6 1 (fun W=>W.cell? ⟨wr.heap.size,0,none⟩=some (.pointer (some ⟨ws'.mb q,0,none⟩))∧W.cell? ⟨mk,q,none⟩=some (.int .i64 (finK true no l m q))) mixed (by kernel_rfl) (HL45.out _ (Below.refl _ _).drew) ?_
             simp only [List.take_succ_cons,List.take_zero,List.drop_succ_cons,List.drop_zero]
             repeat (
              refine wpFloat_ex (fun K hK=>?_)
              apply Exists.intro
              refine ⟨fun W hW=>?_,?_⟩
              · obtain ⟨k1,k2⟩:=hW
                go_simp
                rfl
              go_simp
              refine hK _ ?_
              clear hK K)
             refine wpFloat_nil ?_
             refine wpChain_step (fun K hK=>?_)
             go_simp
             go_at_call 81
             refine H81.out.mono ?_
             rintro e w46 ⟨rfl,o46,b46,g46⟩
             have HNX:=Lib.hid (HF.out.next hlt HCM.out HIL.out HLL.out HLJ.out HO45.out HI45.out (show Only (fun b=>b=ws'.mb q∨b=ws'.ib q) w45 w46 from ⟨o46.os,o46.tape,o46.output,o46.size,o46.block⟩) b46 g46)
             have v46:w46.cell? ⟨w5.heap.size,1,none⟩=some (.slice (some ⟨mg,mo,none⟩) m.marks.length mc):=cells_at (HEN.out.keep (Fin4.env HP.out HNX.out)).var.1 1
             refine hK _ _ rfl (fun _=>by
              obtain ⟨k1,k2⟩:=HL45.out _ (Below.refl _ _).drew
              have h1:=heap_lt HBQ.out
              have h2:=heap_lt HIQ.out
              have h3:=HCB.out
              have h4:=HCI.out
              have h5:=HCM.out
              exact ⟨(o46.cell _ 0 (cell_lt k1) (by omega)).trans k1,(o46.cell _ q (cell_lt k2) (fun e=>by rcases e with e | e <;> (have h6:=congrArg c e;omega))).trans k2⟩) ?_
             clear hK K o46 b46 g46
             refine wpChain_nil ?_
             have hlm:=HNX.out.wat
             have hqf:q<(finM true no l m (q+1)).marks.length:=by show q<(finL true no l m (q+1)).length;rw [finL_len (by omega)];exact hlt
             have H82:=Lib.hid (f82_hi w46 c s ws' (finM true no l m (q+1)) q hlm (HWO4.out (q+1) (by omega)) hqf)
             have hri:RisenAt (finM true no l m (q+1)) q:=by
              have e:no=m.marks.length:=by simpa using HQM.out
              rw [e]
              exact finM_risen hris HOK.out HQB.out hlong (by omega) (by omega)
             have HRI:=Lib.hid hri
             rw [hW] at H82
             unfold ptr at H82
             clear hlm hqf hri c2 c2l
             go_wp2_with (go_at_call 82;refine H82.out.mono ?_;rintro e w47 ⟨rfl,hw47,o47⟩;have HN7:=Lib.hid (HNX.out.rise HCM.out hw47 o47 HRI.out);clear hw47 o47)
             go_roundw
             case rel=>exact ⟨q+1,by omega,by go_num,HN7⟩
             case measure=>simp [intOf];omega
         · have hqe:no=q:=by omega
           subst hqe
           have hx3:¬ (no:Int)<(no:Int):=by omega
           have HF5:=HF
           go_wp2_with fail
           go_ret2
           have hbl:Below w.heap.size w wr:=HB8.out.trans ((Fin4.env HP.out HF5.out).below HB8.out.size (fun x hx=>by
            rcases Nat.lt_or_ge x w.heap.size with e | e
            · exact absurd (HC8.out x e) hx
            · exact e))
           have hcz:∀ x,x<w.heap.size→c x=0:=fun x hx=>(HP.out.colE x (Nat.lt_of_lt_of_le hx HB8.out.size)).trans (HC8.out x hx)
           have hwr:=HF5.out.wat
           have he:finM sm no l m no=restM m no l:=by unfold finM restM;rw [finL_end,HQM.out]
           rw [he] at hwr
           have hr:restE s m no l=0:=by rw [HR0.out,HQB.out,hn,if_neg (by simp),if_neg h4]
           exact ⟨hbl,.inr ⟨hr,no,rfl,by omega,by omega,c,ws',by rw [hW];rfl,hwr,hcz⟩⟩
   · have H16Z:Hid (Calls Tryz.prog 16 #[.slice sa s.length sc,.int .i64 bd,.int .i64 o] wr fun e w'=>e=.returned (.tuple #[.pointer none,.int .i64 (newE s bd o)])∧Below wr.heap.size wr w'):=H16.out.mono fun e w' ⟨hb,h⟩=>by
      rcases h with ⟨-,h⟩ | ⟨h0,-⟩
      · exact ⟨h,hb⟩
      · exact absurd h0 hne
     clear H16
     go_wp2_with (go_at_call 16;refine H16Z.out.mono ?_;rintro e w4 ⟨rfl,hb4⟩;have HB4:=Lib.hid (HND.out.below.trans (hb4.mono HND.out.below.size));clear hb4)
     go_ret2
     have hr:restE s m o l=newE s bd o:=by
      unfold restE
      rw [if_neg (by rw [hall];simp),hbd,if_pos hne]
     exact ⟨HB4.out,.inl ⟨by rw [hr];exact hne,by rw [hr];rfl⟩⟩
end leaves
end Go.Proofs.YtimahogkcmmcnaaGreatDoor
