/-
 A region that draws its order, with guards: reads and quiet calls float, and whatever the edges allow of the rest is walked. No conditions but those stated.
-/
import Derived.Test.YtjhknhgkjfabaaaGreatDoorU10
set_option linter.unusedSimpArgs false
set_option linter.unusedVariables false
namespace Go.Proofs.YtjhknhgkjfabaaaGreatDoor
open Go.RowKit
def gameGB (ops:Array Oper) (fl:List Nat):Bool :=
 Region.noSelect ops && fl.all (fun i=>decide (i<ops.size)) && decide (fl.Pairwise (·<·)) &&
 (List.range ops.size).all fun i =>
   match ops[i]? with
   | none=>false
   | some o=>(!fl.contains i || o.guard.isNone) && (o.after.all fun e => !Region.binds .any e || (decide (e.on<i) && (!fl.contains i || fl.contains e.on))) &&
     ((List.range ops.size).all fun j =>
       match ops[j]? with
       | none=>false
       | some oj =>
         match oj.dst with
         | none=>true
         | some d=>(!(o.looksAt ops).contains d || (decide (j<i) && Region.waitsFor .any ops i j) || (decide (i<j) && Region.waitsFor .any ops j i)) && (decide (i=j) || o.dst != some d))
structure GameG (ops:Array Oper) (fl:List Nat):Prop where
 sel:Region.noSelect ops=true
 lt:∀ i ∈ fl,i<ops.size
 asc:fl.Pairwise (·<·)
 grd:∀ {i:Nat} {o:Oper},ops[i]? = some o→i ∈ fl→o.guard=none
 low:∀ {i:Nat} {o:Oper},ops[i]? = some o→∀ e ∈ o.after,Region.binds .any e=true→e.on<i
 fle:∀ {i:Nat} {o:Oper},ops[i]? = some o→i ∈ fl→∀ e ∈ o.after,Region.binds .any e=true→e.on ∈ fl
 look:∀ {i j:Nat} {o oj:Oper} {d:Tmp},ops[i]? = some o→ops[j]? = some oj→oj.dst=some d→d ∈ o.looksAt ops→(j<i∧Region.waitsFor .any ops i j=true)∨(i<j∧Region.waitsFor .any ops j i=true)
 dist:∀ {i j:Nat} {o oj:Oper} {d:Tmp},ops[i]? = some o→ops[j]? = some oj→i≠j→oj.dst=some d→o.dst≠some d
theorem gameG_of {ops:Array Oper} {fl:List Nat} (h:gameGB ops fl=true):GameG ops fl:=by
 unfold gameGB at h
 simp only [Bool.and_eq_true,decide_eq_true_eq,List.all_eq_true,List.mem_range] at h
 obtain ⟨⟨⟨h1,h2⟩,h3⟩,h4⟩:=h
 have key:∀ {i:Nat} {o:Oper},ops[i]? = some o→((!fl.contains i || o.guard.isNone)=true∧(o.after.all fun e => !Region.binds .any e || (decide (e.on<i) && (!fl.contains i || fl.contains e.on)))=true) ∧
  ∀ j,j<ops.size→(match ops[j]? with | none=>false | some oj=>match oj.dst with | none=>true | some d=>(!(o.looksAt ops).contains d || (decide (j<i) && Region.waitsFor .any ops i j) || (decide (i<j) && Region.waitsFor .any ops j i)) && (decide (i=j) || o.dst != some d))=true:=by
  intro i o ho
  have hi:i<ops.size:=(Array.getElem?_eq_some_iff.1 ho).1
  have:=h4 i hi
  rw [ho] at this
  simpa only [Bool.and_eq_true,List.all_eq_true,List.mem_range] using this
 have two:∀ {i j:Nat} {o oj:Oper} {d:Tmp},ops[i]? = some o→ops[j]? = some oj→oj.dst=some d→((!(o.looksAt ops).contains d || (decide (j<i) && Region.waitsFor .any ops i j) || (decide (i<j) && Region.waitsFor .any ops j i)) && (decide (i=j) || o.dst != some d))=true:=by
  intro i j o oj d ho hj hd
  have:=(key ho).2 j (Array.getElem?_eq_some_iff.1 hj).1
  rw [hj] at this
  simpa only [hd] using this
 have aft:∀ {i:Nat} {o:Oper},ops[i]? = some o→∀ e ∈ o.after,Region.binds .any e=true→e.on<i∧(i ∈ fl→e.on ∈ fl):=by
  intro i o ho e he hb
  have h5:=(key ho).1.2
  rw [Array.all_eq_true'] at h5
  have h6:=h5 e he
  rw [hb] at h6
  simp only [Bool.not_true,Bool.false_or,Bool.and_eq_true,decide_eq_true_eq,Bool.or_eq_true,Bool.not_eq_true'] at h6
  refine ⟨h6.1,fun hi=>?_⟩
  rcases h6.2 with h7 | h7
  · rw [List.contains_iff_mem.2 hi] at h7;cases h7
  · exact List.contains_iff_mem.1 h7
 refine ⟨h1,h2,h3,fun ho hi=>by have h:=(key ho).1.1;rw [List.contains_iff_mem.2 hi] at h;simpa using h,fun ho e he hb=>(aft ho e he hb).1,fun ho hi e he hb=>(aft ho e he hb).2 hi,fun ho hj hd hl=>?_,fun ho hj hij hd=>?_⟩
 · have:=two ho hj hd
   simp only [Bool.and_eq_true,Bool.or_eq_true,decide_eq_true_eq] at this
   rcases this.1 with (h | h) | h
   · exfalso
     rw [List.contains_iff_mem.2 hl] at h
     cases h
   · exact .inl h
   · exact .inr h
 · have:=two ho hj hd
   simp only [Bool.and_eq_true,Bool.or_eq_true,decide_eq_true_eq] at this
   rcases this.2 with h | h
   · exact absurd h hij
   · simpa using h
def wpGameG (P:Program) (ops:Array Oper) (fl:List Nat) (C:World→Prop) (Q:Exit→Act→World→Prop):Nat→List Nat→Act→World→Prop
 | 0,done,a,w=>freeRest ops fl done=[]∧Q .normal a w
 | n+1,done,a,w=>(freeRest ops fl done=[]→Q .normal a w)∧∀ i ∈ freeRest ops fl done,∀ o,ops[i]? = some o →
    if Region.wanted o (yielded ops a.tmps)=true then
     o.wp P a w (fun a' w'=>a'.defers=a.defers∧(pend ops fl (i :: done)=true→C w')∧wpGameG P ops fl C Q n (i :: done) a' w') NoOut
    else (pend ops fl (i :: done)=true→C w)∧wpGameG P ops fl C Q n (i :: done) (a.put o.dst undef) w
theorem FillSt.wanted {ops:Array Oper} {val:Nat→Value} {a a1 a2:Act} {L L':Nat→Prop} (h1:FillSt ops val a L a1) (h2:FillSt ops val a L' a2) {o:Oper} (hl:∀ d,d ∈ o.looksAt ops→∀ j oj,ops[j]? = some oj→oj.dst=some d→(L j↔L' j)) :
 Region.wanted o (yielded ops a2.tmps)=Region.wanted o (yielded ops a1.tmps):=by
 cases hg:o.guard with
 | none=>simp [Region.wanted,hg]
 | some gb =>
   obtain ⟨g,b⟩:=gb
   have key:yielded ops a2.tmps g=yielded ops a1.tmps g:=by
    unfold yielded
    cases hd:(ops[g]?).bind (·.dst) with
    | none=>rfl
    | some d =>
      have hdl:d ∈ o.looksAt ops:=List.mem_append_right _ (by rw [hg];simp [hd])
      have:=h2.get h1 (s:=d) fun j oj ho hdd=>(hl d hdl j oj ho hdd).symm
      simp [this]
   simp [Region.wanted,hg,key]
theorem wp_region_gameG {P:Program} {id:Nat} {Q:Exit→Act→World→Prop} {a:Act} {w:World} {l:List Oper} (fl:List Nat) (n:Nat) (C:World→Prop) (hm:P.follows .mixedOrders=true) (hB:gameGB l.toArray fl=true) (hC:C w.drew)
 (h:wpFloatC P l.toArray C (fun b=>wpGameG P l.toArray fl C Q n [] b w.drew) (fl.filterMap fun i=>l[i]?) a):(Code.region id l.toArray true).wp P Q a w:=by
 have hg:=gameG_of hB
 have hel:∀ j:Nat,l[j]? = l.toArray[j]? := fun j=>by simp
 have h':wpFloatC P l.toArray C (fun b=>wpGameG P l.toArray fl C Q n [] b w.drew) (fl.filterMap fun i=>l.toArray[i]?) a:=by
  have:(fun i:Nat=>l[i]?)=fun i:Nat=>l.toArray[i]? := funext hel
  rw [← this];exact h
 generalize l.toArray=ops at *
 have hdist:∀ {i j:Nat} {o oj:Oper} {d:Tmp},ops[i]? = some o→ops[j]? = some oj→i≠j→oj.dst=some d→o.dst≠some d:=fun a b c d=>hg.dist a b c d
 obtain ⟨val,-,e2,b0,e3,e4⟩:=floats_fill (a:=a) hdist fl [] (fun _=>undef) a hg.lt (fun i _=>by simp) hg.asc ((FillSt.none ops _ a).congr fun j=>by simp) h'
 have hsel:=Region.noSelect_spec hg.sel
 let St:Array Bool→Act→World→Prop:=fun listed a' w'=>listed.size=ops.size∧∃ (m:Nat) (done:List Nat) (b:Act) (val':Nat→Value),(∀ j,j ∈ fl→val j=val' j)∧(∀ j,j ∈ done→j ∉ fl)∧(∀ j,j ∉ fl→(listed.getD j false=true↔j ∈ done)) ∧
  (pend ops fl done=true→C w')∧wpGameG P ops fl C Q m done b w'∧FillSt ops val' a (fun j=>j ∈ fl∨j ∈ done) b∧FillSt ops val' a (fun j=>listed.getD j false=true) a'
 refine wp_region_any hm (wpAny_inv St ?_ ?_ _ _ _ _ ?_ ?_ ?_)
 · rintro listed a' w' i oi ⟨hs,m,done,b,val',hv,hdf,hch,hCw,hwp,hfb,hfa⟩ hcl hoi hun hd
   have hi:i<ops.size:=(Array.getElem?_eq_some_iff.1 hoi).1
   have hun':listed.getD i false=false:=by
    simp [show i<listed.size by omega] at hun ⊢;exact hun
   by_cases hif:i ∈ fl
   · have hwt:Region.wanted oi (yielded ops a'.tmps)=true:=by simp [Region.wanted,hg.grd hoi hif]
     have hp:pend ops fl done=true:=by
      cases hpe:pend ops fl done with
      | true=>rfl
      | false =>
        exfalso
        unfold pend at hpe
        simp only [Bool.not_eq_false',List.all_eq_true,List.any_eq_true] at hpe
        obtain ⟨x,hx,hw⟩:=hpe i hif
        have h2:=waits3_listed hcl ((hch x (hdf x hx)).2 hx) hw
        rw [hun'] at h2;cases h2
     obtain ⟨ai,o',f1,f2,f3⟩:=e2 i hif
     rw [hoi] at f2;injection f2 with f2;subst f2
     have fai:=f1.revalue (val':=val') fun j hj=>by
      rcases hj with hj | hj
      · cases hj
      · exact hv j hj.1
     have hev:=fai.evals hfa (o:=oi) (fun d hdl j oj hj hdj=>by
      rcases hg.look hoi hj hdj hdl with ⟨h1,h2⟩ | ⟨h1,h2⟩
      · have hjf:j ∈ fl:=by
         obtain ⟨o2,ho2,e,he,hb,hon⟩:=Region.waitsFor_spec h2
         rw [hoi] at ho2;injection ho2 with ho2;subst ho2
         rw [← hon]
         exact hg.fle hoi hif e he hb
        exact ⟨fun _=>waits_listed hoi hd h2,fun _=>.inr ⟨hjf,h1⟩⟩
      · refine ⟨fun h=>?_,fun h=>?_⟩
        · rcases h with h | h
          · cases h
          · omega
        · have h3:=waits_listed hj (fun e he hb=>hcl _ oj hj h e he hb) h2
          rw [hun'] at h3;cases h3)
     unfold wpOp
     simp only [hoi]
     rw [if_pos hwt]
     refine .inl (wp_move (execOp_congr oi (fun cs b=>hsel i oi cs b hoi) hev) (f3 w' (hCw hp)) (fun v' w'' hK=>?_) (fun a2 w2 hK=>by rw [hK.1];cases oi.dst <;> rfl))
     obtain ⟨hpt,rfl⟩:=hK
     rw [put_inj hpt (by rw [hfa.size,fai.size]),hv i hif]
     refine ⟨by simpa using hs,m,done,b,val',hv,hdf,fun j hj=>?_,hCw,hwp,hfb,(hfa.put' hdist hoi).congr fun j=>(set_getD (by omega)).symm⟩
     rw [set_getD (by omega)]
     constructor
     · rintro (h1 | rfl)
       · exact (hch j hj).1 h1
       · exact absurd hif hj
     · intro h1;exact .inl ((hch j hj).2 h1)
   · have hnd:i ∉ done:=fun h=>by rw [(hch i hif).2 h] at hun';cases hun'
     have hfree:i ∈ freeRest ops fl done:=by
      unfold freeRest
      rw [List.mem_filter,List.mem_range]
      refine ⟨hi,?_⟩
      rw [hoi]
      simp only [Bool.and_eq_true,Bool.not_eq_true',Array.all_eq_true',Bool.or_eq_true]
      refine ⟨⟨?_,?_⟩,fun e he=>?_⟩
      · cases hc:fl.contains i with
        | false=>rfl
        | true=>exact absurd (List.contains_iff_mem.1 hc) hif
      · cases hc:done.contains i with
        | false=>rfl
        | true=>exact absurd (List.contains_iff_mem.1 hc) hnd
      · cases hb:Region.binds .any e with
        | false=>exact .inl (.inl rfl)
        | true =>
          by_cases hef:e.on ∈ fl
          · exact .inl (.inr (List.contains_iff_mem.2 hef))
          · exact .inr (List.contains_iff_mem.2 ((hch e.on hef).1 (hd e he hb)))
     cases m with
     | zero=>rw [hwp.1] at hfree;cases hfree
     | succ m =>
       have hop:=hwp.2 i hfree oi hoi
       have hlk:∀ d,d ∈ oi.looksAt ops→∀ j oj,ops[j]? = some oj→oj.dst=some d→((j ∈ fl∨j ∈ done)↔listed.getD j false=true):=fun d hdl j oj hj hdj=>by
        rcases hg.look hoi hj hdj hdl with ⟨h1,h2⟩ | ⟨h1,h2⟩
        · have hl:=waits_listed hoi hd h2
          refine ⟨fun _=>hl,fun _=>?_⟩
          by_cases hjf:j ∈ fl
          · exact .inl hjf
          · exact .inr ((hch j hjf).1 hl)
        · have hjf:j ∉ fl:=fun hjf=>by
           obtain ⟨o2,ho2,e,he,hb,hon⟩:=Region.waitsFor_spec h2
           rw [hj] at ho2;injection ho2 with ho2;subst ho2
           exact hif (hon ▸ hg.fle hj hjf e he hb)
          refine ⟨fun h=>?_,fun h=>?_⟩
          · rcases h with h | h
            · exact absurd h hjf
            · have h3:=waits_listed hj (fun e he hb=>hcl _ oj hj ((hch j hjf).2 h) e he hb) h2
              rw [hun'] at h3;cases h3
          · have h3:=waits_listed hj (fun e he hb=>hcl _ oj hj h e he hb) h2
            rw [hun'] at h3;cases h3
       have hev:=hfb.evals hfa (o:=oi) hlk
       have hwn:=hfb.wanted hfa (o:=oi) hlk
       unfold wpOp
       simp only [hoi]
       cases hwt:Region.wanted oi (yielded ops b.tmps) with
       | true =>
         rw [if_pos (hwn.trans hwt)]
         rw [if_pos hwt] at hop
         refine .inl (wp_move (execOp_congr oi (fun cs b=>hsel _ oi cs b hoi) hev) hop (fun v w'' hK=>?_) (fun _ _ hK=>hK.1))
         obtain ⟨_,hC',hrest⟩:=hK
         let val2:Nat→Value:=fun j=>if j=i then v else val' j
         have hv2:val2 i=v:=by simp [val2]
         have hv3:∀ j,j≠i→val' j=val2 j:=fun j hj=>by simp [val2,hj]
         have f1:=(hfb.revalue (val':=val2) fun j hj=>hv3 j (fun e=>by subst e;rcases hj with hj | hj;exact hif hj;exact hnd hj)).put' hdist hoi
         have f2:=(hfa.revalue (val':=val2) fun j hj=>hv3 j (fun e=>by rw [e,hun'] at hj;cases hj)).put' hdist hoi
         rw [hv2] at f1 f2
         refine ⟨by simpa using hs,m,i :: done,_,val2,fun j hj=>(hv j hj).trans (hv3 j (fun e=>hif (e ▸ hj))),fun j hj=>?_,fun j hj=>?_,hC',hrest,f1.congr fun j=>?_,f2.congr fun j=>(set_getD (by omega)).symm⟩
         · rcases List.mem_cons.1 hj with rfl | hj
           · exact hif
           · exact hdf j hj
         · rw [set_getD (by omega),List.mem_cons,hch j hj,or_comm]
         · rw [List.mem_cons,or_assoc]
           constructor
           · rintro (h | h | h)
             · exact .inl h
             · exact .inr (.inr h)
             · exact .inr (.inl h)
           · rintro (h | h | h)
             · exact .inl h
             · exact .inr (.inr h)
             · exact .inr (.inl h)
       | false =>
         rw [if_neg (by rw [hwn,hwt];simp)]
         rw [if_neg (by rw [hwt];simp)] at hop
         obtain ⟨hC',hrest⟩:=hop
         let val2:Nat→Value:=fun j=>if j=i then undef else val' j
         have hv2:val2 i=undef:=by simp [val2]
         have hv3:∀ j,j≠i→val' j=val2 j:=fun j hj=>by simp [val2,hj]
         have f1:=(hfb.revalue (val':=val2) fun j hj=>hv3 j (fun e=>by subst e;rcases hj with hj | hj;exact hif hj;exact hnd hj)).put' hdist hoi
         have f2:=(hfa.revalue (val':=val2) fun j hj=>hv3 j (fun e=>by rw [e,hun'] at hj;cases hj)).put' hdist hoi
         rw [hv2] at f1 f2
         refine ⟨by simpa using hs,m,i :: done,_,val2,fun j hj=>(hv j hj).trans (hv3 j (fun e=>hif (e ▸ hj))),fun j hj=>?_,fun j hj=>?_,hC',hrest,f1.congr fun j=>?_,f2.congr fun j=>(set_getD (by omega)).symm⟩
         · rcases List.mem_cons.1 hj with rfl | hj
           · exact hif
           · exact hdf j hj
         · rw [set_getD (by omega),List.mem_cons,hch j hj,or_comm]
         · rw [List.mem_cons,or_assoc]
           constructor
           · rintro (h | h | h)
             · exact .inl h
             · exact .inr (.inr h)
             · exact .inr (.inl h)
           · rintro (h | h | h)
             · exact .inl h
             · exact .inr (.inr h)
             · exact .inr (.inl h)
 · rintro listed a' w' ⟨hs,m,done,b,val',hv,hdf,hch,hCw,hwp,hfb,hfa⟩ hr
   have hall:∀ j,j<ops.size→listed.getD j false=true:=by
    intro j
    induction j using Nat.strongRecOn with
    | _ j ih =>
      intro hj
      cases hl:listed.getD j false with
      | true=>rfl
      | false =>
        exfalso
        obtain ⟨oj,hoj⟩:∃ oj,ops[j]? = some oj:=⟨_,Array.getElem?_eq_getElem hj⟩
        have:j ∈ Region.ready .any ops listed:=mem_ready.2 ⟨by simpa [show j<listed.size by omega] using hl,oj,hoj,fun e he hb=>by
         have h1:=hg.low hoj e he hb
         exact ih _ h1 (by omega)⟩
        rw [hr] at this;cases this
   have hnil:freeRest ops fl done=[]:=by
    unfold freeRest
    rw [List.filter_eq_nil_iff]
    intro j hj
    rw [List.mem_range] at hj
    by_cases hjf:j ∈ fl
    · simp [hjf]
    · have:=(hch j hjf).1 (hall j hj)
      simp [this]
   have hab:a'=b:=hfa.eq (hfb.congr fun j=>by
    constructor
    · intro h1
      rcases h1 with h1 | h1
      · exact hall j (hg.lt j h1)
      · exact (hch j (hdf j h1)).2 h1
    · intro h1
      by_cases hjf:j ∈ fl
      · exact .inl hjf
      · exact .inr ((hch j hjf).1 h1))
   rw [hab]
   cases m with
   | zero=>exact hwp.2
   | succ m=>exact hwp.1 hnil
 · refine ⟨by simp,n,[],b0,val,fun _ _=>rfl,fun j hj=>(by cases hj),fun j hj=>?_,fun _=>hC,e4,e3.congr fun j=>by simp,(FillSt.none ops val a).congr fun j=>⟨fun h=>h.elim,fun h=>?_⟩⟩
   · rw [getD_replicate_false];simp
   · rw [getD_replicate_false] at h;cases h
 · intro j oj _ hl
   rw [getD_replicate_false] at hl;cases hl
 · simp
section
variable {P : Program} {ops : Array Oper} {fl : List Nat} {C : World → Prop} {Q : Exit → Act → World → Prop} {n : Nat} {done : List Nat} {a : Act} {w : World}
end
def wpSeq (P:Program) (ops:Array Oper) (C:World→Prop) (Q:Exit→Act→World→Prop):Nat→List Nat→Act→World→Prop
 | 0,done,a,w=>freeRest ops [] done=[]∧Q .normal a w
 | n+1,done,a,w=>(freeRest ops [] done=[]→Q .normal a w)∧∀ i ∈ freeRest ops [] done,∀ o,ops[i]? = some o →
    if Region.wanted o (yielded ops a.tmps)=true then
     o.wp P a w (fun a' w'=>a'.defers=a.defers∧C w'∧wpSeq P ops C Q n (i :: done) a' w') NoOut
    else wpSeq P ops C Q n (i :: done) (a.put o.dst undef) w
theorem seq_game {P:Program} {ops:Array Oper} {C:World→Prop} {Q:Exit→Act→World→Prop}:∀ (n:Nat) (done:List Nat) (a:Act) (w:World),wpSeq P ops C Q n done a w→wpGameG P ops [] (fun _=>True) Q n done a w
 | 0,_,_,_,h=>h
 | n+1,done,a,w,h=>⟨h.1,fun i hi o ho=>by
    have h2:=h.2 i hi o ho
    split
    · rename_i hw
      rw [if_pos hw] at h2
      exact Oper.wp_mono (fun a' w' hk=>⟨hk.1,fun _=>trivial,seq_game n _ _ _ hk.2.2⟩) h2
    · rename_i hw
      rw [if_neg hw] at h2
      exact ⟨fun _=>trivial,seq_game n _ _ _ h2⟩⟩
theorem wp_region_seq {P:Program} {id:Nat} {Q:Exit→Act→World→Prop} {a:Act} {w:World} {l:List Oper} (n:Nat) (C:World→Prop) (hm:P.follows .mixedOrders=true) (hB:gameGB l.toArray []=true)
 (h:GameG l.toArray []→wpSeq P l.toArray C Q n [] a w.drew):(Code.region id l.toArray true).wp P Q a w :=
 wp_region_gameG [] n (fun _=>True) hm hB trivial (seq_game _ _ _ _ (h (gameG_of hB)))
section
variable {P : Program} {ops : Array Oper} {C : World → Prop} {Q : Exit → Act → World → Prop} {n : Nat} {done : List Nat} {a : Act} {w : World}
theorem mem_free {i:Nat} {o:Oper} (ho:ops[i]? = some o):i ∈ freeRest ops [] done↔i ∉ done∧∀ e ∈ o.after,Region.binds .any e=true→e.on ∈ done:=by
 have hi:i<ops.size:=(Array.getElem?_eq_some_iff.1 ho).1
 unfold freeRest
 rw [List.mem_filter,List.mem_range,ho]
 simp only [List.contains_nil,Bool.not_false,Bool.true_and,Bool.and_eq_true,Bool.not_eq_true',Array.all_eq_true',Bool.or_eq_true,Bool.or_false]
 constructor
 · rintro ⟨_,h1,h2⟩
   refine ⟨fun h=>(by rw [List.contains_iff_mem.2 h] at h1;cases h1),fun e he hb=>?_⟩
   rcases h2 e he with h | h
   · rw [hb] at h;cases h
   · exact List.contains_iff_mem.1 h
 · rintro ⟨h1,h2⟩
   refine ⟨hi,?_,fun e he=>?_⟩
   · cases hc:done.contains i with
     | false=>rfl
     | true=>exact absurd (List.contains_iff_mem.1 hc) h1
   · cases hb:Region.binds .any e with
     | false=>exact .inl rfl
     | true=>exact .inr (List.contains_iff_mem.2 (h2 e he hb))
theorem free_same {d1 d2:List Nat} (h:∀ x,x ∈ d1↔x ∈ d2):freeRest ops [] d1=freeRest ops [] d2:=by
 have hc:∀ x,d1.contains x=d2.contains x:=fun x=>by
  cases h1:d1.contains x <;> cases h2:d2.contains x
  · rfl
  · have:=(h x).2 (List.contains_iff_mem.1 h2);rw [List.contains_iff_mem.2 this] at h1;cases h1
  · have:=(h x).1 (List.contains_iff_mem.1 h1);rw [List.contains_iff_mem.2 this] at h2;cases h2
  · rfl
 unfold freeRest
 simp only [hc]
theorem seq_same:∀ (n:Nat) {d1 d2:List Nat} (a:Act) (w:World),(∀ x,x ∈ d1↔x ∈ d2)→wpSeq P ops C Q n d1 a w→wpSeq P ops C Q n d2 a w
 | 0,d1,d2,a,w,hs,h=>⟨by rw [← free_same hs];exact h.1,h.2⟩
 | n+1,d1,d2,a,w,hs,h=>⟨fun hf=>h.1 (by rw [free_same hs];exact hf),fun i hi o ho=>by
    have h2:=h.2 i (by rw [free_same hs];exact hi) o ho
    have hs2:∀ x,x ∈ i :: d1↔x ∈ i :: d2:=fun x=>by simp [hs x]
    split
    · rename_i hw
      rw [if_pos hw] at h2
      exact Oper.wp_mono (fun a' w' hk=>⟨hk.1,hk.2.1,seq_same n _ _ hs2 hk.2.2⟩) h2
    · rename_i hw
      rw [if_neg hw] at h2
      exact seq_same n _ _ hs2 h2⟩
def Reads (P:Program) (ops:Array Oper) (C:World→Prop) (o:Oper) (v:Value) (a:Act):Prop :=
 (Region.wanted o (yielded ops a.tmps)=true∧∀ W,C W→(execOp a.eval o).run P W=.ok (.value v) W)∨(Region.wanted o (yielded ops a.tmps)=false∧v=undef)
theorem seq_commit (hg:GameG ops []) {i:Nat} {o:Oper} (ho:ops[i]? = some o) {v:Value}:∀ (n:Nat) (done:List Nat) (a:Act) (w:World),C w→i ∈ freeRest ops [] done→Reads P ops C o v a →
 wpSeq P ops C Q n (i :: done) (a.put o.dst v) w→wpSeq P ops C Q (n+1) done a w:=by
 have hsel:=Region.noSelect_spec hg.sel
 intro n
 induction n with
 | zero =>
   intro done a w hC hi hr h
   refine ⟨fun hf=>(by rw [hf] at hi;cases hi),fun j hj oj hoj=>?_⟩
   by_cases e:j=i
   · subst e
     rw [ho] at hoj;injection hoj with hoj;subst hoj
     rcases hr with ⟨hw,hv⟩ | ⟨hw,rfl⟩
     · rw [if_pos hw]
       unfold Oper.wp
       rw [hv w hC,Oper.upon_value]
       exact ⟨by cases o.dst <;> rfl,hC,h⟩
     · rw [if_neg (by rw [hw];simp)]
       exact h
   · exfalso
     have h1:=(mem_free hoj).1 hj
     have:j ∈ freeRest ops [] (i :: done):=(mem_free hoj).2 ⟨by simp [e,h1.1],fun x hx hb=>List.mem_cons_of_mem _ (h1.2 x hx hb)⟩
     rw [h.1] at this;cases this
 | succ n ih =>
   intro done a w hC hi hr h
   refine ⟨fun hf=>(by rw [hf] at hi;cases hi),fun j hj oj hoj=>?_⟩
   by_cases e:j=i
   · subst e
     rw [ho] at hoj;injection hoj with hoj;subst hoj
     rcases hr with ⟨hw,hv⟩ | ⟨hw,rfl⟩
     · rw [if_pos hw]
       unfold Oper.wp
       rw [hv w hC,Oper.upon_value]
       exact ⟨by cases o.dst <;> rfl,hC,h⟩
     · rw [if_neg (by rw [hw];simp)]
       exact h
   · have h1:=(mem_free hoj).1 hj
     have h2:=(mem_free ho).1 hi
     have hj2:j ∈ freeRest ops [] (i :: done):=(mem_free hoj).2 ⟨by simp [e,h1.1],fun x hx hb=>List.mem_cons_of_mem _ (h1.2 x hx hb)⟩
     have hi2:i ∈ freeRest ops [] (j :: done):=(mem_free ho).2 ⟨by simp [Ne.symm e,h2.1],fun x hx hb=>List.mem_cons_of_mem _ (h2.2 x hx hb)⟩
     have wi:Region.waitsFor .any ops i j=true→False:=fun hw=>by
      obtain ⟨o2,ho2,x,hx,hb,hon⟩:=Region.waitsFor_spec hw
      rw [ho] at ho2;injection ho2 with ho2;subst ho2
      exact h1.1 (hon ▸ h2.2 x hx hb)
     have wj:Region.waitsFor .any ops j i=true→False:=fun hw=>by
      obtain ⟨o2,ho2,x,hx,hb,hon⟩:=Region.waitsFor_spec hw
      rw [hoj] at ho2;injection ho2 with ho2;subst ho2
      exact h2.1 (hon ▸ h1.2 x hx hb)
     have li:∀ d,oj.dst=some d→d ∉ o.looksAt ops:=fun d hd hl=>by
      rcases hg.look ho hoj hd hl with h | h
      · exact wi h.2
      · exact wj h.2
     have lj:∀ d,o.dst=some d→d ∉ oj.looksAt ops:=fun d hd hl=>by
      rcases hg.look hoj ho hd hl with h | h
      · exact wj h.2
      · exact wi h.2
     have hdd:∀ d,o.dst=some d→oj.dst≠some d:=fun d hd=>hg.dist hoj ho e hd
     have hop:=h.2 j hj2 oj hoj
     have hperm:∀ x,x ∈ j :: i :: done↔x ∈ i :: j :: done:=fun x=>by simp only [List.mem_cons];constructor <;> (rintro (h | h | h) <;> simp [h])
     have hrd:∀ u,Reads P ops C o v (a.put oj.dst u):=fun u=>by
      unfold Reads
      rw [wanted_put o a oj.dst u li,execOp_put o (fun cs b=>hsel i o cs b ho) a oj.dst u li]
      exact hr
     rw [wanted_put oj a o.dst v lj] at hop
     split
     · rename_i hw
       rw [if_pos hw] at hop
       refine wp_move (execOp_put oj (fun cs b=>hsel j oj cs b hoj) a o.dst v lj).symm hop (fun u w' hk=>?_) (fun a' w' hk=>hk.1)
       refine ⟨by cases oj.dst <;> rfl,hk.2.1,ih _ _ _ hk.2.1 hi2 (hrd u) ?_⟩
       have:=seq_same n _ _ hperm hk.2.2
       rwa [Act.put_comm a v u hdd] at this
     · rename_i hw
       rw [if_neg hw] at hop
       refine ih _ _ _ hC hi2 (hrd undef) ?_
       have:=seq_same n _ _ hperm hop
       rwa [Act.put_comm a v undef hdd] at this
theorem seq_read (hg:GameG ops []) {o:Oper} (i:Nat) (ho:ops[i]? = some o) (hf:(freeRest ops [] done).contains i=true) (hw:Region.wanted o (yielded ops a.tmps)=true) (hC:C w)
 (h:∀ K:Act→Prop,(∀ a',wpSeq P ops C Q n (i :: done) a' w→K a')→∃ v,(∀ W,C W→(execOp a.eval o).run P W=.ok (.value v) W)∧K (a.put o.dst v)):wpSeq P ops C Q (n+1) done a w:=by
 obtain ⟨v,h1,h2⟩:=h _ fun _ h=>h
 exact seq_commit hg ho n done a w hC (List.contains_iff_mem.1 hf) (.inl ⟨hw,h1⟩) h2
theorem seq_skip (hg:GameG ops []) {o:Oper} (i:Nat) (ho:ops[i]? = some o) (hf:(freeRest ops [] done).contains i=true) (hw:Region.wanted o (yielded ops a.tmps)=false) (hC:C w)
 (h:wpSeq P ops C Q n (i :: done) (a.put o.dst undef) w):wpSeq P ops C Q (n+1) done a w :=
 seq_commit hg ho n done a w hC (List.contains_iff_mem.1 hf) (.inr ⟨hw,rfl⟩) h
theorem seq_one {o:Oper} (i:Nat) (hf:freeRest ops [] done=[i]) (ho:ops[i]? = some o) (hw:Region.wanted o (yielded ops a.tmps)=true)
 (h:∀ K:Act→World→Prop,(∀ a' w',a'.defers=a.defers→C w'→wpSeq P ops C Q n (i :: done) a' w'→K a' w')→o.wp P a w K NoOut):wpSeq P ops C Q (n+1) done a w:=by
 refine ⟨fun h'=>(by rw [hf] at h';cases h'),fun j hj o' ho'=>?_⟩
 rw [hf,List.mem_singleton] at hj
 subst hj
 rw [ho] at ho';injection ho' with ho';subst ho'
 rw [if_pos hw]
 exact h _ fun a' w' h1 h2 h3=>⟨h1,h2,h3⟩
theorem seq_end (hf:freeRest ops [] done=[]) (h:Q .normal a w):wpSeq P ops C Q n done a w:=by
 cases n with
 | zero=>exact ⟨hf,h⟩
 | succ n=>exact ⟨fun _=>h,fun i hi=>(by rw [hf] at hi;cases hi)⟩
end
def wpOrd (P:Program) (ops:Array Oper) (C:World→Prop) (Q:Exit→Act→World→Prop) (L done:List Nat) (a:Act) (w:World):Prop:=wpSeq P ops C Q L.length done a w
theorem wp_region_ord {P:Program} {id:Nat} {Q:Exit→Act→World→Prop} {a:Act} {w:World} {l:List Oper} (L:List Nat) (C:World→Prop) (hm:P.follows .mixedOrders=true) (hB:gameGB l.toArray []=true)
 (h:GameG l.toArray []→wpOrd P l.toArray C Q L [] a w.drew):(Code.region id l.toArray true).wp P Q a w:=wp_region_seq L.length C hm hB h
section
variable {P : Program} {ops : Array Oper} {C : World → Prop} {Q : Exit → Act → World → Prop} {L done : List Nat} {a : Act} {w : World}
theorem ord_read (hg:GameG ops []) {o:Oper} {i:Nat} (ho:ops[i]? = some o) (hf:(freeRest ops [] done).contains i=true) (hw:Region.wanted o (yielded ops a.tmps)=true) (hC:C w)
 (h:∀ K:Act→Prop,(∀ a',wpOrd P ops C Q L (i :: done) a' w→K a')→∃ v,(∀ W,C W→(execOp a.eval o).run P W=.ok (.value v) W)∧K (a.put o.dst v)):wpOrd P ops C Q (i :: L) done a w :=
 seq_read (n:=L.length) hg i ho hf hw hC h
theorem ord_pass (hg:GameG ops []) {o:Oper} {i:Nat} (ho:ops[i]? = some o) (hf:(freeRest ops [] done).contains i=true) (hw:Region.wanted o (yielded ops a.tmps)=false) (hC:C w)
 (h:∀ K:Act→Prop,(∀ a',wpOrd P ops C Q L (i :: done) a' w→K a')→K (a.put o.dst undef)):wpOrd P ops C Q (i :: L) done a w :=
 seq_skip (n:=L.length) hg i ho hf hw hC (h _ fun _ h=>h)
theorem ord_one {o:Oper} {i:Nat} (hf:freeRest ops [] done=[i]) (ho:ops[i]? = some o) (hw:Region.wanted o (yielded ops a.tmps)=true)
 (h:∀ K:Act→World→Prop,(∀ a' w',a'.defers=a.defers→C w'→wpOrd P ops C Q L (i :: done) a' w'→K a' w')→o.wp P a w K NoOut):wpOrd P ops C Q (i :: L) done a w :=
 seq_one (n:=L.length) i hf ho hw h
theorem ord_end (hf:freeRest ops [] done=[]) (h:Q .normal a w):wpOrd P ops C Q [] done a w:=seq_end hf h
theorem ord_rd (hg:GameG ops []) {o:Oper} {i:Nat} (hC:C w)
 (h:∀ K:Act→Prop,(∀ a',wpOrd P ops C Q L (i :: done) a' w→K a')→∃ v,(∀ W,C W→(execOp a.eval o).run P W=.ok (.value v) W)∧K (a.put o.dst v))
 (ho:ops[i]? = some o:=by rfl) (hf:(freeRest ops [] done).contains i=true:=by kernel_rfl) (hw:Region.wanted o (yielded ops a.tmps)=true:=by first | rfl | (simp [Region.wanted,yielded];done)):wpOrd P ops C Q (i :: L) done a w :=
 ord_read hg ho hf hw hC h
theorem ord_on {o:Oper} {i:Nat}
 (h:∀ K:Act→World→Prop,(∀ a' w',a'.defers=a.defers→C w'→wpOrd P ops C Q L (i :: done) a' w'→K a' w')→o.wp P a w K NoOut)
 (ho:ops[i]? = some o:=by rfl) (hf:freeRest ops [] done=[i]:=by kernel_rfl) (hw:Region.wanted o (yielded ops a.tmps)=true:=by first | rfl | (simp [Region.wanted,yielded];done)):wpOrd P ops C Q (i :: L) done a w :=
 ord_one hf ho hw h
end
end Go.Proofs.YtjhknhgkjfabaaaGreatDoor
namespace Go.Proofs.YtjhknhgkjfabaaaGreatDoor
open Go.RowKit Go.Proofs.YtjhknhgkjfabaaaGreatDoor.Cmps
def leastT (l:List Chg) (x:Int):Int:=l.foldl (fun a c=>min a c.t) x
def mostT (l:List Chg) (x:Int):Int:=l.foldl (fun a c=>max a c.t) x
theorem leastT_succ (l:List Chg) (k:Nat) (h:k<l.length) (x:Int):leastT (l.take (k+1)) x=if l[k].t<leastT (l.take k) x then l[k].t else leastT (l.take k) x:=by
 rw [leastT,List.take_succ_eq_append_getElem h,List.foldl_append]
 show min (leastT (l.take k) x) l[k].t=_
 rw [Int.min_def]
 split <;> split <;> omega
theorem mostT_succ (l:List Chg) (k:Nat) (h:k<l.length) (x:Int):mostT (l.take (k+1)) x=if mostT (l.take k) x<l[k].t then l[k].t else mostT (l.take k) x:=by
 rw [mostT,List.take_succ_eq_append_getElem h,List.foldl_append]
 show max (mostT (l.take k) x) l[k].t=_
 rw [Int.max_def]
 split <;> split <;> omega
section leaves
set_option maxHeartbeats 400000
set_option maxRecDepth 10000
theorem f9_any (hm:Tryz.prog.follows .mixedOrders=true) (w:World) (v:Value) (l:List Chg) (D:Nat→Prop) (h:ChgsAt w D v l) :
 Calls Tryz.prog 9 #[v] w fun e w'=>e=.returned (.tuple (if validChgs l=false then #[.int .i64 0,.int .i64 0,.int .i64 1] else if l=[] then #[.int .i64 0,.int .i64 0,.int .i64 8] else #[.int .i64 (leastT l (l.headD ⟨0,[],0⟩).t),.int .i64 (mostT l (l.headD ⟨0,[],0⟩).t),.int .i64 0]))∧Below w.heap.size w w':=by
 have mixed:=hm
 have H17:=Lib.hid (f17_any w v l D h)
 obtain ⟨ok,hok⟩:∃ b,validChgs l=b:=⟨_,rfl⟩
 rw [hok] at H17 ⊢
 obtain ⟨a,cap,rfl,hl,hx⟩:=h
 by_cases h0:l.length=0
 · have hn:l=[]:=List.length_eq_zero_iff.1 h0
   subst hn
   cases ok
   · cases hok
   · go_enter Tryz.func9,Tryz.ntmps9
     go_wp2_with (go_at_call 17;refine H17.out.mono ?_;rintro e w' ⟨rfl,hb1⟩)
     go_ret3
     exact ⟨rfl,hb1⟩
 · cases ok
   · go_enter Tryz.func9,Tryz.ntmps9
     go_wp2_with (go_at_call 17;refine H17.out.mono ?_;rintro e w' ⟨rfl,hb1⟩)
     go_ret3
     exact ⟨rfl,hb1⟩
   · obtain ⟨b,off,rfl,hbD,rs,hc⟩:=hx.resolve_left (fun e=>h0 (by rw [e];rfl))
     obtain ⟨x0,x1,x2,x3⟩:=hc 0 (by omega)
     have hne:((l.length:Int) == 0)=false:=by simp;exact fun e=>h0 (by rw [e];rfl)
     have hlp:(0:Int)<(l.length:Int):=by omega
     have hlq:0<l.length:=by omega
     have hnl:l≠[]:=fun e=>h0 (by rw [e];rfl)
     have hd0:l.headD ⟨0,[],0⟩=l[0]:=by cases l with | nil=>exact absurd rfl hnl | cons a t=>rfl
     rw [hd0]
     simp only [Bool.true_eq_false,if_false,if_neg hnl]
     go_enter Tryz.func9,Tryz.ntmps9
     go_wp2_with (go_at_call 17;refine H17.out.mono ?_;rintro e w' ⟨rfl,hb1⟩;have x0':=(hb1.cell (p:=⟨b,_,none⟩) (cell_lt x0)).trans x0)
     obtain ⟨w1,hw1⟩:∃ W,W=w'.drew:=⟨_,rfl⟩
     have hC:w'.drew.cell? ⟨b,off,none⟩=some (.int .i64 l[0].t):=by rw [Nat.zero_mul,Nat.add_zero] at x0';exact x0'
     refine wp_region_ord [0,1,2,3,4,5,6,7,8,9] (fun W=>W.cell? ⟨b,off,none⟩=some (.int .i64 l[0].t)) mixed (by kernel_rfl) (fun hg=>?_)
     iterate 10 (
      refine ord_rd hg hC (fun K hK=>?_)
      apply Exists.intro
      refine ⟨fun W hW=>?_,?_⟩
      · go_simp
        first | rfl | (rw [if_pos hlq];rfl)
      go_simp
      refine hK _ ?_
      clear hK K)
     refine ord_end (by kernel_rfl) ?_
     go_wp2
     have hB0:Below w.heap.size w w'.drew:=hb1.trans ((Below.refl _ _).drew)
     go_loopw [2,3,25] (fun m M i wr=>∃ k:Nat,k≤l.length∧i=.int .i64 k∧m=.int .i64 (leastT (l.take k) l[0].t)∧M=.int .i64 (mostT (l.take k) l[0].t)∧Below w.heap.size w wr) (fun _ _ i _=>l.length - (intOf i).toNat)
     case atStart=>exact ⟨0,by omega,rfl,rfl,rfl,hB0⟩
     case round =>
      obtain ⟨k,hk,rfl,rfl,rfl,hb⟩:=hrel
      by_cases hlt:k<l.length
      · obtain ⟨y0,y1,y2,y3⟩:=hc k hlt
        have hbb:b<w.heap.size:=World.block_lt_of_cell? w ⟨b,off+k * 3,none⟩ y0
        rw [← hb.cell (p:=⟨b,_,none⟩) hbb] at y0 y1 y2
        clear hc hg
        obtain ⟨ra,rc,hrs,-,-⟩:=id y3
        rw [hrs] at y1
        go_wp2
        have hC2:(wr.alloc (.cells #[.int .i64 l[k].t,.slice ra l[k].r.length rc,.int .i64 l[k].n] 42)).drew.cell? ⟨wr.heap.size,0,none⟩=some (.int .i64 l[k].t):=cells_at (heap_new wr _) 0
        have hB2:Below w.heap.size w (wr.alloc (.cells #[.int .i64 l[k].t,.slice ra l[k].r.length rc,.int .i64 l[k].n] 42)).drew:=(hb.alloc hb.size _).drew
        refine wp_region_ord [0,1,2,3,4,5,6,7,8,9] (fun W=>W.cell? ⟨wr.heap.size,0,none⟩=some (.int .i64 l[k].t)) mixed (by kernel_rfl) (fun hg=>?_)
        iterate 10 (
         refine ord_rd hg hC2 (fun K hK=>?_)
         apply Exists.intro
         refine ⟨fun W hW=>?_,?_⟩
         · go_simp
           first | rfl | trace_state
         go_simp
         refine hK _ ?_
         clear hK K)
        refine ord_end (by kernel_rfl) ?_
        go_wp2
        refine ⟨⟨k+1,by omega,by go_num,?_,?_,hB2⟩,by simp [intOf];omega⟩
        · rw [leastT_succ l k hlt]
        · rw [mostT_succ l k hlt]
      · have hkl:k=l.length:=by omega
        subst hkl
        rw [List.take_length]
        go_wp2
        go_ret3
        exact ⟨rfl,hb⟩
theorem f10_any (hm:Tryz.prog.follows .mixedOrders=true) (w:World) (v:Value) (l:List Chg) (D:Nat→Prop) (h:ChgsAt w D v l) :
 Calls Tryz.prog 10 #[v] w fun e w'=>e=.returned (.tuple (if validChgs l=false then #[.int .i64 0,.int .i64 0,.int .i64 1] else if l=[] then #[.int .i64 0,.int .i64 0,.int .i64 8] else #[.int .i64 (leastT l (l.headD ⟨0,[],0⟩).t),.int .i64 (mostT l (l.headD ⟨0,[],0⟩).t),.int .i64 0]))∧Below w.heap.size w w':=by
 have mixed:=hm
 have H29:=Lib.hid (f29_any w v l D h)
 obtain ⟨ok,hok⟩:∃ b,validChgs l=b:=⟨_,rfl⟩
 rw [hok] at H29 ⊢
 obtain ⟨a,cap,rfl,hl,hx⟩:=h
 by_cases h0:l.length=0
 · have hn:l=[]:=List.length_eq_zero_iff.1 h0
   subst hn
   cases ok
   · cases hok
   · go_enter Tryz.func10,Tryz.ntmps10
     go_wp2_with (go_at_call 29;refine H29.out.mono ?_;rintro e w' ⟨rfl,hb1⟩)
     go_ret3
     exact ⟨rfl,hb1⟩
 · cases ok
   · go_enter Tryz.func10,Tryz.ntmps10
     go_wp2_with (go_at_call 29;refine H29.out.mono ?_;rintro e w' ⟨rfl,hb1⟩)
     go_ret3
     exact ⟨rfl,hb1⟩
   · obtain ⟨b,off,rfl,hbD,rs,hc⟩:=hx.resolve_left (fun e=>h0 (by rw [e];rfl))
     obtain ⟨x0,x1,x2,x3⟩:=hc 0 (by omega)
     have hne:((l.length:Int) == 0)=false:=by simp;exact fun e=>h0 (by rw [e];rfl)
     have hlp:(0:Int)<(l.length:Int):=by omega
     have hlq:0<l.length:=by omega
     have hnl:l≠[]:=fun e=>h0 (by rw [e];rfl)
     have hd0:l.headD ⟨0,[],0⟩=l[0]:=by cases l with | nil=>exact absurd rfl hnl | cons a t=>rfl
     rw [hd0]
     simp only [Bool.true_eq_false,if_false,if_neg hnl]
     go_enter Tryz.func10,Tryz.ntmps10
     go_wp2_with (go_at_call 29;refine H29.out.mono ?_;rintro e w' ⟨rfl,hb1⟩;have x0':=(hb1.cell (p:=⟨b,_,none⟩) (cell_lt x0)).trans x0)
     obtain ⟨w1,hw1⟩:∃ W,W=w'.drew:=⟨_,rfl⟩
     have hC:w'.drew.cell? ⟨b,off,none⟩=some (.int .i64 l[0].t):=by rw [Nat.zero_mul,Nat.add_zero] at x0';exact x0'
     refine wp_region_ord [0,1,2,3,4,5,6,7,8,9] (fun W=>W.cell? ⟨b,off,none⟩=some (.int .i64 l[0].t)) mixed (by kernel_rfl) (fun hg=>?_)
     iterate 10 (
      refine ord_rd hg hC (fun K hK=>?_)
      apply Exists.intro
      refine ⟨fun W hW=>?_,?_⟩
      · go_simp
        first | rfl | (rw [if_pos hlq];rfl)
      go_simp
      refine hK _ ?_
      clear hK K)
     refine ord_end (by kernel_rfl) ?_
     go_wp2
     have hB0:Below w.heap.size w w'.drew:=hb1.trans ((Below.refl _ _).drew)
     go_loopw [2,3,5] (fun m M i wr=>∃ k:Nat,k≤l.length∧i=.int .i64 k∧m=.int .i64 (leastT (l.take k) l[0].t)∧M=.int .i64 (mostT (l.take k) l[0].t)∧Below w.heap.size w wr) (fun _ _ i _=>l.length - (intOf i).toNat)
     case atStart=>exact ⟨0,by omega,rfl,rfl,rfl,hB0⟩
     case round =>
      obtain ⟨k,hk,rfl,rfl,rfl,hb⟩:=hrel
      by_cases hlt:k<l.length
      · obtain ⟨y0,y1,y2,y3⟩:=hc k hlt
        have hbb:b<w.heap.size:=World.block_lt_of_cell? w ⟨b,off+k * 3,none⟩ y0
        rw [← hb.cell (p:=⟨b,_,none⟩) hbb] at y0 y1 y2
        clear hc hg
        have hC2:wr.drew.cell? ⟨b,off+k * 3,none⟩=some (.int .i64 l[k].t):=y0
        go_wp2
        refine wp_region_ord [0,1,2,3,4,5,6,7,8,9,10,11,12,13,14,15] (fun W=>W.cell? ⟨b,off+k * 3,none⟩=some (.int .i64 l[k].t)) mixed (by kernel_rfl) (fun hg=>?_)
        iterate 16 (
         refine ord_rd hg hC2 (fun K hK=>?_)
         apply Exists.intro
         refine ⟨fun W hW=>?_,?_⟩
         · go_simp
           first | rfl | (rw [if_pos hlt];rfl) | trace_state
         go_simp
         refine hK _ ?_
         clear hK K)
        refine ord_end (by kernel_rfl) ?_
        go_wp2
        refine ⟨⟨k+1,by omega,by go_num,?_,?_,hb.drew⟩,by simp [intOf];omega⟩
        · rw [leastT_succ l k hlt]
        · rw [mostT_succ l k hlt]
      · have hkl:k=l.length:=by omega
        subst hkl
        rw [List.take_length]
        go_wp2
        go_ret3
        exact ⟨rfl,hb⟩
end leaves
deriving instance DecidableEq for Val
theorem bytes_eq {a b:ByteArray} (h:a.toList=b.toList):a=b:=by
 rw [ByteArray.toList_eq,ByteArray.toList_eq] at h
 cases a;cases b;simp at h;rw [h]
theorem val_same (a b:Val):(a=b)↔(a.k=b.k∧a.n=b.n∧a.s.toList=b.s.toList):=by
 constructor
 · rintro rfl;exact ⟨rfl,rfl,rfl⟩
 · rintro ⟨h1,h2,h3⟩
   cases a;cases b
   simp only at h1 h2 h3
   subst h1;subst h2;rw [bytes_eq h3]
section leaves
set_option maxHeartbeats 400000
set_option maxRecDepth 10000
theorem f32_any (hm:Tryz.prog.follows .mixedOrders=true) (w:World) (r1 r2:Value) (a b:List Val) (D1 D2:Nat→Prop) (h1:RowAt w D1 r1 a) (h2:RowAt w D2 r2 b) :
 Calls Tryz.prog 32 #[r1,r2] w fun e w'=>e=.returned (.bool (decide (a=b)))∧Below w.heap.size w w':=by
 have mixed:=hm
 obtain ⟨p1,cap1,rfl,hl1,hx1⟩:=h1
 obtain ⟨p2,cap2,rfl,hl2,hx2⟩:=h2
 by_cases he:a.length=b.length
 rotate_left
 · have hq:((a.length:Int) != (b.length:Int))=true:=by simp;omega
   have hne:=he
   go_enter Tryz.func32,Tryz.ntmps32
   go_wp2
   go_ret
   refine ⟨ret_bool ?_,Below.refl _ _⟩
   symm
   rw [decide_eq_false_iff_not]
   exact fun e=>hne (by rw [e])
 · have hq:((a.length:Int) != (b.length:Int))=false:=by simp;omega
   have HE:=Lib.hid he
   clear he
   go_enter Tryz.func32,Tryz.ntmps32
   go_wp2
   go_loopw [5] (fun i wr=>∃ k:Nat,k≤a.length∧i=.int .i64 k∧a.take k=b.take k∧Below w.heap.size w wr) (fun i _=>a.length - (intOf i).toNat)
   case atStart=>exact ⟨0,by omega,rfl,rfl,Below.refl _ _⟩
   case round =>
    obtain ⟨k,hk,rfl,hs,hb⟩:=hrel
    by_cases hlt:k<a.length
    · have hlt2:k<b.length:=HE.out ▸ hlt
      obtain ⟨b1,o1,rfl,-,hc1⟩:=hx1.resolve_left (fun e=>by rw [e] at hlt;simp at hlt)
      obtain ⟨b2,o2,rfl,-,hc2⟩:=hx2.resolve_left (fun e=>by rw [e] at hlt2;simp at hlt2)
      obtain ⟨x0,x1,x2⟩:=hc1 k hlt
      obtain ⟨y0,y1,y2⟩:=hc2 k hlt2
      have hbb1:b1<w.heap.size:=World.block_lt_of_cell? w ⟨b1,o1+k * 3,none⟩ x0
      have hbb2:b2<w.heap.size:=World.block_lt_of_cell? w ⟨b2,o2+k * 3,none⟩ y0
      rw [← hb.cell (p:=⟨b1,_,none⟩) hbb1] at x0 x1 x2
      rw [← hb.cell (p:=⟨b2,_,none⟩) hbb2] at y0 y1 y2
      clear hc1 hc2
      have hC:(wr.drew.cell? ⟨b1,o1+k * 3,none⟩=some (.int .i64 a[k].k)∧wr.drew.cell? ⟨b1,o1+k * 3+1,none⟩=some (.int .i64 a[k].n)∧wr.drew.cell? ⟨b1,o1+k * 3+2,none⟩=some (.string a[k].s))∧(wr.drew.cell? ⟨b2,o2+k * 3,none⟩=some (.int .i64 b[k].k)∧wr.drew.cell? ⟨b2,o2+k * 3+1,none⟩=some (.int .i64 b[k].n)∧wr.drew.cell? ⟨b2,o2+k * 3+2,none⟩=some (.string b[k].s)):=⟨⟨x0,x1,x2⟩,y0,y1,y2⟩
      go_wp2
      refine wp_region_ord [0,1,2,3,4,5,6,7,8] (fun W=>(W.cell? ⟨b1,o1+k * 3,none⟩=some (.int .i64 a[k].k)∧W.cell? ⟨b1,o1+k * 3+1,none⟩=some (.int .i64 a[k].n)∧W.cell? ⟨b1,o1+k * 3+2,none⟩=some (.string a[k].s))∧(W.cell? ⟨b2,o2+k * 3,none⟩=some (.int .i64 b[k].k)∧W.cell? ⟨b2,o2+k * 3+1,none⟩=some (.int .i64 b[k].n)∧W.cell? ⟨b2,o2+k * 3+2,none⟩=some (.string b[k].s))) mixed (by kernel_rfl) (fun hg=>?_)
      iterate 8 (
       refine ord_rd hg hC (fun K hK=>?_)
       apply Exists.intro
       refine ⟨fun W hW=>?_,?_⟩
       · obtain ⟨⟨z0,z1,z2⟩,t0,t1,t2⟩:=hW
         go_simp
         first | rfl | (rw [if_pos hlt];rfl) | (rw [if_pos hlt2];rfl) | trace_state
       go_simp
       refine hK _ ?_
       clear hK K)
      refine ord_rd hg hC (fun K hK=>⟨.bool (!decide (a[k]=b[k])),fun W hW=>?_,?_⟩)
      · obtain ⟨⟨z0,z1,z2⟩,t0,t1,t2⟩:=hW
        go_simp
        have hv:=val_same a[k] b[k]
        by_cases e1:a[k].k=b[k].k
        · by_cases e2:a[k].n=b[k].n
          · by_cases e3:a[k].s.toList=b[k].s.toList
            · rw [if_pos e1,if_pos e2,if_pos e3,decide_eq_true (hv.2 ⟨e1,e2,e3⟩)];rfl
            · rw [if_pos e1,if_pos e2,if_neg e3,decide_eq_false (fun e=>e3 (hv.1 e).2.2)];rfl
          · rw [if_pos e1,if_neg e2,decide_eq_false (fun e=>e2 (hv.1 e).2.1)];rfl
        · rw [if_neg e1,decide_eq_false (fun e=>e1 (hv.1 e).1)];rfl
      go_simp
      refine hK _ ?_
      clear hK K
      refine ord_end (by kernel_rfl) ?_
      by_cases hab:a[k]=b[k]
      · rw [decide_eq_true hab]
        go_wp2
        refine ⟨⟨k+1,by omega,by go_num,?_,hb.drew⟩,by simp [intOf];omega⟩
        rw [List.take_succ_eq_append_getElem hlt,List.take_succ_eq_append_getElem hlt2,hs,hab]
      · rw [decide_eq_false hab]
        go_wp2
        go_ret
        refine ⟨ret_bool ?_,hb.drew⟩
        symm
        rw [decide_eq_false_iff_not]
        intro e
        subst e
        exact hab rfl
    · go_wp2
      go_ret
      refine ⟨ret_bool ?_,hb⟩
      symm
      rw [decide_eq_true_iff]
      rw [show k=a.length by omega] at hs
      rw [List.take_length] at hs
      rw [hs,HE.out,List.take_length]
end leaves
deriving instance DecidableEq for Chg
theorem chg_same (a b:Chg):(a=b)↔(a.n=b.n∧a.t=b.t∧a.r=b.r):=by
 constructor
 · rintro rfl;exact ⟨rfl,rfl,rfl⟩
 · rintro ⟨h1,h2,h3⟩
   cases a;cases b
   simp only at h1 h2 h3
   subst h1;subst h2;subst h3;rfl
section
variable {P : Program} {ops : Array Oper} {C : World → Prop} {Q : Exit → Act → World → Prop} {L done : List Nat} {a : Act} {w : World}
theorem ord_ps (hg:GameG ops []) {o:Oper} {i:Nat} (hC:C w)
 (h:∀ K:Act→Prop,(∀ a',wpOrd P ops C Q L (i :: done) a' w→K a')→K (a.put o.dst undef))
 (ho:ops[i]? = some o:=by rfl) (hf:(freeRest ops [] done).contains i=true:=by kernel_rfl) (hw:Region.wanted o (yielded ops a.tmps)=false:=by first | rfl | (simp [Region.wanted,yielded];done)):wpOrd P ops C Q (i :: L) done a w :=
 ord_pass hg ho hf hw hC h
end
section leaves
set_option maxHeartbeats 400000
set_option maxRecDepth 10000
def TwoAt (w:World) (b1 o1 b2 o2:Nat) (x y:Chg) (p q:Value):Prop :=
 (w.cell? ⟨b1,o1,none⟩=some (.int .i64 x.t)∧w.cell? ⟨b1,o1+1,none⟩=some p∧w.cell? ⟨b1,o1+2,none⟩=some (.int .i64 x.n))∧(w.cell? ⟨b2,o2,none⟩=some (.int .i64 y.t)∧w.cell? ⟨b2,o2+1,none⟩=some q∧w.cell? ⟨b2,o2+2,none⟩=some (.int .i64 y.n))
theorem f13_any (hm:Tryz.prog.follows .mixedOrders=true) (w:World) (r1 r2:Value) (a b:List Chg) (D1 D2:Nat→Prop) (h1:ChgsAt w D1 r1 a) (h2:ChgsAt w D2 r2 b) :
 Calls Tryz.prog 13 #[r1,r2] w fun e w'=>e=.returned (.bool (decide (a=b)))∧Below w.heap.size w w':=by
 have mixed:=hm
 obtain ⟨p1,cap1,rfl,hl1,hx1⟩:=h1
 obtain ⟨p2,cap2,rfl,hl2,hx2⟩:=h2
 by_cases he:a.length=b.length
 rotate_left
 · have hq:((a.length:Int) != (b.length:Int))=true:=by simp;omega
   have hne:=he
   go_enter Tryz.func13,Tryz.ntmps13
   go_wp2
   go_ret
   refine ⟨ret_bool ?_,Below.refl _ _⟩
   symm
   rw [decide_eq_false_iff_not]
   exact fun e=>hne (by rw [e])
 · have hq:((a.length:Int) != (b.length:Int))=false:=by simp;omega
   have HE:=Lib.hid he
   clear he
   go_enter Tryz.func13,Tryz.ntmps13
   go_wp2
   go_loopw [5] (fun i wr=>∃ k:Nat,k≤a.length∧i=.int .i64 k∧a.take k=b.take k∧Below w.heap.size w wr) (fun i _=>a.length - (intOf i).toNat)
   case atStart=>exact ⟨0,by omega,rfl,rfl,Below.refl _ _⟩
   case round =>
    obtain ⟨k,hk,rfl,hs,hb⟩:=hrel
    by_cases hlt:k<a.length
    · have hlt2:k<b.length:=HE.out ▸ hlt
      obtain ⟨b1,o1,rfl,-,rs1,hc1⟩:=hx1.resolve_left (fun e=>by rw [e] at hlt;simp at hlt)
      obtain ⟨b2,o2,rfl,-,rs2,hc2⟩:=hx2.resolve_left (fun e=>by rw [e] at hlt2;simp at hlt2)
      clear hx1 hx2
      obtain ⟨x0,x1,x2,x3⟩:=hc1 k hlt
      obtain ⟨y0,y1,y2,y3⟩:=hc2 k hlt2
      have hbb1:b1<w.heap.size:=World.block_lt_of_cell? w ⟨b1,o1+k * 3,none⟩ x0
      have hbb2:b2<w.heap.size:=World.block_lt_of_cell? w ⟨b2,o2+k * 3,none⟩ y0
      rw [← hb.cell (p:=⟨b1,_,none⟩) hbb1] at x0 x1 x2
      rw [← hb.cell (p:=⟨b2,_,none⟩) hbb2] at y0 y1 y2
      clear hc1 hc2
      obtain ⟨ra1,rc1,hr1,-,-⟩:=id x3
      obtain ⟨ra2,rc2,hr2,-,-⟩:=id y3
      have X3:=Lib.hid (x3.keep fun b _ hl=>hb.block b hl)
      have Y3:=Lib.hid (y3.keep fun b _ hl=>hb.block b hl)
      rw [hr1] at x1 X3
      rw [hr2] at y1 Y3
      clear x3 y3
      have hC:TwoAt wr.drew b1 (o1+k * 3) b2 (o2+k * 3) a[k] b[k] (.slice ra1 a[k].r.length rc1) (.slice ra2 b[k].r.length rc2):=⟨⟨x0,x1,x2⟩,y0,y1,y2⟩
      go_wp2
      refine wp_region_ord [0,1,2,3,4,5,6,7,8,9,10,11,12,13,14,15,16,17,18,19,20,21,22,23,24,25,26,27,28,29,30,31,32,33,34,35,36,37] (fun W=>TwoAt W b1 (o1+k * 3) b2 (o2+k * 3) a[k] b[k] (.slice ra1 a[k].r.length rc1) (.slice ra2 b[k].r.length rc2)) mixed (by kernel_rfl) (fun hg=>?_)
      iterate 10 (
       refine ord_rd hg hC (fun K hK=>?_)
       apply Exists.intro
       refine ⟨fun W hW=>?_,?_⟩
       · obtain ⟨⟨z0,z1,z2⟩,t0,t1,t2⟩:=hW
         go_simp
         first | rfl | (rw [if_pos hlt];rfl) | (rw [if_pos hlt2];rfl) | trace_state
       go_simp
       refine hK _ ?_
       clear hK K)
      cases en:(a[k].n != b[k].n)
      · have en':a[k].n=b[k].n:=by simpa using en
        iterate 15 (
         refine ord_rd hg hC (fun K hK=>?_)
         apply Exists.intro
         refine ⟨fun W hW=>?_,?_⟩
         · obtain ⟨⟨z0,z1,z2⟩,t0,t1,t2⟩:=hW
           go_simp
           first | rfl | (rw [if_pos hlt];rfl) | (rw [if_pos hlt2];rfl) | trace_state
         go_simp
         refine hK _ ?_
         clear hK K)
        cases et:(a[k].t != b[k].t)
        · have et':a[k].t=b[k].t:=by simpa using et
          iterate 10 (
           refine ord_rd hg hC (fun K hK=>?_)
           apply Exists.intro
           refine ⟨fun W hW=>?_,?_⟩
           · obtain ⟨⟨z0,z1,z2⟩,t0,t1,t2⟩:=hW
             go_simp
             first | rfl | (rw [if_pos hlt];rfl) | (rw [if_pos hlt2];rfl) | trace_state
           go_simp
           refine hK _ ?_
           clear hK K)
          have H32:=Lib.hid (f32_any hm wr.drew _ _ a[k].r b[k].r D1 D2 X3.out Y3.out)
          refine ord_on (fun K hK=>?_)
          go_wp2_with (go_at_call 32;refine H32.out.mono ?_;rintro e w' ⟨rfl,hb1⟩)
          have l1:b1<wr.drew.heap.size:=Nat.lt_of_lt_of_le hbb1 hb.size
          have l2:b2<wr.drew.heap.size:=Nat.lt_of_lt_of_le hbb2 hb.size
          have hC':TwoAt w' b1 (o1+k * 3) b2 (o2+k * 3) a[k] b[k] (.slice ra1 a[k].r.length rc1) (.slice ra2 b[k].r.length rc2):=⟨⟨(hb1.cell (p:=⟨b1,_,none⟩) l1).trans x0,(hb1.cell (p:=⟨b1,_,none⟩) l1).trans x1,(hb1.cell (p:=⟨b1,_,none⟩) l1).trans x2⟩,(hb1.cell (p:=⟨b2,_,none⟩) l2).trans y0,(hb1.cell (p:=⟨b2,_,none⟩) l2).trans y1,(hb1.cell (p:=⟨b2,_,none⟩) l2).trans y2⟩
          have hB:Below w.heap.size w w':=hb.drew.trans (hb1.mono hb.size)
          refine hK _ _ rfl hC' ?_
          clear hK K
          iterate 2 (
           refine ord_rd hg hC' (fun K hK=>?_)
           apply Exists.intro
           refine ⟨fun W hW=>?_,?_⟩
           · go_simp
             first | rfl | trace_state
           go_simp
           refine hK _ ?_
           clear hK K)
          refine ord_end (by kernel_rfl) ?_
          by_cases er:a[k].r=b[k].r
          · rw [decide_eq_true er]
            go_wp2
            refine ⟨⟨k+1,by omega,by go_num,?_,hB⟩,by simp [intOf];omega⟩
            rw [List.take_succ_eq_append_getElem hlt,List.take_succ_eq_append_getElem hlt2,hs,(chg_same a[k] b[k]).2 ⟨en',et',er⟩]
          · rw [decide_eq_false er]
            go_wp2
            go_ret
            refine ⟨ret_bool ?_,hB⟩
            symm
            rw [decide_eq_false_iff_not]
            intro e
            subst e
            exact er rfl
        · skip
          iterate 12 (
           refine ord_ps hg hC (fun K hK=>?_)
           go_simp
           refine hK _ ?_
           clear hK K)
          iterate 1 (
           refine ord_rd hg hC (fun K hK=>?_)
           apply Exists.intro
           refine ⟨fun W hW=>?_,?_⟩
           · go_simp
             first | rfl | (rw [if_pos hlt];rfl) | (rw [if_pos hlt2];rfl) | trace_state
           go_simp
           refine hK _ ?_
           clear hK K)
          refine ord_end (by kernel_rfl) ?_
          go_wp2
          go_ret
          refine ⟨ret_bool ?_,hb.drew⟩
          symm
          rw [decide_eq_false_iff_not]
          intro e
          subst e
          simp at et
      · iterate 2 (
         refine ord_rd hg hC (fun K hK=>?_)
         apply Exists.intro
         refine ⟨fun W hW=>?_,?_⟩
         · obtain ⟨⟨z0,z1,z2⟩,t0,t1,t2⟩:=hW
           go_simp
           first | rfl | (rw [if_pos hlt];rfl) | (rw [if_pos hlt2];rfl) | trace_state
         go_simp
         refine hK _ ?_
         clear hK K)
        iterate 11 (
         refine ord_ps hg hC (fun K hK=>?_)
         go_simp
         refine hK _ ?_
         clear hK K)
        iterate 2 (
         refine ord_rd hg hC (fun K hK=>?_)
         apply Exists.intro
         refine ⟨fun W hW=>?_,?_⟩
         · go_simp
           first | rfl | trace_state
         go_simp
         refine hK _ ?_
         clear hK K)
        iterate 12 (
         refine ord_ps hg hC (fun K hK=>?_)
         go_simp
         refine hK _ ?_
         clear hK K)
        iterate 1 (
         refine ord_rd hg hC (fun K hK=>?_)
         apply Exists.intro
         refine ⟨fun W hW=>?_,?_⟩
         · go_simp
           first | rfl | trace_state
         go_simp
         refine hK _ ?_
         clear hK K)
        refine ord_end (by kernel_rfl) ?_
        go_wp2
        go_ret
        refine ⟨ret_bool ?_,hb.drew⟩
        symm
        rw [decide_eq_false_iff_not]
        intro e
        subst e
        simp at en
    · go_wp2
      go_ret
      refine ⟨ret_bool ?_,hb⟩
      symm
      rw [decide_eq_true_iff]
      rw [show k=a.length by omega] at hs
      rw [List.take_length] at hs
      rw [hs,HE.out,List.take_length]
end leaves
def cmpChg (x y:Chg):Int:=orI (cmpI x.t y.t) (cmpRow x.r y.r)
theorem cmpChg_3:Cmp3 cmpChg:=(cmpI_3.comap (fun x:Chg=>x.t)).or (cmpRow_3.comap (fun x:Chg=>x.r))
theorem two_new (W:World) (x y:Value) (t:TypeId) :
 (W.alloc (.cells #[x,y] t)).cell? ⟨W.heap.size,0,none⟩=some x∧(W.alloc (.cells #[x,y] t)).cell? ⟨W.heap.size,1,none⟩=some y:=by
 constructor <;> simp
theorem two_laid (w:World) (n:Nat) (os:Array Obj) (x y:Value) (t:TypeId) :
 ((Sort.grow (w.drewN n) os).alloc (.cells #[x,y] t)).cell? ⟨w.heap.size+os.size,0,none⟩=some x∧((Sort.grow (w.drewN n) os).alloc (.cells #[x,y] t)).cell? ⟨w.heap.size+os.size,1,none⟩=some y:=by
 have e:w.heap.size+os.size=(Sort.grow (w.drewN n) os).heap.size:=by rw [Sort.size_grow];rfl
 rw [e]
 exact two_new _ x y t
abbrev chgV (c:Chg) (r:Value):Value:=.agg #[.int .i64 c.t,r,.int .i64 c.n]
theorem two_chgs (w:World) (x y:Chg) (r1 r2:Value):∃ w2,w2=(w.alloc (.cells #[.int .i64 x.t,r1,.int .i64 x.n] 42)).alloc (.cells #[.int .i64 y.t,r2,.int .i64 y.n] 42) ∧
 w.heap.size<w2.heap.size∧w.heap.size+1<w2.heap.size ∧
 (w2.cell? ⟨w.heap.size,0,none⟩=some (.int .i64 x.t)∧w2.cell? ⟨w.heap.size,1,none⟩=some r1) ∧
 (w2.cell? ⟨w.heap.size+1,0,none⟩=some (.int .i64 y.t)∧w2.cell? ⟨w.heap.size+1,1,none⟩=some r2)∧Hid (Grew w w2):=by
 refine ⟨_,rfl,by simp;omega,by simp,⟨?_,?_⟩,⟨?_,?_⟩,((Grew.refl w).alloc _).alloc _⟩
 · rw [new_cell _ _ _ _ (by simp)];simp
 · rw [new_cell _ _ _ _ (by simp)];simp
 · have:w.heap.size+1=(w.alloc (.cells #[.int .i64 x.t,r1,.int .i64 x.n] 42)).heap.size:=by simp
   rw [this];simp
 · have:w.heap.size+1=(w.alloc (.cells #[.int .i64 x.t,r1,.int .i64 x.n] 42)).heap.size:=by simp
   rw [this];simp
section leaves
set_option maxHeartbeats 1000000
set_option maxRecDepth 10000
theorem f21_any (hm:Tryz.prog.follows .mixedOrders=true) (w:World) (x y:Chg) (r1 r2:Value) (D1 D2:Nat→Prop) (h1:RowAt w D1 r1 x.r) (h2:RowAt w D2 r2 y.r) :
 Calls Tryz.prog 21 #[chgV x r1,chgV y r2] w fun e w'=>e=.returned (.int .i64 (cmpChg x y))∧Grew w w':=by
 have mixed:=hm
 obtain ⟨w2,hw2,z1,z2,⟨c0,c1⟩,⟨d0,d1⟩,H0⟩:=two_chgs w x y r1 r2
 have hT:∀ (n:Nat) (os:Array Obj),Calls Tryz.prog 44 #[.int .i64 x.t,.int .i64 y.t] (Sort.grow (w2.drewN n) os) fun e w''=>e=.returned (.int .i64 (cmpI x.t y.t))∧∃ p:GrownBy,w''=Sort.grow (w2.drewN p.n) p.os :=
  fun n os=>(f44_any _ _ _).mono fun e w' ⟨he,hw⟩=>⟨he,⟨n,os⟩,hw.symm⟩
 have hR:∀ (n:Nat) (os:Array Obj),Calls Tryz.prog 28 #[r1,r2] (Sort.grow (w2.drewN n) os) fun e w''=>e=.returned (.int .i64 (cmpRow x.r y.r))∧∃ p:GrownBy,w''=Sort.grow (w2.drewN p.n) p.os :=
  fun n os=>by
   have hb:Below w.heap.size w (Sort.grow (w2.drewN n) os):=H0.out.below.trans ((below_regrown w2 (w2.drawn+n) os).mono (Nat.le_of_lt z1))
   exact Calls.grown_of (f28_any hm _ r1 r2 _ _ D1 D2 (h1.below hb) (h2.below hb))
 have HT:=Lib.hid hT
 have HR:=Lib.hid hR
 clear hT hR
 obtain ⟨a1,cap1,rfl,-,-⟩:=h1
 obtain ⟨a2,cap2,rfl,-,-⟩:=h2
 go_enter Tryz.func21,Tryz.ntmps21
 go_wp2_with fail
 rw [← hw2]
 clear hw2
 have hcl:=fun n os b' o' h=>grown_cl w2 n os b' o' h
 refine wp_region_qfloat 10 (fun w'=>∃ p:GrownBy,w'=Sort.grow (w2.drewN p.n) p.os) mixed (by kernel_rfl) (by kernel_rfl) (by decide) ⟨⟨1,#[]⟩,by rw [Sort.grow_empty];rfl⟩ ?_
 simp only [List.take_succ_cons,List.take_zero,List.drop_succ_cons,List.drop_zero]
 refine wpQf_of_quiet (ops:=#[]) _ _ (by simp) ?_
 repeat (quiet_step (first | exact HT.out _ _ | exact HR.out _ _))
 refine wpQuiet_nil ?_
 rintro w3 ⟨⟨n3,os3⟩,rfl⟩
 refine wpChain_step (fun K hK=>?_)
 go_simp
 refine hK _ _ rfl (fun h=>by cases h) ?_
 clear hK K
 refine wpChain_step (fun K hK=>?_)
 go_simp
 go_at_call 43
 obtain ⟨e0,e1⟩:=two_laid w2 n3 os3 (.int .i64 (cmpI x.t y.t)) (.int .i64 (cmpRow x.r y.r)) 3
 refine (f43_two _ _ _ _ e0 e1).mono ?_
 rintro e w4 ⟨rfl,rfl⟩
 refine hK _ _ rfl (fun h=>by cases h) ?_
 clear hK K e0 e1
 refine wpChain_step (fun K hK=>?_)
 go_simp
 refine hK _ _ rfl (fun h=>by cases h) ?_
 clear hK K
 refine wpChain_nil ?_
 go_wp2_with fail
 go_ret
 exact ⟨rfl,H0.out.trans ((show Grew w2 (Sort.grow (w2.drewN n3) os3) from ⟨n3,os3,rfl⟩).alloc _)⟩
end leaves
end Go.Proofs.YtjhknhgkjfabaaaGreatDoor
