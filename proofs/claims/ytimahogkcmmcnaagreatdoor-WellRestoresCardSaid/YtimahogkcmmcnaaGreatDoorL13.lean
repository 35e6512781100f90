/-
 A region that draws its order: reads and quiet calls float, and whatever the edges allow of the rest is walked. No conditions but those stated.
-/
import Derived.Test.YtimahogkcmmcnaaGreatDoorL12
set_option linter.unusedSimpArgs false
set_option linter.unusedVariables false
namespace Go.Proofs.YtimahogkcmmcnaaGreatDoor
open Go.RowKit
def waits3 (ops:Array Oper) (i j:Nat):Bool :=
 Region.waitsFor .any ops i j || (List.range ops.size).any fun k=>Region.waitsFor .any ops i k && (Region.waitsFor .any ops k j || (List.range ops.size).any fun q=>Region.waitsFor .any ops k q && Region.waitsFor .any ops q j)
def gameB (ops:Array Oper) (fl:List Nat):Bool :=
 Region.noSelect ops && fl.all (fun i=>decide (i<ops.size)) && decide (fl.Pairwise (·<·)) &&
 (List.range ops.size).all fun i =>
   match ops[i]? with
   | none=>false
   | some o=>o.guard.isNone && (o.after.all fun e => !Region.binds .any e || (decide (e.on<i) && (!fl.contains i || fl.contains e.on))) &&
     ((List.range ops.size).all fun j =>
       match ops[j]? with
       | none=>false
       | some oj =>
         match oj.dst with
         | none=>true
         | some d=>(!(o.looksAt ops).contains d || (decide (j<i) && Region.waitsFor .any ops i j) || (decide (i<j) && Region.waitsFor .any ops j i)) && (decide (i=j) || o.dst != some d))
structure Game (ops:Array Oper) (fl:List Nat):Prop where
 sel:Region.noSelect ops=true
 lt:∀ i ∈ fl,i<ops.size
 asc:fl.Pairwise (·<·)
 grd:∀ {i:Nat} {o:Oper},ops[i]? = some o→o.guard=none
 low:∀ {i:Nat} {o:Oper},ops[i]? = some o→∀ e ∈ o.after,Region.binds .any e=true→e.on<i
 fle:∀ {i:Nat} {o:Oper},ops[i]? = some o→i ∈ fl→∀ e ∈ o.after,Region.binds .any e=true→e.on ∈ fl
 look:∀ {i j:Nat} {o oj:Oper} {d:Tmp},ops[i]? = some o→ops[j]? = some oj→oj.dst=some d→d ∈ o.looksAt ops→(j<i∧Region.waitsFor .any ops i j=true)∨(i<j∧Region.waitsFor .any ops j i=true)
 dist:∀ {i j:Nat} {o oj:Oper} {d:Tmp},ops[i]? = some o→ops[j]? = some oj→i≠j→oj.dst=some d→o.dst≠some d
theorem game_of {ops:Array Oper} {fl:List Nat} (h:gameB ops fl=true):Game ops fl:=by
 unfold gameB at h
 simp only [Bool.and_eq_true,decide_eq_true_eq,List.all_eq_true,List.mem_range] at h
 obtain ⟨⟨⟨h1,h2⟩,h3⟩,h4⟩:=h
 have key:∀ {i:Nat} {o:Oper},ops[i]? = some o→(o.guard.isNone=true∧(o.after.all fun e => !Region.binds .any e || (decide (e.on<i) && (!fl.contains i || fl.contains e.on)))=true) ∧
  ∀ j,j<ops.size→(match ops[j]? with | none=>false | some oj=>match oj.dst with | none=>true | some d=>(!(o.looksAt ops).contains d || (decide (j<i) && Region.waitsFor .any ops i j) || (decide (i<j) && Region.waitsFor .any ops j i)) && (decide (i=j) || o.dst != some d))=true:=by
  intro i o ho
  have hi:i<ops.size:=(Array.getElem?_eq_some_iff.1 ho).1
  have:=h4 i hi
  rw [ho] at this
  simpa only [Bool.and_eq_true,List.all_eq_true,List.mem_range] using this
 have two:∀ {i j:Nat} {o oj:Oper} {d:Tmp},ops[i]? = some o→ops[j]? = some oj→oj.dst=some d→((!(o.looksAt ops).contains d || (decide (j<i) && Region.waitsFor .any ops i j) || (decide (i<j) && Region.waitsFor .any ops j i)) && (decide (i=j) || o.dst != some d))=true:=by
  intro i j o oj d ho hj hd
  have:=(key ho).2 j (Array.getElem?_eq_some_iff.1 hj).1
  rw [hj] at this
  simpa only [hd] using this
 have aft:∀ {i:Nat} {o:Oper},ops[i]? = some o→∀ e ∈ o.after,Region.binds .any e=true→e.on<i∧(i ∈ fl→e.on ∈ fl):=by
  intro i o ho e he hb
  have h5:=(key ho).1.2
  rw [Array.all_eq_true'] at h5
  have h6:=h5 e he
  rw [hb] at h6
  simp only [Bool.not_true,Bool.false_or,Bool.and_eq_true,decide_eq_true_eq,Bool.or_eq_true,Bool.not_eq_true'] at h6
  refine ⟨h6.1,fun hi=>?_⟩
  rcases h6.2 with h7 | h7
  · rw [List.contains_iff_mem.2 hi] at h7;cases h7
  · exact List.contains_iff_mem.1 h7
 refine ⟨h1,h2,h3,fun ho=>by simpa using (key ho).1.1,fun ho e he hb=>(aft ho e he hb).1,fun ho hi e he hb=>(aft ho e he hb).2 hi,fun ho hj hd hl=>?_,fun ho hj hij hd=>?_⟩
 · have:=two ho hj hd
   simp only [Bool.and_eq_true,Bool.or_eq_true,decide_eq_true_eq] at this
   rcases this.1 with (h | h) | h
   · exfalso
     rw [List.contains_iff_mem.2 hl] at h
     cases h
   · exact .inl h
   · exact .inr h
 · have:=two ho hj hd
   simp only [Bool.and_eq_true,Bool.or_eq_true,decide_eq_true_eq] at this
   rcases this.2 with h | h
   · exact absurd h hij
   · simpa using h
def freeRest (ops:Array Oper) (fl done:List Nat):List Nat :=
 (List.range ops.size).filter fun i => !fl.contains i && !done.contains i && (match ops[i]? with | some o=>o.after.all fun e => !Region.binds .any e || fl.contains e.on || done.contains e.on | none=>false)
def pend (ops:Array Oper) (fl done:List Nat):Bool := !(fl.all fun j=>done.any fun i=>waits3 ops i j)
def wpGame (P:Program) (ops:Array Oper) (fl:List Nat) (C:World→Prop) (Q:Exit→Act→World→Prop):Nat→List Nat→Act→World→Prop
 | 0,done,a,w=>freeRest ops fl done=[]∧Q .normal a w
 | n+1,done,a,w=>(freeRest ops fl done=[]→Q .normal a w)∧∀ i ∈ freeRest ops fl done,∀ o,ops[i]? = some o →
    o.wp P a w (fun a' w'=>a'.defers=a.defers∧(pend ops fl (i :: done)=true→C w')∧wpGame P ops fl C Q n (i :: done) a' w') NoOut
section
variable {P : Program} {ops : Array Oper} {a : Act}
theorem floats_fill {C:World→Prop} {Q:Act→Prop} (hdist:∀ {i j:Nat} {o oj:Oper} {d:Tmp},ops[i]? = some o→ops[j]? = some oj→i≠j→oj.dst=some d→o.dst≠some d) :
 ∀ (ls pre:List Nat) (val0:Nat→Value) (a0:Act),(∀ i ∈ ls,i<ops.size)→(∀ i ∈ ls,i ∉ pre)→ls.Pairwise (·<·)→FillSt ops val0 a (fun j=>j ∈ pre) a0→wpFloatC P ops C Q (ls.filterMap fun i=>ops[i]?) a0 →
 ∃ val:Nat→Value,(∀ j,j ∈ pre→val j=val0 j)∧(∀ i,i ∈ ls→∃ (ai:Act) (o:Oper),FillSt ops val a (fun j=>j ∈ pre∨(j ∈ ls∧j<i)) ai∧ops[i]? = some o∧∀ w,C w→o.wp P ai w (fun a' w'=>a'=ai.put o.dst (val i)∧w'=w) NoOut) ∧
  ∃ b,FillSt ops val a (fun j=>j ∈ pre∨j ∈ ls) b∧Q b
 | [],pre,val0,a0,_,_,_,hf,h=>⟨val0,fun _ _=>rfl,fun i hi=>(by cases hi),a0,hf.congr fun j=>by simp,h⟩
 | i :: rest,pre,val0,a0,hlt,hnp,hasc,hf,h=>by
   have hi:=hlt i (List.mem_cons_self ..)
   obtain ⟨o,ho⟩:∃ o,ops[i]? = some o:=⟨_,Array.getElem?_eq_getElem hi⟩
   rw [List.filterMap_cons,ho] at h
   obtain ⟨v,hy,hK⟩:=h
   have hip:=hnp i (List.mem_cons_self ..)
   have hlo:∀ {q:Nat},q ∈ rest→i<q:=fun hq=>List.rel_of_pairwise_cons hasc hq
   let val1:Nat→Value:=fun j=>if j=i then v else val0 j
   have hv1:val1 i=v:=by simp [val1]
   have hv0:∀ j,j ∈ pre→val0 j=val1 j:=fun j hj=>by
    have:j≠i:=fun e=>hip (e ▸ hj)
    simp [val1,this]
   have hf1:=hf.revalue hv0
   have hf2:=hf1.put' hdist ho
   rw [hv1] at hf2
   obtain ⟨val,e1,e2,b,e3,e4⟩:=floats_fill hdist rest (i :: pre) val1 _ (fun j hj=>hlt j (List.mem_cons_of_mem _ hj)) (fun j hj hjp=>by
    rcases List.mem_cons.1 hjp with e | e
    · have:=hlo hj;omega
    · exact hnp j (List.mem_cons_of_mem _ hj) e) (List.Pairwise.of_cons hasc) (hf2.congr fun j=>by simp [or_comm]) hK
   have hvi:val i=v:=(e1 i (List.mem_cons_self ..)).trans hv1
   refine ⟨val,fun j hj=>(e1 j (List.mem_cons_of_mem _ hj)).trans (hv0 j hj).symm,fun j hj=>?_,b,e3.congr fun j=>by simp [or_assoc,or_left_comm],e4⟩
   rcases List.mem_cons.1 hj with rfl | hj'
   · refine ⟨a0,o,(hf1.revalue fun q hq=>(e1 q (List.mem_cons_of_mem _ hq)).symm).congr fun q=>⟨fun hq=>.inl hq,fun hq=>?_⟩,ho,by rw [hvi];exact hy⟩
     rcases hq with hq | ⟨hq,hql⟩
     · exact hq
     · rcases List.mem_cons.1 hq with e | e
       · omega
       · have:=hlo e;omega
   · obtain ⟨ai,o',f1,f2,f3⟩:=e2 j hj'
     refine ⟨ai,o',f1.congr fun q=>?_,f2,f3⟩
     have hij:=hlo hj'
     constructor
     · rintro (hq | ⟨hq,hql⟩)
       · rcases List.mem_cons.1 hq with e | e
         · subst e;exact .inr ⟨List.mem_cons_self ..,hij⟩
         · exact .inl e
       · exact .inr ⟨List.mem_cons_of_mem _ hq,hql⟩
     · rintro (hq | ⟨hq,hql⟩)
       · exact .inl (List.mem_cons_of_mem _ hq)
       · rcases List.mem_cons.1 hq with e | e
         · subst e;exact .inl (List.mem_cons_self ..)
         · exact .inr ⟨e,hql⟩
end
theorem waits3_listed {ops:Array Oper} {listed:Array Bool} (hcl:Closed .any ops listed) {i j:Nat} (hi:listed.getD i false=true) (h:waits3 ops i j=true):listed.getD j false=true:=by
 have one:∀ {x y:Nat},listed.getD x false=true→Region.waitsFor .any ops x y=true→listed.getD y false=true:=by
  intro x y hx hw
  obtain ⟨o,ho,e,he,hb,hon⟩:=Region.waitsFor_spec hw
  rw [← hon]
  exact hcl x o ho hx e he hb
 unfold waits3 at h
 simp only [Bool.or_eq_true,List.any_eq_true,Bool.and_eq_true] at h
 rcases h with h | ⟨k,_,h1,h | ⟨q,_,h2,h3⟩⟩
 · exact one hi h
 · exact one (one hi h1) h
 · exact one (one (one hi h1) h2) h3
theorem wp_region_game {P:Program} {id:Nat} {Q:Exit→Act→World→Prop} {a:Act} {w:World} {l:List Oper} (fl:List Nat) (n:Nat) (C:World→Prop) (hm:P.follows .mixedOrders=true) (hB:gameB l.toArray fl=true) (hC:C w.drew)
 (h:wpFloatC P l.toArray C (fun b=>wpGame P l.toArray fl C Q n [] b w.drew) (fl.filterMap fun i=>l[i]?) a):(Code.region id l.toArray true).wp P Q a w:=by
 have hg:=game_of hB
 have hel:∀ j:Nat,l[j]? = l.toArray[j]? := fun j=>by simp
 have h':wpFloatC P l.toArray C (fun b=>wpGame P l.toArray fl C Q n [] b w.drew) (fl.filterMap fun i=>l.toArray[i]?) a:=by
  have:(fun i:Nat=>l[i]?)=fun i:Nat=>l.toArray[i]? := funext hel
  rw [← this];exact h
 generalize l.toArray=ops at *
 have hdist:∀ {i j:Nat} {o oj:Oper} {d:Tmp},ops[i]? = some o→ops[j]? = some oj→i≠j→oj.dst=some d→o.dst≠some d:=fun a b c d=>hg.dist a b c d
 obtain ⟨val,-,e2,b0,e3,e4⟩:=floats_fill (a:=a) hdist fl [] (fun _=>undef) a hg.lt (fun i _=>by simp) hg.asc ((FillSt.none ops _ a).congr fun j=>by simp) h'
 have hsel:=Region.noSelect_spec hg.sel
 let St:Array Bool→Act→World→Prop:=fun listed a' w'=>listed.size=ops.size∧∃ (m:Nat) (done:List Nat) (b:Act) (val':Nat→Value),(∀ j,j ∈ fl→val j=val' j)∧(∀ j,j ∈ done→j ∉ fl)∧(∀ j,j ∉ fl→(listed.getD j false=true↔j ∈ done)) ∧
  (pend ops fl done=true→C w')∧wpGame P ops fl C Q m done b w'∧FillSt ops val' a (fun j=>j ∈ fl∨j ∈ done) b∧FillSt ops val' a (fun j=>listed.getD j false=true) a'
 refine wp_region_any hm (wpAny_inv St ?_ ?_ _ _ _ _ ?_ ?_ ?_)
 · rintro listed a' w' i oi ⟨hs,m,done,b,val',hv,hdf,hch,hCw,hwp,hfb,hfa⟩ hcl hoi hun hd
   have hi:i<ops.size:=(Array.getElem?_eq_some_iff.1 hoi).1
   have hun':listed.getD i false=false:=by
    simp [show i<listed.size by omega] at hun ⊢;exact hun
   have hwt:Region.wanted oi (yielded ops a'.tmps)=true:=by simp [Region.wanted,hg.grd hoi]
   by_cases hif:i ∈ fl
   · have hp:pend ops fl done=true:=by
      cases hpe:pend ops fl done with
      | true=>rfl
      | false =>
        exfalso
        unfold pend at hpe
        simp only [Bool.not_eq_false',List.all_eq_true,List.any_eq_true] at hpe
        obtain ⟨x,hx,hw⟩:=hpe i hif
        have h2:=waits3_listed hcl ((hch x (hdf x hx)).2 hx) hw
        rw [hun'] at h2;cases h2
     obtain ⟨ai,o',f1,f2,f3⟩:=e2 i hif
     rw [hoi] at f2;injection f2 with f2;subst f2
     have fai:=f1.revalue (val':=val') fun j hj=>by
      rcases hj with hj | hj
      · cases hj
      · exact hv j hj.1
     have hev:=fai.evals hfa (o:=oi) (fun d hdl j oj hj hdj=>by
      rcases hg.look hoi hj hdj hdl with ⟨h1,h2⟩ | ⟨h1,h2⟩
      · have hjf:j ∈ fl:=by
         obtain ⟨o2,ho2,e,he,hb,hon⟩:=Region.waitsFor_spec h2
         rw [hoi] at ho2;injection ho2 with ho2;subst ho2
         rw [← hon]
         exact hg.fle hoi hif e he hb
        exact ⟨fun _=>waits_listed hoi hd h2,fun _=>.inr ⟨hjf,h1⟩⟩
      · refine ⟨fun h=>?_,fun h=>?_⟩
        · rcases h with h | h
          · cases h
          · omega
        · have h3:=waits_listed hj (fun e he hb=>hcl _ oj hj h e he hb) h2
          rw [hun'] at h3;cases h3)
     unfold wpOp
     simp only [hoi]
     rw [if_pos hwt]
     refine .inl (wp_move (execOp_congr oi (fun cs b=>hsel i oi cs b hoi) hev) (f3 w' (hCw hp)) (fun v' w'' hK=>?_) (fun a2 w2 hK=>by rw [hK.1];cases oi.dst <;> rfl))
     obtain ⟨hpt,rfl⟩:=hK
     rw [put_inj hpt (by rw [hfa.size,fai.size]),hv i hif]
     refine ⟨by simpa using hs,m,done,b,val',hv,hdf,fun j hj=>?_,hCw,hwp,hfb,(hfa.put' hdist hoi).congr fun j=>(set_getD (by omega)).symm⟩
     rw [set_getD (by omega)]
     constructor
     · rintro (h1 | rfl)
       · exact (hch j hj).1 h1
       · exact absurd hif hj
     · intro h1;exact .inl ((hch j hj).2 h1)
   · have hnd:i ∉ done:=fun h=>by rw [(hch i hif).2 h] at hun';cases hun'
     have hfree:i ∈ freeRest ops fl done:=by
      unfold freeRest
      rw [List.mem_filter,List.mem_range]
      refine ⟨hi,?_⟩
      rw [hoi]
      simp only [Bool.and_eq_true,Bool.not_eq_true',Array.all_eq_true',Bool.or_eq_true]
      refine ⟨⟨?_,?_⟩,fun e he=>?_⟩
      · cases hc:fl.contains i with
        | false=>rfl
        | true=>exact absurd (List.contains_iff_mem.1 hc) hif
      · cases hc:done.contains i with
        | false=>rfl
        | true=>exact absurd (List.contains_iff_mem.1 hc) hnd
      · cases hb:Region.binds .any e with
        | false=>exact .inl (.inl rfl)
        | true =>
          by_cases hef:e.on ∈ fl
          · exact .inl (.inr (List.contains_iff_mem.2 hef))
          · exact .inr (List.contains_iff_mem.2 ((hch e.on hef).1 (hd e he hb)))
     cases m with
     | zero=>rw [hwp.1] at hfree;cases hfree
     | succ m =>
       have hop:=hwp.2 i hfree oi hoi
       have hev:=hfb.evals hfa (o:=oi) (fun d hdl j oj hj hdj=>by
        rcases hg.look hoi hj hdj hdl with ⟨h1,h2⟩ | ⟨h1,h2⟩
        · have hl:=waits_listed hoi hd h2
          refine ⟨fun _=>hl,fun _=>?_⟩
          by_cases hjf:j ∈ fl
          · exact .inl hjf
          · exact .inr ((hch j hjf).1 hl)
        · have hjf:j ∉ fl:=fun hjf=>by
           obtain ⟨o2,ho2,e,he,hb,hon⟩:=Region.waitsFor_spec h2
           rw [hj] at ho2;injection ho2 with ho2;subst ho2
           exact hif (hon ▸ hg.fle hj hjf e he hb)
          refine ⟨fun h=>?_,fun h=>?_⟩
          · rcases h with h | h
            · exact absurd h hjf
            · have h3:=waits_listed hj (fun e he hb=>hcl _ oj hj ((hch j hjf).2 h) e he hb) h2
              rw [hun'] at h3;cases h3
          · have h3:=waits_listed hj (fun e he hb=>hcl _ oj hj h e he hb) h2
            rw [hun'] at h3;cases h3)
       unfold wpOp
       simp only [hoi]
       rw [if_pos hwt]
       refine .inl (wp_move (execOp_congr oi (fun cs b=>hsel _ oi cs b hoi) hev) hop (fun v w'' hK=>?_) (fun _ _ hK=>hK.1))
       obtain ⟨_,hC',hrest⟩:=hK
       let val2:Nat→Value:=fun j=>if j=i then v else val' j
       have hv2:val2 i=v:=by simp [val2]
       have hv3:∀ j,j≠i→val' j=val2 j:=fun j hj=>by simp [val2,hj]
       have f1:=(hfb.revalue (val':=val2) fun j hj=>hv3 j (fun e=>by subst e;rcases hj with hj | hj;exact hif hj;exact hnd hj)).put' hdist hoi
       have f2:=(hfa.revalue (val':=val2) fun j hj=>hv3 j (fun e=>by rw [e,hun'] at hj;cases hj)).put' hdist hoi
       rw [hv2] at f1 f2
       refine ⟨by simpa using hs,m,i :: done,_,val2,fun j hj=>(hv j hj).trans (hv3 j (fun e=>hif (e ▸ hj))),fun j hj=>?_,fun j hj=>?_,hC',hrest,f1.congr fun j=>?_,f2.congr fun j=>(set_getD (by omega)).symm⟩
       · rcases List.mem_cons.1 hj with rfl | hj
         · exact hif
         · exact hdf j hj
       · rw [set_getD (by omega),List.mem_cons,hch j hj,or_comm]
       · rw [List.mem_cons,or_assoc]
         constructor
         · rintro (h | h | h)
           · exact .inl h
           · exact .inr (.inr h)
           · exact .inr (.inl h)
         · rintro (h | h | h)
           · exact .inl h
           · exact .inr (.inr h)
           · exact .inr (.inl h)
 · rintro listed a' w' ⟨hs,m,done,b,val',hv,hdf,hch,hCw,hwp,hfb,hfa⟩ hr
   have hall:∀ j,j<ops.size→listed.getD j false=true:=by
    intro j
    induction j using Nat.strongRecOn with
    | _ j ih =>
      intro hj
      cases hl:listed.getD j false with
      | true=>rfl
      | false =>
        exfalso
        obtain ⟨oj,hoj⟩:∃ oj,ops[j]? = some oj:=⟨_,Array.getElem?_eq_getElem hj⟩
        have:j ∈ Region.ready .any ops listed:=mem_ready.2 ⟨by simpa [show j<listed.size by omega] using hl,oj,hoj,fun e he hb=>by
         have h1:=hg.low hoj e he hb
         exact ih _ h1 (by omega)⟩
        rw [hr] at this;cases this
   have hnil:freeRest ops fl done=[]:=by
    unfold freeRest
    rw [List.filter_eq_nil_iff]
    intro j hj
    rw [List.mem_range] at hj
    by_cases hjf:j ∈ fl
    · simp [hjf]
    · have:=(hch j hjf).1 (hall j hj)
      simp [this]
   have hab:a'=b:=hfa.eq (hfb.congr fun j=>by
    constructor
    · intro h1
      rcases h1 with h1 | h1
      · exact hall j (hg.lt j h1)
      · exact (hch j (hdf j h1)).2 h1
    · intro h1
      by_cases hjf:j ∈ fl
      · exact .inl hjf
      · exact .inr ((hch j hjf).1 h1))
   rw [hab]
   cases m with
   | zero=>exact hwp.2
   | succ m=>exact hwp.1 hnil
 · refine ⟨by simp,n,[],b0,val,fun _ _=>rfl,fun j hj=>(by cases hj),fun j hj=>?_,fun _=>hC,e4,e3.congr fun j=>by simp,(FillSt.none ops val a).congr fun j=>⟨fun h=>h.elim,fun h=>?_⟩⟩
   · rw [getD_replicate_false];simp
   · rw [getD_replicate_false] at h;cases h
 · intro j oj _ hl
   rw [getD_replicate_false] at hl;cases hl
 · simp
section
variable {P : Program} {ops : Array Oper} {fl : List Nat} {C : World → Prop} {Q : Exit → Act → World → Prop} {n : Nat} {done : List Nat} {a : Act} {w : World}
theorem at_w {o:Oper} {K:Act→World→Prop} {R:Exit→Act→World→Prop} (W:World) (h:o.wp P a W K R):o.wp P a W K R:=h
theorem game_end (hf:freeRest ops fl done=[]) (h:Q .normal a w):wpGame P ops fl C Q n done a w:=by
 cases n with
 | zero=>exact ⟨hf,h⟩
 | succ n=>exact ⟨fun _=>h,fun i hi=>by rw [hf] at hi;cases hi⟩
theorem game_some {l:List Nat} (hf:freeRest ops fl done=l) (hl:l≠[]) (h:∀ i ∈ l,∀ o,ops[i]? = some o →
 o.wp P a w (fun a' w'=>a'.defers=a.defers∧(pend ops fl (i :: done)=true→C w')∧wpGame P ops fl C Q n (i :: done) a' w') NoOut):wpGame P ops fl C Q (n+1) done a w :=
 ⟨fun h'=>absurd (hf.symm.trans h') hl,fun i hi o ho=>h i (hf ▸ hi) o ho⟩
theorem game_one {o:Oper} (i:Nat) (b:Bool) (hf:freeRest ops fl done=[i]) (ho:ops[i]? = some o) (hb:pend ops fl (i :: done)=b)
 (h:∀ K:Act→World→Prop,(∀ a' w',a'.defers=a.defers→(b=true→C w')→wpGame P ops fl C Q n (i :: done) a' w'→K a' w')→o.wp P a w K NoOut):wpGame P ops fl C Q (n+1) done a w:=by
 refine game_some hf (by simp) fun j hj o' ho'=>?_
 rw [List.mem_singleton] at hj
 subst hj
 rw [ho] at ho';injection ho' with ho';subst ho'
 exact h _ fun a' w' h1 h2 h3=>⟨h1,fun h=>h2 (hb.symm.trans h),h3⟩
theorem game_on {o:Oper} (i:Nat) (b:Bool)
 (h:∀ K:Act→World→Prop,(∀ a' w',a'.defers=a.defers→(b=true→C w')→wpGame P ops fl C Q n (i :: done) a' w'→K a' w')→o.wp P a w K NoOut)
 (ho:ops[i]? = some o:=by rfl) (hf:freeRest ops fl done=[i]:=by kernel_rfl) (hb:pend ops fl (i :: done)=b:=by kernel_rfl):wpGame P ops fl C Q (n+1) done a w:=game_one i b hf ho hb h
theorem game_two {o1 o2:Oper} (i j:Nat) (b1 b2:Bool) (hf:freeRest ops fl done=[i,j]) (ho1:ops[i]? = some o1) (ho2:ops[j]? = some o2) (hb1:pend ops fl (i :: done)=b1) (hb2:pend ops fl (j :: done)=b2)
 (h1:∀ K:Act→World→Prop,(∀ a' w',a'.defers=a.defers→(b1=true→C w')→wpGame P ops fl C Q n (i :: done) a' w'→K a' w')→o1.wp P a w K NoOut)
 (h2:∀ K:Act→World→Prop,(∀ a' w',a'.defers=a.defers→(b2=true→C w')→wpGame P ops fl C Q n (j :: done) a' w'→K a' w')→o2.wp P a w K NoOut):wpGame P ops fl C Q (n+1) done a w:=by
 refine game_some hf (by simp) fun q hq o' ho'=>?_
 rcases List.mem_cons.1 hq with rfl | hq
 · rw [ho1] at ho';injection ho' with ho';subst ho'
   exact h1 _ fun a' w' x1 x2 x3=>⟨x1,fun h=>x2 (hb1.symm.trans h),x3⟩
 · rw [List.mem_singleton] at hq
   subst hq
   rw [ho2] at ho';injection ho' with ho';subst ho'
   exact h2 _ fun a' w' x1 x2 x3=>⟨x1,fun h=>x2 (hb2.symm.trans h),x3⟩
end
def gameGB (ops:Array Oper) (fl:List Nat):Bool :=
 Region.noSelect ops && fl.all (fun i=>decide (i<ops.size)) && decide (fl.Pairwise (·<·)) &&
 (List.range ops.size).all fun i =>
   match ops[i]? with
   | none=>false
   | some o=>(!fl.contains i || o.guard.isNone) && (o.after.all fun e => !Region.binds .any e || (decide (e.on<i) && (!fl.contains i || fl.contains e.on))) &&
     ((List.range ops.size).all fun j =>
       match ops[j]? with
       | none=>false
       | some oj =>
         match oj.dst with
         | none=>true
         | some d=>(!(o.looksAt ops).contains d || (decide (j<i) && Region.waitsFor .any ops i j) || (decide (i<j) && Region.waitsFor .any ops j i)) && (decide (i=j) || o.dst != some d))
structure GameG (ops:Array Oper) (fl:List Nat):Prop where
 sel:Region.noSelect ops=true
 lt:∀ i ∈ fl,i<ops.size
 asc:fl.Pairwise (·<·)
 grd:∀ {i:Nat} {o:Oper},ops[i]? = some o→i ∈ fl→o.guard=none
 low:∀ {i:Nat} {o:Oper},ops[i]? = some o→∀ e ∈ o.after,Region.binds .any e=true→e.on<i
 fle:∀ {i:Nat} {o:Oper},ops[i]? = some o→i ∈ fl→∀ e ∈ o.after,Region.binds .any e=true→e.on ∈ fl
 look:∀ {i j:Nat} {o oj:Oper} {d:Tmp},ops[i]? = some o→ops[j]? = some oj→oj.dst=some d→d ∈ o.looksAt ops→(j<i∧Region.waitsFor .any ops i j=true)∨(i<j∧Region.waitsFor .any ops j i=true)
 dist:∀ {i j:Nat} {o oj:Oper} {d:Tmp},ops[i]? = some o→ops[j]? = some oj→i≠j→oj.dst=some d→o.dst≠some d
theorem gameG_of {ops:Array Oper} {fl:List Nat} (h:gameGB ops fl=true):GameG ops fl:=by
 unfold gameGB at h
 simp only [Bool.and_eq_true,decide_eq_true_eq,List.all_eq_true,List.mem_range] at h
 obtain ⟨⟨⟨h1,h2⟩,h3⟩,h4⟩:=h
 have key:∀ {i:Nat} {o:Oper},ops[i]? = some o→((!fl.contains i || o.guard.isNone)=true∧(o.after.all fun e => !Region.binds .any e || (decide (e.on<i) && (!fl.contains i || fl.contains e.on)))=true) ∧
  ∀ j,j<ops.size→(match ops[j]? with | none=>false | some oj=>match oj.dst with | none=>true | some d=>(!(o.looksAt ops).contains d || (decide (j<i) && Region.waitsFor .any ops i j) || (decide (i<j) && Region.waitsFor .any ops j i)) && (decide (i=j) || o.dst != some d))=true:=by
  intro i o ho
  have hi:i<ops.size:=(Array.getElem?_eq_some_iff.1 ho).1
  have:=h4 i hi
  rw [ho] at this
  simpa only [Bool.and_eq_true,List.all_eq_true,List.mem_range] using this
 have two:∀ {i j:Nat} {o oj:Oper} {d:Tmp},ops[i]? = some o→ops[j]? = some oj→oj.dst=some d→((!(o.looksAt ops).contains d || (decide (j<i) && Region.waitsFor .any ops i j) || (decide (i<j) && Region.waitsFor .any ops j i)) && (decide (i=j) || o.dst != some d))=true:=by
  intro i j o oj d ho hj hd
  have:=(key ho).2 j (Array.getElem?_eq_some_iff.1 hj).1
  rw [hj] at this
  simpa only [hd] using this
 have aft:∀ {i:Nat} {o:Oper},ops[i]? = some o→∀ e ∈ o.after,Region.binds .any e=true→e.on<i∧(i ∈ fl→e.on ∈ fl):=by
  intro i o ho e he hb
  have h5:=(key ho).1.2
  rw [Array.all_eq_true'] at h5
  have h6:=h5 e he
  rw [hb] at h6
  simp only [Bool.not_true,Bool.false_or,Bool.and_eq_true,decide_eq_true_eq,Bool.or_eq_true,Bool.not_eq_true'] at h6
  refine ⟨h6.1,fun hi=>?_⟩
  rcases h6.2 with h7 | h7
  · rw [List.contains_iff_mem.2 hi] at h7;cases h7
  · exact List.contains_iff_mem.1 h7
 refine ⟨h1,h2,h3,fun ho hi=>by have h:=(key ho).1.1;rw [List.contains_iff_mem.2 hi] at h;simpa using h,fun ho e he hb=>(aft ho e he hb).1,fun ho hi e he hb=>(aft ho e he hb).2 hi,fun ho hj hd hl=>?_,fun ho hj hij hd=>?_⟩
 · have:=two ho hj hd
   simp only [Bool.and_eq_true,Bool.or_eq_true,decide_eq_true_eq] at this
   rcases this.1 with (h | h) | h
   · exfalso
     rw [List.contains_iff_mem.2 hl] at h
     cases h
   · exact .inl h
   · exact .inr h
 · have:=two ho hj hd
   simp only [Bool.and_eq_true,Bool.or_eq_true,decide_eq_true_eq] at this
   rcases this.2 with h | h
   · exact absurd h hij
   · simpa using h
def wpGameG (P:Program) (ops:Array Oper) (fl:List Nat) (C:World→Prop) (Q:Exit→Act→World→Prop):Nat→List Nat→Act→World→Prop
 | 0,done,a,w=>freeRest ops fl done=[]∧Q .normal a w
 | n+1,done,a,w=>(freeRest ops fl done=[]→Q .normal a w)∧∀ i ∈ freeRest ops fl done,∀ o,ops[i]? = some o →
    if Region.wanted o (yielded ops a.tmps)=true then
     o.wp P a w (fun a' w'=>a'.defers=a.defers∧(pend ops fl (i :: done)=true→C w')∧wpGameG P ops fl C Q n (i :: done) a' w') NoOut
    else (pend ops fl (i :: done)=true→C w)∧wpGameG P ops fl C Q n (i :: done) (a.put o.dst undef) w
theorem FillSt.wanted {ops:Array Oper} {val:Nat→Value} {a a1 a2:Act} {L L':Nat→Prop} (h1:FillSt ops val a L a1) (h2:FillSt ops val a L' a2) {o:Oper} (hl:∀ d,d ∈ o.looksAt ops→∀ j oj,ops[j]? = some oj→oj.dst=some d→(L j↔L' j)) :
 Region.wanted o (yielded ops a2.tmps)=Region.wanted o (yielded ops a1.tmps):=by
 cases hg:o.guard with
 | none=>simp [Region.wanted,hg]
 | some gb =>
   obtain ⟨g,b⟩:=gb
   have key:yielded ops a2.tmps g=yielded ops a1.tmps g:=by
    unfold yielded
    cases hd:(ops[g]?).bind (·.dst) with
    | none=>rfl
    | some d =>
      have hdl:d ∈ o.looksAt ops:=List.mem_append_right _ (by rw [hg];simp [hd])
      have:=h2.get h1 (s:=d) fun j oj ho hdd=>(hl d hdl j oj ho hdd).symm
      simp [this]
   simp [Region.wanted,hg,key]
theorem wp_region_gameG {P:Program} {id:Nat} {Q:Exit→Act→World→Prop} {a:Act} {w:World} {l:List Oper} (fl:List Nat) (n:Nat) (C:World→Prop) (hm:P.follows .mixedOrders=true) (hB:gameGB l.toArray fl=true) (hC:C w.drew)
 (h:wpFloatC P l.toArray C (fun b=>wpGameG P l.toArray fl C Q n [] b w.drew) (fl.filterMap fun i=>l[i]?) a):(Code.region id l.toArray true).wp P Q a w:=by
 have hg:=gameG_of hB
 have hel:∀ j:Nat,l[j]? = l.toArray[j]? := fun j=>by simp
 have h':wpFloatC P l.toArray C (fun b=>wpGameG P l.toArray fl C Q n [] b w.drew) (fl.filterMap fun i=>l.toArray[i]?) a:=by
  have:(fun i:Nat=>l[i]?)=fun i:Nat=>l.toArray[i]? := funext hel
  rw [← this];exact h
 generalize l.toArray=ops at *
 have hdist:∀ {i j:Nat} {o oj:Oper} {d:Tmp},ops[i]? = some o→ops[j]? = some oj→i≠j→oj.dst=some d→o.dst≠some d:=fun a b c d=>hg.dist a b c d
 obtain ⟨val,-,e2,b0,e3,e4⟩:=floats_fill (a:=a) hdist fl [] (fun _=>undef) a hg.lt (fun i _=>by simp) hg.asc ((FillSt.none ops _ a).congr fun j=>by simp) h'
 have hsel:=Region.noSelect_spec hg.sel
 let St:Array Bool→Act→World→Prop:=fun listed a' w'=>listed.size=ops.size∧∃ (m:Nat) (done:List Nat) (b:Act) (val':Nat→Value),(∀ j,j ∈ fl→val j=val' j)∧(∀ j,j ∈ done→j ∉ fl)∧(∀ j,j ∉ fl→(listed.getD j false=true↔j ∈ done)) ∧
  (pend ops fl done=true→C w')∧wpGameG P ops fl C Q m done b w'∧FillSt ops val' a (fun j=>j ∈ fl∨j ∈ done) b∧FillSt ops val' a (fun j=>listed.getD j false=true) a'
 refine wp_region_any hm (wpAny_inv St ?_ ?_ _ _ _ _ ?_ ?_ ?_)
 · rintro listed a' w' i oi ⟨hs,m,done,b,val',hv,hdf,hch,hCw,hwp,hfb,hfa⟩ hcl hoi hun hd
   have hi:i<ops.size:=(Array.getElem?_eq_some_iff.1 hoi).1
   have hun':listed.getD i false=false:=by
    simp [show i<listed.size by omega] at hun ⊢;exact hun
   by_cases hif:i ∈ fl
   · have hwt:Region.wanted oi (yielded ops a'.tmps)=true:=by simp [Region.wanted,hg.grd hoi hif]
     have hp:pend ops fl done=true:=by
      cases hpe:pend ops fl done with
      | true=>rfl
      | false =>
        exfalso
        unfold pend at hpe
        simp only [Bool.not_eq_false',List.all_eq_true,List.any_eq_true] at hpe
        obtain ⟨x,hx,hw⟩:=hpe i hif
        have h2:=waits3_listed hcl ((hch x (hdf x hx)).2 hx) hw
        rw [hun'] at h2;cases h2
     obtain ⟨ai,o',f1,f2,f3⟩:=e2 i hif
     rw [hoi] at f2;injection f2 with f2;subst f2
     have fai:=f1.revalue (val':=val') fun j hj=>by
      rcases hj with hj | hj
      · cases hj
      · exact hv j hj.1
     have hev:=fai.evals hfa (o:=oi) (fun d hdl j oj hj hdj=>by
      rcases hg.look hoi hj hdj hdl with ⟨h1,h2⟩ | ⟨h1,h2⟩
      · have hjf:j ∈ fl:=by
         obtain ⟨o2,ho2,e,he,hb,hon⟩:=Region.waitsFor_spec h2
         rw [hoi] at ho2;injection ho2 with ho2;subst ho2
         rw [← hon]
         exact hg.fle hoi hif e he hb
        exact ⟨fun _=>waits_listed hoi hd h2,fun _=>.inr ⟨hjf,h1⟩⟩
      · refine ⟨fun h=>?_,fun h=>?_⟩
        · rcases h with h | h
          · cases h
          · omega
        · have h3:=waits_listed hj (fun e he hb=>hcl _ oj hj h e he hb) h2
          rw [hun'] at h3;cases h3)
     unfold wpOp
     simp only [hoi]
     rw [if_pos hwt]
     refine .inl (wp_move (execOp_congr oi (fun cs b=>hsel i oi cs b hoi) hev) (f3 w' (hCw hp)) (fun v' w'' hK=>?_) (fun a2 w2 hK=>by rw [hK.1];cases oi.dst <;> rfl))
     obtain ⟨hpt,rfl⟩:=hK
     rw [put_inj hpt (by rw [hfa.size,fai.size]),hv i hif]
     refine ⟨by simpa using hs,m,done,b,val',hv,hdf,fun j hj=>?_,hCw,hwp,hfb,(hfa.put' hdist hoi).congr fun j=>(set_getD (by omega)).symm⟩
     rw [set_getD (by omega)]
     constructor
     · rintro (h1 | rfl)
       · exact (hch j hj).1 h1
       · exact absurd hif hj
     · intro h1;exact .inl ((hch j hj).2 h1)
   · have hnd:i ∉ done:=fun h=>by rw [(hch i hif).2 h] at hun';cases hun'
     have hfree:i ∈ freeRest ops fl done:=by
      unfold freeRest
      rw [List.mem_filter,List.mem_range]
      refine ⟨hi,?_⟩
      rw [hoi]
      simp only [Bool.and_eq_true,Bool.not_eq_true',Array.all_eq_true',Bool.or_eq_true]
      refine ⟨⟨?_,?_⟩,fun e he=>?_⟩
      · cases hc:fl.contains i with
        | false=>rfl
        | true=>exact absurd (List.contains_iff_mem.1 hc) hif
      · cases hc:done.contains i with
        | false=>rfl
        | true=>exact absurd (List.contains_iff_mem.1 hc) hnd
      · cases hb:Region.binds .any e with
        | false=>exact .inl (.inl rfl)
        | true =>
          by_cases hef:e.on ∈ fl
          · exact .inl (.inr (List.contains_iff_mem.2 hef))
          · exact .inr (List.contains_iff_mem.2 ((hch e.on hef).1 (hd e he hb)))
     cases m with
     | zero=>rw [hwp.1] at hfree;cases hfree
     | succ m =>
       have hop:=hwp.2 i hfree oi hoi
       have hlk:∀ d,d ∈ oi.looksAt ops→∀ j oj,ops[j]? = some oj→oj.dst=some d→((j ∈ fl∨j ∈ done)↔listed.getD j false=true):=fun d hdl j oj hj hdj=>by
        rcases hg.look hoi hj hdj hdl with ⟨h1,h2⟩ | ⟨h1,h2⟩
        · have hl:=waits_listed hoi hd h2
          refine ⟨fun _=>hl,fun _=>?_⟩
          by_cases hjf:j ∈ fl
          · exact .inl hjf
          · exact .inr ((hch j hjf).1 hl)
        · have hjf:j ∉ fl:=fun hjf=>by
           obtain ⟨o2,ho2,e,he,hb,hon⟩:=Region.waitsFor_spec h2
           rw [hj] at ho2;injection ho2 with ho2;subst ho2
           exact hif (hon ▸ hg.fle hj hjf e he hb)
          refine ⟨fun h=>?_,fun h=>?_⟩
          · rcases h with h | h
            · exact absurd h hjf
            · have h3:=waits_listed hj (fun e he hb=>hcl _ oj hj ((hch j hjf).2 h) e he hb) h2
              rw [hun'] at h3;cases h3
          · have h3:=waits_listed hj (fun e he hb=>hcl _ oj hj h e he hb) h2
            rw [hun'] at h3;cases h3
       have hev:=hfb.evals hfa (o:=oi) hlk
       have hwn:=hfb.wanted hfa (o:=oi) hlk
       unfold wpOp
       simp only [hoi]
       cases hwt:Region.wanted oi (yielded ops b.tmps) with
       | true =>
         rw [if_pos (hwn.trans hwt)]
         rw [if_pos hwt] at hop
         refine .inl (wp_move (execOp_congr oi (fun cs b=>hsel _ oi cs b hoi) hev) hop (fun v w'' hK=>?_) (fun _ _ hK=>hK.1))
         obtain ⟨_,hC',hrest⟩:=hK
         let val2:Nat→Value:=fun j=>if j=i then v else val' j
         have hv2:val2 i=v:=by simp [val2]
         have hv3:∀ j,j≠i→val' j=val2 j:=fun j hj=>by simp [val2,hj]
         have f1:=(hfb.revalue (val':=val2) fun j hj=>hv3 j (fun e=>by subst e;rcases hj with hj | hj;exact hif hj;exact hnd hj)).put' hdist hoi
         have f2:=(hfa.revalue (val':=val2) fun j hj=>hv3 j (fun e=>by rw [e,hun'] at hj;cases hj)).put' hdist hoi
         rw [hv2] at f1 f2
         refine ⟨by simpa using hs,m,i :: done,_,val2,fun j hj=>(hv j hj).trans (hv3 j (fun e=>hif (e ▸ hj))),fun j hj=>?_,fun j hj=>?_,hC',hrest,f1.congr fun j=>?_,f2.congr fun j=>(set_getD (by omega)).symm⟩
         · rcases List.mem_cons.1 hj with rfl | hj
           · exact hif
           · exact hdf j hj
         · rw [set_getD (by omega),List.mem_cons,hch j hj,or_comm]
         · rw [List.mem_cons,or_assoc]
           constructor
           · rintro (h | h | h)
             · exact .inl h
             · exact .inr (.inr h)
             · exact .inr (.inl h)
           · rintro (h | h | h)
             · exact .inl h
             · exact .inr (.inr h)
             · exact .inr (.inl h)
       | false =>
         rw [if_neg (by rw [hwn,hwt];simp)]
         rw [if_neg (by rw [hwt];simp)] at hop
         obtain ⟨hC',hrest⟩:=hop
         let val2:Nat→Value:=fun j=>if j=i then undef else val' j
         have hv2:val2 i=undef:=by simp [val2]
         have hv3:∀ j,j≠i→val' j=val2 j:=fun j hj=>by simp [val2,hj]
         have f1:=(hfb.revalue (val':=val2) fun j hj=>hv3 j (fun e=>by subst e;rcases hj with hj | hj;exact hif hj;exact hnd hj)).put' hdist hoi
         have f2:=(hfa.revalue (val':=val2) fun j hj=>hv3 j (fun e=>by rw [e,hun'] at hj;cases hj)).put' hdist hoi
         rw [hv2] at f1 f2
         refine ⟨by simpa using hs,m,i :: done,_,val2,fun j hj=>(hv j hj).trans (hv3 j (fun e=>hif (e ▸ hj))),fun j hj=>?_,fun j hj=>?_,hC',hrest,f1.congr fun j=>?_,f2.congr fun j=>(set_getD (by omega)).symm⟩
         · rcases List.mem_cons.1 hj with rfl | hj
           · exact hif
           · exact hdf j hj
         · rw [set_getD (by omega),List.mem_cons,hch j hj,or_comm]
         · rw [List.mem_cons,or_assoc]
           constructor
           · rintro (h | h | h)
             · exact .inl h
             · exact .inr (.inr h)
             · exact .inr (.inl h)
           · rintro (h | h | h)
             · exact .inl h
             · exact .inr (.inr h)
             · exact .inr (.inl h)
 · rintro listed a' w' ⟨hs,m,done,b,val',hv,hdf,hch,hCw,hwp,hfb,hfa⟩ hr
   have hall:∀ j,j<ops.size→listed.getD j false=true:=by
    intro j
    induction j using Nat.strongRecOn with
    | _ j ih =>
      intro hj
      cases hl:listed.getD j false with
      | true=>rfl
      | false =>
        exfalso
        obtain ⟨oj,hoj⟩:∃ oj,ops[j]? = some oj:=⟨_,Array.getElem?_eq_getElem hj⟩
        have:j ∈ Region.ready .any ops listed:=mem_ready.2 ⟨by simpa [show j<listed.size by omega] using hl,oj,hoj,fun e he hb=>by
         have h1:=hg.low hoj e he hb
         exact ih _ h1 (by omega)⟩
        rw [hr] at this;cases this
   have hnil:freeRest ops fl done=[]:=by
    unfold freeRest
    rw [List.filter_eq_nil_iff]
    intro j hj
    rw [List.mem_range] at hj
    by_cases hjf:j ∈ fl
    · simp [hjf]
    · have:=(hch j hjf).1 (hall j hj)
      simp [this]
   have hab:a'=b:=hfa.eq (hfb.congr fun j=>by
    constructor
    · intro h1
      rcases h1 with h1 | h1
      · exact hall j (hg.lt j h1)
      · exact (hch j (hdf j h1)).2 h1
    · intro h1
      by_cases hjf:j ∈ fl
      · exact .inl hjf
      · exact .inr ((hch j hjf).1 h1))
   rw [hab]
   cases m with
   | zero=>exact hwp.2
   | succ m=>exact hwp.1 hnil
 · refine ⟨by simp,n,[],b0,val,fun _ _=>rfl,fun j hj=>(by cases hj),fun j hj=>?_,fun _=>hC,e4,e3.congr fun j=>by simp,(FillSt.none ops val a).congr fun j=>⟨fun h=>h.elim,fun h=>?_⟩⟩
   · rw [getD_replicate_false];simp
   · rw [getD_replicate_false] at h;cases h
 · intro j oj _ hl
   rw [getD_replicate_false] at hl;cases hl
 · simp
section
variable {P : Program} {ops : Array Oper} {fl : List Nat} {C : World → Prop} {Q : Exit → Act → World → Prop} {n : Nat} {done : List Nat} {a : Act} {w : World}
end
end Go.Proofs.YtimahogkcmmcnaaGreatDoor
