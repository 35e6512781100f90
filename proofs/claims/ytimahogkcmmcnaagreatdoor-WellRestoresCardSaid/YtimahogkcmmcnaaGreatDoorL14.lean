/-
 A region that draws its order, walked in one order: what only reads is carried out as soon as it may be. No conditions but those stated.
-/
import Derived.Test.YtimahogkcmmcnaaGreatDoorL13
set_option linter.unusedSimpArgs false
set_option linter.unusedVariables false
namespace Go.Proofs.YtimahogkcmmcnaaGreatDoor
open Go.RowKit
def wpSeq (P:Program) (ops:Array Oper) (C:World→Prop) (Q:Exit→Act→World→Prop):Nat→List Nat→Act→World→Prop
 | 0,done,a,w=>freeRest ops [] done=[]∧Q .normal a w
 | n+1,done,a,w=>(freeRest ops [] done=[]→Q .normal a w)∧∀ i ∈ freeRest ops [] done,∀ o,ops[i]? = some o →
    if Region.wanted o (yielded ops a.tmps)=true then
     o.wp P a w (fun a' w'=>a'.defers=a.defers∧C w'∧wpSeq P ops C Q n (i :: done) a' w') NoOut
    else wpSeq P ops C Q n (i :: done) (a.put o.dst undef) w
theorem seq_game {P:Program} {ops:Array Oper} {C:World→Prop} {Q:Exit→Act→World→Prop}:∀ (n:Nat) (done:List Nat) (a:Act) (w:World),wpSeq P ops C Q n done a w→wpGameG P ops [] (fun _=>True) Q n done a w
 | 0,_,_,_,h=>h
 | n+1,done,a,w,h=>⟨h.1,fun i hi o ho=>by
    have h2:=h.2 i hi o ho
    split
    · rename_i hw
      rw [if_pos hw] at h2
      exact Oper.wp_mono (fun a' w' hk=>⟨hk.1,fun _=>trivial,seq_game n _ _ _ hk.2.2⟩) h2
    · rename_i hw
      rw [if_neg hw] at h2
      exact ⟨fun _=>trivial,seq_game n _ _ _ h2⟩⟩
theorem wp_region_seq {P:Program} {id:Nat} {Q:Exit→Act→World→Prop} {a:Act} {w:World} {l:List Oper} (n:Nat) (C:World→Prop) (hm:P.follows .mixedOrders=true) (hB:gameGB l.toArray []=true)
 (h:GameG l.toArray []→wpSeq P l.toArray C Q n [] a w.drew):(Code.region id l.toArray true).wp P Q a w :=
 wp_region_gameG [] n (fun _=>True) hm hB trivial (seq_game _ _ _ _ (h (gameG_of hB)))
section
variable {P : Program} {ops : Array Oper} {C : World → Prop} {Q : Exit → Act → World → Prop} {n : Nat} {done : List Nat} {a : Act} {w : World}
theorem mem_free {i:Nat} {o:Oper} (ho:ops[i]? = some o):i ∈ freeRest ops [] done↔i ∉ done∧∀ e ∈ o.after,Region.binds .any e=true→e.on ∈ done:=by
 have hi:i<ops.size:=(Array.getElem?_eq_some_iff.1 ho).1
 unfold freeRest
 rw [List.mem_filter,List.mem_range,ho]
 simp only [List.contains_nil,Bool.not_false,Bool.true_and,Bool.and_eq_true,Bool.not_eq_true',Array.all_eq_true',Bool.or_eq_true,Bool.or_false]
 constructor
 · rintro ⟨_,h1,h2⟩
   refine ⟨fun h=>(by rw [List.contains_iff_mem.2 h] at h1;cases h1),fun e he hb=>?_⟩
   rcases h2 e he with h | h
   · rw [hb] at h;cases h
   · exact List.contains_iff_mem.1 h
 · rintro ⟨h1,h2⟩
   refine ⟨hi,?_,fun e he=>?_⟩
   · cases hc:done.contains i with
     | false=>rfl
     | true=>exact absurd (List.contains_iff_mem.1 hc) h1
   · cases hb:Region.binds .any e with
     | false=>exact .inl rfl
     | true=>exact .inr (List.contains_iff_mem.2 (h2 e he hb))
theorem free_same {d1 d2:List Nat} (h:∀ x,x ∈ d1↔x ∈ d2):freeRest ops [] d1=freeRest ops [] d2:=by
 have hc:∀ x,d1.contains x=d2.contains x:=fun x=>by
  cases h1:d1.contains x <;> cases h2:d2.contains x
  · rfl
  · have:=(h x).2 (List.contains_iff_mem.1 h2);rw [List.contains_iff_mem.2 this] at h1;cases h1
  · have:=(h x).1 (List.contains_iff_mem.1 h1);rw [List.contains_iff_mem.2 this] at h2;cases h2
  · rfl
 unfold freeRest
 simp only [hc]
theorem seq_same:∀ (n:Nat) {d1 d2:List Nat} (a:Act) (w:World),(∀ x,x ∈ d1↔x ∈ d2)→wpSeq P ops C Q n d1 a w→wpSeq P ops C Q n d2 a w
 | 0,d1,d2,a,w,hs,h=>⟨by rw [← free_same hs];exact h.1,h.2⟩
 | n+1,d1,d2,a,w,hs,h=>⟨fun hf=>h.1 (by rw [free_same hs];exact hf),fun i hi o ho=>by
    have h2:=h.2 i (by rw [free_same hs];exact hi) o ho
    have hs2:∀ x,x ∈ i :: d1↔x ∈ i :: d2:=fun x=>by simp [hs x]
    split
    · rename_i hw
      rw [if_pos hw] at h2
      exact Oper.wp_mono (fun a' w' hk=>⟨hk.1,hk.2.1,seq_same n _ _ hs2 hk.2.2⟩) h2
    · rename_i hw
      rw [if_neg hw] at h2
      exact seq_same n _ _ hs2 h2⟩
def Reads (P:Program) (ops:Array Oper) (C:World→Prop) (o:Oper) (v:Value) (a:Act):Prop :=
 (Region.wanted o (yielded ops a.tmps)=true∧∀ W,C W→(execOp a.eval o).run P W=.ok (.value v) W)∨(Region.wanted o (yielded ops a.tmps)=false∧v=undef)
theorem seq_commit (hg:GameG ops []) {i:Nat} {o:Oper} (ho:ops[i]? = some o) {v:Value}:∀ (n:Nat) (done:List Nat) (a:Act) (w:World),C w→i ∈ freeRest ops [] done→Reads P ops C o v a →
 wpSeq P ops C Q n (i :: done) (a.put o.dst v) w→wpSeq P ops C Q (n+1) done a w:=by
 have hsel:=Region.noSelect_spec hg.sel
 intro n
 induction n with
 | zero =>
   intro done a w hC hi hr h
   refine ⟨fun hf=>(by rw [hf] at hi;cases hi),fun j hj oj hoj=>?_⟩
   by_cases e:j=i
   · subst e
     rw [ho] at hoj;injection hoj with hoj;subst hoj
     rcases hr with ⟨hw,hv⟩ | ⟨hw,rfl⟩
     · rw [if_pos hw]
       unfold Oper.wp
       rw [hv w hC,Oper.upon_value]
       exact ⟨by cases o.dst <;> rfl,hC,h⟩
     · rw [if_neg (by rw [hw];simp)]
       exact h
   · exfalso
     have h1:=(mem_free hoj).1 hj
     have:j ∈ freeRest ops [] (i :: done):=(mem_free hoj).2 ⟨by simp [e,h1.1],fun x hx hb=>List.mem_cons_of_mem _ (h1.2 x hx hb)⟩
     rw [h.1] at this;cases this
 | succ n ih =>
   intro done a w hC hi hr h
   refine ⟨fun hf=>(by rw [hf] at hi;cases hi),fun j hj oj hoj=>?_⟩
   by_cases e:j=i
   · subst e
     rw [ho] at hoj;injection hoj with hoj;subst hoj
     rcases hr with ⟨hw,hv⟩ | ⟨hw,rfl⟩
     · rw [if_pos hw]
       unfold Oper.wp
       rw [hv w hC,Oper.upon_value]
       exact ⟨by cases o.dst <;> rfl,hC,h⟩
     · rw [if_neg (by rw [hw];simp)]
       exact h
   · have h1:=(mem_free hoj).1 hj
     have h2:=(mem_free ho).1 hi
     have hj2:j ∈ freeRest ops [] (i :: done):=(mem_free hoj).2 ⟨by simp [e,h1.1],fun x hx hb=>List.mem_cons_of_mem _ (h1.2 x hx hb)⟩
     have hi2:i ∈ freeRest ops [] (j :: done):=(mem_free ho).2 ⟨by simp [Ne.symm e,h2.1],fun x hx hb=>List.mem_cons_of_mem _ (h2.2 x hx hb)⟩
     have wi:Region.waitsFor .any ops i j=true→False:=fun hw=>by
      obtain ⟨o2,ho2,x,hx,hb,hon⟩:=Region.waitsFor_spec hw
      rw [ho] at ho2;injection ho2 with ho2;subst ho2
      exact h1.1 (hon ▸ h2.2 x hx hb)
     have wj:Region.waitsFor .any ops j i=true→False:=fun hw=>by
      obtain ⟨o2,ho2,x,hx,hb,hon⟩:=Region.waitsFor_spec hw
      rw [hoj] at ho2;injection ho2 with ho2;subst ho2
      exact h2.1 (hon ▸ h1.2 x hx hb)
     have li:∀ d,oj.dst=some d→d ∉ o.looksAt ops:=fun d hd hl=>by
      rcases hg.look ho hoj hd hl with h | h
      · exact wi h.2
      · exact wj h.2
     have lj:∀ d,o.dst=some d→d ∉ oj.looksAt ops:=fun d hd hl=>by
      rcases hg.look hoj ho hd hl with h | h
      · exact wj h.2
      · exact wi h.2
     have hdd:∀ d,o.dst=some d→oj.dst≠some d:=fun d hd=>hg.dist hoj ho e hd
     have hop:=h.2 j hj2 oj hoj
     have hperm:∀ x,x ∈ j :: i :: done↔x ∈ i :: j :: done:=fun x=>by simp only [List.mem_cons];constructor <;> (rintro (h | h | h) <;> simp [h])
     have hrd:∀ u,Reads P ops C o v (a.put oj.dst u):=fun u=>by
      unfold Reads
      rw [wanted_put o a oj.dst u li,execOp_put o (fun cs b=>hsel i o cs b ho) a oj.dst u li]
      exact hr
     rw [wanted_put oj a o.dst v lj] at hop
     split
     · rename_i hw
       rw [if_pos hw] at hop
       refine wp_move (execOp_put oj (fun cs b=>hsel j oj cs b hoj) a o.dst v lj).symm hop (fun u w' hk=>?_) (fun a' w' hk=>hk.1)
       refine ⟨by cases oj.dst <;> rfl,hk.2.1,ih _ _ _ hk.2.1 hi2 (hrd u) ?_⟩
       have:=seq_same n _ _ hperm hk.2.2
       rwa [Act.put_comm a v u hdd] at this
     · rename_i hw
       rw [if_neg hw] at hop
       refine ih _ _ _ hC hi2 (hrd undef) ?_
       have:=seq_same n _ _ hperm hop
       rwa [Act.put_comm a v undef hdd] at this
theorem seq_read (hg:GameG ops []) {o:Oper} (i:Nat) (ho:ops[i]? = some o) (hf:(freeRest ops [] done).contains i=true) (hw:Region.wanted o (yielded ops a.tmps)=true) (hC:C w)
 (h:∀ K:Act→Prop,(∀ a',wpSeq P ops C Q n (i :: done) a' w→K a')→∃ v,(∀ W,C W→(execOp a.eval o).run P W=.ok (.value v) W)∧K (a.put o.dst v)):wpSeq P ops C Q (n+1) done a w:=by
 obtain ⟨v,h1,h2⟩:=h _ fun _ h=>h
 exact seq_commit hg ho n done a w hC (List.contains_iff_mem.1 hf) (.inl ⟨hw,h1⟩) h2
theorem seq_skip (hg:GameG ops []) {o:Oper} (i:Nat) (ho:ops[i]? = some o) (hf:(freeRest ops [] done).contains i=true) (hw:Region.wanted o (yielded ops a.tmps)=false) (hC:C w)
 (h:wpSeq P ops C Q n (i :: done) (a.put o.dst undef) w):wpSeq P ops C Q (n+1) done a w :=
 seq_commit hg ho n done a w hC (List.contains_iff_mem.1 hf) (.inr ⟨hw,rfl⟩) h
theorem seq_one {o:Oper} (i:Nat) (hf:freeRest ops [] done=[i]) (ho:ops[i]? = some o) (hw:Region.wanted o (yielded ops a.tmps)=true)
 (h:∀ K:Act→World→Prop,(∀ a' w',a'.defers=a.defers→C w'→wpSeq P ops C Q n (i :: done) a' w'→K a' w')→o.wp P a w K NoOut):wpSeq P ops C Q (n+1) done a w:=by
 refine ⟨fun h'=>(by rw [hf] at h';cases h'),fun j hj o' ho'=>?_⟩
 rw [hf,List.mem_singleton] at hj
 subst hj
 rw [ho] at ho';injection ho' with ho';subst ho'
 rw [if_pos hw]
 exact h _ fun a' w' h1 h2 h3=>⟨h1,h2,h3⟩
theorem seq_two {o1 o2:Oper} (i j:Nat) (hf:freeRest ops [] done=[i,j]) (ho1:ops[i]? = some o1) (ho2:ops[j]? = some o2) (hw1:Region.wanted o1 (yielded ops a.tmps)=true) (hw2:Region.wanted o2 (yielded ops a.tmps)=true)
 (h1:∀ K:Act→World→Prop,(∀ a' w',a'.defers=a.defers→C w'→wpSeq P ops C Q n (i :: done) a' w'→K a' w')→o1.wp P a w K NoOut)
 (h2:∀ K:Act→World→Prop,(∀ a' w',a'.defers=a.defers→C w'→wpSeq P ops C Q n (j :: done) a' w'→K a' w')→o2.wp P a w K NoOut):wpSeq P ops C Q (n+1) done a w:=by
 refine ⟨fun h'=>(by rw [hf] at h';cases h'),fun q hq o' ho'=>?_⟩
 rw [hf] at hq
 rcases List.mem_cons.1 hq with rfl | hq
 · rw [ho1] at ho';injection ho' with ho';subst ho'
   rw [if_pos hw1]
   exact h1 _ fun a' w' x1 x2 x3=>⟨x1,x2,x3⟩
 · rw [List.mem_singleton] at hq
   subst hq
   rw [ho2] at ho';injection ho' with ho';subst ho'
   rw [if_pos hw2]
   exact h2 _ fun a' w' x1 x2 x3=>⟨x1,x2,x3⟩
theorem seq_end (hf:freeRest ops [] done=[]) (h:Q .normal a w):wpSeq P ops C Q n done a w:=by
 cases n with
 | zero=>exact ⟨hf,h⟩
 | succ n=>exact ⟨fun _=>h,fun i hi=>(by rw [hf] at hi;cases hi)⟩
theorem seq_rd (hg:GameG ops []) {o:Oper} (i:Nat) (hC:C w)
 (h:∀ K:Act→Prop,(∀ a',wpSeq P ops C Q n (i :: done) a' w→K a')→∃ v,(∀ W,C W→(execOp a.eval o).run P W=.ok (.value v) W)∧K (a.put o.dst v))
 (ho:ops[i]? = some o:=by rfl) (hf:(freeRest ops [] done).contains i=true:=by kernel_rfl) (hw:Region.wanted o (yielded ops a.tmps)=true:=by first | rfl | (simp [Region.wanted,yielded];done)):wpSeq P ops C Q (n+1) done a w :=
 seq_read hg i ho hf hw hC h
theorem seq_on {o:Oper} (i:Nat)
 (h:∀ K:Act→World→Prop,(∀ a' w',a'.defers=a.defers→C w'→wpSeq P ops C Q n (i :: done) a' w'→K a' w')→o.wp P a w K NoOut)
 (ho:ops[i]? = some o:=by rfl) (hf:freeRest ops [] done=[i]:=by kernel_rfl) (hw:Region.wanted o (yielded ops a.tmps)=true:=by first | rfl | (simp [Region.wanted,yielded];done)):wpSeq P ops C Q (n+1) done a w :=
 seq_one i hf ho hw h
end
def wpOrd (P:Program) (ops:Array Oper) (C:World→Prop) (Q:Exit→Act→World→Prop) (L done:List Nat) (a:Act) (w:World):Prop:=wpSeq P ops C Q L.length done a w
theorem wp_region_ord {P:Program} {id:Nat} {Q:Exit→Act→World→Prop} {a:Act} {w:World} {l:List Oper} (L:List Nat) (C:World→Prop) (hm:P.follows .mixedOrders=true) (hB:gameGB l.toArray []=true)
 (h:GameG l.toArray []→wpOrd P l.toArray C Q L [] a w.drew):(Code.region id l.toArray true).wp P Q a w:=wp_region_seq L.length C hm hB h
section
variable {P : Program} {ops : Array Oper} {C : World → Prop} {Q : Exit → Act → World → Prop} {L done : List Nat} {a : Act} {w : World}
theorem ord_read (hg:GameG ops []) {o:Oper} {i:Nat} (ho:ops[i]? = some o) (hf:(freeRest ops [] done).contains i=true) (hw:Region.wanted o (yielded ops a.tmps)=true) (hC:C w)
 (h:∀ K:Act→Prop,(∀ a',wpOrd P ops C Q L (i :: done) a' w→K a')→∃ v,(∀ W,C W→(execOp a.eval o).run P W=.ok (.value v) W)∧K (a.put o.dst v)):wpOrd P ops C Q (i :: L) done a w :=
 seq_read (n:=L.length) hg i ho hf hw hC h
theorem ord_pass (hg:GameG ops []) {o:Oper} {i:Nat} (ho:ops[i]? = some o) (hf:(freeRest ops [] done).contains i=true) (hw:Region.wanted o (yielded ops a.tmps)=false) (hC:C w)
 (h:∀ K:Act→Prop,(∀ a',wpOrd P ops C Q L (i :: done) a' w→K a')→K (a.put o.dst undef)):wpOrd P ops C Q (i :: L) done a w :=
 seq_skip (n:=L.length) hg i ho hf hw hC (h _ fun _ h=>h)
theorem ord_one {o:Oper} {i:Nat} (hf:freeRest ops [] done=[i]) (ho:ops[i]? = some o) (hw:Region.wanted o (yielded ops a.tmps)=true)
 (h:∀ K:Act→World→Prop,(∀ a' w',a'.defers=a.defers→C w'→wpOrd P ops C Q L (i :: done) a' w'→K a' w')→o.wp P a w K NoOut):wpOrd P ops C Q (i :: L) done a w :=
 seq_one (n:=L.length) i hf ho hw h
theorem ord_end (hf:freeRest ops [] done=[]) (h:Q .normal a w):wpOrd P ops C Q [] done a w:=seq_end hf h
theorem ord_rd (hg:GameG ops []) {o:Oper} {i:Nat} (hC:C w)
 (h:∀ K:Act→Prop,(∀ a',wpOrd P ops C Q L (i :: done) a' w→K a')→∃ v,(∀ W,C W→(execOp a.eval o).run P W=.ok (.value v) W)∧K (a.put o.dst v))
 (ho:ops[i]? = some o:=by rfl) (hf:(freeRest ops [] done).contains i=true:=by kernel_rfl) (hw:Region.wanted o (yielded ops a.tmps)=true:=by first | rfl | (simp [Region.wanted,yielded];done)):wpOrd P ops C Q (i :: L) done a w :=
 ord_read hg ho hf hw hC h
theorem ord_on {o:Oper} {i:Nat}
 (h:∀ K:Act→World→Prop,(∀ a' w',a'.defers=a.defers→C w'→wpOrd P ops C Q L (i :: done) a' w'→K a' w')→o.wp P a w K NoOut)
 (ho:ops[i]? = some o:=by rfl) (hf:freeRest ops [] done=[i]:=by kernel_rfl) (hw:Region.wanted o (yielded ops a.tmps)=true:=by first | rfl | (simp [Region.wanted,yielded];done)):wpOrd P ops C Q (i :: L) done a w :=
 ord_one hf ho hw h
end
end Go.Proofs.YtimahogkcmmcnaaGreatDoor
