/-
 Regions that draw their order: some rules to walk them. No conditions beyond what each rule names: each holds of every program that has orders mixed.
-/
import Derived.Orders
import Derived.Still
import Derived.Deep.Draws
import Derived.Deep.Quiet
import Derived.WalkKit
import Derived.StillTail
import Derived.Test.YtimahogkcmmcnaaGreatDoorL02
import Derived.MapKept
import Derived.RangeFuncRecord
set_option linter.unusedSimpArgs false
set_option linter.unusedVariables false
namespace Go.Proofs.YtimahogkcmmcnaaGreatDoor
open Go.RowKit
theorem count_set {l:List Bool} {i:Nat} (h:l[i]? = some false):((l.set i true).filter (! ·)).length+1=(l.filter (! ·)).length:=by
 induction l generalizing i with
 | nil=>simp at h
 | cons b l ih =>
   cases i with
   | zero =>
     simp only [List.getElem?_cons_zero,Option.some.injEq] at h
     subst h
     simp
   | succ i =>
     simp only [List.getElem?_cons_succ] at h
     have:=ih h
     cases b <;> simp [List.set_cons_succ] <;> omega
def Closed (md:Region.Mode) (ops:Array Oper) (listed:Array Bool):Prop :=
 ∀ j o,ops[j]? = some o→listed.getD j false=true→∀ e ∈ o.after,Region.binds md e=true→listed.getD e.on false=true
theorem getD_set_true {listed:Array Bool} {i j:Nat} (h:listed.getD j false=true):(listed.setIfInBounds i true).getD j false=true:=by
 by_cases e:i=j
 · subst e
   rcases Nat.lt_or_ge i listed.size with h' | h'
   · simp [h']
   · simp [Array.getElem?_eq_none h'] at h
 · simpa [Array.getElem?_setIfInBounds,e] using h
theorem Closed.step {md:Region.Mode} {ops:Array Oper} {listed:Array Bool} {i:Nat} {o:Oper} (h:Closed md ops listed) (ho:ops[i]? = some o) (hd:∀ e ∈ o.after,Region.binds md e=true→listed.getD e.on false=true):Closed md ops (listed.setIfInBounds i true):=by
 intro j oj hj hl e he hb
 by_cases c:i=j
 · subst c
   rw [ho] at hj
   injection hj with hj
   subst hj
   exact getD_set_true (hd e he hb)
 · refine getD_set_true (h j oj hj ?_ e he hb)
   simpa [Array.getElem?_setIfInBounds,c] using hl
theorem wpAny_inv {P:Program} {md:Region.Mode} {ops:Array Oper} {Q:Exit→Act→World→Prop} (St:Array Bool→Act→World→Prop)
 (hstep:∀ listed a w i o,St listed a w→Closed md ops listed→ops[i]? = some o→listed.getD i true=false→(∀ e ∈ o.after,Region.binds md e=true→listed.getD e.on false=true) →
   wpOp P ops Q i (fun a' w'=>St (listed.setIfInBounds i true) a' w') a w)
 (hend:∀ listed a w,St listed a w→Region.ready md ops listed=[]→Q .normal a w) :
 ∀ (fuel:Nat) (listed:Array Bool) (a:Act) (w:World),St listed a w→Closed md ops listed→(listed.toList.filter (! ·)).length≤fuel→wpAny P md ops Q fuel listed a w:=by
 intro fuel
 induction fuel with
 | zero =>
   intro listed a w hs _ hc
   have hr:Region.ready md ops listed=[]:=by
    cases hr:Region.ready md ops listed with
    | nil=>rfl
    | cons j js =>
      exfalso
      have hj:j ∈ Region.ready md ops listed:=by rw [hr];exact List.mem_cons_self
      have h0:=(mem_ready.1 hj).1
      have hx:listed.toList[j]? = some false:=by
       rcases Nat.lt_or_ge j listed.size with h' | h'
       · simp [h'] at h0 ⊢;exact h0
       · simp [Array.getElem?_eq_none h'] at h0
      have:=count_set hx
      omega
   exact ⟨hr,hend _ _ _ hs hr⟩
 | succ fuel ih =>
   intro listed a w hs hcl hc
   refine ⟨fun hr=>hend _ _ _ hs hr,fun i hi=>?_⟩
   obtain ⟨h0,o,ho,hd⟩:=mem_ready.1 hi
   refine wpOp_mono (fun a' w' hs'=>ih _ a' w' hs' (hcl.step ho hd) ?_) (hstep _ _ _ _ _ hs hcl ho h0 hd)
   have hx:listed.toList[i]? = some false:=by
    rcases Nat.lt_or_ge i listed.size with h' | h'
    · simp [h'] at h0 ⊢;exact h0
    · simp [Array.getElem?_eq_none h'] at h0
   have:=count_set hx
   rw [Array.toList_setIfInBounds]
   omega
structure Mid (ops:Array Oper) (n:Nat):Prop where
 sel:Region.noSelect ops=true
 lt:n<ops.size
 grd:∀ {i:Nat} {o:Oper},ops[i]? = some o→o.guard=none
 low:∀ {i:Nat} {o:Oper},ops[i]? = some o→∀ e ∈ o.after,Region.binds .any e=true→e.on<i
 look:∀ {i j:Nat} {o oj:Oper} {d:Tmp},ops[i]? = some o→ops[j]? = some oj→oj.dst=some d→d ∈ o.looksAt ops→j<i∧Region.waitsFor .any ops i j=true
 dist:∀ {i j:Nat} {o oj:Oper} {d:Tmp},ops[i]? = some o→ops[j]? = some oj→i≠j→oj.dst=some d→o.dst≠some d
 sink:∀ {i:Nat},i<n→∃ j,i<j∧j≤n∧Region.waitsFor .any ops j i=true
 hang:∀ {i:Nat},n<i→i<ops.size→∃ j,n≤j∧j<i∧Region.waitsFor .any ops i j=true
structure FillSt (ops:Array Oper) (val:Nat→Value) (a:Act) (L:Nat→Prop) (a':Act):Prop where
 defers:a'.defers=a.defers
 size:a'.tmps.size=a.tmps.size
 old:∀ s,(∀ j oj,ops[j]? = some oj→L j→oj.dst≠some s)→a'.tmps[s]? = a.tmps[s]?
 new:∀ s j oj,ops[j]? = some oj→L j→oj.dst=some s→s<a.tmps.size→a'.tmps[s]? = some (val j)
section
variable {ops : Array Oper} {val : Nat → Value} {a a' a1 a2 : Act} {L L' : Nat → Prop} {n : Nat}
theorem FillSt.none (ops:Array Oper) (val:Nat→Value) (a:Act):FillSt ops val a (fun _=>False) a:=⟨rfl,rfl,fun _ _=>rfl,fun _ _ _ _ h=>h.elim⟩
theorem FillSt.congr (h:FillSt ops val a L a') (hl:∀ j,L j↔L' j):FillSt ops val a L' a' :=
 ⟨h.defers,h.size,fun s hs=>h.old s fun j oj ho hj=>hs j oj ho ((hl j).1 hj),fun s j oj ho hj=>h.new s j oj ho ((hl j).2 hj)⟩
theorem FillSt.put (hm:Mid ops n) (h:FillSt ops val a L a') {i:Nat} {oi:Oper} (hi:ops[i]? = some oi):FillSt ops val a (fun j=>L j∨j=i) (a'.put oi.dst (val i)):=by
 cases hd:oi.dst with
 | none =>
   refine ⟨h.defers,h.size,fun s hs=>h.old s fun j oj ho hj=>hs j oj ho (.inl hj),fun s j oj ho hj hds hlt=>?_⟩
   rcases hj with hj | rfl
   · exact h.new s j oj ho hj hds hlt
   · rw [hi] at ho;injection ho with ho;subst ho;rw [hd] at hds;cases hds
 | some d =>
   refine ⟨h.defers,by simpa [Act.put] using h.size,fun s hs=>?_,fun s j oj ho hj hds hlt=>?_⟩
   · have hne:d≠s:=fun e=>hs i oi hi (.inr rfl) (e ▸ hd)
     simp only [Act.put,Array.getElem?_setIfInBounds_ne hne]
     exact h.old s fun j oj ho hj=>hs j oj ho (.inl hj)
   · by_cases e:j=i
     · subst e
       rw [hi] at ho;injection ho with ho;subst ho
       rw [hd] at hds;injection hds with hds;subst hds
       have:d<a'.tmps.size:=by rw [h.size];exact hlt
       simp [Act.put,this]
     · have hj':=hj.resolve_right e
       have hne:d≠s:=fun e'=>hm.dist ho hi e hd (e' ▸ hds)
       simp only [Act.put,Array.getElem?_setIfInBounds_ne hne]
       exact h.new s j oj ho hj' hds hlt
theorem FillSt.get (h1:FillSt ops val a L a1) (h2:FillSt ops val a L' a2) {s:Nat} (hl:∀ j oj,ops[j]? = some oj→oj.dst=some s→(L j↔L' j)):a1.tmps[s]? = a2.tmps[s]? := by
 by_cases hx:∃ j oj,ops[j]? = some oj∧oj.dst=some s∧L j
 · obtain ⟨j,oj,ho,hd,hj⟩:=hx
   by_cases hs:s<a.tmps.size
   · rw [h1.new s j oj ho hj hd hs,h2.new s j oj ho ((hl j oj ho hd).1 hj) hd hs]
   · rw [Array.getElem?_eq_none (by rw [h1.size];omega),Array.getElem?_eq_none (by rw [h2.size];omega)]
 · rw [h1.old s fun j oj ho hj hd=>hx ⟨j,oj,ho,hd,hj⟩,h2.old s fun j oj ho hj hd=>hx ⟨j,oj,ho,hd,(hl j oj ho hd).2 hj⟩]
theorem FillSt.eq (h1:FillSt ops val a L a1) (h2:FillSt ops val a L a2):a1=a2:=by
 obtain ⟨t1,d1⟩:=a1
 obtain ⟨t2,d2⟩:=a2
 have hd:d1=d2:=h1.defers.trans h2.defers.symm
 have ht:t1=t2:=Array.ext_getElem? fun s=>h1.get h2 fun _ _ _ _=>Iff.rfl
 rw [hd,ht]
theorem FillSt.yields {P:Program} {w:World} {o:Oper} {v:Value} (h1:FillSt ops val a L a1) (h2:FillSt ops val a L' a2) (hg:o.guard=Option.none) (hsel:∀ cs b,o.op≠.select cs b)
 (hl:∀ d,d ∈ o.looksAt ops→∀ j oj,ops[j]? = some oj→oj.dst=some d→(L j↔L' j)) (hy:YieldsAt P ops w o v a1):YieldsAt P ops w o v a2:=by
 refine hy.of_same (execOp_congr o hsel fun x hx=>?_) (by simp [Region.wanted,hg])
 cases x with
 | tmp d =>
   have hd:d ∈ o.looksAt ops:=List.mem_append_left _ (List.mem_filterMap.2 ⟨.tmp d,by simpa using hx,rfl⟩)
   have:=h2.get h1 (s:=d) fun j oj ho hdd=>(hl d hd j oj ho hdd).symm
   simp [Act.eval,this]
 | _=>rfl
theorem waits_listed {listed:Array Bool} {i j:Nat} {o:Oper} (ho:ops[i]? = some o) (hd:∀ e ∈ o.after,Region.binds .any e=true→listed.getD e.on false=true) (hw:Region.waitsFor .any ops i j=true):listed.getD j false=true:=by
 obtain ⟨o',ho',e,he,hb,hon⟩:=Region.waitsFor_spec hw
 rw [ho] at ho';injection ho' with ho';subst ho'
 rw [← hon]
 exact hd e he hb
theorem set_getD {listed:Array Bool} {i j:Nat} (hi:i<listed.size):(listed.setIfInBounds i true).getD j false=true↔listed.getD j false=true∨j=i:=by
 by_cases e:i=j
 · subst e;simp [hi]
 · have e':¬ j=i:=fun h=>e h.symm
   simp [e,e']
end
def floatB (ops:Array Oper) (f c:Nat):Bool :=
 Region.noSelect ops && decide (f≤ops.size) &&
 (List.range ops.size).all fun i =>
   match ops[i]? with
   | none=>false
   | some o=>o.guard.isNone && (o.after.all fun e => !Region.binds .any e || decide (e.on<i)) &&
     ((List.range ops.size).all fun j =>
       match ops[j]? with
       | none=>false
       | some oj =>
         match oj.dst with
         | none=>true
         | some d=>(!(o.looksAt ops).contains d || (decide (j<i) && Region.waitsFor .any ops i j) || (decide (i<j) && Region.waitsFor .any ops j i)) && (decide (i=j) || o.dst != some d)) &&
     (decide (i≤f) || Region.waitsFor .any ops i (i - 1)) &&
     (decide (i≠f+c) || (List.range f).all fun j=>Region.waitsFor .any ops i j)
structure Float (ops:Array Oper) (f c:Nat):Prop where
 sel:Region.noSelect ops=true
 le:f≤ops.size
 grd:∀ {i:Nat} {o:Oper},ops[i]? = some o→o.guard=none
 low:∀ {i:Nat} {o:Oper},ops[i]? = some o→∀ e ∈ o.after,Region.binds .any e=true→e.on<i
 look:∀ {i j:Nat} {o oj:Oper} {d:Tmp},ops[i]? = some o→ops[j]? = some oj→oj.dst=some d→d ∈ o.looksAt ops→(j<i∧Region.waitsFor .any ops i j=true)∨(i<j∧Region.waitsFor .any ops j i=true)
 dist:∀ {i j:Nat} {o oj:Oper} {d:Tmp},ops[i]? = some o→ops[j]? = some oj→i≠j→oj.dst=some d→o.dst≠some d
 chain:∀ {i:Nat},f<i→i<ops.size→Region.waitsFor .any ops i (i - 1)=true
 gone:∀ {j:Nat},f+c<ops.size→j<f→Region.waitsFor .any ops (f+c) j=true
theorem float_of {ops:Array Oper} {f c:Nat} (h:floatB ops f c=true):Float ops f c:=by
 unfold floatB at h
 simp only [Bool.and_eq_true,decide_eq_true_eq,List.all_eq_true,List.mem_range] at h
 obtain ⟨⟨h1,h2⟩,h3⟩:=h
 have key:∀ {i:Nat} {o:Oper},ops[i]? = some o→((((o.guard.isNone=true∧(o.after.all fun e => !Region.binds .any e || decide (e.on<i))=true) ∧
  ∀ j,j<ops.size→(match ops[j]? with | none=>false | some oj=>match oj.dst with | none=>true | some d=>(!(o.looksAt ops).contains d || (decide (j<i) && Region.waitsFor .any ops i j) || (decide (i<j) && Region.waitsFor .any ops j i)) && (decide (i=j) || o.dst != some d))=true) ∧
  (decide (i≤f) || Region.waitsFor .any ops i (i - 1))=true) ∧
  (decide (i≠f+c) || (List.range f).all fun j=>Region.waitsFor .any ops i j)=true):=by
  intro i o ho
  have hi:i<ops.size:=(Array.getElem?_eq_some_iff.1 ho).1
  have:=h3 i hi
  rw [ho] at this
  simpa only [Bool.and_eq_true,List.all_eq_true,List.mem_range] using this
 have two:∀ {i j:Nat} {o oj:Oper} {d:Tmp},ops[i]? = some o→ops[j]? = some oj→oj.dst=some d→((!(o.looksAt ops).contains d || (decide (j<i) && Region.waitsFor .any ops i j) || (decide (i<j) && Region.waitsFor .any ops j i)) && (decide (i=j) || o.dst != some d))=true:=by
  intro i j o oj d ho hj hd
  have:=(key ho).1.1.2 j (Array.getElem?_eq_some_iff.1 hj).1
  rw [hj] at this
  simpa only [hd] using this
 refine ⟨h1,h2,fun ho=>?_,fun ho e he hb=>?_,fun ho hj hd hl=>?_,fun ho hj hij hd=>?_,fun {i} hi hs=>?_,fun {j} hs hj=>?_⟩
 · have:=(key ho).1.1.1.1
   simpa using this
 · have h4:=(key ho).1.1.1.2
   rw [Array.all_eq_true'] at h4
   have:=h4 e he
   rw [hb] at this
   simpa using this
 · have:=two ho hj hd
   simp only [Bool.and_eq_true,Bool.or_eq_true,decide_eq_true_eq] at this
   rcases this.1 with (h | h) | h
   · exfalso
     rw [List.contains_iff_mem.2 hl] at h
     cases h
   · exact .inl h
   · exact .inr h
 · have:=two ho hj hd
   simp only [Bool.and_eq_true,Bool.or_eq_true,decide_eq_true_eq] at this
   rcases this.2 with h | h
   · exact absurd h hij
   · simpa using h
 · obtain ⟨o,ho⟩:∃ o,ops[i]? = some o:=⟨_,Array.getElem?_eq_getElem hs⟩
   have:=(key ho).1.2
   simp only [Bool.or_eq_true,decide_eq_true_eq] at this
   rcases this with h | h
   · omega
   · exact h
 · obtain ⟨o,ho⟩:∃ o,ops[f+c]? = some o:=⟨_,Array.getElem?_eq_getElem hs⟩
   have:=(key ho).2
   simp only [Bool.or_eq_true,decide_eq_true_eq,List.all_eq_true,List.mem_range] at this
   rcases this with h | h
   · exact absurd rfl h
   · exact h j hj
theorem Float.dist' {ops:Array Oper} {f c:Nat} (h:Float ops f c):∀ {i j:Nat} {o oj:Oper} {d:Tmp},ops[i]? = some o→ops[j]? = some oj→i≠j→oj.dst=some d→o.dst≠some d:=fun a b c d=>h.dist a b c d
section
variable {P : Program} {ops : Array Oper} {val val' : Nat → Value} {a a' a1 a2 : Act} {L L' : Nat → Prop}
theorem FillSt.put' (hdist:∀ {i j:Nat} {o oj:Oper} {d:Tmp},ops[i]? = some o→ops[j]? = some oj→i≠j→oj.dst=some d→o.dst≠some d) (h:FillSt ops val a L a') {i:Nat} {oi:Oper} (hi:ops[i]? = some oi):FillSt ops val a (fun j=>L j∨j=i) (a'.put oi.dst (val i)):=by
 cases hd:oi.dst with
 | none =>
   refine ⟨h.defers,h.size,fun s hs=>h.old s fun j oj ho hj=>hs j oj ho (.inl hj),fun s j oj ho hj hds hlt=>?_⟩
   rcases hj with hj | rfl
   · exact h.new s j oj ho hj hds hlt
   · rw [hi] at ho;injection ho with ho;subst ho;rw [hd] at hds;cases hds
 | some d =>
   refine ⟨h.defers,by simpa [Act.put] using h.size,fun s hs=>?_,fun s j oj ho hj hds hlt=>?_⟩
   · have hne:d≠s:=fun e=>hs i oi hi (.inr rfl) (e ▸ hd)
     simp only [Act.put,Array.getElem?_setIfInBounds_ne hne]
     exact h.old s fun j oj ho hj=>hs j oj ho (.inl hj)
   · by_cases e:j=i
     · subst e
       rw [hi] at ho;injection ho with ho;subst ho
       rw [hd] at hds;injection hds with hds;subst hds
       have:d<a'.tmps.size:=by rw [h.size];exact hlt
       simp [Act.put,this]
     · have hj':=hj.resolve_right e
       have hne:d≠s:=fun e'=>hdist ho hi e hd (e' ▸ hds)
       simp only [Act.put,Array.getElem?_setIfInBounds_ne hne]
       exact h.new s j oj ho hj' hds hlt
theorem FillSt.revalue (h:FillSt ops val a L a') (hv:∀ j,L j→val j=val' j):FillSt ops val' a L a' :=
 ⟨h.defers,h.size,h.old,fun s j oj ho hj hd hs=>by rw [← hv j hj];exact h.new s j oj ho hj hd hs⟩
theorem FillSt.evals (h1:FillSt ops val a L a1) (h2:FillSt ops val a L' a2) {o:Oper} (hl:∀ d,d ∈ o.looksAt ops→∀ j oj,ops[j]? = some oj→oj.dst=some d→(L j↔L' j)):∀ x ∈ o.op.operands,a2.eval x=a1.eval x:=by
 intro x hx
 cases x with
 | tmp d =>
   have hd:d ∈ o.looksAt ops:=List.mem_append_left _ (List.mem_filterMap.2 ⟨.tmp d,by simpa using hx,rfl⟩)
   have:=h2.get h1 (s:=d) fun j oj ho hdd=>(hl d hd j oj ho hdd).symm
   simp [Act.eval,this]
 | _=>rfl
abbrev NoOut:Exit→Act→World→Prop:=fun _ _ _=>False
theorem wp_move {o:Oper} {b b':Act} {w:World} {K K':Act→World→Prop} {Q:Exit→Act→World→Prop} (he:execOp b'.eval o=execOp b.eval o) (h:o.wp P b w K NoOut) (hK:∀ v w',K (b.put o.dst v) w'→K' (b'.put o.dst v) w') (hd:∀ a w',K a w'→a.defers=b.defers):o.wp P b' w K' Q:=by
 unfold Oper.wp at *
 rw [he]
 generalize (execOp b.eval o).run P w=r at h
 cases r with
 | ok n w' =>
   cases n <;> simp only [Oper.upon] at h ⊢
   case value v=>exact hK _ _ h
   case skip=>exact hK _ _ h
   case defer d =>
    exfalso
    have:=hd _ _ h
    cases hdst:o.dst <;> simp [Act.put,hdst] at this
   case enter f args =>
    refine h.mono fun e w'' he'=>?_
    cases e with
    | returned v=>exact hK _ _ he'
    | panicked ch=>exact he'.elim
    | outgrown=>obtain ⟨_,_,hf⟩:=he';exact hf.elim
   case row row args=>exact h.mono fun v w'' hv=>hK _ _ hv
 | halt x w' =>
   cases x <;> simp only [Oper.upon] at h
   exact h.elim
def wpFloat (P:Program) (ops:Array Oper) (C:World→Prop) (Q:Act→Prop):List Oper→Act→Prop
 | [],a=>Q a
 | o :: rest,a=>∃ v,(∀ w,C w→(execOp a.eval o).run P w=.ok (.value v) w)∧wpFloat P ops C Q rest (a.put o.dst v)
def wpChain (P:Program) (C:World→Prop) (Q:Exit→Act→World→Prop):Nat→List Oper→Act→World→Prop
 | _,[],a,w=>Q .normal a w
 | c,o :: rest,a,w=>o.wp P a w (fun a' w'=>a'.defers=a.defers∧(0<c→C w')∧wpChain P C Q (c - 1) rest a' w') NoOut
theorem float_vals {C:World→Prop} {Q:Act→Prop}:∀ (l:List Oper) (k:Nat) (a:Act),(∀ j,j<l.length→l[j]? = ops[k+j]?)→wpFloat P ops C Q l a →
 ∃ (val:Nat→Value) (acts:Nat→Act),acts k=a∧(∀ j,k≤j→j<k+l.length→∃ o,ops[j]? = some o∧(∀ w,C w→(execOp (acts j).eval o).run P w=.ok (.value (val j)) w)∧acts (j+1)=(acts j).put o.dst (val j))∧Q (acts (k+l.length))
 | [],k,a,_,h=>⟨fun _=>undef,fun _=>a,rfl,fun j h1 h2=>by simp at h2;omega,h⟩
 | o :: l,k,a,hl,h=>by
   have h0:ops[k]? = some o:=by simpa using (hl 0 (by simp)).symm
   obtain ⟨v,hy,hK⟩:=h
   obtain ⟨val,acts,e1,e2,e3⟩:=float_vals l (k+1) _ (fun j hj=>by have:=hl (j+1) (by simp;omega);simpa [Nat.add_assoc,Nat.add_comm 1 j] using this) hK
   refine ⟨fun j=>if j=k then v else val j,fun j=>if j=k then a else acts j,by simp,fun j h1 h2=>?_,?_⟩
   · by_cases e:j=k
     · subst e
       refine ⟨o,h0,by simpa using hy,?_⟩
       have:¬ j+1=j:=by omega
       simp only [this,if_false,if_true]
       exact e1
     · obtain ⟨o',ho',hy',ha'⟩:=e2 j (by omega) (by simp at h2;omega)
       refine ⟨o',ho',by simpa [e] using hy',?_⟩
       have:¬ j+1=k:=by omega
       simp only [this,e,if_false]
       exact ha'
   · have:¬ k+(o :: l).length=k:=by simp
     simp only [this,if_false]
     have e4:k+(o :: l).length=k+1+l.length:=by simp;omega
     rw [e4]
     exact e3
theorem float_fill (hdist:∀ {i j:Nat} {o oj:Oper} {d:Tmp},ops[i]? = some o→ops[j]? = some oj→i≠j→oj.dst=some d→o.dst≠some d) {acts:Nat→Act} {m:Nat} {R:Nat→Oper→Prop} (ha:acts 0=a) (h:∀ j,j<m→∃ o,ops[j]? = some o∧R j o∧acts (j+1)=(acts j).put o.dst (val j)) :
 ∀ d,d≤m→FillSt ops val a (fun j=>j<d) (acts d):=by
 intro d
 induction d with
 | zero=>intro _;rw [ha];exact (FillSt.none ops val a).congr fun j=>by simp
 | succ d ih =>
   intro hd
   obtain ⟨o,ho,_,e⟩:=h d (by omega)
   have:=(ih (by omega)).put' hdist ho
   rw [← e] at this
   exact this.congr fun j=>by constructor <;> intro hj <;> omega
end
theorem wp_region_float {P:Program} {id:Nat} {Q:Exit→Act→World→Prop} {a:Act} {w:World} {l:List Oper} (f c:Nat) (C:World→Prop) (hm:P.follows .mixedOrders=true) (hB:floatB l.toArray f c=true) (hC:C w.drew)
 (h:wpFloat P l.toArray C (fun b=>wpChain P C Q c (l.drop f) b w.drew) (l.take f) a):(Code.region id l.toArray true).wp P Q a w:=by
 have hfl:=float_of hB
 have hle:f≤l.length:=by simpa using hfl.le
 generalize hops:l.toArray=ops at *
 have hsz:ops.size=l.length:=by rw [← hops];simp
 have htl:(l.take f).length=f:=by simp;omega
 have hel:∀ j:Nat,l[j]? = ops[j]? := fun j=>by rw [← hops];simp
 obtain ⟨val,acts,e1,e2,e3⟩:=float_vals (ops:=ops) (l.take f) 0 a (fun j hj=>by
  rw [htl] at hj
  rw [List.getElem?_take_of_lt hj,Nat.zero_add]
  exact hel j) h
 rw [htl,Nat.zero_add] at e3
 simp only [htl,Nat.zero_add,Nat.zero_le,true_imp_iff] at e2
 have hfill:=fun (val':Nat→Value) (hv:∀ j,j<f→val j=val' j) (d:Nat) (hd:d≤f)=>((float_fill hfl.dist' e1 e2) d hd).revalue (val':=val') fun j hj=>hv j (by omega)
 have hsel:=Region.noSelect_spec hfl.sel
 -- what has been carried out: some floats,t of the chain
 let St:Array Bool→Act→World→Prop:=fun listed a' w'=>listed.size=ops.size∧∃ (t:Nat) (b:Act) (val':Nat→Value),f+t≤ops.size∧(∀ j,j<f→val j=val' j)∧(∀ j,f≤j→(listed.getD j false=true↔j<f+t)) ∧
  (t≤c→C w')∧wpChain P C Q (c - t) (l.drop (f+t)) b w'∧FillSt ops val' a (fun j=>j<f+t) b∧FillSt ops val' a (fun j=>listed.getD j false=true) a'
 refine wp_region_any hm (wpAny_inv St ?_ ?_ _ _ _ _ ?_ ?_ ?_)
 · rintro listed a' w' i oi ⟨hs,t,b,val',ht,hv,hch,hCw,hwp,hfb,hfa⟩ hcl hoi hun hd
   have hi:i<ops.size:=(Array.getElem?_eq_some_iff.1 hoi).1
   have hun':listed.getD i false=false:=by
    simp [show i<listed.size by omega] at hun ⊢;exact hun
   rcases Nat.lt_or_ge i f with hif | hif
   · -- a float
     have htc:t≤c:=by
      rcases Nat.lt_or_ge c t with h' | h'
      · exfalso
        have hfc:f+c<ops.size:=by omega
        obtain ⟨oc,hoc⟩:∃ oc,ops[f+c]? = some oc:=⟨_,Array.getElem?_eq_getElem hfc⟩
        have h1:=(hch (f+c) (by omega)).2 (by omega)
        have h2:=waits_listed hoc (fun e he hb=>hcl _ oc hoc h1 e he hb) (hfl.gone hfc hif)
        rw [hun'] at h2;cases h2
      · exact h'
     obtain ⟨o',ho',hy,_⟩:=e2 i hif
     rw [hoi] at ho';injection ho' with ho';subst ho'
     have hev:=(hfill val' hv i (by omega)).evals hfa (o:=oi) (fun d hdl j oj hj hdj=>by
      rcases hfl.look hoi hj hdj hdl with ⟨h1,h2⟩ | ⟨h1,h2⟩
      · exact ⟨fun _=>waits_listed hoi hd h2,fun _=>h1⟩
      · refine ⟨fun h=>by omega,fun h=>?_⟩
        have h3:=waits_listed hj (fun e he hb=>hcl _ oj hj h e he hb) h2
        rw [hun'] at h3;cases h3)
     have hrun:(execOp a'.eval oi).run P w'=.ok (.value (val' i)) w':=by
      rw [execOp_congr oi (fun cs b=>hsel i oi cs b hoi) hev,← hv i hif]
      exact hy w' (hCw htc)
     unfold wpOp
     simp only [hoi]
     have hwt:Region.wanted oi (yielded ops a'.tmps)=true:=by simp [Region.wanted,hfl.grd hoi]
     rw [if_pos hwt]
     refine .inl ?_
     unfold Oper.wp
     rw [hrun,Oper.upon_value]
     refine ⟨by simpa using hs,t,b,val',ht,hv,fun j hj=>?_,hCw,hwp,hfb,(hfa.put' hfl.dist' hoi).congr fun j=>(set_getD (by omega)).symm⟩
     rw [set_getD (by omega)]
     have:=hch j hj
     constructor
     · rintro (h1 | h1)
       · exact this.1 h1
       · omega
     · intro h1;exact .inl (this.2 h1)
   · -- the chain's next
     have hit:i=f+t:=by
      have h1:=hch i hif
      rw [hun'] at h1
      have hge:f+t≤i:=by
       rcases Nat.lt_or_ge i (f+t) with h' | h'
       · exact absurd (h1.2 h') (by simp)
       · exact h'
      rcases Nat.lt_or_ge (f+t) i with h' | h'
      · exfalso
        have h2:=waits_listed hoi hd (hfl.chain (by omega) hi)
        have h3:=(hch (i - 1) (by omega)).1 h2
        omega
      · omega
     subst hit
     have hdrop:l.drop (f+t)=oi :: l.drop (f+t+1):=by
      have h1:l[f+t]? = some oi:=(hel _).trans hoi
      obtain ⟨h2,h3⟩:=List.getElem?_eq_some_iff.1 h1
      rw [List.drop_eq_getElem_cons h2,h3]
     rw [hdrop] at hwp
     have hev:=hfb.evals hfa (o:=oi) (fun d hdl j oj hj hdj=>by
      rcases hfl.look hoi hj hdj hdl with ⟨h1,h2⟩ | ⟨h1,h2⟩
      · exact ⟨fun _=>waits_listed hoi hd h2,fun _=>h1⟩
      · refine ⟨fun h=>by omega,fun h=>?_⟩
        have h3:=waits_listed hj (fun e he hb=>hcl _ oj hj h e he hb) h2
        rw [hun'] at h3;cases h3)
     unfold wpOp
     simp only [hoi]
     have hwt:Region.wanted oi (yielded ops a'.tmps)=true:=by simp [Region.wanted,hfl.grd hoi]
     rw [if_pos hwt]
     refine .inl (wp_move (execOp_congr oi (fun cs b=>hsel _ oi cs b hoi) hev) hwp (fun v w'' hK=>?_) (fun _ _ hK=>hK.1))
     obtain ⟨_,hC',hrest⟩:=hK
     let val2:Nat→Value:=fun j=>if j=f+t then v else val' j
     have hv2:val2 (f+t)=v:=by simp [val2]
     have hv3:∀ j,j≠f+t→val' j=val2 j:=fun j hj=>by simp [val2,hj]
     have f1:=(hfb.revalue (val':=val2) fun j hj=>hv3 j (by omega)).put' hfl.dist' hoi
     have f2:=(hfa.revalue (val':=val2) fun j hj=>hv3 j (fun e=>by rw [e,hun'] at hj;cases hj)).put' hfl.dist' hoi
     rw [hv2] at f1 f2
     refine ⟨by simpa using hs,t+1,_,val2,by omega,fun j hj=>(hv j hj).trans (hv3 j (by omega)),fun j hj=>?_,fun htc=>hC' (by omega),?_,f1.congr fun j=>by omega,f2.congr fun j=>(set_getD (by omega)).symm⟩
     · rw [set_getD (by omega)]
       have:=hch j hj
       constructor
       · rintro (h1 | h1)
         · have:=this.1 h1;omega
         · omega
       · intro h1
         rcases Nat.lt_or_ge j (f+t) with h' | h'
         · exact .inl (this.2 h')
         · exact .inr (by omega)
     · rw [show c - (t+1)=c - t - 1 by omega,show f+(t+1)=f+t+1 by omega]
       exact hrest
 · rintro listed a' w' ⟨hs,t,b,val',ht,hv,hch,hCw,hwp,hfb,hfa⟩ hr
   have hall:∀ j,j<ops.size→listed.getD j false=true:=by
    intro j
    induction j using Nat.strongRecOn with
    | _ j ih =>
      intro hj
      cases hl:listed.getD j false with
      | true=>rfl
      | false =>
        exfalso
        obtain ⟨oj,hoj⟩:∃ oj,ops[j]? = some oj:=⟨_,Array.getElem?_eq_getElem hj⟩
        have:j ∈ Region.ready .any ops listed:=mem_ready.2 ⟨by simpa [show j<listed.size by omega] using hl,oj,hoj,fun e he hb=>by
         have h1:=hfl.low hoj e he hb
         exact ih _ h1 (by omega)⟩
        rw [hr] at this;cases this
   have hte:f+t=ops.size:=by
    rcases Nat.lt_or_ge (f+t) ops.size with h' | h'
    · have:=(hch (f+t) (by omega)).1 (hall _ h');omega
    · omega
   have hab:a'=b:=hfa.eq (hfb.congr fun j=>by
    constructor
    · intro h1;exact hall j (by omega)
    · intro h1
      rcases Nat.lt_or_ge j ops.size with h' | h'
      · omega
      · simp [Array.getElem?_eq_none (show listed.size≤j by omega)] at h1)
   have hnil:l.drop (f+t)=[]:=List.drop_of_length_le (by omega)
   rw [hnil] at hwp
   rw [hab]
   exact hwp
 · refine ⟨by simp,0,acts f,val,by omega,fun _ _=>rfl,fun j hj=>?_,fun _=>hC,by simpa using e3,hfill val (fun _ _=>rfl) f (Nat.le_refl _),(FillSt.none ops val a).congr fun j=>⟨fun h=>h.elim,fun h=>?_⟩⟩
   · rw [getD_replicate_false]
     constructor
     · intro h;cases h
     · intro h;omega
   · rw [getD_replicate_false] at h;cases h
 · intro j oj _ hl
   rw [getD_replicate_false] at hl;cases hl
 · simp
theorem wpFloat_ex {P:Program} {ops:Array Oper} {C:World→Prop} {Q:Act→Prop} {o:Oper} {rest:List Oper} {a:Act}
 (h:∀ K:Act→Prop,(∀ a',wpFloat P ops C Q rest a'→K a')→∃ v,(∀ w,C w→(execOp a.eval o).run P w=.ok (.value v) w)∧K (a.put o.dst v)):wpFloat P ops C Q (o :: rest) a:=h _ fun _ h=>h
theorem wpFloat_nil {P:Program} {ops:Array Oper} {C:World→Prop} {Q:Act→Prop} {a:Act} (h:Q a):wpFloat P ops C Q [] a:=h
theorem wpChain_nil {P:Program} {C:World→Prop} {Q:Exit→Act→World→Prop} {c:Nat} {a:Act} {w:World} (h:Q .normal a w):wpChain P C Q c [] a w:=h
theorem wpChain_step {P:Program} {C:World→Prop} {Q:Exit→Act→World→Prop} {c:Nat} {o:Oper} {rest:List Oper} {a:Act} {w:World}
 (h:∀ K:Act→World→Prop,(∀ a' w',a'.defers=a.defers→(0<c→C w')→wpChain P C Q (c - 1) rest a' w'→K a' w')→o.wp P a w K NoOut):wpChain P C Q c (o :: rest) a w :=
 h _ fun _ _ h1 h2 h3=>⟨h1,h2,h3⟩
section
variable {P : Program} {ops : Array Oper} {val val' : Nat → Value} {a a' a1 a2 : Act} {L L' : Nat → Prop}
end
end Go.Proofs.YtimahogkcmmcnaaGreatDoor
namespace Go.Proofs.YtimahogkcmmcnaaGreatDoor
open Go.RowKit Go.Proofs.YtimahogkcmmcnaaGreatDoor.Cmps
theorem drop_cons {α:Type} {l:List α} {k:Nat} (h:k<l.length):l.drop k=l[k] :: l.drop (k+1):=List.drop_eq_getElem_cons h
theorem cmpRow_hit {a b:List Val} {k:Nat} (ha:k<a.length) (hb:k<b.length) (h:(cmpVal a[k] b[k] != 0)=true):cmpRow (a.drop k) (b.drop k)=cmpVal a[k] b[k]:=by
 rw [drop_cons ha,drop_cons hb,cmpRow,orI,if_pos h]
theorem cmpRow_miss {a b:List Val} {k:Nat} (ha:k<a.length) (hb:k<b.length) (h:(cmpVal a[k] b[k] != 0)=false):cmpRow (a.drop (k+1)) (b.drop (k+1))=cmpRow (a.drop k) (b.drop k):=by
 rw [drop_cons ha,drop_cons hb,cmpRow,orI,if_neg (by simp [h])]
theorem cmpRow_end {a b:List Val} {k:Nat} (hk:k≤a.length) (hk':k≤b.length) (h:¬ (k<a.length∧k<b.length)):cmpRow (a.drop k) (b.drop k)=if a.length<b.length then -1 else if b.length<a.length then 1 else 0:=by
 by_cases ha:k<a.length
 · have hb:k=b.length:=by omega
   subst hb
   rw [drop_cons ha,List.drop_length,cmpRow,if_neg (by omega),if_pos ha]
 · have hb:k=a.length:=by omega
   subst hb
   by_cases hb:a.length<b.length
   · rw [List.drop_length,drop_cons hb,cmpRow,if_pos hb]
   · have e:a.length=b.length:=by omega
     rw [List.drop_length,e,List.drop_length,cmpRow,if_neg (by omega),if_neg (by omega)]
section leaves
set_option maxHeartbeats 400000
set_option maxRecDepth 10000
end leaves
def EvtsAt (w:World) (D:Nat→Prop) (v:Value) (l:List Evt):Prop :=
 ∃ a cap,v=.slice a l.length cap∧l.length≤9223372036854775807∧(l=[]∨∃ b off,a=some ⟨b,off,none⟩∧D b∧∀ i,(h:i<l.length) →
  w.cell? ⟨b,off+i * 2,none⟩=some (.int .i64 l[i].t)∧∃ r,w.cell? ⟨b,off+i * 2+1,none⟩=some r∧RowAt w D r l[i].r)
theorem cell_keep {w w':World} {b:Nat} (h:w'.heap[b]? = w.heap[b]?) (o:Nat):w'.cell? ⟨b,o,none⟩=w.cell? ⟨b,o,none⟩:=World.cell?_of_block (a:=⟨b,o,none⟩) h
theorem cell_lt {w:World} {b o:Nat} {v:Value} (h:w.cell? ⟨b,o,none⟩=some v):b<w.heap.size:=World.block_lt_of_cell? w ⟨b,o,none⟩ h
theorem EvtsAt.keep {w w':World} {D:Nat→Prop} {v:Value} {l:List Evt} (h:EvtsAt w D v l) (hk:∀ b,D b→b<w.heap.size→w'.heap[b]? = w.heap[b]?):EvtsAt w' D v l:=by
 obtain ⟨a,cap,rfl,hl,hx⟩:=h
 refine ⟨a,cap,rfl,hl,?_⟩
 rcases hx with rfl | ⟨b,off,rfl,hb,hc⟩
 · exact .inl rfl
 · refine .inr ⟨b,off,rfl,hb,fun i hi=>?_⟩
   obtain ⟨h0,r,h1,hr⟩:=hc i hi
   have hh:=hk b hb (cell_lt h0)
   exact ⟨by rw [cell_keep hh];exact h0,r,by rw [cell_keep hh];exact h1,hr.keep hk⟩
theorem EvtsAt.below {w w':World} {D:Nat→Prop} {v:Value} {l:List Evt} (h:EvtsAt w D v l) (hb:Below w.heap.size w w'):EvtsAt w' D v l :=
 h.keep fun b _ hlt=>hb.block b hlt
theorem two_new (W:World) (x y:Value) (t:TypeId) :
 (W.alloc (.cells #[x,y] t)).cell? ⟨W.heap.size,0,none⟩=some x∧(W.alloc (.cells #[x,y] t)).cell? ⟨W.heap.size,1,none⟩=some y:=by
 constructor <;> simp
section leaves
set_option maxHeartbeats 1000000
set_option maxRecDepth 10000
end leaves
def SchemaAt (w:World) (D:Nat→Prop) (v:Value) (l:List Col):Prop :=
 ∃ a cap,v=.slice a l.length cap∧l.length≤cap∧l.length≤9223372036854775807∧(∀ c ∈ l,c.n.size≤9223372036854775807)∧(l=[]∨∃ b off,a=some ⟨b,off,none⟩∧D b∧∀ i,(h:i<l.length) →
  w.cell? ⟨b,off+i * 2,none⟩=some (.string l[i].n)∧w.cell? ⟨b,off+i * 2+1,none⟩=some (.int .i64 l[i].k))
theorem SchemaAt.keep {w w':World} {D:Nat→Prop} {v:Value} {l:List Col} (h:SchemaAt w D v l) (hk:∀ b,D b→b<w.heap.size→w'.heap[b]? = w.heap[b]?):SchemaAt w' D v l:=by
 obtain ⟨a,cap,rfl,hc,hl,hn,hx⟩:=h
 refine ⟨a,cap,rfl,hc,hl,hn,?_⟩
 rcases hx with rfl | ⟨b,off,rfl,hb,hc⟩
 · exact .inl rfl
 · refine .inr ⟨b,off,rfl,hb,fun i hi=>?_⟩
   obtain ⟨h0,h1⟩:=hc i hi
   have hh:=hk b hb (cell_lt h0)
   exact ⟨by rw [cell_keep hh];exact h0,by rw [cell_keep hh];exact h1⟩
theorem SchemaAt.below {w w':World} {D:Nat→Prop} {v:Value} {l:List Col} (h:SchemaAt w D v l) (hb:Below w.heap.size w w'):SchemaAt w' D v l :=
 h.keep fun b _ hlt=>hb.block b hlt
theorem SchemaAt.pre {w:World} {D:Nat→Prop} {v:Value} {l:List Col} (h:SchemaAt w D v l) {a:Option Addr} {n cap:Nat} (e:v=.slice a n cap) (k:Nat) (hk:k≤l.length):SchemaAt w D (.slice a k cap) (l.take k):=by
 obtain ⟨a',cap',rfl,hc,hl,hn,hx⟩:=h
 cases e
 have hlen:(l.take k).length=k:=by simp;omega
 refine ⟨a,cap,by rw [hlen],by omega,by omega,fun c hc=>hn c (List.mem_of_mem_take hc),?_⟩
 rcases hx with rfl | ⟨b,off,rfl,hb,hc⟩
 · exact .inl (by simp)
 · refine .inr ⟨b,off,rfl,hb,fun i hi=>?_⟩
   rw [List.getElem_take]
   exact hc i (by omega)
def atS (l:List Col) (n:ByteArray):Int:=match l.findIdx? (fun c=>eqS c.n n) with | some i=>i | none => -1
theorem atS_hit {l:List Col} {n:ByteArray} {k:Nat} (hk:k<l.length) (hb:eqS l[k].n n=true) (h:∀ j (h:j<l.length),j<k→eqS l[j].n n=false):atS l n=k:=by
 have:l.findIdx? (fun c=>eqS c.n n)=some k:=by
  rw [List.findIdx?_eq_some_iff_getElem]
  exact ⟨hk,hb,fun j hj=>by simp [h j (by omega) hj]⟩
 simp [atS,this]
theorem atS_none {l:List Col} {n:ByteArray} (h:∀ j (h:j<l.length),eqS l[j].n n=false):atS l n = -1:=by
 have:l.findIdx? (fun c=>eqS c.n n)=none:=by
  rw [List.findIdx?_eq_none_iff]
  intro x hx
  obtain ⟨i,hi,rfl⟩:=List.mem_iff_getElem.1 hx
  exact h i hi
 simp [atS,this]
theorem atS_has (l:List Col) (n:ByteArray):decide (0≤atS l n)=hasS (l.map Col.n) n:=by
 unfold atS hasS
 cases h:l.findIdx? (fun c=>eqS c.n n) with
 | none =>
   rw [List.findIdx?_eq_none_iff] at h
   have:(l.map Col.n).any (fun x=>eqS x n)=false:=by
    rw [List.any_eq_false]
    intro x hx
    obtain ⟨c,hc,rfl⟩:=List.mem_map.1 hx
    simpa using h c hc
   simp only [this];decide
 | some i =>
   rw [List.findIdx?_eq_some_iff_getElem] at h
   obtain ⟨hi,hb,_⟩:=h
   have:(l.map Col.n).any (fun x=>eqS x n)=true:=by
    rw [List.any_eq_true];exact ⟨_,List.mem_map.2 ⟨l[i],List.getElem_mem hi,rfl⟩,hb⟩
   simp only [this];simp
section leaves
set_option maxHeartbeats 400000
set_option maxRecDepth 10000
theorem f114_any (w:World) (D:Nat→Prop) (v:Value) (l:List Col) (nm:ByteArray) (h:SchemaAt w D v l) :
 Calls Tryz.prog 114 #[v,.string nm] w fun e w'=>e=.returned (.int .i64 (atS l nm))∧w=w':=by
 obtain ⟨a,cap,rfl,hc0,hl,hn,hx⟩:=h
 go_enter Tryz.func114,Tryz.ntmps114
 go_wp2
 go_loopw [5] (fun i wr=>∃ k:Nat,k≤l.length∧i=.int .i64 k∧Hid (∀ j (h:j<l.length),j<k→eqS l[j].n nm=false)∧w=wr) (fun i _=>l.length - (intOf i).toNat)
 case atStart=>exact ⟨0,by omega,rfl,Lib.hid (by omega),rfl⟩
 case round =>
  obtain ⟨k,hk,rfl,hv,rfl⟩:=hrel
  by_cases hlt:k<l.length
  · rcases hx with rfl | ⟨b,off,rfl,hD,hc⟩
    · simp at hlt
    obtain ⟨x0,x1⟩:=hc k hlt
    clear hc
    go_wp2
    · rename_i he
      go_ret
      exact ⟨ret_int (atS_hit hlt he (fun j hj hjk=>hv.out j hj hjk)).symm,rfl⟩
    · rename_i he
      go_roundw
      case rel =>
       refine ⟨k+1,by omega,by go_num,Lib.hid fun j hj hjk=>?_,trivial⟩
       by_cases e:j=k
       · subst e;exact he
       · exact hv.out j hj (by omega)
      case measure=>simp [intOf];omega
  · go_wp2
    go_ret
    exact ⟨ret_int (atS_none (fun j hj=>hv.out j hj (by omega))).symm,rfl⟩
end leaves
def SEnts (es:List MapEntry) (l:List ByteArray):Prop:=es.map (fun e=>(e.key,e.val))=l.map fun n=>(Value.string n,Value.bool true)
theorem findNow_str:∀ {es:List MapEntry} {l:List ByteArray},SEnts es l→∀ (n:ByteArray) (i:Nat),∃ r,Instr.findNow .string (.string n) es i=some r∧r.isSome=hasS l n∧∀ x,r=some x→x.2=.bool true
 | [],[],_,n,i=>⟨none,rfl,rfl,fun x h=>by cases h⟩
 | [],_ :: _,h,_,_=>by cases h
 | _ :: _,[],h,_,_=>by cases h
 | e :: es,p :: l,h,n,i=>by
   simp only [SEnts,List.map_cons,List.cons.injEq,Prod.mk.injEq] at h
   obtain ⟨⟨h1,h2⟩,h3⟩:=h
   obtain ⟨r,hr,hs,hx⟩:=findNow_str (es:=es) (l:=l) h3 n (i+1)
   have e1:Instr.sameNow .string (.string n) e.key=some (eqS p n):=by rw [h1,eqS_comm,← eqS_beq];rfl
   cases hq:eqS p n
   · refine ⟨r,?_,?_,hx⟩
     · rw [Instr.findNow,e1,hq];exact hr
     · rw [hs];simp [hasS,hq]
   · refine ⟨some (i,e.val),?_,?_,?_⟩
     · rw [Instr.findNow,e1,hq]
     · simp [hasS,hq]
     · rintro x ⟨⟩;exact h2
theorem lookup_str (W:World) (r clock:Nat) (n:ByteArray) {es:Array MapEntry} {l:List ByteArray} (he:SEnts es.toList l) (h:W.heap[r]? = some (.map es clock)) :
 (Instr.lookup 177 (.map (some r)) (.string n) false).run Tryz.prog W=.ok (.bool (hasS l n)) W:=by
 have hz:∀ w,(zeroValue 4).run Tryz.prog w=.ok (.bool false) w:=fun w=>by kernel_rfl
 have u:=Tryz.underlying177
 have u9:=Tryz.underlying9
 have ho:(getObj r).run Tryz.prog W=.ok (.map es clock) W:=by simp [getObj,Sem.run,h]
 have hck:∀ e m,(Instr.checkKey e (m+1) 9 (.string n)).run Tryz.prog W=.ok () W:=fun e m=>MapKept.run_checkKey u9 (by simp [MapKept.IsKey]) e m
 obtain ⟨q,hq,hs,hx⟩:=findNow_str he n 0
 have hf:(Instr.findKey 9 (.string n) es.toList).run Tryz.prog W=.ok q W:=by simp [Instr.findKey,run_underlying u9,hq]
 cases q with
 | none=>simp only [Option.isSome_none] at hs;simp [Instr.lookup,run_underlying u,ho,hck,hf,hz,← hs]
 | some x=>simp only [Option.isSome_some] at hs;simp [Instr.lookup,run_underlying u,ho,hck,hf,← hs,hx x rfl]
theorem store_str (W:World) (r clock:Nat) (n:ByteArray) {es:Array MapEntry} {l:List ByteArray} (he:SEnts es.toList l) (h:W.heap[r]? = some (.map es clock)) (hk:hasS l n=false) :
 (Instr.mapUpdate 177 (.map (some r)) (.string n) (.bool true)).run Tryz.prog W=.ok () (W.putObj r (.map (es.push { key:=.string n,val:=.bool true,born:=clock }) (clock+1))):=by
 have u:=Tryz.underlying177
 have u9:=Tryz.underlying9
 have ho:(getObj r).run Tryz.prog W=.ok (.map es clock) W:=by simp [getObj,Sem.run,h]
 have hs:∀ o,(setObj r o).run Tryz.prog W=.ok () (W.putObj r o):=fun o=>by simp [setObj,Sem.run,World.putObj,h]
 have hck:∀ e m,(Instr.checkKey e (m+1) 9 (.string n)).run Tryz.prog W=.ok () W:=fun e m=>MapKept.run_checkKey u9 (by simp [MapKept.IsKey]) e m
 obtain ⟨q,hq,hs',hx⟩:=findNow_str he n 0
 rw [hk] at hs'
 have hqn:q=none:=by cases q <;> simp_all
 subst hqn
 have hf:(Instr.findKey 9 (.string n) es.toList).run Tryz.prog W=.ok none W:=by simp [Instr.findKey,run_underlying u9,hq]
 simp [Instr.mapUpdate,run_underlying u,ho,hck,hf,hs]
theorem SEnts.push {es:Array MapEntry} {l:List ByteArray} (h:SEnts es.toList l) (n:ByteArray) (b:Nat):SEnts (es.push { key:=.string n,val:=.bool true,born:=b }).toList (l ++ [n]):=by
 unfold SEnts at *
 rw [Array.toList_push,List.map_append,List.map_append,h]
 rfl
theorem below_put {w W:World} {r:Nat} {o:Obj} (h:Below w.heap.size w W) (hr:w.heap.size≤r):Below w.heap.size w (W.putObj r o):=by
 exact ⟨h.os,h.tape,h.output,by rw [World.putObj_size];exact h.size,fun k hk=>by rw [World.putObj_heap_other (by omega)];exact h.block k hk⟩
theorem schema_bad {l:List Col} {k:Nat} (hk:k<l.length) (hv:schemaFrom (namesTo l k) (l.drop k)=schemaFrom [] l) (hb:nameB l[k].n=false∨hasS (namesTo l k) l[k].n=true∨withinB l[k].k 1 2=false):validSchema l=false:=by
 rw [validSchema,← hv,schemaFrom_bad hk hb,Bool.false_and]
theorem schema_go {l:List Col} {k:Nat} (hk:k<l.length) (hv:schemaFrom (namesTo l k) (l.drop k)=schemaFrom [] l) (h1:nameB l[k].n=true) (h2:hasS (namesTo l k) l[k].n=false) (h3:withinB l[k].k 1 2=true) :
 schemaFrom (namesTo l (k+1)) (l.drop (k+1))=schemaFrom [] l:=by
 rw [schemaFrom_go hk h1 h2 h3,hv]
theorem obj_new (w:World) (o:Obj):(w.alloc o).heap[w.heap.size]? = some o:=by
 show (w.heap.push o)[w.heap.size]? = some o
 exact Array.getElem?_push_size
section leaves
set_option maxHeartbeats 400000
set_option maxRecDepth 10000
theorem f36_any (w:World) (D:Nat→Prop) (v:Value) (l:List Col) (h:SchemaAt w D v l) :
 Calls Tryz.prog 36 #[v] w fun e w'=>e=.returned (.bool (validSchema l))∧Below w.heap.size w w':=by
 obtain ⟨a,cap,rfl,hc0,hl,hn,hx⟩:=h
 have hmm:=@run_makeMap Tryz.prog
 go_enter Tryz.func36,Tryz.ntmps36
 go_wp2
 go_loopw [9] (fun i wr=>∃ (k:Nat) (es:Array MapEntry) (clk:Nat),k≤l.length∧i=.int .i64 k∧Hid (schemaFrom (namesTo l k) (l.drop k)=schemaFrom [] l)∧Hid (SEnts es.toList (namesTo l k))∧wr.heap[w.heap.size]? = some (.map es clk)∧Below w.heap.size w wr) (fun i _=>l.length - (intOf i).toNat)
 case atStart=>exact ⟨0,#[],0,by omega,rfl,Lib.hid rfl,Lib.hid rfl,obj_new _ _,(Below.refl _ _).alloc (Nat.le_refl _) _⟩
 case round =>
  obtain ⟨k,es,clk,hk,rfl,hv,he,hm,hb⟩:=hrel
  by_cases hlt:k<l.length
  · rcases hx with rfl | ⟨b,off,rfl,hD,hc⟩
    · simp at hlt
    obtain ⟨x0,x1⟩:=hc k hlt
    have hbb:=cell_lt x0
    rw [← hb.cell (p:=⟨b,_,none⟩) hbb] at x0 x1
    have hns:=hn l[k] (List.getElem_mem hlt)
    have hms:w.heap.size<wr.heap.size:=by
     rcases Nat.lt_or_ge w.heap.size wr.heap.size with h | h
     · exact h
     · rw [Array.getElem?_eq_none h] at hm;cases hm
    have hm1:(wr.alloc (.cells #[.string l[k].n,.int .i64 l[k].k] 71)).heap[w.heap.size]? = some (.map es clk):=by
     rw [← hm];exact Below.heap_alloc _ _ _ hms
    have hlk:=lookup_str _ _ _ l[k].n he.out hm1
    clear hc
    cases hq:hasS (namesTo l k) l[k].n
    · have hst:=store_str _ _ _ l[k].n he.out hm1 hq
      rw [hq] at hlk
      go_wp2_with (first
       | (go_at_call 103;refine (f103_any _ hns _).mono ?_;rintro e w' ⟨rfl,rfl⟩)
       | (go_at_call 104;refine (f104_any _ _ _ _).mono ?_;rintro e w' ⟨rfl,rfl⟩))
      all_goals first
       | (go_ret;exact ⟨ret_bool (schema_bad hlt hv.out (by simp_all)).symm,hb.alloc hb.size _⟩)
       | (go_roundw
          case rel=>exact ⟨k+1,_,_,by omega,by go_num,Lib.hid (schema_go hlt hv.out (by simp_all) hq (by simp_all)),Lib.hid (by rw [namesTo_succ hlt];exact he.out.push _ _),World.putObj_heap_same (by simp;omega),below_put (hb.alloc hb.size _) (Nat.le_refl _)⟩
          case measure=>simp [intOf];omega)
    · rw [hq] at hlk
      go_wp2_with (first
       | (go_at_call 103;refine (f103_any _ hns _).mono ?_;rintro e w' ⟨rfl,rfl⟩)
       | (go_at_call 104;refine (f104_any _ _ _ _).mono ?_;rintro e w' ⟨rfl,rfl⟩))
      all_goals (go_ret;exact ⟨ret_bool (schema_bad hlt hv.out (.inr (.inl hq))).symm,hb.alloc hb.size _⟩)
  · go_wp2_with (go_at_call 104;refine (f104_any _ _ _ _).mono ?_;rintro e w' ⟨rfl,rfl⟩)
    go_ret
    obtain rfl:k=l.length:=by omega
    exact ⟨ret_bool (by rw [validSchema,← hv.out,schemaFrom_end,Bool.true_and];simp only [withinB];rw [Bool.eq_iff_iff];simp only [decide_eq_true_eq];omega),hb⟩
end leaves
end Go.Proofs.YtimahogkcmmcnaaGreatDoor
