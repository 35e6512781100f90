/-
 Changes in their form: what batch's Sorted answers. If the changes lie in the world as the words say.
-/
import Derived.Test.YtjhknhgkjfabaaaGreatDoorU18
import Derived.Test.YtjhknhgkjfabaaaGreatDoorU14
import Derived.Test.YtjhknhgkjfabaaaGreatDoorU13
set_option linter.unusedSimpArgs false
set_option linter.unusedVariables false
namespace Go.Proofs.YtjhknhgkjfabaaaGreatDoor
open Go.RowKit Go.Proofs.YtjhknhgkjfabaaaGreatDoor.Cmps
def negB (c:Chg):Bool:=decide (c.n<0)
def sortF (ok:Bool) (m:List Chg):List Chg×Int :=
 if ok=false then ([],1) else if m.any negB=true then ([],10) else if validChgs m=false then ([],4) else (m,0)
theorem chgs_nil (w:World) (D:Nat→Prop):ChgsAt w D (.slice none 0 0) []:=⟨none,0,rfl,by simp,.inl rfl⟩
theorem valid_all {l:List Chg} (h:validChgs l=true):l.length≤400∧∀ x ∈ l,validChg x=true:=by
 unfold validChgs at h
 simp only [Bool.and_eq_true,decide_eq_true_eq,List.all_eq_true] at h
 exact ⟨by have:=h.1;omega,h.2⟩
theorem one_list (w:World) (v:Value) (t:TypeId):(w.alloc (.cells #[v] t)).cell? ⟨w.heap.size,0,none⟩=some v:=by simp
section leaves
set_option maxHeartbeats 1000000
set_option maxRecDepth 10000
theorem f11_any (hm:Tryz.prog.follows .mixedOrders=true) (w:World) (v:Value) (l:List Chg) (D:Nat→Prop) (h:ChgsAt w D v l) (hD:∀ b,D b→b<w.heap.size) :
 Calls Tryz.prog 11 #[v] w fun e w'=>(∃ rv l',e=.returned (.tuple #[rv,.int .i64 (sortF (validChgs l) ((gathA l').filter keepB)).2])∧ChgsAt w' (fun b=>w.heap.size≤b) rv (sortF (validChgs l) ((gathA l').filter keepB)).1∧(validChgs l=true→l'.Perm l∧l'.Pairwise (fun a b=>cmpChg a b≤0)))∧Below w.heap.size w w':=by
 have H17:=Lib.hid (f17_any w v l D h)
 obtain ⟨ok,hok⟩:∃ b,validChgs l=b:=⟨_,rfl⟩
 rw [hok] at H17 ⊢
 cases ok
 · obtain ⟨a,cap,rfl,-,-⟩:=h
   go_enter Tryz.func11,Tryz.ntmps11
   go_wp2_with (go_at_call 17;refine H17.out.mono ?_;rintro e w' ⟨rfl,hb1⟩)
   go_ret2
   exact ⟨⟨_,[],rfl,chgs_nil _ _,fun h=>by cases h⟩,hb1⟩
 · obtain ⟨hl,hv⟩:=valid_all hok
   have H33:=Lib.hid (fun (W:World) (hb:Below w.heap.size w W)=>f33_any hm (W.alloc (.cells #[v] 22)) W.heap.size 0 1 v l D ((h.below hb).below ((Below.refl _ _).alloc (Nat.le_refl _) _)) (one_list W v 22) hl hv (fun b hb'=>Nat.lt_of_lt_of_le (hD b hb') (Nat.le_trans hb.size (by simp))))
   obtain ⟨a,cap,rfl,-,-⟩:=h
   have HOK:=Lib.hid hok
   clear hok hv
   go_enter Tryz.func11,Tryz.ntmps11
   go_wp2_with (first
    | (go_at_call 17;with_reducible refine H17.out.mono ?_;rintro e w1 ⟨rfl,hb1⟩;have HB1:=Lib.hid hb1;clear hb1)
    | (go_at_call 33;refine (H33.out _ HB1.out).mono ?_;rintro e w2 ⟨⟨v2,l',rfl,hp,hs,hc2⟩,hb2⟩
       generalize hm':(gathA l').filter keepB=m at hc2
       obtain ⟨a2,cap2,rfl,-,-⟩:=id hc2
       have HP:=Lib.hid (And.intro hp hs)
       have HC2:=Lib.hid (hc2.mono (D':=fun b=>w.heap.size≤b) fun b hb=>by have:=HB1.out.size;simp at hb;omega)
       have HB2:Hid (Below w.heap.size w w2):=(HB1.out.alloc HB1.out.size _).trans (hb2.mono (by have:=HB1.out.size;simp;omega))
       have HM:=Lib.hid hm'
       have H18:=Lib.hid (f18_of 34 (.inr (.inr (.inl rfl))) negB (fun W rv c D hr=>f34_any W rv c D hr) w2 _ m _ HC2.out)
       have H17b:=Lib.hid (fun W (hb:Below w2.heap.size w2 W)=>f17_any W _ m _ (HC2.out.below hb))
       clear hp hs hc2 hb2 hm')
    | (go_at_call 18;refine H18.out.mono ?_;rintro e w3 ⟨rfl,hb3⟩;have HB3:=Lib.hid hb3;clear hb3)
    | (go_at_call 17;with_reducible refine (H17b.out _ HB3.out).mono ?_;rintro e w4 ⟨rfl,hb4⟩;have HB4:=Lib.hid hb4;clear hb4))
   · rename_i hn
     have hB:=HB2.out.trans (HB3.out.mono HB2.out.size)
     go_ret2
     refine ⟨⟨.slice none 0 0,l',?_,?_,fun _=>HP.out⟩,hB⟩
     · rw [HM.out]
       simp [sortF,hn]
     · rw [HM.out]
       simp only [sortF,hn,Bool.true_eq_false,if_false,if_true]
       exact chgs_nil _ _
   · rename_i hn hv
     have hv:validChgs m=false:=by simpa using hv
     have hB:=(HB2.out.trans (HB3.out.mono HB2.out.size)).trans (HB4.out.mono (Nat.le_trans HB2.out.size HB3.out.size))
     go_ret2
     refine ⟨⟨.slice none 0 0,l',?_,?_,fun _=>HP.out⟩,hB⟩
     · rw [HM.out]
       simp [sortF,hn,hv]
     · rw [HM.out]
       simp only [sortF,hn,hv,Bool.true_eq_false,Bool.false_eq_true,if_false,if_true]
       exact chgs_nil _ _
   · rename_i hn hv
     have hv:validChgs m=true:=by simpa using hv
     have hB:=(HB2.out.trans (HB3.out.mono HB2.out.size)).trans (HB4.out.mono (Nat.le_trans HB2.out.size HB3.out.size))
     go_ret2
     refine ⟨⟨.slice a2 m.length cap2,l',?_,?_,fun _=>HP.out⟩,hB⟩
     · rw [HM.out]
       simp [sortF,hn,hv]
     · rw [HM.out]
       simp only [sortF,hn,hv,Bool.true_eq_false,Bool.false_eq_true,if_false]
       exact (HC2.out.below HB3.out).below HB4.out
end leaves
end Go.Proofs.YtjhknhgkjfabaaaGreatDoor
namespace Go.Proofs.YtjhknhgkjfabaaaGreatDoor
open Go.Proofs.YtjhknhgkjfabaaaGreatDoor.Cmps
structure PS where
 out:List Chg
 fin:Bool
 n:Int
def beforeK (t:Int) (r:List Val) (x:Chg):Bool:=decide (t<x.t) || (decide (t=x.t) && decide (cmpRow r x.r<0))
def sameK (t:Int) (r:List Val) (x:Chg):Bool:=decide (x.t=t) && decide (cmpRow r x.r=0)
def putStep (t:Int) (r:List Val) (s:PS) (x:Chg):PS :=
 if sameK t r x=true then ⟨s.out,s.fin,s.n+x.n⟩
 else if s.fin=false∧beforeK t r x=true then ⟨s.out ++ [⟨t,r,0⟩] ++ [x],true,s.n⟩
 else ⟨s.out ++ [x],s.fin,s.n⟩
def putS (l:List Chg) (t:Int) (r:List Val) (n:Int):PS:=l.foldl (putStep t r) ⟨[],false,n⟩
def putOut (s:PS) (t:Int) (r:List Val):List Chg:=if s.fin=true then s.out else s.out ++ [⟨t,r,0⟩]
def fixN (n:Int) (x:Chg):Chg:=if x.n=0 then ⟨x.t,x.r,n⟩ else x
def putC (l:List Chg) (t:Int) (r:List Val) (n:Int):List Chg:=((putOut (putS l t r n) t r).map (fixN (putS l t r n).n)).filter keepB
theorem cmpK (t:Int) (r:List Val) (x:Chg):cmpChg ⟨t,r,0⟩ x=orI (cmpI t x.t) (cmpRow r x.r):=rfl
theorem beforeK_iff (t:Int) (r:List Val) (x:Chg):beforeK t r x=true↔cmpChg ⟨t,r,0⟩ x<0:=by
 rw [cmpK]
 unfold beforeK orI cmpI
 by_cases h1:t<x.t
 · simp [h1]
 · by_cases h2:x.t<t
   · have:¬ t=x.t:=by omega
     simp [h1,h2,this]
   · have:t=x.t:=by omega
     simp [h1,this]
theorem sameK_iff (t:Int) (r:List Val) (x:Chg):sameK t r x=true↔cmpChg ⟨t,r,0⟩ x=0:=by
 rw [cmpK]
 unfold sameK orI cmpI
 by_cases h1:t<x.t
 · have:¬ x.t=t:=by omega
   simp [h1,this]
 · by_cases h2:x.t<t
   · have:¬ x.t=t:=by omega
     simp [h1,h2,this]
   · have:x.t=t:=by omega
     simp [this]
def lessK (t:Int) (r:List Val) (x:Chg):Bool:=decide (0<cmpChg ⟨t,r,0⟩ x)
theorem put_form {l:List Chg} (h:Asc l) (t:Int) (r:List Val) (n:Int) :
 (putS l t r n).fin = !(l.filter (beforeK t r)).isEmpty∧(putS l t r n).n=n+(l.filter (sameK t r)).foldr (fun x a=>x.n+a) 0 ∧
   putOut (putS l t r n) t r=l.filter (lessK t r) ++ [⟨t,r,0⟩] ++ l.filter (beforeK t r)∧((putS l t r n).fin=false→(putS l t r n).out=l.filter (lessK t r)):=by
 have key:∀ k,k≤l.length→(putS (l.take k) t r n).fin = !((l.take k).filter (beforeK t r)).isEmpty∧(putS (l.take k) t r n).n=n+((l.take k).filter (sameK t r)).foldr (fun x a=>x.n+a) 0 ∧
  putOut (putS (l.take k) t r n) t r=(l.take k).filter (lessK t r) ++ [⟨t,r,0⟩] ++ (l.take k).filter (beforeK t r)∧((putS (l.take k) t r n).fin=false→(putS (l.take k) t r n).out=(l.take k).filter (lessK t r)):=by
  intro k
  induction k with
  | zero=>intro _;exact ⟨rfl,by simp [putS],by simp [putS,putOut],fun _=>by simp [putS]⟩
  | succ k ih =>
    intro hk
    obtain ⟨h1,h2,h3,h4⟩:=ih (by omega)
    have hs:putS (l.take (k+1)) t r n=putStep t r (putS (l.take k) t r n) l[k]:=by
     rw [List.take_succ_eq_append_getElem hk]
     unfold putS
     rw [List.foldl_append];rfl
    have hf:∀ p:Chg→Bool,(l.take (k+1)).filter p=(l.take k).filter p ++ (if p l[k]=true then [l[k]] else []):=by
     intro p
     rw [List.take_succ_eq_append_getElem hk,List.filter_append]
     by_cases e:p l[k]=true <;> simp [e]
    have hfold:∀ (m:List Chg) (x:Chg),(m ++ [x]).foldr (fun x a=>x.n+a) 0=m.foldr (fun x a=>x.n+a) 0+x.n:=by
     intro m x
     induction m with
     | nil=>simp
     | cons y m ihm=>simp only [List.cons_append,List.foldr_cons,ihm];omega
    rw [hs,hf,hf,hf]
    generalize putS (l.take k) t r n=s at h1 h2 h3 h4
    obtain ⟨o,f,m⟩:=s
    simp only at h1 h2 h3 h4
    by_cases e0:cmpChg ⟨t,r,0⟩ l[k]=0
    · have s1:=(sameK_iff t r l[k]).2 e0
      have s2:beforeK t r l[k]=false:=by
       cases hb:beforeK t r l[k]
       · rfl
       · have:=(beforeK_iff t r l[k]).1 hb;omega
      have s3:lessK t r l[k]=false:=by simp [lessK,e0]
      simp only [putStep,s1,s2,s3,if_true,Bool.false_eq_true,if_false,List.append_nil,hfold]
      refine ⟨h1,by omega,?_,h4⟩
      exact h3
    · have s1:sameK t r l[k]=false:=by
       cases hb:sameK t r l[k]
       · rfl
       · exact absurd ((sameK_iff t r l[k]).1 hb) e0
      by_cases eb:cmpChg ⟨t,r,0⟩ l[k]<0
      · have s2:=(beforeK_iff t r l[k]).2 eb
        have s3:lessK t r l[k]=false:=by simp [lessK];omega
        cases f
        · have ho:=h4 rfl
          simp only [putStep,s1,s2,s3,if_true,Bool.false_eq_true,if_false,List.append_nil,true_and]
          refine ⟨by simp,h2,?_,fun h=>by cases h⟩
          have hem:(l.take k).filter (beforeK t r)=[]:=by
           have:=h1.symm
           simpa using this
          simp [putOut,ho,hem]
        · simp only [putStep,s1,s2,s3,if_true,Bool.false_eq_true,Bool.true_eq_false,if_false,List.append_nil,false_and]
          refine ⟨by simp,h2,?_,fun h=>by cases h⟩
          simp only [putOut,if_true] at h3 ⊢
          rw [h3]
          simp
      · have s2:beforeK t r l[k]=false:=by
         cases hb:beforeK t r l[k]
         · rfl
         · exact absurd ((beforeK_iff t r l[k]).1 hb) eb
        have s3:lessK t r l[k]=true:=by simp [lessK];omega
        have hem:(l.take k).filter (beforeK t r)=[]:=by
         rw [List.filter_eq_nil_iff]
         intro x hx hb
         obtain ⟨j,hj,rfl⟩:=List.mem_iff_getElem.1 hx
         rw [List.length_take] at hj
         rw [List.getElem_take] at hb
         have a1:=(beforeK_iff t r l[j]).1 hb
         have a2:=List.pairwise_iff_getElem.1 h j k (by omega) hk (by omega)
         have:=cmpChg_3.ltle a1 (show cmpChg l[j] l[k]≤0 by omega)
         exact eb this
        have hfin:f=false:=by rw [h1,hem];rfl
        subst hfin
        have ho:=h4 rfl
        simp only [putStep,s1,s2,s3,if_true,Bool.false_eq_true,if_false,List.append_nil,and_false]
        refine ⟨by simp [hem],h2,?_,fun _=>by rw [ho]⟩
        simp [putOut,ho,hem]
 have:=key l.length (Nat.le_refl _)
 rwa [List.take_length] at this
structure SumOk (l:List Chg) (S:Key→Int):Prop where
 ok:∀ c ∈ l,okC c
 asc:Asc l
 nz:∀ c ∈ l,c.n≠0
 sum:∀ q,sumOf l q=S q
theorem sum_parts (l:List Chg) (t:Int) (r:List Val) (q:Key):sumOf l q=sumOf (l.filter (lessK t r)) q+sumOf (l.filter (sameK t r)) q+sumOf (l.filter (beforeK t r)) q:=by
 induction l with
 | nil=>rfl
 | cons x l ih =>
   by_cases e0:cmpChg ⟨t,r,0⟩ x=0
   · have s1:=(sameK_iff t r x).2 e0
     have s2:beforeK t r x=false:=by
      cases hb:beforeK t r x
      · rfl
      · have:=(beforeK_iff t r x).1 hb;omega
     have s3:lessK t r x=false:=by simp [lessK,e0]
     simp only [List.filter_cons,s1,s2,s3,if_true,Bool.false_eq_true,if_false,sumOf_cons,ih]
     omega
   · have s1:sameK t r x=false:=by
      cases hb:sameK t r x
      · rfl
      · exact absurd ((sameK_iff t r x).1 hb) e0
     by_cases eb:cmpChg ⟨t,r,0⟩ x<0
     · have s2:=(beforeK_iff t r x).2 eb
       have s3:lessK t r x=false:=by simp [lessK];omega
       simp only [List.filter_cons,s1,s2,s3,if_true,Bool.false_eq_true,if_false,sumOf_cons,ih]
       omega
     · have s2:beforeK t r x=false:=by
        cases hb:beforeK t r x
        · rfl
        · exact absurd ((beforeK_iff t r x).1 hb) eb
       have s3:lessK t r x=true:=by simp [lessK];omega
       simp only [List.filter_cons,s1,s2,s3,if_true,Bool.false_eq_true,if_false,sumOf_cons,ih]
       omega
theorem sum_same {l:List Chg} {t:Int} {r:List Val} (hr:okRow r) (hl:∀ c ∈ l,okC c) (q:Key):sumOf (l.filter (sameK t r)) q=if (t,r)=q then (l.filter (sameK t r)).foldr (fun x a=>x.n+a) 0 else 0:=by
 induction l with
 | nil=>simp [sumOf]
 | cons x l ih =>
   have ih:=ih fun c hc=>hl c (List.mem_cons_of_mem _ hc)
   by_cases e:sameK t r x=true
   · have hk:=(cmpChg_zero (x:=⟨t,r,0⟩) (y:=x) hr (hl x List.mem_cons_self)).1 ((sameK_iff t r x).1 e)
     simp only [List.filter_cons,e,if_true,sumOf_cons,ih,List.foldr_cons]
     rw [show x.key=(t,r) from hk.symm]
     split <;> simp
   · simp only [List.filter_cons,e,if_false,Bool.false_eq_true]
     exact ih
theorem putC_is {l:List Chg} (h:Asc l) (hz:∀ c ∈ l,c.n≠0) (t:Int) (r:List Val) (n:Int) :
 putC l t r n=l.filter (lessK t r) ++ (if n+(l.filter (sameK t r)).foldr (fun x a=>x.n+a) 0=0 then [] else [⟨t,r,n+(l.filter (sameK t r)).foldr (fun x a=>x.n+a) 0⟩]) ++ l.filter (beforeK t r):=by
 obtain ⟨-,h2,h3,-⟩:=put_form h t r n
 unfold putC
 rw [h3,h2]
 generalize n+(l.filter (sameK t r)).foldr (fun x a=>x.n+a) 0=m
 have hk:∀ p:Chg→Bool,((l.filter p).map (fixN m)).filter keepB=l.filter p:=by
  intro p
  have hm:(l.filter p).map (fixN m)=l.filter p:=by
   have:(l.filter p).map (fixN m)=(l.filter p).map id:=List.map_congr_left fun x hx=>by
    have:=hz x (List.mem_filter.1 hx).1
    simp [fixN,this]
   rw [this,List.map_id]
  rw [hm,List.filter_eq_self]
  intro x hx
  have:=hz x (List.mem_filter.1 hx).1
  simpa [keepB] using this
 rw [List.map_append,List.map_append,List.filter_append,List.filter_append,hk,hk]
 congr 2
 by_cases e:m=0
 · simp [fixN,keepB,e]
 · simp [fixN,keepB,e]
theorem SumOk.put {l:List Chg} {S:Key→Int} (h:SumOk l S) {t:Int} {r:List Val} (hr:okRow r) (n:Int):SumOk (putC l t r n) (fun q=>S q+if (t,r)=q then n else 0):=by
 rw [putC_is h.asc h.nz]
 generalize hM:(l.filter (sameK t r)).foldr (fun x a=>x.n+a) 0=M
 have hsame:=fun q=>sum_same (t:=t) (r:=r) hr h.ok q
 rw [hM] at hsame
 have hL:∀ x ∈ l.filter (lessK t r),0<cmpChg ⟨t,r,0⟩ x:=fun x hx=>by
  have:=(List.mem_filter.1 hx).2
  simpa [lessK] using this
 have hR:∀ x ∈ l.filter (beforeK t r),cmpChg ⟨t,r,0⟩ x<0:=fun x hx=>(beforeK_iff t r x).1 (List.mem_filter.1 hx).2
 have hLk:∀ m,∀ x ∈ l.filter (lessK t r),cmpChg x ⟨t,r,m⟩<0:=fun m x hx=>by
  have h1:=hL x hx
  have h2:=cmpChg_3.swap ⟨t,r,0⟩ x
  rw [cmpChg_key' (show (⟨t,r,m⟩:Chg).key=(⟨t,r,0⟩:Chg).key from rfl)]
  omega
 have hLR:∀ x ∈ l.filter (lessK t r),∀ y ∈ l.filter (beforeK t r),cmpChg x y<0:=fun x hx y hy=>by
  have h1:=hLk 0 x hx
  have h2:=hR y hy
  exact cmpChg_3.ltle h1 (by omega)
 have aL:=List.Pairwise.sublist (List.filter_sublist (l:=l) (p:=lessK t r)) h.asc
 have aR:=List.Pairwise.sublist (List.filter_sublist (l:=l) (p:=beforeK t r)) h.asc
 refine ⟨fun c hc=>?_,?_,fun c hc=>?_,fun q=>?_⟩
 · rcases List.mem_append.1 hc with hc | hc
   · rcases List.mem_append.1 hc with hc | hc
     · exact h.ok c (List.mem_filter.1 hc).1
     · split at hc
       · cases hc
       · rw [List.mem_singleton] at hc;subst hc;exact hr
   · exact h.ok c (List.mem_filter.1 hc).1
 · rw [Asc,List.pairwise_append,List.pairwise_append]
   refine ⟨⟨aL,by split <;> simp,fun x hx y hy=>?_⟩,aR,fun x hx y hy=>?_⟩
   · split at hy
     · cases hy
     · rw [List.mem_singleton] at hy;subst hy;exact hLk _ x hx
   · rcases List.mem_append.1 hx with hx | hx
     · exact hLR x hx y hy
     · split at hx
       · cases hx
       · rw [List.mem_singleton] at hx;subst hx
         rw [cmpChg_key (show (⟨t,r,n+M⟩:Chg).key=(⟨t,r,0⟩:Chg).key from rfl)]
         exact hR y hy
 · rcases List.mem_append.1 hc with hc | hc
   · rcases List.mem_append.1 hc with hc | hc
     · exact h.nz c (List.mem_filter.1 hc).1
     · split at hc
       · cases hc
       · rename_i hne
         rw [List.mem_singleton] at hc;subst hc;exact hne
   · exact h.nz c (List.mem_filter.1 hc).1
 · rw [sumOf_append,sumOf_append,← h.sum q,sum_parts l t r q,hsame q]
   by_cases e:n+M=0
   · rw [if_pos e,sumOf_nil]
     split <;> omega
   · rw [if_neg e]
     simp only [sumOf_cons,sumOf_nil]
     show _+((if (t,r)=q then n+M else 0)+0)+_=_
     split <;> omega
def summed (l:List Chg):List Chg:=l.foldl (fun A c=>putC A c.t c.r c.n) []
theorem summed_ok {l:List Chg} (hl:∀ c ∈ l,okC c):SumOk (summed l) (sumOf l):=by
 have key:∀ k,k≤l.length→SumOk (summed (l.take k)) (sumOf (l.take k)):=by
  intro k
  induction k with
  | zero=>intro _;exact ⟨fun c hc=>by simp [summed] at hc,by simp [summed,Asc],fun c hc=>by simp [summed] at hc,fun q=>rfl⟩
  | succ k ih =>
    intro hk
    have:=(ih (by omega)).put (t:=l[k].t) (r:=l[k].r) (hl _ (List.getElem_mem hk)) l[k].n
    have hs:summed (l.take (k+1))=putC (summed (l.take k)) l[k].t l[k].r l[k].n:=by
     rw [List.take_succ_eq_append_getElem hk]
     unfold summed
     rw [List.foldl_append];rfl
    rw [hs]
    refine ⟨this.ok,this.asc,this.nz,fun q=>?_⟩
    rw [this.sum q,List.take_succ_eq_append_getElem hk,sumOf_append,sumOf_cons,sumOf_nil,Int.add_zero]
 have:=key l.length (Nat.le_refl _)
 rwa [List.take_length] at this
theorem gathered_same {l l':List Chg} (hl:∀ c ∈ l,okC c) (hp:l'.Perm l) (hs:l'.Pairwise (fun a b=>cmpChg a b≤0)):(gathA l').filter keepB=summed l:=by
 have hg:=gathA_ok (fun c hc=>hl c (hp.mem_iff.1 hc)) hs
 have hu:=summed_ok hl
 refine asc_eq (fun c hc=>hg.ok c (List.mem_filter.1 hc).1) hu.ok (List.Pairwise.sublist List.filter_sublist hg.asc) hu.asc (fun c hc=>?_) hu.nz (fun q=>?_)
 · have:=(List.mem_filter.1 hc).2
   simpa [keepB] using this
 · rw [hu.sum q,← sumOf_perm hp q,← hg.sum q]
   generalize gathA l'=A
   induction A with
   | nil=>rfl
   | cons x A ih =>
     rw [List.filter_cons]
     by_cases e:keepB x=true
     · rw [if_pos e,sumOf_cons,sumOf_cons,ih]
     · rw [if_neg e,sumOf_cons,ih]
       have:x.n=0:=by simpa [keepB] using e
       rw [this];split <;> simp
end Go.Proofs.YtjhknhgkjfabaaaGreatDoor
namespace Go.Proofs.YtjhknhgkjfabaaaGreatDoor
open Go.RowKit Go.Proofs.YtjhknhgkjfabaaaGreatDoor.Cmps
structure OutD (D0:Nat→Prop) (w0 w:World) (v:Value) (ys:List (Chg×Value)) (blk:Option Nat):Prop where
 own:SlOwn w 42 3 v ys.length (cels ys) blk
 new:∀ g,blk=some g→w0.heap.size≤g
 rows:∀ p ∈ ys,RowAt w (fun b=>(D0 b∨w0.heap.size≤b)∧b<w.heap.size∧blk≠some b) p.2 p.1.r
 below:Below w0.heap.size w0 w
theorem OutD.start (D0:Nat→Prop) (w:World):OutD D0 w w (.slice none 0 0) [] none :=
 ⟨SlOwn.nil _ _ _,(fun g e=>by cases e),(fun p hp=>by simp at hp),Below.refl _ _⟩
theorem OutD.next {D0:Nat→Prop} {w0 w w':World} {v:Value} {ys:List (Chg×Value)} {blk:Option Nat} (h:OutD D0 w0 w v ys blk) (hb:Below w.heap.size w w'):OutD D0 w0 w' v ys blk :=
 ⟨h.own.keep fun g hg=>hb.block g (h.own.lt_of hg),h.new,fun p hp=>((h.rows p hp).below hb).mono fun b hb'=>⟨hb'.1,Nat.lt_of_lt_of_le hb'.2.1 hb.size,hb'.2.2⟩,h.below.trans (hb.mono h.below.size)⟩
theorem OutD.add {D0:Nat→Prop} {w0 w w':World} {v v':Value} {ys:List (Chg×Value)} {blk blk':Option Nat} (h:OutD D0 w0 w v ys blk) (c:Chg) (rv:Value) (hr:RowAt w (fun b=>(D0 b∨w0.heap.size≤b)∧b<w.heap.size∧blk≠some b) rv c.r) {o:Obj}
 (hs:SlOwn w' 42 3 v' (ys.length+1) (cels ys ++ [.int .i64 c.t,rv,.int .i64 c.n]) blk') (hg:(w.alloc o).grownBy w' blk) (hat:blk'=blk∨blk'=some (w.alloc o).heap.size):OutD D0 w0 w' v' (ys ++ [(c,rv)]) blk':=by
 have hsz:=h.below.size
 have hgw:w.grownBy w' blk:=(World.grownBy.but (a:=w) (c:=w.alloc o) ⟨rfl,rfl,rfl,by simp,fun b hb _=>Below.heap_alloc w o b hb⟩ blk).trans hg
 have hrow:∀ {r:Value} {row:List Val},RowAt w (fun b=>(D0 b∨w0.heap.size≤b)∧b<w.heap.size∧blk≠some b) r row→RowAt w' (fun b=>(D0 b∨w0.heap.size≤b)∧b<w'.heap.size∧blk'≠some b) r row:=fun h=>(h.keep fun b hb hlt=>hgw.block b hlt (fun e=>hb.2.2 e.symm)).mono fun b hb=>⟨hb.1,Nat.lt_of_lt_of_le hb.2.1 hgw.size,fun e=>by
  rcases hat with ha | ha
  · exact hb.2.2 (ha ▸ e)
  · rw [ha] at e;injection e with e;simp at e;omega⟩
 refine ⟨by rw [List.length_append,← cels_add];exact hs,fun g e=>?_,fun p hp=>?_,h.below.grown hgw hsz h.new⟩
 · rcases hat with ha | ha
   · exact h.new g (ha ▸ e)
   · rw [ha] at e;injection e with e;simp at e;omega
 · rcases List.mem_append.1 hp with hp | hp
   · exact hrow (h.rows p hp)
   · rw [List.mem_singleton] at hp;subst hp;exact hrow hr
theorem putS_succ {l:List Chg} {k:Nat} (hk:k<l.length) (t:Int) (r:List Val) (n:Int):putS (l.take (k+1)) t r n=putStep t r (putS (l.take k) t r n) l[k]:=by
 rw [List.take_succ_eq_append_getElem hk]
 unfold putS
 rw [List.foldl_append];rfl
theorem putS_len {l:List Chg} (t:Int) (r:List Val) (n:Int):∀ k,k≤l.length→(putS (l.take k) t r n).out.length≤2 * k:=by
 intro k
 induction k with
 | zero=>intro _;simp [putS]
 | succ k ih =>
   intro hk
   have:=ih (by omega)
   rw [putS_succ hk]
   unfold putStep
   split
   · simp only;omega
   · split
     · simp only [List.length_append,List.length_cons,List.length_nil];omega
     · simp only [List.length_append,List.length_cons,List.length_nil];omega
theorem putS_bnd {l:List Chg} {M:Int} (hM:0≤M) (hl:∀ c ∈ l,-M≤c.n∧c.n≤M) (t:Int) (r:List Val) (n:Int):∀ k,k≤l.length→-(M * k)≤(putS (l.take k) t r n).n - n∧(putS (l.take k) t r n).n - n≤M * k:=by
 intro k
 induction k with
 | zero=>intro _;simp [putS]
 | succ k ih =>
   intro hk
   have h1:=ih (by omega)
   have h2:=hl l[k] (List.getElem_mem hk)
   have h3:M * ((k+1:Nat):Int)=M * k+M:=by rw [Int.natCast_add,Int.mul_add];simp
   rw [putS_succ hk,h3]
   unfold putStep
   split
   · simp only;omega
   · split
     · simp only;omega
     · simp only;omega
section leaves
set_option maxHeartbeats 400000
set_option maxRecDepth 10000
theorem f100_any (w:World) (r:Value) (row:List Val) (D:Nat→Prop) (hr:RowAt w D r row) (h8:row.length≤1000) :
 Calls Tryz.prog 100 #[r] w fun e w'=>(∃ v,e=.returned v∧RowAt w' (fun b=>w.heap.size≤b) v row)∧Below w.heap.size w w':=by
 obtain ⟨i0,hi0,hz0,hz1,hz2⟩:=info_parts info44
 have HSRC:=Lib.hid (fun W (hb:Below w.heap.size w W)=>(hr.below hb).src)
 have HE:=Lib.hid (own_empty w 44 3)
 have HB:=Lib.hid ((Below.refl w.heap.size w).alloc (Nat.le_refl _) (.cells #[] 44))
 obtain ⟨a,cap,rfl,hl,hx⟩:=hr
 clear hx
 go_enter Tryz.func100,Tryz.ntmps100
 go_wp2_with (at_builtin;refine wpList_append_S rfl (.tmp 3) (.tmp 4) 40 rfl 44 i0 _ 3 32 Tryz.underlying40 hi0 hz0 hz1 hz2 rfl (by omega) (.slice (some ⟨w.heap.size,0,none⟩) 0 0) 0 [] (some w.heap.size) rfl HE.out (.slice a row.length cap) row.length (rowC row) rfl (HSRC.out _ HB.out) (rowC_one row) (by simp only [maxLen];omega) (by omega) ?_;intro v1 w1 blk1 hown1 hgrow1 hat1;have H1:=Lib.hid hown1;have H2:=Lib.hid (own_new HB.out (fun g e=>by injection e with e;omega) hgrow1 (by simpa using hat1));clear hown1 hgrow1 hat1)
 go_ret
 have h1:=H1.out
 simp only [Nat.zero_add,List.nil_append] at h1
 exact ⟨⟨_,rfl,(h1.row (by omega)).mono fun b e=>H2.out.2 b e⟩,H2.out.1⟩
end leaves
end Go.Proofs.YtjhknhgkjfabaaaGreatDoor
