/-
 Changes upserted: the plain law. No conditions: definitions and their laws.
-/
import Derived.Test.YtjhknhgkjfabaaaGreatDoorU21
set_option linter.unusedSimpArgs false
set_option linter.unusedVariables false
namespace Go.Proofs.YtjhknhgkjfabaaaGreatDoor
open Go.Proofs.YtjhknhgkjfabaaaGreatDoor.Cmps
def picks (row:List Val) (cols:List Int):List Val:=cols.map (valAt row)
def keyL (l:List Val):List UInt8:=l.flatMap fun v=>textV v ++ [44]
theorem keyP_some {row:List Val}:∀ {cols:List Int} {acc k:List UInt8},cols.foldl (keyStep row) (some acc)=some k→(∀ c ∈ cols,okCol row c=true)∧k=acc ++ keyL (picks row cols)
 | [],acc,k,h=>by
   injection h with h
   exact ⟨fun c hc=>(by cases hc),by rw [← h];simp [keyL,picks]⟩
 | c :: t,acc,k,h=>by
   rw [List.foldl_cons] at h
   by_cases hc:okCol row c=true
   · have:keyStep row (some acc) c=some (acc ++ (textV (valAt row c) ++ [44])):=by simp [keyStep,hc]
     rw [this] at h
     obtain ⟨h1,h2⟩:=keyP_some h
     refine ⟨fun d hd=>?_,by rw [h2];simp [keyL,picks]⟩
     rcases List.mem_cons.1 hd with rfl | hd
     · exact hc
     · exact h1 d hd
   · have:keyStep row (some acc) c=none:=by simp [keyStep,hc]
     rw [this,keyP_none] at h
     cases h
theorem keyL_inj:∀ {a b:List Val},(∀ v ∈ a,validValue v=true)→(∀ v ∈ b,validValue v=true)→a.length=b.length→keyL a=keyL b→a=b
 | [],[],_,_,_,_=>rfl
 | [],_ :: _,_,_,h,_=>by simp at h
 | _ :: _,[],_,_,h,_=>by simp at h
 | x :: xs,y :: ys,ha,hb,hl,h=>by
   have h1:textV x ++ 44 :: keyL xs=textV y ++ 44 :: keyL ys:=by
    simpa [keyL,List.flatMap_cons,List.append_assoc] using h
   obtain ⟨e1,e2⟩:=textV_inj (ha x List.mem_cons_self) (hb y List.mem_cons_self) h1
   rw [e1,keyL_inj (fun v hv=>ha v (List.mem_cons_of_mem _ hv)) (fun v hv=>hb v (List.mem_cons_of_mem _ hv)) (by simpa using hl) e2]
theorem valAt_ok {row:List Val} (h:okRow row) {c:Int} (hc:okCol row c=true):validValue (valAt row c)=true:=by
 simp [okCol,withinB] at hc
 have:c.toNat<row.length:=by omega
 have e:valAt row c=row[c.toNat]:=by simp [valAt,this]
 rw [e]
 exact h _ (List.getElem_mem this)
theorem key_picks {r s:List Val} {cols:List Int} {k m:List UInt8} (hr:okRow r) (hs:okRow s) (h1:keyP r cols=some k) (h2:keyP s cols=some m):cmpRow (picks r cols) (picks s cols)=0↔k=m:=by
 obtain ⟨a1,e1⟩:=keyP_some h1
 obtain ⟨a2,e2⟩:=keyP_some h2
 have v1:∀ v ∈ picks r cols,validValue v=true:=fun v hv=>by
  obtain ⟨c,hc,rfl⟩:=List.mem_map.1 hv
  exact valAt_ok hr (a1 c hc)
 have v2:∀ v ∈ picks s cols,validValue v=true:=fun v hv=>by
  obtain ⟨c,hc,rfl⟩:=List.mem_map.1 hv
  exact valAt_ok hs (a2 c hc)
 constructor
 · intro h
   have:=cmpRow_zero v1 v2 h
   rw [e1,e2,this]
 · intro h
   rw [e1,e2] at h
   have:=keyL_inj v1 v2 (by simp [picks]) (by simpa using h)
   rw [this,cmpRow_3.refl]
structure Won (cols:List Int) (l:List Chg) (E:List Ent):Prop where
 key:∀ e ∈ E,keyP e.c.r cols=some e.k
 src:∀ e ∈ E,e.c ∈ l
 top:∀ c ∈ l,∃ e ∈ E,keyP c.r cols=some e.k∧cmpChg c e.c≤0
theorem Won.nil (cols:List Int):Won cols [] []:=⟨fun e h=>(by cases h),fun e h=>(by cases h),fun c h=>(by cases h)⟩
theorem Won.add {cols:List Int} {l:List Chg} {E:List Ent} (h:Won cols l E) {c:Chg} {k:List UInt8} (hk:keyP c.r cols=some k) (rv:Value) (b:Nat):Won cols (l ++ [c]) (E ++ [⟨k,c,rv,b⟩]):=by
 refine ⟨fun e he=>?_,fun e he=>?_,fun d hd=>?_⟩
 · rcases List.mem_append.1 he with he | he
   · exact h.key e he
   · rw [List.mem_singleton] at he;subst he;exact hk
 · rcases List.mem_append.1 he with he | he
   · exact List.mem_append_left _ (h.src e he)
   · rw [List.mem_singleton] at he;subst he;simp
 · rcases List.mem_append.1 hd with hd | hd
   · obtain ⟨e,he,h1,h2⟩:=h.top d hd
     exact ⟨e,List.mem_append_left _ he,h1,h2⟩
   · rw [List.mem_singleton] at hd;subst hd
     exact ⟨_,List.mem_append_right _ (List.mem_singleton.2 rfl),hk,by rw [cmpChg_3.refl];omega⟩
theorem Won.stay {cols:List Int} {l:List Chg} {E:List Ent} (h:Won cols l E) {c:Chg} {e:Ent} (he:e ∈ E) (hk:keyP c.r cols=some e.k) (hc:¬ cmpChg e.c c<0):Won cols (l ++ [c]) E:=by
 refine ⟨h.key,fun x hx=>List.mem_append_left _ (h.src x hx),fun d hd=>?_⟩
 rcases List.mem_append.1 hd with hd | hd
 · exact h.top d hd
 · rw [List.mem_singleton] at hd;subst hd
   have:=cmpChg_3.swap e.c d
   exact ⟨e,he,hk,by omega⟩
theorem Won.put {cols:List Int} {l:List Chg} {E:List Ent} (h:Won cols l E) {c:Chg} {e:Ent} {i:Nat} (hi:E[i]? = some e) (hk:keyP c.r cols=some e.k) (hc:cmpChg e.c c<0) (rv:Value):Won cols (l ++ [c]) (E.set i ⟨e.k,c,rv,e.born⟩):=by
 have hlt:i<E.length:=(List.getElem?_eq_some_iff.1 hi).1
 have hei:E[i]=e:=(List.getElem?_eq_some_iff.1 hi).2
 have hin:(⟨e.k,c,rv,e.born⟩:Ent) ∈ E.set i ⟨e.k,c,rv,e.born⟩:=List.mem_iff_getElem.2 ⟨i,by simpa using hlt,by simp⟩
 refine ⟨fun x hx=>?_,fun x hx=>?_,fun d hd=>?_⟩
 · rcases List.mem_or_eq_of_mem_set hx with hx | rfl
   · exact h.key x hx
   · exact hk
 · rcases List.mem_or_eq_of_mem_set hx with hx | rfl
   · exact List.mem_append_left _ (h.src x hx)
   · simp
 · rcases List.mem_append.1 hd with hd | hd
   · obtain ⟨x,hx,h1,h2⟩:=h.top d hd
     obtain ⟨j,hj,rfl⟩:=List.mem_iff_getElem.1 hx
     by_cases e':j=i
     · subst e'
       rw [hei] at h1 h2
       exact ⟨_,hin,h1,Int.le_of_lt (cmpChg_3.lelt h2 hc)⟩
     · refine ⟨E[j],List.mem_iff_getElem.2 ⟨j,by simpa using hj,?_⟩,h1,h2⟩
       rw [List.getElem_set_ne (fun e=>e' e.symm)]
   · rw [List.mem_singleton] at hd;subst hd
     exact ⟨_,hin,hk,by rw [cmpChg_3.refl];omega⟩
def olderB (cols:List Int) (c d:Chg):Bool:=(cmpRow (picks c.r cols) (picks d.r cols) == 0) && (decide (d.t > c.t) || ((d.t == c.t) && decide (cmpRow d.r c.r > 0)))
def isNew (cols:List Int) (l:List Chg) (c:Chg):Bool:=l.all fun d => !olderB cols c d
theorem older_iff (cols:List Int) (c d:Chg):olderB cols c d=true↔cmpRow (picks c.r cols) (picks d.r cols)=0∧0<cmpChg d c:=by
 unfold olderB
 have hx:(decide (d.t > c.t) || ((d.t == c.t) && decide (cmpRow d.r c.r > 0)))=true↔0<cmpChg d c:=by
  unfold cmpChg orI cmpI
  by_cases h1:d.t<c.t
  · have h2:¬ c.t<d.t:=by omega
    have h3:¬ d.t=c.t:=by omega
    simp [h1,h2,h3]
  · by_cases h2:c.t<d.t
    · simp [h1,h2]
    · have h3:d.t=c.t:=by omega
      simp [h3]
 rw [Bool.and_eq_true,hx]
 simp
def nOf (l:List Itm) (r:List Val):Int:=match l.find? (fun x=>cmpRow x.r r == 0) with
 | some x=>x.n
 | none=>0
def insR (r:List Val) (n:Int):List Itm→List Itm
 | []=>[⟨r,n⟩]
 | x :: t=>if cmpRow r x.r<0 then ⟨r,n⟩ :: x :: t else x :: insR r n t
theorem insR_mem (r:List Val) (n:Int):∀ (l:List Itm) (x:Itm),x ∈ insR r n l↔x=⟨r,n⟩∨x ∈ l
 | [],x=>by simp [insR]
 | y :: t,x=>by
   unfold insR
   split
   · simp
   · rw [List.mem_cons,insR_mem r n t x,List.mem_cons]
     constructor
     · rintro (h | h | h)
       · exact .inr (.inl h)
       · exact .inl h
       · exact .inr (.inr h)
     · rintro (h | h | h)
       · exact .inr (.inl h)
       · exact .inl h
       · exact .inr (.inr h)
def AscR (l:List Itm):Prop:=l.Pairwise fun a b=>cmpRow a.r b.r<0
theorem insR_asc (r:List Val) (n:Int):∀ (l:List Itm),AscR l→(∀ x ∈ l,cmpRow r x.r≠0)→AscR (insR r n l)
 | [],_,_=>by simp [insR,AscR]
 | y :: t,h,hn=>by
   have hp:(∀ z ∈ t,cmpRow y.r z.r<0)∧AscR t:=List.pairwise_cons.1 h
   unfold insR
   split
   · rename_i hlt
     refine List.pairwise_cons.2 ⟨fun z hz=>?_,h⟩
     rcases List.mem_cons.1 hz with rfl | hz
     · exact hlt
     · exact cmpRow_3.ltle hlt (Int.le_of_lt (hp.1 z hz))
   · rename_i hlt
     refine List.pairwise_cons.2 ⟨fun z hz=>?_,insR_asc r n t hp.2 fun x hx=>hn x (List.mem_cons_of_mem _ hx)⟩
     rcases (insR_mem r n t z).1 hz with rfl | hz
     · have h1:=hn y List.mem_cons_self
       have h2:=cmpRow_3.swap r y.r
       show cmpRow y.r r<0
       omega
     · exact hp.1 z hz
def newStep (cols:List Int) (l:List Chg) (out:List Itm) (c:Chg):List Itm:=if isNew cols l c && (nOf out c.r == 0) then insR c.r 1 out else out
def newR (cols:List Int) (l:List Chg):List Itm:=l.foldl (newStep cols l) []
theorem nOf_none {l:List Itm} {r:List Val} (h1:∀ x ∈ l,x.n=1):nOf l r=0↔∀ x ∈ l,cmpRow x.r r≠0:=by
 unfold nOf
 cases hf:l.find? (fun x=>cmpRow x.r r == 0) with
 | none =>
   rw [List.find?_eq_none] at hf
   constructor
   · intro _ x hx
     have:=hf x hx
     simpa using this
   · intro _;rfl
 | some x =>
   have hx:=List.mem_of_find?_eq_some hf
   have hp:=List.find?_some hf
   have h2:=h1 x hx
   constructor
   · intro h
     simp only at h
     omega
   · intro h
     exact absurd (by simpa using hp) (h x hx)
structure NewOk (P:Chg→Bool) (l:List Chg) (out:List Itm):Prop where
 asc:AscR out
 one:∀ x ∈ out,x.n=1
 src:∀ x ∈ out,∃ c ∈ l,P c=true∧c.r=x.r
 all:∀ c ∈ l,P c=true→∃ x ∈ out,x.r=c.r
theorem newR_ok (cols:List Int) (l:List Chg) (ho:∀ c ∈ l,okC c):NewOk (isNew cols l) l (newR cols l):=by
 have key:∀ (m p:List Chg) (out:List Itm),(∀ c ∈ p,c ∈ l)→(∀ c ∈ m,c ∈ l)→NewOk (isNew cols l) p out→NewOk (isNew cols l) (p ++ m) (m.foldl (newStep cols l) out):=by
  intro m
  induction m with
  | nil=>intro p out _ _ h;simpa using h
  | cons c t ih =>
    intro p out hp hm h
    have hstep:NewOk (isNew cols l) (p ++ [c]) (newStep cols l out c):=by
     have hz:=nOf_none (r:=c.r) h.one
     unfold newStep
     cases hn:isNew cols l c with
     | false =>
       rw [Bool.false_and,if_neg (by simp)]
       refine ⟨h.asc,h.one,fun x hx=>?_,fun d hd hnd=>?_⟩
       · obtain ⟨d,hd,h2⟩:=h.src x hx
         exact ⟨d,List.mem_append_left _ hd,h2⟩
       · rcases List.mem_append.1 hd with hd | hd
         · exact h.all d hd hnd
         · rw [List.mem_singleton] at hd;subst hd;rw [hn] at hnd;cases hnd
     | true =>
       rw [Bool.true_and]
       by_cases h0:nOf out c.r=0
       · rw [if_pos (by simpa using h0)]
         have hne:∀ x ∈ out,cmpRow c.r x.r≠0:=fun x hx e=>by
          have h1:=hz.1 h0 x hx
          have h2:=cmpRow_3.swap c.r x.r
          omega
         refine ⟨insR_asc _ _ _ h.asc hne,fun x hx=>?_,fun x hx=>?_,fun d hd hnd=>?_⟩
         · rcases (insR_mem _ _ _ _).1 hx with rfl | hx
           · rfl
           · exact h.one x hx
         · rcases (insR_mem _ _ _ _).1 hx with rfl | hx
           · exact ⟨c,by simp,hn,rfl⟩
           · obtain ⟨d,hd,h2⟩:=h.src x hx
             exact ⟨d,List.mem_append_left _ hd,h2⟩
         · rcases List.mem_append.1 hd with hd | hd
           · obtain ⟨x,hx,h2⟩:=h.all d hd hnd
             exact ⟨x,(insR_mem _ _ _ _).2 (.inr hx),h2⟩
           · rw [List.mem_singleton] at hd;subst hd
             exact ⟨_,(insR_mem _ _ _ _).2 (.inl rfl),rfl⟩
       · rw [if_neg (by simpa using h0)]
         refine ⟨h.asc,h.one,fun x hx=>?_,fun d hd hnd=>?_⟩
         · obtain ⟨d,hd,h2⟩:=h.src x hx
           exact ⟨d,List.mem_append_left _ hd,h2⟩
         · rcases List.mem_append.1 hd with hd | hd
           · exact h.all d hd hnd
           · rw [List.mem_singleton] at hd;subst hd
             have hex:∃ x ∈ out,cmpRow x.r d.r=0:=by
              refine Classical.byContradiction fun hno=>h0 (hz.2 fun x hx e=>hno ⟨x,hx,e⟩)
             obtain ⟨x,hx,he⟩:=hex
             obtain ⟨q,hq,_,hqr⟩:=h.src x hx
             exact ⟨x,hx,cmpRow_zero (by rw [← hqr];exact ho q (hp q hq)) (ho d (hm d List.mem_cons_self)) he⟩
    have:=ih (p ++ [c]) _ (fun d hd=>by
     rcases List.mem_append.1 hd with hd | hd
     · exact hp d hd
     · rw [List.mem_singleton] at hd;subst hd;exact hm d List.mem_cons_self) (fun d hd=>hm d (List.mem_cons_of_mem _ hd)) hstep
    rw [List.append_assoc,List.singleton_append] at this
    exact this
 have h0:NewOk (isNew cols l) [] []:=⟨List.Pairwise.nil,fun x h=>(by cases h),fun x h=>(by cases h),fun c h=>(by cases h)⟩
 have:=key l [] [] (fun c h=>(by cases h)) (fun c h=>h) h0
 rw [List.nil_append] at this
 exact this
theorem ascR_eq {l m:List Itm} (hl:AscR l) (hm:AscR m) (h:∀ x,x ∈ l↔x ∈ m):l=m:=by
 have nd:∀ {l:List Itm},AscR l→l.Nodup:=fun h=>List.Pairwise.imp (fun {a b} hab e=>by rw [e,cmpRow_3.refl] at hab;omega) h
 have hp:l.Perm m:=(List.perm_ext_iff_of_nodup (nd hl) (nd hm)).2 h
 exact List.Perm.eq_of_pairwise (le:=fun (a b:Itm)=>cmpRow a.r b.r<0) (fun a b _ _ h1 h2=>(by have:=cmpRow_3.swap a.r b.r;omega)) hl hm hp
def Ent.itm (e:Ent):Itm:=⟨e.c.r,1⟩
theorem won_newR {cols:List Int} {l:List Chg} {E:List Ent} {clock:Nat} (h:Won cols l E) (hk:EntsOk E clock) (ho:∀ c ∈ l,okC c) {S:List Ent} (hS:S.Perm E) {out:List Itm} (hp:out.Perm (S.map Ent.itm)) (hs:out.Pairwise fun a b=>cmpRow a.r b.r≤0):out=newR cols l:=by
 have hR:=newR_ok cols l ho
 have hpe:out.Perm (E.map Ent.itm):=hp.trans (hS.map _)
 have hokE:∀ e ∈ E,okRow e.c.r:=fun e he=>ho e.c (h.src e he)
 have hrow:∀ x ∈ out,okRow x.r∧x.n=1:=fun x hx=>by
  obtain ⟨e,he,rfl⟩:=List.mem_map.1 (hpe.mem_iff.1 hx)
  exact ⟨hokE e he,rfl⟩
 have hne:out.Pairwise fun a b=>a.r≠b.r:=by
  have h1:(E.map Ent.itm).Pairwise fun a b=>a.r≠b.r:=by
   rw [List.pairwise_map]
   have:=hk.apart
   rw [List.pairwise_iff_getElem] at this ⊢
   intro i j hi hj hij e
   have e:E[i].c.r=E[j].c.r:=e
   have k1:=h.key _ (List.getElem_mem hi)
   have k2:=h.key _ (List.getElem_mem hj)
   rw [e,k2] at k1
   injection k1 with k1
   exact (this i j hi hj hij).1 k1.symm
  exact hpe.symm.pairwise h1 (fun h e=>h e.symm)
 have hasc:AscR out:=by
  unfold AscR
  rw [List.pairwise_iff_getElem] at hs hne ⊢
  intro i j hi hj hij
  have h1:=hs i j hi hj hij
  have h2:=hne i j hi hj hij
  have:cmpRow out[i].r out[j].r≠0:=fun e=>h2 (cmpRow_zero (hrow _ (List.getElem_mem hi)).1 (hrow _ (List.getElem_mem hj)).1 e)
  omega
 have hsame:∀ e ∈ E,∀ f ∈ E,e.k=f.k→e=f:=fun e he f hf hef=>by
  obtain ⟨i,hi,rfl⟩:=List.mem_iff_getElem.1 he
  obtain ⟨j,hj,rfl⟩:=List.mem_iff_getElem.1 hf
  have:=hk.apart
  rw [List.pairwise_iff_getElem] at this
  rcases Nat.lt_trichotomy i j with q | q | q
  · exact absurd hef (this i j hi hj q).1
  · subst q;rfl
  · exact absurd hef.symm (this j i hj hi q).1
 refine ascR_eq hasc hR.asc fun x=>?_
 have hx1:x ∈ out↔∃ e ∈ E,Ent.itm e=x:=by rw [hpe.mem_iff,List.mem_map]
 rw [hx1]
 constructor
 · rintro ⟨e,he,rfl⟩
   have hnew:isNew cols l e.c=true:=by
    unfold isNew
    rw [List.all_eq_true]
    intro d hd
    cases ho':olderB cols e.c d with
    | false=>rfl
    | true =>
      obtain ⟨h1,h2⟩:=(older_iff cols e.c d).1 ho'
      obtain ⟨f,hf,hkf,hcf⟩:=h.top d hd
      have:=(key_picks (hokE e he) (ho d hd) (h.key e he) hkf).1 h1
      have:=hsame e he f hf this
      subst this
      omega
   obtain ⟨y,hy,hyr⟩:=hR.all e.c (h.src e he) hnew
   have:y=Ent.itm e:=by
    obtain ⟨yr,yn⟩:=y
    have:=hR.one _ hy
    simp only at this hyr
    subst this hyr
    rfl
   rw [← this];exact hy
 · intro hx
   obtain ⟨c,hc,hnew,hcr⟩:=hR.src x hx
   obtain ⟨e,he,hke,hce⟩:=h.top c hc
   refine ⟨e,he,?_⟩
   have h1:¬ 0<cmpChg e.c c:=fun hlt=>by
    unfold isNew at hnew
    rw [List.all_eq_true] at hnew
    have:=hnew e.c (h.src e he)
    have ho':olderB cols c e.c=true:=(older_iff cols c e.c).2 ⟨(key_picks (ho c hc) (hokE e he) hke (h.key e he)).2 rfl,hlt⟩
    rw [ho'] at this;cases this
   have h2:=cmpChg_3.swap e.c c
   have h3:cmpChg c e.c=0:=by omega
   have h4:=(cmpChg_zero (ho c hc) (ho _ (h.src e he))).1 h3
   injection h4 with _ h5
   obtain ⟨xr,xn⟩:=x
   have:=hR.one _ hx
   simp only at this hcr
   subst this hcr
   show (⟨e.c.r,1⟩:Itm)=_
   rw [h5]
end Go.Proofs.YtjhknhgkjfabaaaGreatDoor
namespace Go.Proofs.YtjhknhgkjfabaaaGreatDoor
open Go.RowKit Go.Proofs.YtjhknhgkjfabaaaGreatDoor.Cmps Go.Shelf
theorem Below.put {w wr:World} {mp:Nat} (hb:Below w.heap.size w wr) (hn:w.heap.size≤mp) (o:Obj):Below w.heap.size w (wr.putObj mp o) :=
 hb.trans ⟨rfl,rfl,rfl,by simp [World.putObj],fun k hk=>by
  simp only [World.putObj,Array.getElem?_setIfInBounds]
  rw [if_neg (by omega)]⟩
def RowsCap (w:World) (v:Value):Prop:=∀ b off n c,v=.slice (some ⟨b,off,none⟩) n c→∀ i,i<n→∀ a m cap,w.cell? ⟨b,off+i * 3+1,none⟩=some (.slice a m cap)→m≤cap
structure MapIs (D:Nat→Prop) (w wr:World) (mp:Nat) (E:List Ent) (clock:Nat):Prop where
 hm:wr.heap[mp]? = some (.map (entsA E) clock)
 ok:EntsOk E clock
 rows:∀ e ∈ E,RowAt w D e.rv e.c.r
 below:Below w.heap.size w wr
 new:w.heap.size≤mp
theorem MapIs.start (D:Nat→Prop) {w wr:World} (hb:Below w.heap.size w wr):MapIs D w (wr.alloc (.map #[] 0)) wr.heap.size [] 0 :=
 ⟨World.alloc_heap_new _ _,EntsOk.nil,fun e h=>(by cases h),hb.alloc hb.size _,hb.size⟩
theorem MapIs.next {D:Nat→Prop} {w wr w':World} {mp:Nat} {E:List Ent} {clock:Nat} (h:MapIs D w wr mp E clock) (hb:Below wr.heap.size wr w'):MapIs D w w' mp E clock :=
 ⟨(hb.block mp (heap_lt h.hm)).trans h.hm,h.ok,h.rows,h.below.trans (hb.mono h.below.size),h.new⟩
theorem MapIs.put {D:Nat→Prop} {w wr:World} {mp:Nat} {E:List Ent} {clock:Nat} (h:MapIs D w wr mp E clock) {E':List Ent} {clock':Nat} (hok:EntsOk E' clock') (hr:∀ e ∈ E',RowAt w D e.rv e.c.r):MapIs D w (wr.putObj mp (.map (entsA E') clock')) mp E' clock' :=
 ⟨by
  have:=heap_lt h.hm
  simp only [World.putObj,Array.getElem?_setIfInBounds,if_true]
  rw [if_pos this],hok,hr,Below.put h.below h.new _,h.new⟩
theorem MapIs.add {D:Nat→Prop} {w wr:World} {mp:Nat} {E:List Ent} {clock:Nat} (h:MapIs D w wr mp E clock) {k:List UInt8} (hk:entAt E k 0=none) (c:Chg) (rv:Value) (hr:RowAt w D rv c.r):MapIs D w (wr.putObj mp (.map (entsA (E ++ [⟨k,c,rv,clock⟩])) (clock+1))) mp (E ++ [⟨k,c,rv,clock⟩]) (clock+1):=by
 refine h.put (h.ok.add (fun e he hek=>?_) c rv) fun e he=>?_
 · obtain ⟨j,x,h1,_⟩:=entAt_some ⟨e,he,hek⟩ 0
   rw [hk] at h1;cases h1
 · rcases List.mem_append.1 he with he | he
   · exact h.rows e he
   · rw [List.mem_singleton] at he;subst he;exact hr
theorem MapIs.turn {D:Nat→Prop} {w wr:World} {mp:Nat} {E:List Ent} {clock:Nat} (h:MapIs D w wr mp E clock) {i:Nat} {e:Ent} (hi:E[i]? = some e) (c:Chg) (rv:Value) (hr:RowAt w D rv c.r):MapIs D w (wr.putObj mp (.map (entsA (E.set i ⟨e.k,c,rv,e.born⟩)) clock)) mp (E.set i ⟨e.k,c,rv,e.born⟩) clock:=by
 refine h.put (h.ok.put hi c rv) fun x hx=>?_
 rcases List.mem_or_eq_of_mem_set hx with hx | rfl
 · exact h.rows x hx
 · exact hr
def upsErr (cols:List Int) (l:List Chg):Int:=if validChgs l=false∨l.any (fun c=>decide (c.n<0))=true then 1 else if (∃ c ∈ l,keyP c.r cols=none)∨cols.any badCol=true then 7 else 0
theorem three_new (wr:World) (a b c:Value):∃ w1,w1=wr.alloc (.cells #[a,b,c] 42)∧wr.heap.size<w1.heap.size∧w1.heap[wr.heap.size]? = some (.cells #[a,b,c] 42 (0,0))∧Hid (Below wr.heap.size wr w1) :=
 ⟨_,rfl,by simp,World.alloc_heap_new _ _,(Below.refl _ _).alloc (Nat.le_refl _) _⟩
theorem three_cells {W:World} {b:Nat} {x y z:Value} (h:W.heap[b]? = some (.cells #[x,y,z] 42 (0,0))):W.cell? ⟨b,0,none⟩=some x∧W.cell? ⟨b,1,none⟩=some y∧W.cell? ⟨b,2,none⟩=some z :=
 ⟨cells_at h 0,cells_at h 1,cells_at h 2⟩
structure SeenIs (E S:List Ent) (seen:Array Nat):Prop where
 nd:S.Nodup
 sub:∀ e ∈ S,e ∈ E
 iff:∀ e ∈ E,seen.contains e.born=true↔e ∈ S
theorem SeenIs.nil (E:List Ent):SeenIs E [] #[]:=⟨List.Pairwise.nil,fun e h=>(by cases h),fun e _=>(by simp)⟩
theorem EntsOk.born {E:List Ent} {clock:Nat} (h:EntsOk E clock) {e f:Ent} (he:e ∈ E) (hf:f ∈ E) (hb:e.born=f.born):e=f:=by
 obtain ⟨i,hi,rfl⟩:=List.mem_iff_getElem.1 he
 obtain ⟨j,hj,rfl⟩:=List.mem_iff_getElem.1 hf
 have:=h.apart
 rw [List.pairwise_iff_getElem] at this
 rcases Nat.lt_trichotomy i j with q | q | q
 · exact absurd hb (this i j hi hj q).2
 · subst q;rfl
 · exact absurd hb.symm (this j i hj hi q).2
theorem EntsOk.nodup {E:List Ent} {clock:Nat} (h:EntsOk E clock):E.Nodup:=h.apart.imp fun {a b} hab e=>hab.1 (by rw [e])
theorem SeenIs.push {E S:List Ent} {seen:Array Nat} {clock:Nat} (h:SeenIs E S seen) (ho:EntsOk E clock) {y:Ent} (hy:y ∈ E) (hs:seen.contains y.born=false):SeenIs E (S ++ [y]) (seen.push y.born):=by
 have hn:y ∉ S:=fun hm=>by rw [(h.iff y hy).2 hm] at hs;cases hs
 refine ⟨?_,fun e he=>?_,fun e he=>?_⟩
 · have h1:[y].Nodup:=by simp
   refine List.nodup_append.2 ⟨h.nd,h1,fun a ha b hb e=>?_⟩
   rw [List.mem_singleton] at hb
   subst hb e
   exact hn ha
 · rcases List.mem_append.1 he with he | he
   · exact h.sub e he
   · rw [List.mem_singleton] at he;subst he;exact hy
 · have hi:=h.iff e he
   rw [Array.contains_iff_mem] at hi ⊢
   rw [Array.mem_push,List.mem_append,List.mem_singleton,hi]
   constructor
   · rintro (h1 | h1)
     · exact .inl h1
     · exact .inr (ho.born he hy h1)
   · rintro (h1 | h1)
     · exact .inl h1
     · exact .inr (by rw [h1])
theorem SeenIs.len {E S:List Ent} {seen:Array Nat} {clock:Nat} (h:SeenIs E S seen) (ho:EntsOk E clock):S.length≤E.length:=by
 have hp:S.Perm (E.filter fun e=>seen.contains e.born):=(List.perm_ext_iff_of_nodup h.nd (ho.nodup.filter _)).2 fun e=>by
  rw [List.mem_filter]
  constructor
  · intro hs;exact ⟨h.sub e hs,(h.iff e (h.sub e hs)).2 hs⟩
  · rintro ⟨h1,h2⟩;exact (h.iff e h1).1 h2
 rw [hp.length_eq]
 exact List.length_filter_le _ _
theorem SeenIs.all {E S:List Ent} {seen:Array Nat} {clock:Nat} (h:SeenIs E S seen) (ho:EntsOk E clock) (ha:∀ y ∈ E,seen.contains y.born=true):S.Perm E :=
 (List.perm_ext_iff_of_nodup h.nd ho.nodup).2 fun e=>⟨h.sub e,fun he=>(h.iff e he).1 (ha e he)⟩
structure RangeIs (D:Nat→Prop) (w:World) (n0 mp r clock:Nat) (E:List Ent) (wr:World) (v:Value) (S:List Ent) (seen:Array Nat) (ys:List (Itm×Value)) (blk:Option Nat):Prop where
 base:∃ w0 c0,w0.heap.size=n0∧mp<n0∧r<n0∧w0.heap[mp]? = some (.map (entsA E) clock)∧w0.heap[r]? = some (.mapIter (some mp) clock seen c0)∧clock≤c0∧OutI (fun _=>False) w0 wr v ys blk
 seen:SeenIs E S seen
 is:ys.map (·.1)=S.map Ent.itm
 big:w.heap.size≤n0
 below:Below w.heap.size w wr
theorem RangeIs.start {D:Nat→Prop} {w wr:World} {mp clock:Nat} {E:List Ent} (h:MapIs D w wr mp E clock):RangeIs D w (wr.heap.size+1) mp wr.heap.size clock E (wr.alloc (.mapIter (some mp) clock #[] clock)) (.slice none 0 0) [] #[] [] none :=
 ⟨⟨wr.alloc (.mapIter (some mp) clock #[] clock),clock,by simp,Nat.lt_succ_of_lt (heap_lt h.hm),Nat.lt_succ_self _,(Below.heap_alloc _ _ _ (heap_lt h.hm)).trans h.hm,World.alloc_heap_new _ _,Nat.le_refl _,OutI.start _ _⟩,
  SeenIs.nil E,rfl,Nat.le_succ_of_le h.below.size,h.below.alloc h.below.size _⟩
theorem range_left {wr wr':World} {mp r clock clock' c c':Nat} {es:Array MapEntry} {m m':Option Nat} {seen:Array Nat} (h1:wr.heap[mp]? = some (.map es clock)) (h2:wr.heap[r]? = some (.mapIter m clock seen c)) (h3:wr'.heap[mp]? = some (.map es clock')) (h4:wr'.heap[r]? = some (.mapIter m' clock' seen c')):wr'.rangeLeft mp r=wr.rangeLeft mp r:=by
 unfold World.rangeLeft
 rw [h1,h2,h3,h4]
theorem RangeIs.at {D:Nat→Prop} {w:World} {n0 mp r clock:Nat} {E:List Ent} {wr:World} {v:Value} {S:List Ent} {seen:Array Nat} {ys:List (Itm×Value)} {blk:Option Nat} (h:RangeIs D w n0 mp r clock E wr v S seen ys blk) :
 ∃ c0,wr.heap[mp]? = some (.map (entsA E) clock)∧wr.heap[r]? = some (.mapIter (some mp) clock seen c0)∧clock≤c0:=by
 obtain ⟨w0,c0,h1,h2,h3,h4,h5,h6,h7⟩:=h.base
 exact ⟨c0,(h7.below.block mp (by omega)).trans h4,(h7.below.block r (by omega)).trans h5,h6⟩
theorem RangeIs.form {D:Nat→Prop} {w:World} {n0 mp r clock:Nat} {E:List Ent} {wr:World} {v:Value} {S:List Ent} {seen:Array Nat} {ys:List (Itm×Value)} {blk:Option Nat} (h:RangeIs D w n0 mp r clock E wr v S seen ys blk):∃ a c,v=.slice a ys.length c:=by
 obtain ⟨_,_,_,_,_,_,_,_,h7⟩:=h.base
 exact h7.own.form
theorem RangeIs.step {D:Nat→Prop} {w:World} {n0 mp r clock:Nat} {E:List Ent} {wr w2:World} {v:Value} {S:List Ent} {seen seen':Array Nat} {ys:List (Itm×Value)} {blk:Option Nat} (h:RangeIs D w n0 mp r clock E wr v S seen ys blk) (hne:mp≠r) (hwr:w.heap.size≤r)
 (hr2:w2.heap[r]? = some (.mapIter (some mp) clock seen' clock)) (hb:∀ b,b≠r→w2.heap[b]? = wr.heap[b]?) (hw:w2.os=wr.os∧w2.tape=wr.tape∧w2.output=wr.output∧w2.heap.size=wr.heap.size) :
 Below w.heap.size w w2∧∃ w0,w0.heap.size=n0∧mp<n0∧r<n0∧w0.heap[mp]? = some (.map (entsA E) clock)∧w0.heap[r]? = some (.mapIter (some mp) clock seen' clock)∧OutI (fun _=>False) w0 w2 v ys blk:=by
 obtain ⟨w0,c0,h1,h2,h3,h4,h5,h6,h7⟩:=h.base
 refine ⟨⟨hw.1.trans h.below.os,hw.2.1.trans h.below.tape,hw.2.2.1.trans h.below.output,by rw [hw.2.2.2];exact h.below.size,fun b hlt=>(hb b (by omega)).trans (h.below.block b hlt)⟩,
  w0.putObj r (.mapIter (some mp) clock seen' clock),by simp [World.putObj,h1],h2,h3,?_,?_,?_⟩
 · simp only [World.putObj,Array.getElem?_setIfInBounds]
   rw [if_neg (fun e=>hne e.symm)];exact h4
 · simp only [World.putObj,Array.getElem?_setIfInBounds,if_true]
   rw [if_pos (by omega)]
 · have hsz:(w0.putObj r (.mapIter (some mp) clock seen' clock)).heap.size=w0.heap.size:=by simp [World.putObj]
   have hz:w0.heap.size≤w2.heap.size:=by rw [hw.2.2.2];exact h7.below.size
   refine ⟨h7.own.keep fun g hg=>hb g (fun e=>by have:=h7.new g hg;omega),fun g hg=>by rw [hsz];exact h7.new g hg,fun p hp=>?_,?_⟩
   · rw [hsz,hw.2.2.2]
     exact (h7.rows p hp).keep fun b hb' _=>hb b (fun e=>by
      rcases hb'.1 with h8 | h8
      · exact h8
      · omega)
   · rw [hsz]
     refine ⟨hw.1.trans h7.below.os,hw.2.1.trans h7.below.tape,hw.2.2.1.trans h7.below.output,by rw [hsz];exact hz,fun b hlt=>?_⟩
     by_cases e:b=r
     · subst e
       rw [hr2]
       simp only [World.putObj,Array.getElem?_setIfInBounds,if_true]
       rw [if_pos (by omega)]
     · rw [hb b e,h7.below.block b hlt]
       simp only [World.putObj,Array.getElem?_setIfInBounds]
       rw [if_neg (fun e'=>e e'.symm)]
section leaves
set_option maxHeartbeats 1000000
set_option maxRecDepth 100000
theorem f6_any (hmx:Tryz.prog.follows .mixedOrders=true) (w:World) (v cv:Value) (l:List Chg) (cols:List Int) (D:Nat→Prop) (h:ChgsAt w D v l) (hc:NumsAt w cv cols) (hl:l.length≤60) (hkl:cols.length≤100) (ht:TabsU w) (hcap:RowsCap w v) (hD:∀ b,D b→b<w.heap.size) :
 Calls Tryz.prog 6 #[v,cv] w fun e w'=>(∃ v',e=.returned (.tuple #[v',.int .i64 (upsErr cols l)])∧(upsErr cols l≠0→v'=.slice none 0 0)∧(upsErr cols l=0→BagAt w' (fun b=>w.heap.size≤b) v' (newR cols l)))∧Below w.heap.size w w':=by
 have H17:=Lib.hid (f17_any w v l D h)
 have H18:=Lib.hid (fun W (hb:Below w.heap.size w W)=>f18_of 19 (.inr (.inl rfl)) (fun c=>decide (c.n<0)) f19_any W v l D (h.below hb))
 have HC:=Lib.hid h
 have HCP:=Lib.hid hcap
 have H22:=Lib.hid (fun W (hb:Below w.heap.size w W)=>f22_any W cv cols (hc.below hb))
 have HT:=Lib.hid (fun W (hb:Below w.heap.size w W)=>ht.below hb)
 have HN:=Lib.hid (fun W (hb:Below w.heap.size w W)=>hc.below hb)
 have hmm:=@run_makeMap Tryz.prog
 obtain ⟨i0,hi0,hz0,hz1,hz2⟩:=info_parts info65
 obtain ⟨va,vc,rfl,-,-⟩:=id h
 obtain ⟨ca,cc,rfl,-,-⟩:=id hc
 have HKL:=Lib.hid hkl
 clear h hc hcap ht hkl
 have HB0:=Lib.hid (Below.refl w.heap.size w)
 cases hval:validChgs l with
 | false =>
   have hu:upsErr cols l=1:=by simp [upsErr,hval]
   rw [hu]
   rw [hval] at H17
   go_enter Tryz.func6,Tryz.ntmps6
   go_wp2_with (go_at_call 17;with_reducible refine H17.out.mono ?_;rintro e w1 ⟨rfl,hb1⟩)
   go_ret2
   exact ⟨⟨_,rfl,fun _=>rfl,fun h=>absurd h (by omega)⟩,hb1⟩
 | true =>
   rw [hval] at H17
   cases hneg:l.any (fun c=>decide (c.n<0)) with
   | true =>
     have hu:upsErr cols l=1:=by simp [upsErr,hneg]
     rw [hu]
     rw [hneg] at H18
     go_enter Tryz.func6,Tryz.ntmps6
     go_wp2_with (first
      | (go_at_call 17;with_reducible refine H17.out.mono ?_;rintro e w1 ⟨rfl,hb1⟩;have HB1:=Lib.hid hb1;clear hb1)
      | (go_at_call 18;with_reducible refine (H18.out _ HB1.out).mono ?_;rintro e w2 ⟨rfl,hb2⟩;have HB2:=Lib.hid (HB1.out.trans (hb2.mono HB1.out.size));clear hb2))
     go_ret2
     exact ⟨⟨_,rfl,fun _=>rfl,fun h=>absurd h (by omega)⟩,HB2.out⟩
   | false =>
     rw [hneg] at H18
     have hok:∀ c ∈ l,validChg c=true:=fun c hc=>by
      unfold validChgs at hval
      rw [Bool.and_eq_true,List.all_eq_true] at hval
      exact hval.2 c hc
     have HOK:=Lib.hid hok
     have HU:Hid (upsErr cols l=if (∃ c ∈ l,keyP c.r cols=none)∨cols.any badCol=true then 7 else 0):=by
      show _=_
      unfold upsErr
      rw [if_neg (by simp [hval,hneg])]
     clear hok hval hneg
     go_enter Tryz.func6,Tryz.ntmps6
     go_wp2_with (first
      | (go_at_call 17;with_reducible refine H17.out.mono ?_;rintro e w1 ⟨rfl,hb1⟩;have HB1:=Lib.hid hb1;clear hb1)
      | (go_at_call 18;with_reducible refine (H18.out _ HB1.out).mono ?_;rintro e w2 ⟨rfl,hb2⟩;have HB2:=Lib.hid (HB1.out.trans (hb2.mono HB1.out.size));have hmm2:=hmm 55 w2;obtain ⟨mp,hmp⟩:∃ mp,mp=w2.heap.size:=⟨_,rfl⟩;have HM0:=Lib.hid (MapIs.start D HB2.out);rw [← hmp] at hmm2 HM0;have HMP:=Lib.hid hmp;clear hmp hb2 hmm))
     go_loopw [26] (fun s26 wr=>∃ (k:Nat) (E:List Ent) (clock:Nat),s26=.int .i64 k∧k≤l.length∧Hid (MapIs D w wr mp E clock)∧Hid (Won cols (l.take k) E)∧Hid (E.length≤k)) (fun i _=>l.length - (intOf i).toNat)
     case atStart=>exact ⟨0,[],0,rfl,by omega,HM0,by rw [List.take_zero];exact Won.nil _,Nat.le_refl 0⟩
     case round =>
      obtain ⟨k,E,clock,rfl,hk,HM,HW,HEL⟩:=hrel
      by_cases hlt:k<l.length
      · obtain ⟨bL,oL,rv,rfl,⟨c0,c1,c2⟩,hr⟩:=HC.out.at hlt
        have hbl:=cell_lt c0
        obtain ⟨cc0,hcc⟩:∃ cc,cc=l[k]:=⟨_,rfl⟩
        have hcv:validChg cc0=true:=HOK.out cc0 (by rw [hcc];exact List.getElem_mem hlt)
        have HCC:=Lib.hid hcc
        rw [← hcc] at c0 c2 hr
        clear hcc
        obtain ⟨ct,cr,cn⟩:=cc0
        simp only at c0 c1 c2 hr
        obtain ⟨ra,rc,rfl,-,-⟩:=id hr
        have hrc:cr.length≤rc:=HCP.out bL oL l.length vc rfl k hlt ra cr.length rc c1
        rw [← HM.out.below.cell (p:=⟨bL,_,none⟩) hbl] at c0 c1 c2
        have h8:cr.length≤8∧(∀ v ∈ cr,validValue v=true):=by
         simp [validChg,validRow] at hcv
         exact ⟨by omega,hcv.1.2.2⟩
        have H20:=Lib.hid (fun W (hb:Below w.heap.size w W)=>f20_any W ra rc (.slice ca cols.length cc) cr cols D (hr.below hb) hrc h8.2 h8.1 (HN.out W hb) HKL.out (HT.out W hb))
        have HR:=Lib.hid hr
        have HSUC:Hid (l.take (k+1)=l.take k ++ [⟨ct,cr,cn⟩]):=by
         show _=_
         rw [List.take_succ_eq_append_getElem hlt,← HCC.out]
        obtain ⟨w1,hw1,hs1,hx1,HB1X⟩:=three_new wr (.int .i64 ct) (.slice ra cr.length rc) (.int .i64 cn)
        have HM1:=Lib.hid (HM.out.next HB1X.out)
        have HX1:=Lib.hid hx1
        clear hr hrc h8 hcv hbl
        cases hkp:keyP cr cols with
        | none =>
          rw [hkp] at H20
          simp only [keyR] at H20
          have hu:upsErr cols l=7:=by
           rw [HU.out,if_pos (.inl ⟨l[k],List.getElem_mem hlt,by rw [← HCC.out];exact hkp⟩)]
          have HUE:=Lib.hid hu
          clear hkp hu
          go_wp2_with (go_at_call 20;rw [← hw1];with_reducible refine (H20.out _ HM1.out.below).mono ?_;rintro e w2 ⟨rfl,hb2⟩)
          go_ret2
          exact ⟨⟨_,by rw [HUE.out];rfl,fun _=>rfl,fun h=>absurd h (by rw [HUE.out];omega)⟩,HM1.out.below.trans (hb2.mono HM1.out.below.size)⟩
        | some t =>
          rw [hkp] at H20
          simp only [keyR] at H20
          have HKP:=Lib.hid hkp
          clear hkp
          cases hent:entAt E t 0 with
          | none =>
            have HENT:=Lib.hid hent
            clear hent
            go_wp2_with (go_at_call 20;rw [← hw1];with_reducible refine (H20.out _ HM1.out.below).mono ?_;rintro e w2 ⟨rfl,hb2⟩
                         have HM2:=Lib.hid (HM1.out.next hb2)
                         have hx2:=(hb2.block _ hs1).trans HX1.out
                         have hs2:=heap_lt hx2
                         obtain ⟨b0,b1,b2⟩:=three_cells hx2
                         have hlk:=lookup_none w2 mp clock t HM2.out.hm HENT.out
                         have HX2:=Lib.hid hx2
                         obtain ⟨w3,hw3,hs3,hx3,HB3X⟩:=three_new w2 (.int .i64 0) (.slice none 0 0) (.int .i64 0)
                         have HM3:=Lib.hid (HM2.out.next HB3X.out)
                         have hst:=store_new w3 mp clock t ⟨ct,cr,cn⟩ (.slice ra cr.length rc) HM3.out.hm HENT.out
                         rw [hw3] at hst
                         have HW3:=Lib.hid hw3
                         clear hb2 hx2 hx3 hs3 hw3)
            refine ⟨⟨k+1,E ++ [⟨t,⟨ct,cr,cn⟩,.slice ra cr.length rc,clock⟩],clock+1,by go_num,by omega,?_,?_,Lib.hid (by have:=HEL.out;simp;omega)⟩,by simp [intOf];omega⟩
            · rw [← HW3.out]
              exact Lib.hid (HM3.out.add HENT.out ⟨ct,cr,cn⟩ _ HR.out)
            · rw [HSUC.out]
              exact Lib.hid (HW.out.add HKP.out _ _)
          | some p =>
            obtain ⟨j,e,hent,hej,hek⟩:∃ j e,entAt E t 0=some (j,e)∧E[j]? = some e∧e.k=t:=by
             have hex:∃ e ∈ E,e.k=t:=Classical.byContradiction fun hno=>by
              rw [entAt_none (fun e he hek=>hno ⟨e,he,hek⟩)] at hent
              cases hent
             obtain ⟨j,e,h1,h2,h3⟩:=entAt_some hex 0
             exact ⟨j,e,by simpa using h1,h2,h3⟩
            have HENT:=Lib.hid hent
            have hem:e ∈ E:=List.mem_of_getElem? hej
            have her:=HM.out.rows e hem
            have HEJ:=Lib.hid hej
            have HEM:=Lib.hid hem
            obtain ⟨ek,ec,erv,eb⟩:=e
            simp only at hek her
            subst hek
            obtain ⟨et,er,en⟩:=ec
            simp only at her
            obtain ⟨ea,eca,rfl,-,-⟩:=id her
            have HER:=Lib.hid her
            obtain ⟨q,hq⟩:∃ q,q=cmpChg ⟨et,er,en⟩ ⟨ct,cr,cn⟩:=⟨_,rfl⟩
            have HQ:=Lib.hid hq
            have H21:Hid (∀ W,Below w.heap.size w W→Calls Tryz.prog 21 #[.agg #[.int .i64 et,.slice ea er.length eca,.int .i64 en],.agg #[.int .i64 ct,.slice ra cr.length rc,.int .i64 cn]] W fun e w'=>e=.returned (.int .i64 q)∧Grew W w'):=fun W hb=>by
             rw [hq]
             exact f21_any hmx W ⟨et,er,en⟩ ⟨ct,cr,cn⟩ _ _ D D (HER.out.below hb) (HR.out.below hb)
            clear hent hem hej her hq
            by_cases hq0:q<0
            · go_wp2_with (first
               | (go_at_call 20;rw [← hw1];with_reducible refine (H20.out _ HM1.out.below).mono ?_;rintro e w2 ⟨rfl,hb2⟩
                  have HM2:=Lib.hid (HM1.out.next hb2)
                  have hx2:=(hb2.block _ hs1).trans HX1.out
                  have hs2:=heap_lt hx2
                  have hlk:=lookup_some w2 mp clock ek HM2.out.hm HENT.out
                  obtain ⟨w3,hw3,hs3,hx3,HB3X⟩:=three_new w2 (.int .i64 et) (.slice ea er.length eca) (.int .i64 en)
                  have HM3:=Lib.hid (HM2.out.next HB3X.out)
                  have hx23:=(HB3X.out.block _ hs2).trans hx2
                  obtain ⟨b0,b1,b2⟩:=three_cells hx23
                  obtain ⟨d0,d1,d2⟩:=three_cells hx3
                  have hs23:=heap_lt hx23
                  have HX2:=Lib.hid hx23
                  have HW3:=Lib.hid hw3
                  rw [hw3] at b0 b1 b2 d0 d1 d2
                  clear hb2 hx2 hx3 hw3 hx23)
               | (go_at_call 21;rw [← HW3.out];with_reducible refine (H21.out _ HM3.out.below).mono ?_;rintro e w4 ⟨rfl,hg4⟩
                  have HM4:=Lib.hid (HM3.out.next hg4.below)
                  obtain ⟨b0,b1,b2⟩:=three_cells ((hg4.below.block _ hs23).trans HX2.out)
                  have hst:=store_old w4 mp clock ek ⟨ct,cr,cn⟩ (.slice ra cr.length rc) HM4.out.hm HENT.out HEJ.out rfl
                  clear hg4))
              refine ⟨⟨k+1,E.set j ⟨ek,⟨ct,cr,cn⟩,.slice ra cr.length rc,eb⟩,clock,by go_num,by omega,?_,?_,Lib.hid (by have:=HEL.out;simp;omega)⟩,by simp [intOf];omega⟩
              · exact Lib.hid (HM4.out.turn HEJ.out ⟨ct,cr,cn⟩ _ HR.out)
              · rw [HSUC.out]
                exact Lib.hid (HW.out.put HEJ.out HKP.out (by rw [← HQ.out];exact hq0) _)
            · go_wp2_with (first
               | (go_at_call 20;rw [← hw1];with_reducible refine (H20.out _ HM1.out.below).mono ?_;rintro e w2 ⟨rfl,hb2⟩
                  have HM2:=Lib.hid (HM1.out.next hb2)
                  have hx2:=(hb2.block _ hs1).trans HX1.out
                  have hs2:=heap_lt hx2
                  have hlk:=lookup_some w2 mp clock ek HM2.out.hm HENT.out
                  obtain ⟨w3,hw3,hs3,hx3,HB3X⟩:=three_new w2 (.int .i64 et) (.slice ea er.length eca) (.int .i64 en)
                  have HM3:=Lib.hid (HM2.out.next HB3X.out)
                  have hx23:=(HB3X.out.block _ hs2).trans hx2
                  obtain ⟨b0,b1,b2⟩:=three_cells hx23
                  obtain ⟨d0,d1,d2⟩:=three_cells hx3
                  have hs23:=heap_lt hx23
                  have HX2:=Lib.hid hx23
                  have HW3:=Lib.hid hw3
                  rw [hw3] at b0 b1 b2 d0 d1 d2
                  clear hb2 hx2 hx3 hw3 hx23)
               | (go_at_call 21;rw [← HW3.out];with_reducible refine (H21.out _ HM3.out.below).mono ?_;rintro e w4 ⟨rfl,hg4⟩
                  have HM4:=Lib.hid (HM3.out.next hg4.below)
                  obtain ⟨b0,b1,b2⟩:=three_cells ((hg4.below.block _ hs23).trans HX2.out)
                  clear hg4))
              refine ⟨⟨k+1,E,clock,by go_num,by omega,HM4,?_,Lib.hid (by have:=HEL.out;omega)⟩,by simp [intOf];omega⟩
              rw [HSUC.out]
              exact Lib.hid (HW.out.stay HEM.out HKP.out (by rw [← HQ.out];omega))
      · have hkl:k=l.length:=by omega
        have HW2:Hid (Won cols l E):=by
         have:=HW.out
         rw [hkl,List.take_length] at this
         exact Lib.hid this
        have HEK:Hid (E.length≤60):=Lib.hid (by have:=HEL.out;omega)
        have hnk:∀ c ∈ l,keyP c.r cols≠none:=fun c hc hn=>by
         obtain ⟨e,_,h1,_⟩:=HW2.out.top c hc
         rw [hn] at h1;cases h1
        have HNK:=Lib.hid hnk
        clear hkl hnk HW HEL
        cases hbad:cols.any badCol with
        | true =>
          rw [hbad] at H22
          have hu:upsErr cols l=7:=by rw [HU.out,if_pos (.inr hbad)]
          have HUE:=Lib.hid hu
          clear hbad hu
          go_wp2_with (go_at_call 22;with_reducible refine (H22.out _ HM.out.below).mono ?_;rintro e w2 ⟨rfl,hb2⟩)
          go_ret2
          exact ⟨⟨_,by rw [HUE.out];rfl,fun _=>rfl,fun h=>absurd h (by rw [HUE.out];omega)⟩,HM.out.below.trans (hb2.mono HM.out.below.size)⟩
        | false =>
          rw [hbad] at H22
          have hu:upsErr cols l=0:=by
           rw [HU.out,if_neg]
           rintro (⟨c,hc,hn⟩ | hn)
           · exact HNK.out c hc hn
           · rw [hbad] at hn;cases hn
          have HUE:=Lib.hid hu
          clear hbad hu
          go_wp2_with (go_at_call 22;with_reducible refine (H22.out _ HM.out.below).mono ?_;rintro e w2 ⟨rfl,hb2⟩
                       have HM2:=Lib.hid (HM.out.next hb2)
                       have hrg:=run_range_map (P:=Tryz.prog) w2 55 9 42 mp _ clock Tryz.underlying55 HM2.out.hm
                       obtain ⟨r,hr⟩:∃ r,r=w2.heap.size:=⟨_,rfl⟩
                       have HR0:=Lib.hid (RangeIs.start HM2.out)
                       rw [← hr] at hrg HR0
                       have hne:mp≠r:=fun e=>by have:=heap_lt HM2.out.hm;omega
                       have hwr:w.heap.size≤r:=by rw [hr];exact HM2.out.below.size
                       have HNE:=Lib.hid hne
                       have HWR:=Lib.hid hwr
                       have HOKE:=Lib.hid HM2.out.ok
                       have HROW:=Lib.hid HM2.out.rows
                       clear hb2 hr hne hwr)
          go_loopw [13] (fun s13 wx=>∃ (S:List Ent) (seen:Array Nat) (ys:List (Itm×Value)) (blk:Option Nat),Hid (RangeIs D w (r+1) mp r clock E wx s13 S seen ys blk)) (fun _ wx=>wx.rangeLeft mp r)
          case atStart=>exact ⟨[],#[],[],none,HR0⟩
          case round =>
           obtain ⟨S,seen,ys,blk,HRI⟩:=hrel
           obtain ⟨c0,hm0,hr0,hle⟩:=HRI.out.at
           obtain ⟨a,cp,rfl⟩:=HRI.out.form
           have hyl:ys.length≤60:=by
            have h1:=congrArg List.length HRI.out.is
            simp only [List.length_map] at h1
            have h2:=HRI.out.seen.len HOKE.out
            have h3:=HEK.out
            omega
           rcases range_step hm0 hr0 hle HOKE.out 0 with ⟨hall,hrun⟩ | ⟨y,hy,hys,w3,hrun,hlt3,hen,hm3,hr3,hb3,hw3⟩
           · have hS:=HRI.out.seen.all HOKE.out hall
             have HS:=Lib.hid hS
             obtain ⟨w0,c1,g1,g2,g3,g4,g5,g6,HO⟩:=HRI.out.base
             have H26a:=f26_any hmx _ (.slice a ys.length cp) ys blk _ HO.own (by omega) HO.rows
             have H26:=Lib.hid (H26a (fun g hg hb=>hb.2.2 hg))
             have HOO:=Lib.hid HO
             have HG1:=Lib.hid g1
             clear hall hS g1 g2 g3 g4 g5 g6 HO hm0 hr0 hle H26a
             go_wp2_with (go_at_call 26;with_reducible refine H26.out.mono ?_;rintro e w4 ⟨rfl,⟨l',hp,hs,hbag⟩,hg⟩;have HP:=Lib.hid hp;have HSO:=Lib.hid hs;have HBG:=Lib.hid hbag;have HGR:=Lib.hid hg;clear hp hs hbag hg)
             go_ret2
             have hsz:w.heap.size≤w0.heap.size:=by have:=HWR.out;have:=HG1.out;omega
             have hnew:∀ g,blk=some g→w.heap.size≤g:=fun g hg=>Nat.le_trans hsz (HOO.out.new g hg)
             have hl':l'=newR cols l:=won_newR HW2.out HOKE.out (fun c hc=>okC_of (HOK.out c hc)) HS.out (by have:=HP.out;rw [HRI.out.is] at this;exact this) HSO.out
             refine ⟨⟨_,by rw [HUE.out];rfl,fun h=>absurd HUE.out h,fun _=>?_⟩,HRI.out.below.grown HGR.out HRI.out.below.size hnew⟩
             rw [← hl']
             refine HBG.out.mono fun b hb=>?_
             rcases hb with hb | hb
             · rcases hb.1 with h | h
               · exact h.elim
               · exact Nat.le_trans hsz h
             · exact hnew b hb
           · obtain ⟨hbw,w0,g1,g2,g3,g4,g5,HO3⟩:=HRI.out.step HNE.out HWR.out hr3 hb3 hw3
             have hyv:validChg y.c=true:=HOK.out _ (HW2.out.src y hy)
             have hyr:=(HROW.out y hy).below hbw
             have HY:=Lib.hid hy
             have HYS:=Lib.hid hys
             obtain ⟨yk,yc,yv,yb⟩:=y
             obtain ⟨yt,yr,yn⟩:=yc
             simp only at hyv hyr
             obtain ⟨ya,yp,rfl,-,-⟩:=id hyr
             have h8:yr.length≤1000:=by
              simp [validChg,validRow] at hyv
              omega
             obtain ⟨w4,hw4,hs4,hx4,HB4⟩:=three_new w3 (.int .i64 yt) (.slice ya yr.length yp) (.int .i64 yn)
             obtain ⟨b0,b1,b2⟩:=three_cells hx4
             have HO4:=Lib.hid (HO3.next HB4.out)
             have H25:=Lib.hid (f25_any w4 (.slice ya yr.length yp) yr D (hyr.below HB4.out) h8)
             have HW4:=Lib.hid hw4
             have hz3:w0.heap.size≤w4.heap.size:=HO4.out.below.size
             have HZ3:=Lib.hid hz3
             have HBL:=Lib.hid (fun g (hg:blk=some g)=>HO4.out.own.lt_of hg)
             have HBW:=Lib.hid (hbw.trans (HB4.out.mono hbw.size))
             have HST:=Lib.hid (And.intro g1 (And.intro g2 (And.intro g3 (And.intro g4 g5))))
             have HLT:=Lib.hid hlt3
             have HM3:=Lib.hid (And.intro hm3 hr3)
             rw [hw4] at b0 b1 b2
             clear hyv hyr hy hys hbw HO3 g1 g2 g3 g4 g5 hm0 hr0 hle hlt3 hm3 hr3 hb3 hw3 hx4 hw4 hz3
             go_wp2_with (first
              | (go_at_call 25;rw [← HW4.out];with_reducible refine H25.out.mono ?_;rintro e w5 ⟨⟨v5,rfl,hr5⟩,hb5⟩
                 obtain ⟨a5,c5,rfl,-,-⟩:=id hr5
                 have HO5:=Lib.hid (HO4.out.next hb5)
                 have HR5:=Lib.hid hr5
                 have HB5:=Lib.hid hb5
                 clear hr5 hb5)
              | (at_builtin;refine wpList_append_S rfl (.tmp 65) (.tmp 70) 27 rfl 65 i0 _ 2 32 Tryz.underlying27 hi0 hz0 hz1 hz2 rfl (by omega) (.slice a ys.length cp) ys.length (iels ys) blk rfl (HO5.out.next ((Below.refl _ _).alloc (Nat.le_refl _) (.cells #[.slice a5 yr.length c5,.int .i64 1] 65))).own (.slice (some ⟨w5.heap.size,0,none⟩) 1 1) 1 [.slice a5 yr.length c5,.int .i64 1] rfl (itm_src _ _ rfl _ _ rfl) (fun u hu=>by simp at hu;rcases hu with rfl | rfl <;> rfl) (by simp only [maxLen];omega) (by omega) ?_;intro v6 w6 blk6 hown6 hgrow6 hat6
                 have HRW:Hid (RowAt w5 (fun b=>(False∨w0.heap.size≤b)∧b<w5.heap.size∧blk≠some b) (.slice a5 yr.length c5) yr):=Lib.hid (HR5.out.lt.mono fun b hb=>⟨.inr (Nat.le_trans HZ3.out hb.1),hb.2,fun e=>by have:=HBL.out b e;omega⟩)
                 have HO6:=Lib.hid (HO5.out.add ⟨yr,1⟩ (.slice a5 yr.length c5) HRW.out hown6 hgrow6 hat6)
                 have HG6:=Lib.hid hgrow6
                 clear hown6 hgrow6 hat6))
             have hrel:RangeIs D w (r+1) mp r clock E w6 v6 (S ++ [⟨yk,⟨yt,yr,yn⟩,.slice ya yr.length yp,yb⟩]) (seen.push yb) (ys ++ [(⟨yr,1⟩,.slice a5 yr.length c5)]) blk6:=by
              obtain ⟨g1,g2,g3,g4,g5⟩:=HST.out
              refine ⟨⟨w0,clock,g1,g2,g3,g4,g5,Nat.le_refl _,HO6.out⟩,HRI.out.seen.push HOKE.out HY.out HYS.out,by rw [List.map_append,List.map_append,HRI.out.is];rfl,HRI.out.big,?_⟩
              have hb5:=HBW.out.trans (HB5.out.mono HBW.out.size)
              have hw0:w.heap.size≤w0.heap.size:=by have:=HWR.out;omega
              exact (hb5.alloc hb5.size _).grown HG6.out (by have:=hb5.size;simp;omega) (fun g hg=>Nat.le_trans hw0 (HO5.out.new g hg))
             obtain ⟨c6,hm6,hr6,_⟩:=hrel.at
             refine ⟨⟨_,_,_,_,Lib.hid hrel⟩,?_⟩
             rw [range_left HM3.out.1 HM3.out.2 hm6 hr6]
             exact HLT.out
end leaves
theorem val_src (w:World) (n:Nat) (hn:n=w.heap.size) (a b c:Value) (ha:a.oneCell'=true) (hb:b.oneCell'=true) (hc:c.oneCell'=true):Src (w.alloc (.cells #[a,b,c] 44)) 3 (.slice (some ⟨n,0,none⟩) 1 1) 1 [a,b,c]:=by
 subst hn
 exact SlOwn.src (e:=44) (blk:=some w.heap.size) ⟨rfl,.inr ⟨_,0,1,_,rfl,rfl,World.alloc_heap_new w _,Nat.le_refl _,by simp [maxLen],by simp,rfl⟩⟩
theorem picks_succ (row:List Val) {cols:List Int} {k:Nat} (hk:k<cols.length):rowC (picks row (cols.take (k+1)))=rowC (picks row (cols.take k)) ++ [.int .i64 (valAt row cols[k]).k,.int .i64 (valAt row cols[k]).n,.string (valAt row cols[k]).s]:=by
 rw [List.take_succ_eq_append_getElem hk]
 simp only [picks,List.map_append,List.map_cons,List.map_nil,rowC,List.flatMap_append,List.flatMap_cons,List.flatMap_nil,valC,List.append_nil]
section leaves
set_option maxHeartbeats 400000
set_option maxRecDepth 10000
theorem f52_any (w:World) (rv cv:Value) (row:List Val) (cols:List Int) (D:Nat→Prop) (hr:RowAt w D rv row) (hc:NumsAt w cv cols) (hl:cols.length≤100) (hok:∀ c ∈ cols,okCol row c=true) :
 Calls Tryz.prog 52 #[rv,cv] w fun e w'=>(∃ v,e=.returned v∧RowAt w' (fun b=>w.heap.size≤b) v (picks row cols))∧Below w.heap.size w w':=by
 obtain ⟨i0,hi0,hz0,hz1,hz2⟩:=info_parts info44
 have HN:=Lib.hid hc
 have HR:=Lib.hid hr
 have HOK:=Lib.hid hok
 obtain ⟨ra,rc,rfl,-,-⟩:=id hr
 obtain ⟨ca,cc,rfl,-,-⟩:=id hc
 clear hr hc hok
 go_enter Tryz.func52,Tryz.ntmps52
 go_wp2
 go_loopw [5,6] (fun s5 s6 wr=>∃ (k:Nat) (blk:Option Nat),s6=.int .i64 k∧k≤cols.length∧Hid (SlOwn wr 44 3 s5 k (rowC (picks row (cols.take k))) blk)∧Hid (∀ g,blk=some g→w.heap.size≤g)∧Hid (Below w.heap.size w wr)) (fun _ i _=>cols.length - (intOf i).toNat)
 case atStart=>exact ⟨0,none,rfl,by omega,SlOwn.nil _ _ _,(fun g e=>(by cases e)),Below.refl _ _⟩
 case round =>
  obtain ⟨k,blk,rfl,hk,HO,HNW,HB⟩:=hrel
  obtain ⟨a,cp,rfl⟩:=HO.out.form
  by_cases hlt:k<cols.length
  · obtain ⟨bC,oC,rfl,hcc⟩:=(HN.out.below HB.out).at hlt
    have hokc:=HOK.out cols[k] (List.getElem_mem hlt)
    have HPS:=Lib.hid (picks_succ row hlt)
    obtain ⟨c,hcx⟩:∃ c,c=cols[k]:=⟨_,rfl⟩
    rw [← hcx] at hcc hokc HPS
    clear hcx
    have hcb:0≤c∧c<(row.length:Int):=by simp [okCol,withinB] at hokc;omega
    obtain ⟨i,rfl⟩:∃ i:Nat,c=(i:Int):=⟨c.toNat,by omega⟩
    have hir:i<row.length:=by omega
    have hva:valAt row (i:Int)=row[i]:=by simp [valAt,hir]
    obtain ⟨b,off,rfl,-⟩:=HR.out.sub hir (rc - i)
    have hx:=(HR.out.below HB.out)
    obtain ⟨a',cap',hv,-,hx⟩:=hx
    injection hv with ha _ _
    subst ha
    obtain ⟨b',off',he,-,hcells⟩:=hx.resolve_left (fun e=>by rw [e] at hir;simp at hir)
    injection he with he
    injection he with he1 he2 _
    subst he1 he2
    obtain ⟨x0,x1,x2⟩:=hcells i hir
    rw [← hva] at x0 x1 x2
    obtain ⟨xv,hxv⟩:∃ xv,xv=valAt row (i:Int):=⟨_,rfl⟩
    rw [← hxv] at x0 x1 x2 HPS
    clear hcells hva hxv hokc
    go_wp2_with (at_builtin;refine wpList_append_S rfl (.tmp 13) (.tmp 21) 40 rfl 44 i0 _ 3 32 Tryz.underlying40 hi0 hz0 hz1 hz2 rfl (by omega) (.slice a k cp) k (rowC (picks row (cols.take k))) blk rfl (HO.out.keep fun g hg=>Below.heap_alloc _ _ _ (HO.out.lt_of hg)) (.slice (some ⟨wr.heap.size,0,none⟩) 1 1) 1 [.int .i64 xv.k,.int .i64 xv.n,.string xv.s] rfl (val_src _ _ rfl _ _ _ rfl rfl rfl) (fun u hu=>by simp at hu;rcases hu with rfl | rfl | rfl <;> rfl) (by simp only [maxLen];omega) (by omega) ?_;intro v6 w6 blk6 hown6 hgrow6 hat6
                 have HO6:=Lib.hid hown6
                 have H6:=Lib.hid (own_new (HB.out.alloc HB.out.size _) HNW.out hgrow6 hat6)
                 clear hown6 hgrow6 hat6)
    refine ⟨⟨k+1,by go_num,by omega,blk6,?_,Lib.hid H6.out.2,Lib.hid H6.out.1⟩,by simp [intOf];omega⟩
    rw [HPS.out]
    exact HO6.out
  · have hkl:k=cols.length:=by omega
    subst hkl
    go_wp2
    go_ret
    have ho:=HO.out
    rw [List.take_length] at ho
    have hpl:(picks row cols).length=cols.length:=by simp [picks]
    rw [← hpl] at ho
    exact ⟨⟨_,rfl,by rw [← hpl];exact (ho.row (by rw [hpl];omega)).mono fun b e=>HNW.out b e⟩,HB.out⟩
end leaves
theorem nOf_hit {l:List Itm} {r:List Val} {k:Nat} (hk:k<l.length) (h:cmpRow l[k].r r=0) (hb:∀ j (h:j<l.length),j<k→cmpRow l[j].r r≠0):nOf l r=l[k].n:=by
 have:l.find? (fun x=>cmpRow x.r r == 0)=some l[k]:=by
  rw [List.find?_eq_some_iff_getElem]
  exact ⟨by simp [h],k,hk,rfl,fun j hj=>by simpa using hb j (by omega) hj⟩
 simp [nOf,this]
theorem nOf_miss {l:List Itm} {r:List Val} (hb:∀ j (h:j<l.length),cmpRow l[j].r r≠0):nOf l r=0:=by
 have:l.find? (fun x=>cmpRow x.r r == 0)=none:=by
  rw [List.find?_eq_none]
  intro x hx
  obtain ⟨i,hi,rfl⟩:=List.mem_iff_getElem.1 hx
  simpa using hb i hi
 simp [nOf,this]
section leaves
set_option maxHeartbeats 1000000
set_option maxRecDepth 10000
theorem f53_any (hm:Tryz.prog.follows .mixedOrders=true) (w:World) (v rv:Value) (l:List Itm) (r:List Val) (D DR:Nat→Prop) (h:BagAt w D v l) (hr:RowAt w DR rv r) :
 Calls Tryz.prog 53 #[v,rv] w fun e w'=>e=.returned (.int .i64 (nOf l r))∧Below w.heap.size w w':=by
 have HC:=Lib.hid h
 have HR:=Lib.hid hr
 obtain ⟨a,cap,rfl,hl,-⟩:=id h
 obtain ⟨ra,rc,rfl,-,-⟩:=id hr
 clear h hr
 go_enter Tryz.func53,Tryz.ntmps53
 go_wp2
 go_loopw [5] (fun s5 wr=>∃ k:Nat,s5=.int .i64 k∧k≤l.length∧Hid (∀ j (h:j<l.length),j<k→cmpRow l[j].r r≠0)∧Hid (Below w.heap.size w wr)) (fun i _=>l.length - (intOf i).toNat)
 case atStart=>exact ⟨0,rfl,by omega,Lib.hid (fun j _ h=>(by omega)),Lib.hid (Below.refl _ _)⟩
 case round =>
  obtain ⟨k,rfl,hk,HV,HB⟩:=hrel
  by_cases hlt:k<l.length
  · obtain ⟨bL,oL,xv,rfl,⟨c0,c1⟩,hx⟩:=HC.out.at hlt
    have hbl:=cell_lt c0
    have HXC:=Lib.hid (And.intro hbl (And.intro c0 c1))
    rw [← HB.out.cell (p:=⟨bL,_,none⟩) hbl] at c0 c1
    have H51:=Lib.hid (f51_any hm wr xv (.slice ra r.length rc) l[k].r r D DR (hx.below HB.out) (HR.out.below HB.out))
    obtain ⟨xa,xc,rfl,-,-⟩:=id hx
    obtain ⟨q,hq⟩:∃ q,q=cmpRow l[k].r r:=⟨_,rfl⟩
    rw [← hq] at H51
    have HQ:=Lib.hid hq
    clear hx hq hbl
    by_cases hq0:q=0
    · subst hq0
      go_wp2_with (go_at_call 51;with_reducible refine H51.out.mono ?_;rintro e w6 ⟨rfl,hg6⟩
                   have HB6:=Lib.hid (HB.out.trans (hg6.below.mono HB.out.size))
                   obtain ⟨z0,z1,z2⟩:=HXC.out
                   rw [← HB6.out.cell (p:=⟨bL,_,none⟩) z0] at z1 z2
                   clear hg6 z0)
      go_ret
      exact ⟨ret_int (nOf_hit hlt HQ.out.symm HV.out).symm,HB6.out⟩
    · have hqb:(q == 0)=false:=by simpa using hq0
      go_wp2_with (go_at_call 51;with_reducible refine H51.out.mono ?_;rintro e w6 ⟨rfl,hg6⟩
                   have HB6:=Lib.hid (HB.out.trans (hg6.below.mono HB.out.size))
                   clear hg6)
      refine ⟨⟨k+1,by go_num,by omega,?_,HB6⟩,by simp [intOf];omega⟩
      refine Lib.hid (fun j hj hjk=>?_)
      by_cases e:j=k
      · subst e;rw [← HQ.out];exact hq0
      · exact HV.out j hj (by omega)
  · go_wp2
    go_ret
    exact ⟨ret_int (nOf_miss fun j hj=>HV.out j hj (by omega)).symm,HB.out⟩
end leaves
end Go.Proofs.YtjhknhgkjfabaaaGreatDoor
