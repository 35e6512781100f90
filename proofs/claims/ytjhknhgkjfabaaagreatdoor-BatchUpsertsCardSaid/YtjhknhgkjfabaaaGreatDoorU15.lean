/-
 The stable sort of a list of changes by a closure, the walks, part 3: it proves that symMerge merges where the right part is one element. If the row lies in the world as the sort's words say; the two 
-/
import Derived.Test.YtjhknhgkjfabaaaGreatDoorU14
import Derived.Deep.RegionWith
set_option linter.unusedSimpArgs false
set_option linter.unusedVariables false
namespace Go.Proofs.YtjhknhgkjfabaaaGreatDoor
open Go.Shelf Go.RowKit Go.Lib Go.Sort Go.Stab
variable {α : Type} [Inhabited α]
section walks
set_option maxHeartbeats 4000000
set_option maxRecDepth 1000000
theorem symMerge_right {P:Program} {kc:Nat} (L:StL P kc) (enc:α→List Value) (cf:α→α→Int) {slt:α→α→Bool} (hS:SWO slt) (g:Nat) (cb:Array Value) (blk off cap a m b:Nat) (d0 d:Array α) (w0 w:World)
 (eg:∀ args w,(callFunc g args).run P w=.ok (.enter g args) w) (hcmp:CmpLays P g cb enc kc cf blk off d0.size w0)
 (R:RowK enc kc w0 blk off d0) (hs:d0.size=d.size) (S:SWK enc kc w0 blk off d w) (hbm:b=m+1) (hab:a+1<m) (hb:b≤d.size) (hsz:d.size<4611686018427387904) (hp:MPre (ltOf cf) slt a m b d) :
 Calls P 142 #[.slice (some ⟨blk,off,none⟩) d.size cap,.int .i64 a,.int .i64 m,.int .i64 b,.func (.func g) #[] cb] w fun e w'=>e=.returned (.tuple #[])∧∃ d',PermIn a b d d'∧SortedIn slt a b d'∧SWK enc kc w0 blk off d' w':=by
 have HC:Aside _:=hcmp
 have S0:Aside (SWK enc kc w0 blk off d w):=S
 have HP:Aside (MPre (ltOf cf) slt a m (m+1) d):=by rw [← hbm];exact hp
 have HS:Aside (SWO slt):=hS
 have hbm1:m<b:=by omega
 have hbm2:b<m+2:=by omega
 clear S hcmp hp hS
 have one:(b:Int) - (m:Int)=1:=by omega
 have hne0:((m:Int) - (a:Int) == 1)=false:=by rw [beq_eq_false_iff_ne];omega
 have HBM:Hid (b=m+1):=hbm
 clear hbm
 obtain ⟨mixed,FG1,FG2,FG3,FG4,FG5,E1,E2,E3,E4,t0,a0,z0,v0,t3,a3,z3,v3,t4,a4,z4,v4,t22,a22,z22,v22,t59,a59,z59,v59,t100,a100,z100,v100,aE,zE⟩:=id L
 go_enter FG3,Tryz.ntmps142
 go_wp2
 go_loopg [14,15] (m - a) (fun kx s10 s11 wr=>∃ (i j:Nat),s10=.int .i64 i∧s11=.int .i64 j∧a≤i∧i≤j∧j≤m∧j - i≤kx∧Aside (SWK enc kc w0 blk off d wr)∧Hid ((i=a∨ltOf cf d[m]! d[i - 1]! = false)∧(j=m∨ltOf cf d[m]! d[j]! = true)))
 case atStart=>exact ⟨a,m,rfl,rfl,by omega,by omega,by omega,by omega,S0,.inl rfl,.inl rfl⟩
 case round =>
  clear S0
  obtain ⟨i,j,rfl,rfl,hai,hij,hjb,hkx,S1,HI⟩:=hrel
  by_cases hlt:i<j
  · have hltz:(i:Int)<(j:Int):=by omega
    obtain ⟨h,hh⟩:∃ h,h=(i+j) / 2:=⟨_,rfl⟩
    have hz:((i:Int)+(j:Int)) / 2=(h:Int):=by omega
    have hz2:(i+j) / 2=h:=hh.symm
    have hlo:i≤h:=by omega
    have hhi:h<j:=by omega
    have bh:(h:Int)<(d.size:Int):=by omega
    have bA:(m:Int)<(d.size:Int):=by omega
    have wij:IntKind.i64.wrap ((i:Int)+(j:Int))=(i:Int)+(j:Int):=by rw [IntKind.wrap_i64];omega
    obtain ⟨x,hx⟩:∃ x,x=d[m]! := ⟨_,rfl⟩
    obtain ⟨y,hy⟩:∃ x,x=d[h]! := ⟨_,rfl⟩
    have la:=S1.out.ld R (by omega) P m (by omega)
    have l2:=S1.out.ld R (by omega) P h (by omega)
    rw [← hx] at la
    rw [← hy] at l2
    have hc:=S1.out.cmp HC.out (by omega) x y
    clear hh
    cases hlv:(ltOf cf) d[m]! d[h]! with
    | true =>
      have hv:cf x y<0:=by rw [hx,hy];exact of_decide_eq_true hlv
      have hd:decide (cf x y<0)=true:=decide_eq_true hv
      have HX:Aside (x=d[m]!∧y=d[h]!):=⟨hx,hy⟩
      clear hx hy
      go_wp2_with fail
      go_quiet_grown (first | (go_at_fn g;refine Calls.grown_of (hc _ _)))
      have S2:Aside (SWK enc kc w0 blk off d (grow (wr.drewN nq) osq)):=S1.out.grown nq osq
      clear la l2 hc S1
      generalize grow (wr.drewN nq) osq=w2 at S2 ⊢
      clear nq osq
      go_wp2
      go_roundg (h - i)
      case measure=>omega
      case rel=>exact ⟨i,h,rfl,by first | rfl | go_num,hai,hlo,by omega,by omega,S2,HI.out.1,.inr hlv⟩
    | false =>
      have hv:¬ cf x y<0:=by rw [hx,hy];exact of_decide_eq_false hlv
      have hd:decide (cf x y<0)=false:=decide_eq_false hv
      have HX:Aside (x=d[m]!∧y=d[h]!):=⟨hx,hy⟩
      clear hx hy
      go_wp2_with fail
      go_quiet_grown (first | (go_at_fn g;refine Calls.grown_of (hc _ _)))
      have S2:Aside (SWK enc kc w0 blk off d (grow (wr.drewN nq) osq)):=S1.out.grown nq osq
      clear la l2 hc S1
      generalize grow (wr.drewN nq) osq=w2 at S2 ⊢
      clear nq osq
      go_wp2
      go_roundg (j - (h+1))
      case measure=>omega
      case rel=>exact ⟨h+1,j,by go_num,rfl,by omega,by omega,hjb,by omega,S2,.inr (by rw [show h+1 - 1=h from by omega];exact hlv),HI.out.2⟩
  · have:i=j:=by omega
    subst this
    go_wp2
    go_loopg [17] (m - i) (fun kx s13 wr2=>∃ (k:Nat) (dk:Array α),s13=.int .i64 k∧i≤k∧k≤m∧k - i≤kx∧dk.size=d.size∧Aside (SWK enc kc w0 blk off dk wr2)∧Hid (IsRot d dk k m (m+1)))
    case atStart=>exact ⟨m,d,rfl,hjb,Nat.le_refl _,by omega,rfl,S1,IsRot.none_left d m (m+1) (by omega)⟩
    case round =>
     clear S1
     obtain ⟨k,dk,rfl,hik,hkm,hkx2,hds,S1,HR⟩:=hrel
     by_cases hl:i<k
     · have hlz:(i:Int)<(k:Int):=by omega
       obtain ⟨kp,hkp⟩:∃ q,q=k - 1:=⟨_,rfl⟩
       have hkz:(k:Int) - 1=(kp:Int):=by omega
       go_wp2_with fail
       obtain ⟨iN,hiN⟩:∃ q,q=k:=⟨_,rfl⟩
       obtain ⟨jN,hjN⟩:∃ q,q=k - 1:=⟨_,rfl⟩
       obtain ⟨ea,pa,ba,ra⟩:=swp_facts (n:=d.size) (z:=(k:Int)) (k:=iN) (by omega) (by omega) hsz
       obtain ⟨ec,pc,bc,rc⟩:=swp_facts (n:=d.size) (z:=(kp:Int)) (k:=jN) (by omega) (by omega) hsz
       have S2:Aside (SWK enc kc w0 blk off (swp dk (k) (k - 1)) ((wr.drew.setCells blk (off+iN * kc) (enc dk[k - 1]!)).setCells blk (off+jN * kc) (enc dk[k]!))):=by rw [hiN,hjN];exact S1.out.swapped R (k) (k - 1) (by omega) (by omega)
       have ca:=S1.out.ld1 R (by omega) P (k) (by omega)
       have c2:=S1.out.ld1 R (by omega) P (k - 1) (by omega)
       have fa:=S1.out.st1 R (by omega) P (k) (by omega) dk[k - 1]!
       have f2:=S1.out.st2 R (by omega) P (k) (k - 1) (by omega) (by omega) dk[k - 1]! dk[k]!
       have na:(enc dk[k]!).length=kc:=R.hk _
       have nb:(enc dk[k - 1]!).length=kc:=R.hk _
       generalize enc dk[k]! = cI at S2 ca f2 na
       generalize enc dk[k - 1]! = cJ at S2 c2 fa f2 nb
       rw [← hjN] at c2 f2
       rw [← hiN] at ca fa f2
       have HKP:Hid (kp=k - 1):=hkp
       clear S1 hiN hjN hkp
       go_wp2_with fail
       go_big_region_o
       clear ca c2 fa f2
       generalize (wr.drew.setCells blk (off+iN * kc) cJ).setCells blk (off+jN * kc) cI=w2 at S2 ⊢
       clear ea ec
       go_wp2
       go_roundg (kp - i)
       case measure=>omega
       case rel=>exact ⟨k - 1,swp dk k (k - 1),by rw [← HKP.out],by omega,by omega,by omega,by rw [Stab.swp_size];exact hds,S2,HR.out.down (by omega) hkm (by omega)⟩
     · have hlz:¬ (i:Int)<(k:Int):=by omega
       have HRI:Hid (IsRot d dk i m (m+1)):=by have hk:k=i:=by omega
                                               rw [← hk];exact HR.out
       go_wp2
       refine bodyPost_ret (results_none rfl _ _ _) rfl ?_
       rw [HBM.out]
       refine ⟨rfl,dk,?_,merge_one_right HS.out HP.out hai hjb (by omega) HI.out.1 HI.out.2 HRI.out,S1.out⟩
       exact permIn_mono d dk i (m+1) a (m+1) hai (Nat.le_refl _) (by omega) (HRI.out.perm hjb (by omega) (by omega))
end walks
end Go.Proofs.YtjhknhgkjfabaaaGreatDoor
namespace Go.Stab
open Go.Sort
variable {α : Type} [Inhabited α]
def Agr (lt slt:α→α→Bool) (a b:Nat) (d:Array α):Prop:=∀ p q,a≤p→p<q→q<b→lt d[q]! d[p]! = slt d[q]! d[p]!
theorem Agr.perm {lt slt:α→α→Bool} {d d':Array α} {a b n:Nat} (h:∀ p q,p<q→q<n→(p<a∨b≤q∨b≤p∨q<a)→lt d[q]! d[p]! = slt d[q]! d[p]!) (hp:PermIn a b d d') (hbn:b≤n) (hn:n≤d.size) :
 ∀ p q,p<q→q<n→(p<a∨b≤q∨b≤p∨q<a)→lt d'[q]! d'[p]! = slt d'[q]! d'[p]! := by
 intro p q hpq hq hc
 by_cases c1:p<a
 · rw [hp.2.1 p (.inl c1)]
   by_cases c2:q<a
   · rw [hp.2.1 q (.inl c2)]
     exact h p q hpq hq (.inl c1)
   · by_cases c3:b≤q
     · rw [hp.2.1 q (.inr c3)]
       exact h p q hpq hq (.inl c1)
     · exact permIn_all d d' a b (fun x=>lt x d[p]! = slt x d[p]!) (by omega) hp (fun k hk hk2=>h p k (by omega) (by omega) (.inl c1)) q (by omega) (by omega)
 · by_cases c3:b≤q
   · rw [hp.2.1 q (.inr c3)]
     by_cases c4:b≤p
     · rw [hp.2.1 p (.inr c4)]
       exact h p q hpq hq (.inr (.inl c3))
     · exact permIn_all d d' a b (fun x=>lt d[q]! x=slt d[q]! x) (by omega) hp (fun k hk hk2=>h k q (by omega) hq (.inr (.inl c3))) p (by omega) (by omega)
   · omega
theorem SortedIn.perm {slt:α→α→Bool} {d d':Array α} {a b l r:Nat} (h:SortedIn slt l r d) (hp:PermIn a b d d') (hx:r≤a∨b≤l):SortedIn slt l r d':=by
 intro i j hi hij hj
 rw [hp.2.1 i (by omega),hp.2.1 j (by omega)]
 exact h i j hi hij hj
end Go.Stab
namespace Go.Stab
open Go.Sort
variable {α : Type} [Inhabited α]
theorem fin1 {lt slt:α→α→Bool} (hs:SWO slt) {a m b s e mid:Nat} {d d1:Array α} (h:MPre lt slt a m b d) (has:a≤s) (hsm:s≤m) (hme:m≤e) (heb:e≤b) (hb:b≤d.size) (hmid:mid=s+(e - m))
 (h1:s=a∨e=b∨lt d[e]! d[s - 1]! = false) (h2:s=m∨e=m∨lt d[e - 1]! d[s]! = true) (hc:IsRot d d1 s m e∨(¬ (s<m∧m<e)∧d1=d)) :
 Halves lt slt a s mid e b d1∧PermIn a b d d1:=by
 have hr:IsRot d d1 s m e:=by
  rcases hc with hc | ⟨hc,rfl⟩
  · exact hc
  · by_cases e1:s=m
    · subst e1;exact IsRot.none_left d1 s e hme
    · have e2:e=m:=by omega
      subst e2;exact IsRot.none_right d1 s e
 exact ⟨halves hs h has hsm hme heb hb hmid h1 h2 hr,permIn_mono d d1 s e a b has heb hb (hr.perm hsm hme (by omega))⟩
theorem fin2 {lt slt:α→α→Bool} {a s mid e b:Nat} {d1 d2:Array α} (h:Halves lt slt a s mid e b d1) (has:a≤s) (hsm:s≤mid) (hme:mid≤e) (hmb:mid≤b) (hb:b≤d1.size)
 (hc:(PermIn a mid d1 d2∧SortedIn slt a mid d2)∨(¬ (a<s∧s<mid)∧d2=d1)) :
 SortedIn slt a mid d2∧PermIn a mid d1 d2∧MPre lt slt mid e b d2∧∀ p q,a≤p→p<mid→mid≤q→q<b→slt d2[q]! d2[p]! = false:=by
 have hk:SortedIn slt a mid d2∧PermIn a mid d1 d2:=by
  rcases hc with hc | ⟨hc,rfl⟩
  · exact ⟨hc.2,hc.1⟩
  · refine ⟨?_,permIn_refl _ _ _⟩
    by_cases e1:a=s
    · subst e1;exact h.one.right
    · have e2:s=mid:=by omega
      subst e2;exact h.one.left
 have:=Halves.first h (by omega) hme hmb hb hk.2
 exact ⟨hk.1,hk.2,this.1,this.2⟩
theorem fin3 {lt slt:α→α→Bool} {a mid e b:Nat} {d2 d3:Array α} (ham:a≤mid) (hme:mid≤e) (heb:e≤b) (hmb:mid≤b) (hb:b≤d2.size) (h1:SortedIn slt a mid d2) (h2:MPre lt slt mid e b d2)
 (hx:∀ p q,a≤p→p<mid→mid≤q→q<b→slt d2[q]! d2[p]! = false) (hc:(PermIn mid b d2 d3∧SortedIn slt mid b d3)∨(¬ (mid<e∧e<b)∧d3=d2)) :
 SortedIn slt a b d3∧PermIn mid b d2 d3:=by
 have hk:SortedIn slt mid b d3∧PermIn mid b d2 d3:=by
  rcases hc with hc | ⟨hc,rfl⟩
  · exact ⟨hc.2,hc.1⟩
  · refine ⟨?_,permIn_refl _ _ _⟩
    by_cases e1:mid=e
    · subst e1;exact h2.right
    · have e2:e=b:=by omega
      subst e2;exact h2.left
 exact ⟨join_halves ham hmb hb h1 hx hk.2 hk.1,hk.2⟩
theorem fin {lt slt:α→α→Bool} (hs:SWO slt) {a m b s e mid:Nat} {d d1 d2 d3:Array α} (h:MPre lt slt a m b d) (has:a≤s) (hsm:s≤m) (hsd:s≤mid) (hme:m≤e) (heb:e≤b) (hb:b≤d.size) (hmid:mid+m=s+e)
 (h1:s=a∨e=b∨lt d[e]! d[s - 1]! = false) (h2:s=m∨e=m∨lt d[e - 1]! d[s]! = true) (hc1:IsRot d d1 s m e∨(¬ (s<m∧m<e)∧d1=d))
 (hc2:(PermIn a mid d1 d2∧SortedIn slt a mid d2)∨(¬ (a<s∧s<mid)∧d2=d1)) (hc3:(PermIn mid b d2 d3∧SortedIn slt mid b d3)∨(¬ (mid<e∧e<b)∧d3=d2)) :
 PermIn a b d d3∧SortedIn slt a b d3:=by
 obtain ⟨H,p1⟩:=fin1 (mid:=mid) hs h has hsm hme heb hb (by omega) h1 h2 hc1
 have z1:d1.size=d.size:=p1.1
 obtain ⟨q1,q2,q3,q4⟩:=fin2 H has hsd (by omega) (by omega) (by omega) hc2
 have z2:d2.size=d1.size:=q2.1
 obtain ⟨r1,r2⟩:=fin3 (by omega) (by omega) heb (by omega) (by omega) q1 q3 q4 hc3
 refine ⟨permIn_trans d d1 d3 a b p1 (permIn_trans d1 d2 d3 a b ?_ ?_),r1⟩
 · exact permIn_mono d1 d2 a mid a b (Nat.le_refl _) (by omega) (by omega) q2
 · exact permIn_mono d2 d3 mid b a b (by omega) (Nat.le_refl _) (by omega) r2
theorem fin1_one {lt slt:α→α→Bool} (hs:SWO slt) {a m b s e mid:Nat} {d d1:Array α} (h:MPre lt slt a m b d) (has:a≤s) (hsm:s≤m) (hme:m≤e) (heb:e≤b) (hb:b≤d.size) (hmid:mid+m=s+e)
 (h1:s=a∨e=b∨lt d[e]! d[s - 1]! = false) (h2:s=m∨e=m∨lt d[e - 1]! d[s]! = true) (hc:IsRot d d1 s m e∨(¬ (s<m∧m<e)∧d1=d)):MPre lt slt a s mid d1∧d1.size=d.size :=
 have:=fin1 (mid:=mid) hs h has hsm hme heb hb (by omega) h1 h2 hc
 ⟨this.1.one,this.2.1⟩
theorem fin2_two {lt slt:α→α→Bool} (hs:SWO slt) {a m b s e mid:Nat} {d d1 d2:Array α} (h:MPre lt slt a m b d) (has:a≤s) (hsm:s≤m) (hsd:s≤mid) (hme:m≤e) (heb:e≤b) (hb:b≤d.size) (hmid:mid+m=s+e)
 (h1:s=a∨e=b∨lt d[e]! d[s - 1]! = false) (h2:s=m∨e=m∨lt d[e - 1]! d[s]! = true) (hc1:IsRot d d1 s m e∨(¬ (s<m∧m<e)∧d1=d))
 (hc2:(PermIn a mid d1 d2∧SortedIn slt a mid d2)∨(¬ (a<s∧s<mid)∧d2=d1)):MPre lt slt mid e b d2∧d2.size=d.size:=by
 obtain ⟨H,p1⟩:=fin1 (mid:=mid) hs h has hsm hme heb hb (by omega) h1 h2 hc1
 have z1:d1.size=d.size:=p1.1
 obtain ⟨q1,q2,q3,q4⟩:=fin2 H has hsd (by omega) (by omega) (by omega) hc2
 exact ⟨q3,by rw [q2.1,z1]⟩
end Go.Stab
namespace Go.Proofs.YtjhknhgkjfabaaaGreatDoor
open Go.Shelf Go.RowKit Go.Lib Go.Sort Go.Stab
variable {α : Type} [Inhabited α]
def SymTo (P:Program) (kc:Nat) (enc:α→List Value) (slt:α→α→Bool) (g:Nat) (cb:Array Value) (blk off cap n:Nat) (w0:World) (a m b:Nat) (d:Array α) (w:World):Prop :=
 Calls P 142 #[.slice (some ⟨blk,off,none⟩) n cap,.int .i64 a,.int .i64 m,.int .i64 b,.func (.func g) #[] cb] w fun e w'=>e=.returned (.tuple #[])∧∃ d',PermIn a b d d'∧SortedIn slt a b d'∧SWK enc kc w0 blk off d' w'
section walks
set_option maxHeartbeats 64000000
set_option maxRecDepth 1000000
theorem symMerge_hi {P:Program} {kc:Nat} (L:StL P kc) (enc:α→List Value) (cf:α→α→Int) {slt:α→α→Bool} (hS:SWO slt) (g:Nat) (cb:Array Value) (blk off cap a m b mid:Nat) (d0 d:Array α) (w0 w:World)
 (eg:∀ args w,(callFunc g args).run P w=.ok (.enter g args) w) (hcmp:CmpLays P g cb enc kc cf blk off d0.size w0)
 (R:RowK enc kc w0 blk off d0) (hs:d0.size=d.size) (S:SWK enc kc w0 blk off d w) (ham:a+1<m) (hmb:m+1<b) (hb:b≤d.size) (hsz:d.size<4611686018427387904) (hp:MPre (ltOf cf) slt a m b d)
 (hmid:mid=(a+b) / 2) (hgt:mid<m)
 (IH:∀ (a' m' b':Nat) (d':Array α) (w':World),b' - a'<b - a→a'<m'→m'<b'→b'≤d.size→d'.size=d.size→MPre (ltOf cf) slt a' m' b' d'→SWK enc kc w0 blk off d' w'→SymTo P kc enc slt g cb blk off cap d.size w0 a' m' b' d' w') :
 SymTo P kc enc slt g cb blk off cap d.size w0 a m b d w:=by
 unfold SymTo
 have HC:Aside _:=hcmp
 have S0:Aside (SWK enc kc w0 blk off d w):=S
 have HP:Aside (MPre (ltOf cf) slt a m b d):=hp
 have HS:Aside (SWO slt):=hS
 have HI0:Aside _:=IH
 clear S hcmp hp hS IH
 have hmida:a<mid:=by omega
 have hmidb:mid<b:=by omega
 obtain ⟨n,hn⟩:∃ n,n=mid+m:=⟨_,rfl⟩
 obtain ⟨p,hpp⟩:∃ p,p=n - 1:=⟨_,rfl⟩
 have one:((m:Int) - (a:Int) == 1)=false:=by rw [beq_eq_false_iff_ne];omega
 have one2:((b:Int) - (m:Int) == 1)=false:=by rw [beq_eq_false_iff_ne];omega
 have hzm:((a:Int)+(b:Int)) / 2=(mid:Int):=by omega
 have hzn:(mid:Int)+(m:Int)=(n:Int):=by omega
 have hzp:(n:Int) - 1=(p:Int):=by omega
 have wab:IntKind.i64.wrap ((a:Int)+(b:Int))=(a:Int)+(b:Int):=by rw [IntKind.wrap_i64];omega
 have HN:Hid (n=mid+m):=hn
 have HPP:Hid (p=n - 1):=hpp
 have HMID:Hid (mid=(a+b) / 2):=hmid
 obtain ⟨st,hst⟩:∃ st,st=n - b:=⟨_,rfl⟩
 have hzst:(n:Int) - (b:Int)=(st:Int):=by omega
 have hgtz:(mid:Int)<(m:Int):=by omega
 have HST:Hid (st=n - b):=hst
 clear hst
 have n1:n<9223372036854775807:=by omega
 clear hn hpp hmid
 obtain ⟨mixed,FG1,FG2,FG3,FG4,FG5,E1,E2,E3,E4,t0,a0,z0,v0,t3,a3,z3,v3,t4,a4,z4,v4,t22,a22,z22,v22,t59,a59,z59,v59,t100,a100,z100,v100,aE,zE⟩:=id L
 go_enter FG3,Tryz.ntmps142
 go_wp2
 go_loopg [20,21] (b - a) (fun kx s20 s21 wr=>∃ (i j:Nat),s20=.int .i64 i∧s21=.int .i64 j∧a≤i∧n≤i+b∧i≤j∧j≤m∧j≤mid∧j - i≤kx∧Aside (SWK enc kc w0 blk off d wr)∧Hid ((i=a∨n - i=b∨ltOf cf d[n - i]! d[i - 1]! = false)∧(j=m∨n - j=m∨ltOf cf d[n - j - 1]! d[j]! = true)))
 case atStart=>exact ⟨st,mid,rfl,rfl,by have:=HN.out;have:=HST.out;have:=HMID.out;omega,by have:=HST.out;omega,by have:=HN.out;have:=HST.out;omega,by omega,Nat.le_refl _,by have:=HN.out;have:=HST.out;have:=HMID.out;omega,S0,.inr (.inl (by have:=HN.out;have:=HST.out;omega)),.inr (.inl (by have:=HN.out;omega))⟩
 case round =>
  clear S0
  obtain ⟨i,j,rfl,rfl,hai,hnb,hij,hjm,hjd,hkx,S1,HI⟩:=hrel
  by_cases hlt:i<j
  · have hltz:(i:Int)<(j:Int):=by omega
    obtain ⟨c,hcc⟩:∃ h,h=(i+j) / 2:=⟨_,rfl⟩
    have hz:((i:Int)+(j:Int)) / 2=(c:Int):=by omega
    have hlo:i≤c:=by omega
    have hhi:c<j:=by omega
    clear hcc
    obtain ⟨q,hq⟩:∃ q,q=p - c:=⟨_,rfl⟩
    have hq1:q=n - c - 1:=by have:=HN.out;have:=HPP.out;omega
    have hqz:(p:Int) - (c:Int)=(q:Int):=by have:=HN.out;have:=HPP.out;omega
    have hqb:q<d.size:=by omega
    have wq1:IntKind.i64.wrap ((p:Int) - (c:Int))=(q:Int):=by rw [IntKind.wrap_i64];omega
    have wq2:IntKind.i64.wrap (q:Int)=(q:Int):=by rw [IntKind.wrap_i64];omega
    have pq:(0:Int)≤(q:Int):=by omega
    have bh:(c:Int)<(d.size:Int):=by omega
    have bq:(q:Int)<(d.size:Int):=by omega
    have HQ:Hid (q=n - c - 1):=hq1
    clear hq hq1
    have wij:IntKind.i64.wrap ((i:Int)+(j:Int))=(i:Int)+(j:Int):=by rw [IntKind.wrap_i64];omega
    obtain ⟨x,hx⟩:∃ x,x=d[q]! := ⟨_,rfl⟩
    obtain ⟨y,hy⟩:∃ x,x=d[c]! := ⟨_,rfl⟩
    have la:=S1.out.ld R (by omega) P q (by omega)
    have l2:=S1.out.ld R (by omega) P c (by omega)
    rw [← hx] at la
    rw [← hy] at l2
    have hc:=S1.out.cmp HC.out (by omega) x y
    cases hlv:(ltOf cf) d[q]! d[c]! with
    | true =>
      have hv:cf x y<0:=by rw [hx,hy];exact of_decide_eq_true hlv
      have hd:decide (cf x y<0)=true:=decide_eq_true hv
      clear hx hy
      go_wp2_with fail
      go_quiet_grown (first | (go_at_fn g;refine Calls.grown_of (hc _ _)))
      have S2:Aside (SWK enc kc w0 blk off d (grow (wr.drewN nq) osq)):=S1.out.grown nq osq
      clear la l2 hc S1
      generalize grow (wr.drewN nq) osq=w2 at S2 ⊢
      clear nq osq
      go_wp2
      go_roundg (c - i)
      case measure=>omega
      case rel=>exact ⟨i,c,rfl,rfl,hai,hnb,hlo,by omega,by omega,by omega,S2,HI.out.1,.inr (.inr (by rw [← HQ.out];exact hlv))⟩
    | false =>
      have hv:¬ cf x y<0:=by rw [hx,hy];exact of_decide_eq_false hlv
      have hd:decide (cf x y<0)=false:=decide_eq_false hv
      clear hx hy
      go_wp2_with fail
      go_quiet_grown (first | (go_at_fn g;refine Calls.grown_of (hc _ _)))
      have S2:Aside (SWK enc kc w0 blk off d (grow (wr.drewN nq) osq)):=S1.out.grown nq osq
      clear la l2 hc S1
      generalize grow (wr.drewN nq) osq=w2 at S2 ⊢
      clear nq osq
      go_wp2
      go_roundg (j - (c+1))
      case measure=>omega
      case rel=>exact ⟨c+1,j,by go_num,rfl,by omega,by omega,by omega,hjm,hjd,by omega,S2,.inr (.inr (by rw [show n - (c+1)=q from by have:=HQ.out;omega,show c+1 - 1=c from by omega];exact hlv)),HI.out.2⟩
  · obtain ⟨s,hs'⟩:∃ s,s=i:=⟨_,rfl⟩
    have hji:j=s:=by omega
    subst hji
    subst hs'
    obtain ⟨e,he⟩:∃ e,e=n - j:=⟨_,rfl⟩
    have hez:(n:Int) - (j:Int)=(e:Int):=by have:=HN.out;omega
    have hme:m≤e:=by have:=HN.out;omega
    have hde:mid≤e:=by have:=HN.out;omega
    have heb:e≤b:=by omega
    have hsum:mid+m=j+e:=by have:=HN.out;omega
    have H1:j=a∨e=b∨ltOf cf d[e]! d[j - 1]! = false:=by rw [he];exact HI.out.1
    have H2:j=m∨e=m∨ltOf cf d[e - 1]! d[j]! = true:=by rw [he];exact HI.out.2
    have FIN:Hid (∀ d1 d2 d3:Array α,(IsRot d d1 j m e∨(¬ (j<m∧m<e)∧d1=d))→((PermIn a mid d1 d2∧SortedIn slt a mid d2)∨(¬ (a<j∧j<mid)∧d2=d1))→((PermIn mid b d2 d3∧SortedIn slt mid b d3)∨(¬ (mid<e∧e<b)∧d3=d2))→PermIn a b d d3∧SortedIn slt a b d3) :=
     fun d1 d2 d3 h1 h2 h3=>fin HS.out HP.out hai hjm hjd hme heb hb hsum H1 H2 h1 h2 h3
    have HROT:Hid (j<m∧m<e→∃ _:True,Calls P 190 #[.slice (some ⟨blk,off,none⟩) d.size cap,.int .i64 j,.int .i64 m,.int .i64 e,.func (.func g) #[] cb] wr fun e1 w'=>e1=.returned (.tuple #[])∧∃ d',IsRot d d' j m e∧SWK enc kc w0 blk off d' w') :=
     fun h=>⟨trivial,rotate_s L enc g cb blk off cap j m e d0 d w0 wr R hs S1.out h.1 h.2 (by omega) hsz⟩
    have HA1:Hid (a<j∧j<mid→∀ (d1:Array α) (w1:World),(IsRot d d1 j m e∨(¬ (j<m∧m<e)∧d1=d))→SWK enc kc w0 blk off d1 w1→SymTo P kc enc slt g cb blk off cap d.size w0 a j mid d1 w1) :=
     fun h d1 w1 h1 S=>by
      have:=fin1_one HS.out HP.out hai hjm hme heb hb hsum H1 H2 h1
      exact HI0.out a j mid d1 w1 (by omega) h.1 h.2 (by omega) this.2 this.1 S
    have HA2:Hid (mid<e∧e<b→∀ (d1 d2:Array α) (w2:World),(IsRot d d1 j m e∨(¬ (j<m∧m<e)∧d1=d))→((PermIn a mid d1 d2∧SortedIn slt a mid d2)∨(¬ (a<j∧j<mid)∧d2=d1))→SWK enc kc w0 blk off d2 w2→SymTo P kc enc slt g cb blk off cap d.size w0 mid e b d2 w2) :=
     fun h d1 d2 w2 h1 h2 S=>by
      have:=fin2_two HS.out HP.out hai hjm hjd hme heb hb hsum H1 H2 h1 h2
      exact HI0.out mid e b d2 w2 (by omega) h.1 h.2 hb this.2 this.1 S
    clear H1 H2 HI he hnb hlt
    have hltz:¬ (j:Int)<(j:Int):=by omega
    unfold SymTo at HA1 HA2
    have HSZ:Hid (mid+m=j+e):=hsum
    clear hsum
    have k1:(j<m∧m<e)∨(j<m∧¬ m<e)∨¬ j<m:=by omega
    have k2:(a<j∧j<mid)∨(a<j∧¬ j<mid)∨¬ a<j:=by omega
    have k3:(mid<e∧e<b)∨(mid<e∧¬ e<b)∨¬ mid<e:=by omega
    rcases k1 with c1 | c1 | c1 <;> rcases k2 with c2 | c2 | c2 <;> rcases k3 with c3 | c3 | c3
    · have za1:(j:Int)<(m:Int):=by omega
      have zb1:(m:Int)<(e:Int):=by omega
      have za2:(a:Int)<(j:Int):=by omega
      have zb2:(j:Int)<(mid:Int):=by omega
      have za3:(mid:Int)<(e:Int):=by omega
      have zb3:(e:Int)<(b:Int):=by omega
      obtain ⟨_,hr⟩:=HROT.out c1
      have HR:=Lib.hid hr
      clear hr
      go_wp2_with (first | (go_at_call 190;refine HR.out.mono ?_;rintro e1 w1 ⟨rfl,d1,h1,S2⟩;have HR1:=Lib.hid h1;have SR1:=Lib.hid S2;clear h1 S2) | (go_at_call_of 142 (Value.int .i64 (a:Int));refine (HA1.out c2 _ _ (.inl HR1.out) SR1.out).mono ?_;rintro e2 w2 ⟨rfl,d2,h2,t2,S3⟩;have HP2:=Lib.hid (And.intro h2 t2);have SR2:=Lib.hid S3;clear h2 t2 S3) | (go_at_call_of 142 (Value.int .i64 (b:Int));refine (HA2.out c3 _ _ _ (.inl HR1.out) (.inl HP2.out) SR2.out).mono ?_;rintro e3 w3 ⟨rfl,d3,h3,t3,S4⟩;have HP3:=Lib.hid (And.intro h3 t3);have SR3:=Lib.hid S4;clear h3 t3 S4))
      go_end0
      have hf:=FIN.out _ _ _ (.inl HR1.out) (.inl HP2.out) (.inl HP3.out)
      exact ⟨rfl,_,hf.1,hf.2,SR3.out⟩
    · have za1:(j:Int)<(m:Int):=by omega
      have zb1:(m:Int)<(e:Int):=by omega
      have za2:(a:Int)<(j:Int):=by omega
      have zb2:(j:Int)<(mid:Int):=by omega
      have za3:(mid:Int)<(e:Int):=by omega
      have zb3:¬ (e:Int)<(b:Int):=by omega
      have N3:Hid (¬ (mid<e∧e<b)):=by intro h;omega
      obtain ⟨_,hr⟩:=HROT.out c1
      have HR:=Lib.hid hr
      clear hr
      go_wp2_with (first | (go_at_call 190;refine HR.out.mono ?_;rintro e1 w1 ⟨rfl,d1,h1,S2⟩;have HR1:=Lib.hid h1;have SR1:=Lib.hid S2;clear h1 S2) | (go_at_call_of 142 (Value.int .i64 (a:Int));refine (HA1.out c2 _ _ (.inl HR1.out) SR1.out).mono ?_;rintro e2 w2 ⟨rfl,d2,h2,t2,S3⟩;have HP2:=Lib.hid (And.intro h2 t2);have SR2:=Lib.hid S3;clear h2 t2 S3))
      go_end0
      have hf:=FIN.out _ _ _ (.inl HR1.out) (.inl HP2.out) (.inr ⟨N3.out,rfl⟩)
      exact ⟨rfl,_,hf.1,hf.2,SR2.out⟩
    · have za1:(j:Int)<(m:Int):=by omega
      have zb1:(m:Int)<(e:Int):=by omega
      have za2:(a:Int)<(j:Int):=by omega
      have zb2:(j:Int)<(mid:Int):=by omega
      have za3:¬ (mid:Int)<(e:Int):=by omega
      have N3:Hid (¬ (mid<e∧e<b)):=by intro h;omega
      obtain ⟨_,hr⟩:=HROT.out c1
      have HR:=Lib.hid hr
      clear hr
      go_wp2_with (first | (go_at_call 190;refine HR.out.mono ?_;rintro e1 w1 ⟨rfl,d1,h1,S2⟩;have HR1:=Lib.hid h1;have SR1:=Lib.hid S2;clear h1 S2) | (go_at_call_of 142 (Value.int .i64 (a:Int));refine (HA1.out c2 _ _ (.inl HR1.out) SR1.out).mono ?_;rintro e2 w2 ⟨rfl,d2,h2,t2,S3⟩;have HP2:=Lib.hid (And.intro h2 t2);have SR2:=Lib.hid S3;clear h2 t2 S3))
      go_end0
      have hf:=FIN.out _ _ _ (.inl HR1.out) (.inl HP2.out) (.inr ⟨N3.out,rfl⟩)
      exact ⟨rfl,_,hf.1,hf.2,SR2.out⟩
    · have za1:(j:Int)<(m:Int):=by omega
      have zb1:(m:Int)<(e:Int):=by omega
      have za2:(a:Int)<(j:Int):=by omega
      have zb2:¬ (j:Int)<(mid:Int):=by omega
      have N2:Hid (¬ (a<j∧j<mid)):=by intro h;omega
      have za3:(mid:Int)<(e:Int):=by omega
      have zb3:(e:Int)<(b:Int):=by omega
      obtain ⟨_,hr⟩:=HROT.out c1
      have HR:=Lib.hid hr
      clear hr
      go_wp2_with (first | (go_at_call 190;refine HR.out.mono ?_;rintro e1 w1 ⟨rfl,d1,h1,S2⟩;have HR1:=Lib.hid h1;have SR1:=Lib.hid S2;clear h1 S2) | (go_at_call_of 142 (Value.int .i64 (b:Int));refine (HA2.out c3 _ _ _ (.inl HR1.out) (.inr ⟨N2.out,rfl⟩) SR1.out).mono ?_;rintro e3 w3 ⟨rfl,d3,h3,t3,S4⟩;have HP3:=Lib.hid (And.intro h3 t3);have SR3:=Lib.hid S4;clear h3 t3 S4))
      go_end0
      have hf:=FIN.out _ _ _ (.inl HR1.out) (.inr ⟨N2.out,rfl⟩) (.inl HP3.out)
      exact ⟨rfl,_,hf.1,hf.2,SR3.out⟩
    · have za1:(j:Int)<(m:Int):=by omega
      have zb1:(m:Int)<(e:Int):=by omega
      have za2:(a:Int)<(j:Int):=by omega
      have zb2:¬ (j:Int)<(mid:Int):=by omega
      have N2:Hid (¬ (a<j∧j<mid)):=by intro h;omega
      have za3:(mid:Int)<(e:Int):=by omega
      have zb3:¬ (e:Int)<(b:Int):=by omega
      have N3:Hid (¬ (mid<e∧e<b)):=by intro h;omega
      obtain ⟨_,hr⟩:=HROT.out c1
      have HR:=Lib.hid hr
      clear hr
      go_wp2_with (go_at_call 190;refine HR.out.mono ?_;rintro e1 w1 ⟨rfl,d1,h1,S2⟩;have HR1:=Lib.hid h1;have SR1:=Lib.hid S2;clear h1 S2)
      go_end0
      have hf:=FIN.out _ _ _ (.inl HR1.out) (.inr ⟨N2.out,rfl⟩) (.inr ⟨N3.out,rfl⟩)
      exact ⟨rfl,_,hf.1,hf.2,SR1.out⟩
    · have za1:(j:Int)<(m:Int):=by omega
      have zb1:(m:Int)<(e:Int):=by omega
      have za2:(a:Int)<(j:Int):=by omega
      have zb2:¬ (j:Int)<(mid:Int):=by omega
      have N2:Hid (¬ (a<j∧j<mid)):=by intro h;omega
      have za3:¬ (mid:Int)<(e:Int):=by omega
      have N3:Hid (¬ (mid<e∧e<b)):=by intro h;omega
      obtain ⟨_,hr⟩:=HROT.out c1
      have HR:=Lib.hid hr
      clear hr
      go_wp2_with (go_at_call 190;refine HR.out.mono ?_;rintro e1 w1 ⟨rfl,d1,h1,S2⟩;have HR1:=Lib.hid h1;have SR1:=Lib.hid S2;clear h1 S2)
      go_end0
      have hf:=FIN.out _ _ _ (.inl HR1.out) (.inr ⟨N2.out,rfl⟩) (.inr ⟨N3.out,rfl⟩)
      exact ⟨rfl,_,hf.1,hf.2,SR1.out⟩
    · have za1:(j:Int)<(m:Int):=by omega
      have zb1:(m:Int)<(e:Int):=by omega
      have za2:¬ (a:Int)<(j:Int):=by omega
      have N2:Hid (¬ (a<j∧j<mid)):=by intro h;omega
      have za3:(mid:Int)<(e:Int):=by omega
      have zb3:(e:Int)<(b:Int):=by omega
      obtain ⟨_,hr⟩:=HROT.out c1
      have HR:=Lib.hid hr
      clear hr
      go_wp2_with (first | (go_at_call 190;refine HR.out.mono ?_;rintro e1 w1 ⟨rfl,d1,h1,S2⟩;have HR1:=Lib.hid h1;have SR1:=Lib.hid S2;clear h1 S2) | (go_at_call_of 142 (Value.int .i64 (b:Int));refine (HA2.out c3 _ _ _ (.inl HR1.out) (.inr ⟨N2.out,rfl⟩) SR1.out).mono ?_;rintro e3 w3 ⟨rfl,d3,h3,t3,S4⟩;have HP3:=Lib.hid (And.intro h3 t3);have SR3:=Lib.hid S4;clear h3 t3 S4))
      go_end0
      have hf:=FIN.out _ _ _ (.inl HR1.out) (.inr ⟨N2.out,rfl⟩) (.inl HP3.out)
      exact ⟨rfl,_,hf.1,hf.2,SR3.out⟩
    · have za1:(j:Int)<(m:Int):=by omega
      have zb1:(m:Int)<(e:Int):=by omega
      have za2:¬ (a:Int)<(j:Int):=by omega
      have N2:Hid (¬ (a<j∧j<mid)):=by intro h;omega
      have za3:(mid:Int)<(e:Int):=by omega
      have zb3:¬ (e:Int)<(b:Int):=by omega
      have N3:Hid (¬ (mid<e∧e<b)):=by intro h;omega
      obtain ⟨_,hr⟩:=HROT.out c1
      have HR:=Lib.hid hr
      clear hr
      go_wp2_with (go_at_call 190;refine HR.out.mono ?_;rintro e1 w1 ⟨rfl,d1,h1,S2⟩;have HR1:=Lib.hid h1;have SR1:=Lib.hid S2;clear h1 S2)
      go_end0
      have hf:=FIN.out _ _ _ (.inl HR1.out) (.inr ⟨N2.out,rfl⟩) (.inr ⟨N3.out,rfl⟩)
      exact ⟨rfl,_,hf.1,hf.2,SR1.out⟩
    · have za1:(j:Int)<(m:Int):=by omega
      have zb1:(m:Int)<(e:Int):=by omega
      have za2:¬ (a:Int)<(j:Int):=by omega
      have N2:Hid (¬ (a<j∧j<mid)):=by intro h;omega
      have za3:¬ (mid:Int)<(e:Int):=by omega
      have N3:Hid (¬ (mid<e∧e<b)):=by intro h;omega
      obtain ⟨_,hr⟩:=HROT.out c1
      have HR:=Lib.hid hr
      clear hr
      go_wp2_with (go_at_call 190;refine HR.out.mono ?_;rintro e1 w1 ⟨rfl,d1,h1,S2⟩;have HR1:=Lib.hid h1;have SR1:=Lib.hid S2;clear h1 S2)
      go_end0
      have hf:=FIN.out _ _ _ (.inl HR1.out) (.inr ⟨N2.out,rfl⟩) (.inr ⟨N3.out,rfl⟩)
      exact ⟨rfl,_,hf.1,hf.2,SR1.out⟩
    · have za1:(j:Int)<(m:Int):=by omega
      have zb1:¬ (m:Int)<(e:Int):=by omega
      have N1:Hid (¬ (j<m∧m<e)):=by intro h;omega
      have za2:(a:Int)<(j:Int):=by omega
      have zb2:(j:Int)<(mid:Int):=by omega
      have za3:(mid:Int)<(e:Int):=by omega
      have zb3:(e:Int)<(b:Int):=by omega
      go_wp2_with (first | (go_at_call_of 142 (Value.int .i64 (a:Int));refine (HA1.out c2 _ _ (.inr ⟨N1.out,rfl⟩) S1.out).mono ?_;rintro e2 w2 ⟨rfl,d2,h2,t2,S3⟩;have HP2:=Lib.hid (And.intro h2 t2);have SR2:=Lib.hid S3;clear h2 t2 S3) | (go_at_call_of 142 (Value.int .i64 (b:Int));refine (HA2.out c3 _ _ _ (.inr ⟨N1.out,rfl⟩) (.inl HP2.out) SR2.out).mono ?_;rintro e3 w3 ⟨rfl,d3,h3,t3,S4⟩;have HP3:=Lib.hid (And.intro h3 t3);have SR3:=Lib.hid S4;clear h3 t3 S4))
      go_end0
      have hf:=FIN.out _ _ _ (.inr ⟨N1.out,rfl⟩) (.inl HP2.out) (.inl HP3.out)
      exact ⟨rfl,_,hf.1,hf.2,SR3.out⟩
    · have za1:(j:Int)<(m:Int):=by omega
      have zb1:¬ (m:Int)<(e:Int):=by omega
      have N1:Hid (¬ (j<m∧m<e)):=by intro h;omega
      have za2:(a:Int)<(j:Int):=by omega
      have zb2:(j:Int)<(mid:Int):=by omega
      have za3:(mid:Int)<(e:Int):=by omega
      have zb3:¬ (e:Int)<(b:Int):=by omega
      have N3:Hid (¬ (mid<e∧e<b)):=by intro h;omega
      go_wp2_with (go_at_call_of 142 (Value.int .i64 (a:Int));refine (HA1.out c2 _ _ (.inr ⟨N1.out,rfl⟩) S1.out).mono ?_;rintro e2 w2 ⟨rfl,d2,h2,t2,S3⟩;have HP2:=Lib.hid (And.intro h2 t2);have SR2:=Lib.hid S3;clear h2 t2 S3)
      go_end0
      have hf:=FIN.out _ _ _ (.inr ⟨N1.out,rfl⟩) (.inl HP2.out) (.inr ⟨N3.out,rfl⟩)
      exact ⟨rfl,_,hf.1,hf.2,SR2.out⟩
    · have za1:(j:Int)<(m:Int):=by omega
      have zb1:¬ (m:Int)<(e:Int):=by omega
      have N1:Hid (¬ (j<m∧m<e)):=by intro h;omega
      have za2:(a:Int)<(j:Int):=by omega
      have zb2:(j:Int)<(mid:Int):=by omega
      have za3:¬ (mid:Int)<(e:Int):=by omega
      have N3:Hid (¬ (mid<e∧e<b)):=by intro h;omega
      go_wp2_with (go_at_call_of 142 (Value.int .i64 (a:Int));refine (HA1.out c2 _ _ (.inr ⟨N1.out,rfl⟩) S1.out).mono ?_;rintro e2 w2 ⟨rfl,d2,h2,t2,S3⟩;have HP2:=Lib.hid (And.intro h2 t2);have SR2:=Lib.hid S3;clear h2 t2 S3)
      go_end0
      have hf:=FIN.out _ _ _ (.inr ⟨N1.out,rfl⟩) (.inl HP2.out) (.inr ⟨N3.out,rfl⟩)
      exact ⟨rfl,_,hf.1,hf.2,SR2.out⟩
    · have za1:(j:Int)<(m:Int):=by omega
      have zb1:¬ (m:Int)<(e:Int):=by omega
      have N1:Hid (¬ (j<m∧m<e)):=by intro h;omega
      have za2:(a:Int)<(j:Int):=by omega
      have zb2:¬ (j:Int)<(mid:Int):=by omega
      have N2:Hid (¬ (a<j∧j<mid)):=by intro h;omega
      have za3:(mid:Int)<(e:Int):=by omega
      have zb3:(e:Int)<(b:Int):=by omega
      go_wp2_with (go_at_call_of 142 (Value.int .i64 (b:Int));refine (HA2.out c3 _ _ _ (.inr ⟨N1.out,rfl⟩) (.inr ⟨N2.out,rfl⟩) S1.out).mono ?_;rintro e3 w3 ⟨rfl,d3,h3,t3,S4⟩;have HP3:=Lib.hid (And.intro h3 t3);have SR3:=Lib.hid S4;clear h3 t3 S4)
      go_end0
      have hf:=FIN.out _ _ _ (.inr ⟨N1.out,rfl⟩) (.inr ⟨N2.out,rfl⟩) (.inl HP3.out)
      exact ⟨rfl,_,hf.1,hf.2,SR3.out⟩
    · have za1:(j:Int)<(m:Int):=by omega
      have zb1:¬ (m:Int)<(e:Int):=by omega
      have N1:Hid (¬ (j<m∧m<e)):=by intro h;omega
      have za2:(a:Int)<(j:Int):=by omega
      have zb2:¬ (j:Int)<(mid:Int):=by omega
      have N2:Hid (¬ (a<j∧j<mid)):=by intro h;omega
      have za3:(mid:Int)<(e:Int):=by omega
      have zb3:¬ (e:Int)<(b:Int):=by omega
      have N3:Hid (¬ (mid<e∧e<b)):=by intro h;omega
      go_wp2_with fail
      go_end0
      have hf:=FIN.out _ _ _ (.inr ⟨N1.out,rfl⟩) (.inr ⟨N2.out,rfl⟩) (.inr ⟨N3.out,rfl⟩)
      exact ⟨rfl,_,hf.1,hf.2,S1.out⟩
    · have za1:(j:Int)<(m:Int):=by omega
      have zb1:¬ (m:Int)<(e:Int):=by omega
      have N1:Hid (¬ (j<m∧m<e)):=by intro h;omega
      have za2:(a:Int)<(j:Int):=by omega
      have zb2:¬ (j:Int)<(mid:Int):=by omega
      have N2:Hid (¬ (a<j∧j<mid)):=by intro h;omega
      have za3:¬ (mid:Int)<(e:Int):=by omega
      have N3:Hid (¬ (mid<e∧e<b)):=by intro h;omega
      go_wp2_with fail
      go_end0
      have hf:=FIN.out _ _ _ (.inr ⟨N1.out,rfl⟩) (.inr ⟨N2.out,rfl⟩) (.inr ⟨N3.out,rfl⟩)
      exact ⟨rfl,_,hf.1,hf.2,S1.out⟩
    · have za1:(j:Int)<(m:Int):=by omega
      have zb1:¬ (m:Int)<(e:Int):=by omega
      have N1:Hid (¬ (j<m∧m<e)):=by intro h;omega
      have za2:¬ (a:Int)<(j:Int):=by omega
      have N2:Hid (¬ (a<j∧j<mid)):=by intro h;omega
      have za3:(mid:Int)<(e:Int):=by omega
      have zb3:(e:Int)<(b:Int):=by omega
      go_wp2_with (go_at_call_of 142 (Value.int .i64 (b:Int));refine (HA2.out c3 _ _ _ (.inr ⟨N1.out,rfl⟩) (.inr ⟨N2.out,rfl⟩) S1.out).mono ?_;rintro e3 w3 ⟨rfl,d3,h3,t3,S4⟩;have HP3:=Lib.hid (And.intro h3 t3);have SR3:=Lib.hid S4;clear h3 t3 S4)
      go_end0
      have hf:=FIN.out _ _ _ (.inr ⟨N1.out,rfl⟩) (.inr ⟨N2.out,rfl⟩) (.inl HP3.out)
      exact ⟨rfl,_,hf.1,hf.2,SR3.out⟩
    · have za1:(j:Int)<(m:Int):=by omega
      have zb1:¬ (m:Int)<(e:Int):=by omega
      have N1:Hid (¬ (j<m∧m<e)):=by intro h;omega
      have za2:¬ (a:Int)<(j:Int):=by omega
      have N2:Hid (¬ (a<j∧j<mid)):=by intro h;omega
      have za3:(mid:Int)<(e:Int):=by omega
      have zb3:¬ (e:Int)<(b:Int):=by omega
      have N3:Hid (¬ (mid<e∧e<b)):=by intro h;omega
      go_wp2_with fail
      go_end0
      have hf:=FIN.out _ _ _ (.inr ⟨N1.out,rfl⟩) (.inr ⟨N2.out,rfl⟩) (.inr ⟨N3.out,rfl⟩)
      exact ⟨rfl,_,hf.1,hf.2,S1.out⟩
    · have za1:(j:Int)<(m:Int):=by omega
      have zb1:¬ (m:Int)<(e:Int):=by omega
      have N1:Hid (¬ (j<m∧m<e)):=by intro h;omega
      have za2:¬ (a:Int)<(j:Int):=by omega
      have N2:Hid (¬ (a<j∧j<mid)):=by intro h;omega
      have za3:¬ (mid:Int)<(e:Int):=by omega
      have N3:Hid (¬ (mid<e∧e<b)):=by intro h;omega
      go_wp2_with fail
      go_end0
      have hf:=FIN.out _ _ _ (.inr ⟨N1.out,rfl⟩) (.inr ⟨N2.out,rfl⟩) (.inr ⟨N3.out,rfl⟩)
      exact ⟨rfl,_,hf.1,hf.2,S1.out⟩
    · have za1:¬ (j:Int)<(m:Int):=by omega
      have N1:Hid (¬ (j<m∧m<e)):=by intro h;omega
      have za2:(a:Int)<(j:Int):=by omega
      have zb2:(j:Int)<(mid:Int):=by omega
      have za3:(mid:Int)<(e:Int):=by omega
      have zb3:(e:Int)<(b:Int):=by omega
      go_wp2_with (first | (go_at_call_of 142 (Value.int .i64 (a:Int));refine (HA1.out c2 _ _ (.inr ⟨N1.out,rfl⟩) S1.out).mono ?_;rintro e2 w2 ⟨rfl,d2,h2,t2,S3⟩;have HP2:=Lib.hid (And.intro h2 t2);have SR2:=Lib.hid S3;clear h2 t2 S3) | (go_at_call_of 142 (Value.int .i64 (b:Int));refine (HA2.out c3 _ _ _ (.inr ⟨N1.out,rfl⟩) (.inl HP2.out) SR2.out).mono ?_;rintro e3 w3 ⟨rfl,d3,h3,t3,S4⟩;have HP3:=Lib.hid (And.intro h3 t3);have SR3:=Lib.hid S4;clear h3 t3 S4))
      go_end0
      have hf:=FIN.out _ _ _ (.inr ⟨N1.out,rfl⟩) (.inl HP2.out) (.inl HP3.out)
      exact ⟨rfl,_,hf.1,hf.2,SR3.out⟩
    · have za1:¬ (j:Int)<(m:Int):=by omega
      have N1:Hid (¬ (j<m∧m<e)):=by intro h;omega
      have za2:(a:Int)<(j:Int):=by omega
      have zb2:(j:Int)<(mid:Int):=by omega
      have za3:(mid:Int)<(e:Int):=by omega
      have zb3:¬ (e:Int)<(b:Int):=by omega
      have N3:Hid (¬ (mid<e∧e<b)):=by intro h;omega
      go_wp2_with (go_at_call_of 142 (Value.int .i64 (a:Int));refine (HA1.out c2 _ _ (.inr ⟨N1.out,rfl⟩) S1.out).mono ?_;rintro e2 w2 ⟨rfl,d2,h2,t2,S3⟩;have HP2:=Lib.hid (And.intro h2 t2);have SR2:=Lib.hid S3;clear h2 t2 S3)
      go_end0
      have hf:=FIN.out _ _ _ (.inr ⟨N1.out,rfl⟩) (.inl HP2.out) (.inr ⟨N3.out,rfl⟩)
      exact ⟨rfl,_,hf.1,hf.2,SR2.out⟩
    · have za1:¬ (j:Int)<(m:Int):=by omega
      have N1:Hid (¬ (j<m∧m<e)):=by intro h;omega
      have za2:(a:Int)<(j:Int):=by omega
      have zb2:(j:Int)<(mid:Int):=by omega
      have za3:¬ (mid:Int)<(e:Int):=by omega
      have N3:Hid (¬ (mid<e∧e<b)):=by intro h;omega
      go_wp2_with (go_at_call_of 142 (Value.int .i64 (a:Int));refine (HA1.out c2 _ _ (.inr ⟨N1.out,rfl⟩) S1.out).mono ?_;rintro e2 w2 ⟨rfl,d2,h2,t2,S3⟩;have HP2:=Lib.hid (And.intro h2 t2);have SR2:=Lib.hid S3;clear h2 t2 S3)
      go_end0
      have hf:=FIN.out _ _ _ (.inr ⟨N1.out,rfl⟩) (.inl HP2.out) (.inr ⟨N3.out,rfl⟩)
      exact ⟨rfl,_,hf.1,hf.2,SR2.out⟩
    · have za1:¬ (j:Int)<(m:Int):=by omega
      have N1:Hid (¬ (j<m∧m<e)):=by intro h;omega
      have za2:(a:Int)<(j:Int):=by omega
      have zb2:¬ (j:Int)<(mid:Int):=by omega
      have N2:Hid (¬ (a<j∧j<mid)):=by intro h;omega
      have za3:(mid:Int)<(e:Int):=by omega
      have zb3:(e:Int)<(b:Int):=by omega
      go_wp2_with (go_at_call_of 142 (Value.int .i64 (b:Int));refine (HA2.out c3 _ _ _ (.inr ⟨N1.out,rfl⟩) (.inr ⟨N2.out,rfl⟩) S1.out).mono ?_;rintro e3 w3 ⟨rfl,d3,h3,t3,S4⟩;have HP3:=Lib.hid (And.intro h3 t3);have SR3:=Lib.hid S4;clear h3 t3 S4)
      go_end0
      have hf:=FIN.out _ _ _ (.inr ⟨N1.out,rfl⟩) (.inr ⟨N2.out,rfl⟩) (.inl HP3.out)
      exact ⟨rfl,_,hf.1,hf.2,SR3.out⟩
    · have za1:¬ (j:Int)<(m:Int):=by omega
      have N1:Hid (¬ (j<m∧m<e)):=by intro h;omega
      have za2:(a:Int)<(j:Int):=by omega
      have zb2:¬ (j:Int)<(mid:Int):=by omega
      have N2:Hid (¬ (a<j∧j<mid)):=by intro h;omega
      have za3:(mid:Int)<(e:Int):=by omega
      have zb3:¬ (e:Int)<(b:Int):=by omega
      have N3:Hid (¬ (mid<e∧e<b)):=by intro h;omega
      go_wp2_with fail
      go_end0
      have hf:=FIN.out _ _ _ (.inr ⟨N1.out,rfl⟩) (.inr ⟨N2.out,rfl⟩) (.inr ⟨N3.out,rfl⟩)
      exact ⟨rfl,_,hf.1,hf.2,S1.out⟩
    · have za1:¬ (j:Int)<(m:Int):=by omega
      have N1:Hid (¬ (j<m∧m<e)):=by intro h;omega
      have za2:(a:Int)<(j:Int):=by omega
      have zb2:¬ (j:Int)<(mid:Int):=by omega
      have N2:Hid (¬ (a<j∧j<mid)):=by intro h;omega
      have za3:¬ (mid:Int)<(e:Int):=by omega
      have N3:Hid (¬ (mid<e∧e<b)):=by intro h;omega
      go_wp2_with fail
      go_end0
      have hf:=FIN.out _ _ _ (.inr ⟨N1.out,rfl⟩) (.inr ⟨N2.out,rfl⟩) (.inr ⟨N3.out,rfl⟩)
      exact ⟨rfl,_,hf.1,hf.2,S1.out⟩
    · have za1:¬ (j:Int)<(m:Int):=by omega
      have N1:Hid (¬ (j<m∧m<e)):=by intro h;omega
      have za2:¬ (a:Int)<(j:Int):=by omega
      have N2:Hid (¬ (a<j∧j<mid)):=by intro h;omega
      have za3:(mid:Int)<(e:Int):=by omega
      have zb3:(e:Int)<(b:Int):=by omega
      go_wp2_with (go_at_call_of 142 (Value.int .i64 (b:Int));refine (HA2.out c3 _ _ _ (.inr ⟨N1.out,rfl⟩) (.inr ⟨N2.out,rfl⟩) S1.out).mono ?_;rintro e3 w3 ⟨rfl,d3,h3,t3,S4⟩;have HP3:=Lib.hid (And.intro h3 t3);have SR3:=Lib.hid S4;clear h3 t3 S4)
      go_end0
      have hf:=FIN.out _ _ _ (.inr ⟨N1.out,rfl⟩) (.inr ⟨N2.out,rfl⟩) (.inl HP3.out)
      exact ⟨rfl,_,hf.1,hf.2,SR3.out⟩
    · have za1:¬ (j:Int)<(m:Int):=by omega
      have N1:Hid (¬ (j<m∧m<e)):=by intro h;omega
      have za2:¬ (a:Int)<(j:Int):=by omega
      have N2:Hid (¬ (a<j∧j<mid)):=by intro h;omega
      have za3:(mid:Int)<(e:Int):=by omega
      have zb3:¬ (e:Int)<(b:Int):=by omega
      have N3:Hid (¬ (mid<e∧e<b)):=by intro h;omega
      go_wp2_with fail
      go_end0
      have hf:=FIN.out _ _ _ (.inr ⟨N1.out,rfl⟩) (.inr ⟨N2.out,rfl⟩) (.inr ⟨N3.out,rfl⟩)
      exact ⟨rfl,_,hf.1,hf.2,S1.out⟩
    · have za1:¬ (j:Int)<(m:Int):=by omega
      have N1:Hid (¬ (j<m∧m<e)):=by intro h;omega
      have za2:¬ (a:Int)<(j:Int):=by omega
      have N2:Hid (¬ (a<j∧j<mid)):=by intro h;omega
      have za3:¬ (mid:Int)<(e:Int):=by omega
      have N3:Hid (¬ (mid<e∧e<b)):=by intro h;omega
      go_wp2_with fail
      go_end0
      have hf:=FIN.out _ _ _ (.inr ⟨N1.out,rfl⟩) (.inr ⟨N2.out,rfl⟩) (.inr ⟨N3.out,rfl⟩)
      exact ⟨rfl,_,hf.1,hf.2,S1.out⟩
end walks
end Go.Proofs.YtjhknhgkjfabaaaGreatDoor
