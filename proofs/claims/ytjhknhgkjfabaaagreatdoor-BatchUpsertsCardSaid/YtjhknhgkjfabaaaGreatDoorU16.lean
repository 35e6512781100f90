/-
 The stable sort of a list of changes by a closure, the walks, part 5: it proves that symMerge merges where both parts have two elements or more, if it does so on shorter ranges. If the row lies in the
-/
import Derived.Test.YtjhknhgkjfabaaaGreatDoorU15
import Derived.Deep.RegionWith
import Derived.Shelf.SlSortCmp.PdqK
import Derived.Test.YtjhknhgkjfabaaaGreatDoorU14
import Derived.Test.YtjhknhgkjfabaaaGreatDoorU12
set_option linter.unusedSimpArgs false
set_option linter.unusedVariables false
namespace Go.Proofs.YtjhknhgkjfabaaaGreatDoor
open Go.Shelf Go.RowKit Go.Lib Go.Sort Go.Stab
variable {α : Type} [Inhabited α]
section walks
set_option maxHeartbeats 64000000
set_option maxRecDepth 1000000
theorem symMerge_lo {P:Program} {kc:Nat} (L:StL P kc) (enc:α→List Value) (cf:α→α→Int) {slt:α→α→Bool} (hS:SWO slt) (g:Nat) (cb:Array Value) (blk off cap a m b mid:Nat) (d0 d:Array α) (w0 w:World)
 (eg:∀ args w,(callFunc g args).run P w=.ok (.enter g args) w) (hcmp:CmpLays P g cb enc kc cf blk off d0.size w0)
 (R:RowK enc kc w0 blk off d0) (hs:d0.size=d.size) (S:SWK enc kc w0 blk off d w) (ham:a+1<m) (hmb:m+1<b) (hb:b≤d.size) (hsz:d.size<4611686018427387904) (hp:MPre (ltOf cf) slt a m b d)
 (hmid:mid=(a+b) / 2) (hgt:¬ mid<m)
 (IH:∀ (a' m' b':Nat) (d':Array α) (w':World),b' - a'<b - a→a'<m'→m'<b'→b'≤d.size→d'.size=d.size→MPre (ltOf cf) slt a' m' b' d'→SWK enc kc w0 blk off d' w'→SymTo P kc enc slt g cb blk off cap d.size w0 a' m' b' d' w') :
 SymTo P kc enc slt g cb blk off cap d.size w0 a m b d w:=by
 unfold SymTo
 have HC:Aside _:=hcmp
 have S0:Aside (SWK enc kc w0 blk off d w):=S
 have HP:Aside (MPre (ltOf cf) slt a m b d):=hp
 have HS:Aside (SWO slt):=hS
 have HI0:Aside _:=IH
 clear S hcmp hp hS IH
 have hmida:a<mid:=by omega
 have hmidb:mid<b:=by omega
 obtain ⟨n,hn⟩:∃ n,n=mid+m:=⟨_,rfl⟩
 obtain ⟨p,hpp⟩:∃ p,p=n - 1:=⟨_,rfl⟩
 have one:((m:Int) - (a:Int) == 1)=false:=by rw [beq_eq_false_iff_ne];omega
 have one2:((b:Int) - (m:Int) == 1)=false:=by rw [beq_eq_false_iff_ne];omega
 have hzm:((a:Int)+(b:Int)) / 2=(mid:Int):=by omega
 have hzn:(mid:Int)+(m:Int)=(n:Int):=by omega
 have hzp:(n:Int) - 1=(p:Int):=by omega
 have wab:IntKind.i64.wrap ((a:Int)+(b:Int))=(a:Int)+(b:Int):=by rw [IntKind.wrap_i64];omega
 have HN:Hid (n=mid+m):=hn
 have HPP:Hid (p=n - 1):=hpp
 have HMID:Hid (mid=(a+b) / 2):=hmid
 have hgtz:¬ (mid:Int)<(m:Int):=by omega
 have n1:n<9223372036854775807:=by omega
 clear hn hpp hmid
 obtain ⟨mixed,FG1,FG2,FG3,FG4,FG5,E1,E2,E3,E4,t0,a0,z0,v0,t3,a3,z3,v3,t4,a4,z4,v4,t22,a22,z22,v22,t59,a59,z59,v59,t100,a100,z100,v100,aE,zE⟩:=id L
 go_enter FG3,Tryz.ntmps142
 go_wp2
 go_loopg [20,21] (b - a) (fun kx s20 s21 wr=>∃ (i j:Nat),s20=.int .i64 i∧s21=.int .i64 j∧a≤i∧n≤i+b∧i≤j∧j≤m∧j≤mid∧j - i≤kx∧Aside (SWK enc kc w0 blk off d wr)∧Hid ((i=a∨n - i=b∨ltOf cf d[n - i]! d[i - 1]! = false)∧(j=m∨n - j=m∨ltOf cf d[n - j - 1]! d[j]! = true)))
 case atStart=>exact ⟨a,m,rfl,rfl,Nat.le_refl _,by have:=HN.out;have:=HMID.out;omega,by omega,Nat.le_refl _,by omega,by omega,S0,.inl rfl,.inl rfl⟩
 case round =>
  clear S0
  obtain ⟨i,j,rfl,rfl,hai,hnb,hij,hjm,hjd,hkx,S1,HI⟩:=hrel
  by_cases hlt:i<j
  · have hltz:(i:Int)<(j:Int):=by omega
    obtain ⟨c,hcc⟩:∃ h,h=(i+j) / 2:=⟨_,rfl⟩
    have hz:((i:Int)+(j:Int)) / 2=(c:Int):=by omega
    have hlo:i≤c:=by omega
    have hhi:c<j:=by omega
    clear hcc
    obtain ⟨q,hq⟩:∃ q,q=p - c:=⟨_,rfl⟩
    have hq1:q=n - c - 1:=by have:=HN.out;have:=HPP.out;omega
    have hqz:(p:Int) - (c:Int)=(q:Int):=by have:=HN.out;have:=HPP.out;omega
    have hqb:q<d.size:=by omega
    have wq1:IntKind.i64.wrap ((p:Int) - (c:Int))=(q:Int):=by rw [IntKind.wrap_i64];omega
    have wq2:IntKind.i64.wrap (q:Int)=(q:Int):=by rw [IntKind.wrap_i64];omega
    have pq:(0:Int)≤(q:Int):=by omega
    have bh:(c:Int)<(d.size:Int):=by omega
    have bq:(q:Int)<(d.size:Int):=by omega
    have HQ:Hid (q=n - c - 1):=hq1
    clear hq hq1
    have wij:IntKind.i64.wrap ((i:Int)+(j:Int))=(i:Int)+(j:Int):=by rw [IntKind.wrap_i64];omega
    obtain ⟨x,hx⟩:∃ x,x=d[q]! := ⟨_,rfl⟩
    obtain ⟨y,hy⟩:∃ x,x=d[c]! := ⟨_,rfl⟩
    have la:=S1.out.ld R (by omega) P q (by omega)
    have l2:=S1.out.ld R (by omega) P c (by omega)
    rw [← hx] at la
    rw [← hy] at l2
    have hc:=S1.out.cmp HC.out (by omega) x y
    cases hlv:(ltOf cf) d[q]! d[c]! with
    | true =>
      have hv:cf x y<0:=by rw [hx,hy];exact of_decide_eq_true hlv
      have hd:decide (cf x y<0)=true:=decide_eq_true hv
      clear hx hy
      go_wp2_with fail
      go_quiet_grown (first | (go_at_fn g;refine Calls.grown_of (hc _ _)))
      have S2:Aside (SWK enc kc w0 blk off d (grow (wr.drewN nq) osq)):=S1.out.grown nq osq
      clear la l2 hc S1
      generalize grow (wr.drewN nq) osq=w2 at S2 ⊢
      clear nq osq
      go_wp2
      go_roundg (c - i)
      case measure=>omega
      case rel=>exact ⟨i,c,rfl,rfl,hai,hnb,hlo,by omega,by omega,by omega,S2,HI.out.1,.inr (.inr (by rw [← HQ.out];exact hlv))⟩
    | false =>
      have hv:¬ cf x y<0:=by rw [hx,hy];exact of_decide_eq_false hlv
      have hd:decide (cf x y<0)=false:=decide_eq_false hv
      clear hx hy
      go_wp2_with fail
      go_quiet_grown (first | (go_at_fn g;refine Calls.grown_of (hc _ _)))
      have S2:Aside (SWK enc kc w0 blk off d (grow (wr.drewN nq) osq)):=S1.out.grown nq osq
      clear la l2 hc S1
      generalize grow (wr.drewN nq) osq=w2 at S2 ⊢
      clear nq osq
      go_wp2
      go_roundg (j - (c+1))
      case measure=>omega
      case rel=>exact ⟨c+1,j,by go_num,rfl,by omega,by omega,by omega,hjm,hjd,by omega,S2,.inr (.inr (by rw [show n - (c+1)=q from by have:=HQ.out;omega,show c+1 - 1=c from by omega];exact hlv)),HI.out.2⟩
  · obtain ⟨s,hs'⟩:∃ s,s=i:=⟨_,rfl⟩
    have hji:j=s:=by omega
    subst hji
    subst hs'
    obtain ⟨e,he⟩:∃ e,e=n - j:=⟨_,rfl⟩
    have hez:(n:Int) - (j:Int)=(e:Int):=by have:=HN.out;omega
    have hme:m≤e:=by have:=HN.out;omega
    have hde:mid≤e:=by have:=HN.out;omega
    have heb:e≤b:=by omega
    have hsum:mid+m=j+e:=by have:=HN.out;omega
    have H1:j=a∨e=b∨ltOf cf d[e]! d[j - 1]! = false:=by rw [he];exact HI.out.1
    have H2:j=m∨e=m∨ltOf cf d[e - 1]! d[j]! = true:=by rw [he];exact HI.out.2
    have FIN:Hid (∀ d1 d2 d3:Array α,(IsRot d d1 j m e∨(¬ (j<m∧m<e)∧d1=d))→((PermIn a mid d1 d2∧SortedIn slt a mid d2)∨(¬ (a<j∧j<mid)∧d2=d1))→((PermIn mid b d2 d3∧SortedIn slt mid b d3)∨(¬ (mid<e∧e<b)∧d3=d2))→PermIn a b d d3∧SortedIn slt a b d3) :=
     fun d1 d2 d3 h1 h2 h3=>fin HS.out HP.out hai hjm hjd hme heb hb hsum H1 H2 h1 h2 h3
    have HROT:Hid (j<m∧m<e→∃ _:True,Calls P 190 #[.slice (some ⟨blk,off,none⟩) d.size cap,.int .i64 j,.int .i64 m,.int .i64 e,.func (.func g) #[] cb] wr fun e1 w'=>e1=.returned (.tuple #[])∧∃ d',IsRot d d' j m e∧SWK enc kc w0 blk off d' w') :=
     fun h=>⟨trivial,rotate_s L enc g cb blk off cap j m e d0 d w0 wr R hs S1.out h.1 h.2 (by omega) hsz⟩
    have HA1:Hid (a<j∧j<mid→∀ (d1:Array α) (w1:World),(IsRot d d1 j m e∨(¬ (j<m∧m<e)∧d1=d))→SWK enc kc w0 blk off d1 w1→SymTo P kc enc slt g cb blk off cap d.size w0 a j mid d1 w1) :=
     fun h d1 w1 h1 S=>by
      have:=fin1_one HS.out HP.out hai hjm hme heb hb hsum H1 H2 h1
      exact HI0.out a j mid d1 w1 (by omega) h.1 h.2 (by omega) this.2 this.1 S
    have HA2:Hid (mid<e∧e<b→∀ (d1 d2:Array α) (w2:World),(IsRot d d1 j m e∨(¬ (j<m∧m<e)∧d1=d))→((PermIn a mid d1 d2∧SortedIn slt a mid d2)∨(¬ (a<j∧j<mid)∧d2=d1))→SWK enc kc w0 blk off d2 w2→SymTo P kc enc slt g cb blk off cap d.size w0 mid e b d2 w2) :=
     fun h d1 d2 w2 h1 h2 S=>by
      have:=fin2_two HS.out HP.out hai hjm hjd hme heb hb hsum H1 H2 h1 h2
      exact HI0.out mid e b d2 w2 (by omega) h.1 h.2 hb this.2 this.1 S
    clear H1 H2 HI he hnb hlt
    have hltz:¬ (j:Int)<(j:Int):=by omega
    unfold SymTo at HA1 HA2
    have HSZ:Hid (mid+m=j+e):=hsum
    clear hsum
    have k1:(j<m∧m<e)∨(j<m∧¬ m<e)∨¬ j<m:=by omega
    have k2:(a<j∧j<mid)∨(a<j∧¬ j<mid)∨¬ a<j:=by omega
    have k3:(mid<e∧e<b)∨(mid<e∧¬ e<b)∨¬ mid<e:=by omega
    rcases k1 with c1 | c1 | c1 <;> rcases k2 with c2 | c2 | c2 <;> rcases k3 with c3 | c3 | c3
    · have za1:(j:Int)<(m:Int):=by omega
      have zb1:(m:Int)<(e:Int):=by omega
      have za2:(a:Int)<(j:Int):=by omega
      have zb2:(j:Int)<(mid:Int):=by omega
      have za3:(mid:Int)<(e:Int):=by omega
      have zb3:(e:Int)<(b:Int):=by omega
      obtain ⟨_,hr⟩:=HROT.out c1
      have HR:=Lib.hid hr
      clear hr
      go_wp2_with (first | (go_at_call 190;refine HR.out.mono ?_;rintro e1 w1 ⟨rfl,d1,h1,S2⟩;have HR1:=Lib.hid h1;have SR1:=Lib.hid S2;clear h1 S2) | (go_at_call_of 142 (Value.int .i64 (a:Int));refine (HA1.out c2 _ _ (.inl HR1.out) SR1.out).mono ?_;rintro e2 w2 ⟨rfl,d2,h2,t2,S3⟩;have HP2:=Lib.hid (And.intro h2 t2);have SR2:=Lib.hid S3;clear h2 t2 S3) | (go_at_call_of 142 (Value.int .i64 (b:Int));refine (HA2.out c3 _ _ _ (.inl HR1.out) (.inl HP2.out) SR2.out).mono ?_;rintro e3 w3 ⟨rfl,d3,h3,t3,S4⟩;have HP3:=Lib.hid (And.intro h3 t3);have SR3:=Lib.hid S4;clear h3 t3 S4))
      go_end0
      have hf:=FIN.out _ _ _ (.inl HR1.out) (.inl HP2.out) (.inl HP3.out)
      exact ⟨rfl,_,hf.1,hf.2,SR3.out⟩
    · have za1:(j:Int)<(m:Int):=by omega
      have zb1:(m:Int)<(e:Int):=by omega
      have za2:(a:Int)<(j:Int):=by omega
      have zb2:(j:Int)<(mid:Int):=by omega
      have za3:(mid:Int)<(e:Int):=by omega
      have zb3:¬ (e:Int)<(b:Int):=by omega
      have N3:Hid (¬ (mid<e∧e<b)):=by intro h;omega
      obtain ⟨_,hr⟩:=HROT.out c1
      have HR:=Lib.hid hr
      clear hr
      go_wp2_with (first | (go_at_call 190;refine HR.out.mono ?_;rintro e1 w1 ⟨rfl,d1,h1,S2⟩;have HR1:=Lib.hid h1;have SR1:=Lib.hid S2;clear h1 S2) | (go_at_call_of 142 (Value.int .i64 (a:Int));refine (HA1.out c2 _ _ (.inl HR1.out) SR1.out).mono ?_;rintro e2 w2 ⟨rfl,d2,h2,t2,S3⟩;have HP2:=Lib.hid (And.intro h2 t2);have SR2:=Lib.hid S3;clear h2 t2 S3))
      go_end0
      have hf:=FIN.out _ _ _ (.inl HR1.out) (.inl HP2.out) (.inr ⟨N3.out,rfl⟩)
      exact ⟨rfl,_,hf.1,hf.2,SR2.out⟩
    · have za1:(j:Int)<(m:Int):=by omega
      have zb1:(m:Int)<(e:Int):=by omega
      have za2:(a:Int)<(j:Int):=by omega
      have zb2:(j:Int)<(mid:Int):=by omega
      have za3:¬ (mid:Int)<(e:Int):=by omega
      have N3:Hid (¬ (mid<e∧e<b)):=by intro h;omega
      obtain ⟨_,hr⟩:=HROT.out c1
      have HR:=Lib.hid hr
      clear hr
      go_wp2_with (first | (go_at_call 190;refine HR.out.mono ?_;rintro e1 w1 ⟨rfl,d1,h1,S2⟩;have HR1:=Lib.hid h1;have SR1:=Lib.hid S2;clear h1 S2) | (go_at_call_of 142 (Value.int .i64 (a:Int));refine (HA1.out c2 _ _ (.inl HR1.out) SR1.out).mono ?_;rintro e2 w2 ⟨rfl,d2,h2,t2,S3⟩;have HP2:=Lib.hid (And.intro h2 t2);have SR2:=Lib.hid S3;clear h2 t2 S3))
      go_end0
      have hf:=FIN.out _ _ _ (.inl HR1.out) (.inl HP2.out) (.inr ⟨N3.out,rfl⟩)
      exact ⟨rfl,_,hf.1,hf.2,SR2.out⟩
    · have za1:(j:Int)<(m:Int):=by omega
      have zb1:(m:Int)<(e:Int):=by omega
      have za2:(a:Int)<(j:Int):=by omega
      have zb2:¬ (j:Int)<(mid:Int):=by omega
      have N2:Hid (¬ (a<j∧j<mid)):=by intro h;omega
      have za3:(mid:Int)<(e:Int):=by omega
      have zb3:(e:Int)<(b:Int):=by omega
      obtain ⟨_,hr⟩:=HROT.out c1
      have HR:=Lib.hid hr
      clear hr
      go_wp2_with (first | (go_at_call 190;refine HR.out.mono ?_;rintro e1 w1 ⟨rfl,d1,h1,S2⟩;have HR1:=Lib.hid h1;have SR1:=Lib.hid S2;clear h1 S2) | (go_at_call_of 142 (Value.int .i64 (b:Int));refine (HA2.out c3 _ _ _ (.inl HR1.out) (.inr ⟨N2.out,rfl⟩) SR1.out).mono ?_;rintro e3 w3 ⟨rfl,d3,h3,t3,S4⟩;have HP3:=Lib.hid (And.intro h3 t3);have SR3:=Lib.hid S4;clear h3 t3 S4))
      go_end0
      have hf:=FIN.out _ _ _ (.inl HR1.out) (.inr ⟨N2.out,rfl⟩) (.inl HP3.out)
      exact ⟨rfl,_,hf.1,hf.2,SR3.out⟩
    · have za1:(j:Int)<(m:Int):=by omega
      have zb1:(m:Int)<(e:Int):=by omega
      have za2:(a:Int)<(j:Int):=by omega
      have zb2:¬ (j:Int)<(mid:Int):=by omega
      have N2:Hid (¬ (a<j∧j<mid)):=by intro h;omega
      have za3:(mid:Int)<(e:Int):=by omega
      have zb3:¬ (e:Int)<(b:Int):=by omega
      have N3:Hid (¬ (mid<e∧e<b)):=by intro h;omega
      obtain ⟨_,hr⟩:=HROT.out c1
      have HR:=Lib.hid hr
      clear hr
      go_wp2_with (go_at_call 190;refine HR.out.mono ?_;rintro e1 w1 ⟨rfl,d1,h1,S2⟩;have HR1:=Lib.hid h1;have SR1:=Lib.hid S2;clear h1 S2)
      go_end0
      have hf:=FIN.out _ _ _ (.inl HR1.out) (.inr ⟨N2.out,rfl⟩) (.inr ⟨N3.out,rfl⟩)
      exact ⟨rfl,_,hf.1,hf.2,SR1.out⟩
    · have za1:(j:Int)<(m:Int):=by omega
      have zb1:(m:Int)<(e:Int):=by omega
      have za2:(a:Int)<(j:Int):=by omega
      have zb2:¬ (j:Int)<(mid:Int):=by omega
      have N2:Hid (¬ (a<j∧j<mid)):=by intro h;omega
      have za3:¬ (mid:Int)<(e:Int):=by omega
      have N3:Hid (¬ (mid<e∧e<b)):=by intro h;omega
      obtain ⟨_,hr⟩:=HROT.out c1
      have HR:=Lib.hid hr
      clear hr
      go_wp2_with (go_at_call 190;refine HR.out.mono ?_;rintro e1 w1 ⟨rfl,d1,h1,S2⟩;have HR1:=Lib.hid h1;have SR1:=Lib.hid S2;clear h1 S2)
      go_end0
      have hf:=FIN.out _ _ _ (.inl HR1.out) (.inr ⟨N2.out,rfl⟩) (.inr ⟨N3.out,rfl⟩)
      exact ⟨rfl,_,hf.1,hf.2,SR1.out⟩
    · have za1:(j:Int)<(m:Int):=by omega
      have zb1:(m:Int)<(e:Int):=by omega
      have za2:¬ (a:Int)<(j:Int):=by omega
      have N2:Hid (¬ (a<j∧j<mid)):=by intro h;omega
      have za3:(mid:Int)<(e:Int):=by omega
      have zb3:(e:Int)<(b:Int):=by omega
      obtain ⟨_,hr⟩:=HROT.out c1
      have HR:=Lib.hid hr
      clear hr
      go_wp2_with (first | (go_at_call 190;refine HR.out.mono ?_;rintro e1 w1 ⟨rfl,d1,h1,S2⟩;have HR1:=Lib.hid h1;have SR1:=Lib.hid S2;clear h1 S2) | (go_at_call_of 142 (Value.int .i64 (b:Int));refine (HA2.out c3 _ _ _ (.inl HR1.out) (.inr ⟨N2.out,rfl⟩) SR1.out).mono ?_;rintro e3 w3 ⟨rfl,d3,h3,t3,S4⟩;have HP3:=Lib.hid (And.intro h3 t3);have SR3:=Lib.hid S4;clear h3 t3 S4))
      go_end0
      have hf:=FIN.out _ _ _ (.inl HR1.out) (.inr ⟨N2.out,rfl⟩) (.inl HP3.out)
      exact ⟨rfl,_,hf.1,hf.2,SR3.out⟩
    · have za1:(j:Int)<(m:Int):=by omega
      have zb1:(m:Int)<(e:Int):=by omega
      have za2:¬ (a:Int)<(j:Int):=by omega
      have N2:Hid (¬ (a<j∧j<mid)):=by intro h;omega
      have za3:(mid:Int)<(e:Int):=by omega
      have zb3:¬ (e:Int)<(b:Int):=by omega
      have N3:Hid (¬ (mid<e∧e<b)):=by intro h;omega
      obtain ⟨_,hr⟩:=HROT.out c1
      have HR:=Lib.hid hr
      clear hr
      go_wp2_with (go_at_call 190;refine HR.out.mono ?_;rintro e1 w1 ⟨rfl,d1,h1,S2⟩;have HR1:=Lib.hid h1;have SR1:=Lib.hid S2;clear h1 S2)
      go_end0
      have hf:=FIN.out _ _ _ (.inl HR1.out) (.inr ⟨N2.out,rfl⟩) (.inr ⟨N3.out,rfl⟩)
      exact ⟨rfl,_,hf.1,hf.2,SR1.out⟩
    · have za1:(j:Int)<(m:Int):=by omega
      have zb1:(m:Int)<(e:Int):=by omega
      have za2:¬ (a:Int)<(j:Int):=by omega
      have N2:Hid (¬ (a<j∧j<mid)):=by intro h;omega
      have za3:¬ (mid:Int)<(e:Int):=by omega
      have N3:Hid (¬ (mid<e∧e<b)):=by intro h;omega
      obtain ⟨_,hr⟩:=HROT.out c1
      have HR:=Lib.hid hr
      clear hr
      go_wp2_with (go_at_call 190;refine HR.out.mono ?_;rintro e1 w1 ⟨rfl,d1,h1,S2⟩;have HR1:=Lib.hid h1;have SR1:=Lib.hid S2;clear h1 S2)
      go_end0
      have hf:=FIN.out _ _ _ (.inl HR1.out) (.inr ⟨N2.out,rfl⟩) (.inr ⟨N3.out,rfl⟩)
      exact ⟨rfl,_,hf.1,hf.2,SR1.out⟩
    · have za1:(j:Int)<(m:Int):=by omega
      have zb1:¬ (m:Int)<(e:Int):=by omega
      have N1:Hid (¬ (j<m∧m<e)):=by intro h;omega
      have za2:(a:Int)<(j:Int):=by omega
      have zb2:(j:Int)<(mid:Int):=by omega
      have za3:(mid:Int)<(e:Int):=by omega
      have zb3:(e:Int)<(b:Int):=by omega
      go_wp2_with (first | (go_at_call_of 142 (Value.int .i64 (a:Int));refine (HA1.out c2 _ _ (.inr ⟨N1.out,rfl⟩) S1.out).mono ?_;rintro e2 w2 ⟨rfl,d2,h2,t2,S3⟩;have HP2:=Lib.hid (And.intro h2 t2);have SR2:=Lib.hid S3;clear h2 t2 S3) | (go_at_call_of 142 (Value.int .i64 (b:Int));refine (HA2.out c3 _ _ _ (.inr ⟨N1.out,rfl⟩) (.inl HP2.out) SR2.out).mono ?_;rintro e3 w3 ⟨rfl,d3,h3,t3,S4⟩;have HP3:=Lib.hid (And.intro h3 t3);have SR3:=Lib.hid S4;clear h3 t3 S4))
      go_end0
      have hf:=FIN.out _ _ _ (.inr ⟨N1.out,rfl⟩) (.inl HP2.out) (.inl HP3.out)
      exact ⟨rfl,_,hf.1,hf.2,SR3.out⟩
    · have za1:(j:Int)<(m:Int):=by omega
      have zb1:¬ (m:Int)<(e:Int):=by omega
      have N1:Hid (¬ (j<m∧m<e)):=by intro h;omega
      have za2:(a:Int)<(j:Int):=by omega
      have zb2:(j:Int)<(mid:Int):=by omega
      have za3:(mid:Int)<(e:Int):=by omega
      have zb3:¬ (e:Int)<(b:Int):=by omega
      have N3:Hid (¬ (mid<e∧e<b)):=by intro h;omega
      go_wp2_with (go_at_call_of 142 (Value.int .i64 (a:Int));refine (HA1.out c2 _ _ (.inr ⟨N1.out,rfl⟩) S1.out).mono ?_;rintro e2 w2 ⟨rfl,d2,h2,t2,S3⟩;have HP2:=Lib.hid (And.intro h2 t2);have SR2:=Lib.hid S3;clear h2 t2 S3)
      go_end0
      have hf:=FIN.out _ _ _ (.inr ⟨N1.out,rfl⟩) (.inl HP2.out) (.inr ⟨N3.out,rfl⟩)
      exact ⟨rfl,_,hf.1,hf.2,SR2.out⟩
    · have za1:(j:Int)<(m:Int):=by omega
      have zb1:¬ (m:Int)<(e:Int):=by omega
      have N1:Hid (¬ (j<m∧m<e)):=by intro h;omega
      have za2:(a:Int)<(j:Int):=by omega
      have zb2:(j:Int)<(mid:Int):=by omega
      have za3:¬ (mid:Int)<(e:Int):=by omega
      have N3:Hid (¬ (mid<e∧e<b)):=by intro h;omega
      go_wp2_with (go_at_call_of 142 (Value.int .i64 (a:Int));refine (HA1.out c2 _ _ (.inr ⟨N1.out,rfl⟩) S1.out).mono ?_;rintro e2 w2 ⟨rfl,d2,h2,t2,S3⟩;have HP2:=Lib.hid (And.intro h2 t2);have SR2:=Lib.hid S3;clear h2 t2 S3)
      go_end0
      have hf:=FIN.out _ _ _ (.inr ⟨N1.out,rfl⟩) (.inl HP2.out) (.inr ⟨N3.out,rfl⟩)
      exact ⟨rfl,_,hf.1,hf.2,SR2.out⟩
    · have za1:(j:Int)<(m:Int):=by omega
      have zb1:¬ (m:Int)<(e:Int):=by omega
      have N1:Hid (¬ (j<m∧m<e)):=by intro h;omega
      have za2:(a:Int)<(j:Int):=by omega
      have zb2:¬ (j:Int)<(mid:Int):=by omega
      have N2:Hid (¬ (a<j∧j<mid)):=by intro h;omega
      have za3:(mid:Int)<(e:Int):=by omega
      have zb3:(e:Int)<(b:Int):=by omega
      go_wp2_with (go_at_call_of 142 (Value.int .i64 (b:Int));refine (HA2.out c3 _ _ _ (.inr ⟨N1.out,rfl⟩) (.inr ⟨N2.out,rfl⟩) S1.out).mono ?_;rintro e3 w3 ⟨rfl,d3,h3,t3,S4⟩;have HP3:=Lib.hid (And.intro h3 t3);have SR3:=Lib.hid S4;clear h3 t3 S4)
      go_end0
      have hf:=FIN.out _ _ _ (.inr ⟨N1.out,rfl⟩) (.inr ⟨N2.out,rfl⟩) (.inl HP3.out)
      exact ⟨rfl,_,hf.1,hf.2,SR3.out⟩
    · have za1:(j:Int)<(m:Int):=by omega
      have zb1:¬ (m:Int)<(e:Int):=by omega
      have N1:Hid (¬ (j<m∧m<e)):=by intro h;omega
      have za2:(a:Int)<(j:Int):=by omega
      have zb2:¬ (j:Int)<(mid:Int):=by omega
      have N2:Hid (¬ (a<j∧j<mid)):=by intro h;omega
      have za3:(mid:Int)<(e:Int):=by omega
      have zb3:¬ (e:Int)<(b:Int):=by omega
      have N3:Hid (¬ (mid<e∧e<b)):=by intro h;omega
      go_wp2_with fail
      go_end0
      have hf:=FIN.out _ _ _ (.inr ⟨N1.out,rfl⟩) (.inr ⟨N2.out,rfl⟩) (.inr ⟨N3.out,rfl⟩)
      exact ⟨rfl,_,hf.1,hf.2,S1.out⟩
    · have za1:(j:Int)<(m:Int):=by omega
      have zb1:¬ (m:Int)<(e:Int):=by omega
      have N1:Hid (¬ (j<m∧m<e)):=by intro h;omega
      have za2:(a:Int)<(j:Int):=by omega
      have zb2:¬ (j:Int)<(mid:Int):=by omega
      have N2:Hid (¬ (a<j∧j<mid)):=by intro h;omega
      have za3:¬ (mid:Int)<(e:Int):=by omega
      have N3:Hid (¬ (mid<e∧e<b)):=by intro h;omega
      go_wp2_with fail
      go_end0
      have hf:=FIN.out _ _ _ (.inr ⟨N1.out,rfl⟩) (.inr ⟨N2.out,rfl⟩) (.inr ⟨N3.out,rfl⟩)
      exact ⟨rfl,_,hf.1,hf.2,S1.out⟩
    · have za1:(j:Int)<(m:Int):=by omega
      have zb1:¬ (m:Int)<(e:Int):=by omega
      have N1:Hid (¬ (j<m∧m<e)):=by intro h;omega
      have za2:¬ (a:Int)<(j:Int):=by omega
      have N2:Hid (¬ (a<j∧j<mid)):=by intro h;omega
      have za3:(mid:Int)<(e:Int):=by omega
      have zb3:(e:Int)<(b:Int):=by omega
      go_wp2_with (go_at_call_of 142 (Value.int .i64 (b:Int));refine (HA2.out c3 _ _ _ (.inr ⟨N1.out,rfl⟩) (.inr ⟨N2.out,rfl⟩) S1.out).mono ?_;rintro e3 w3 ⟨rfl,d3,h3,t3,S4⟩;have HP3:=Lib.hid (And.intro h3 t3);have SR3:=Lib.hid S4;clear h3 t3 S4)
      go_end0
      have hf:=FIN.out _ _ _ (.inr ⟨N1.out,rfl⟩) (.inr ⟨N2.out,rfl⟩) (.inl HP3.out)
      exact ⟨rfl,_,hf.1,hf.2,SR3.out⟩
    · have za1:(j:Int)<(m:Int):=by omega
      have zb1:¬ (m:Int)<(e:Int):=by omega
      have N1:Hid (¬ (j<m∧m<e)):=by intro h;omega
      have za2:¬ (a:Int)<(j:Int):=by omega
      have N2:Hid (¬ (a<j∧j<mid)):=by intro h;omega
      have za3:(mid:Int)<(e:Int):=by omega
      have zb3:¬ (e:Int)<(b:Int):=by omega
      have N3:Hid (¬ (mid<e∧e<b)):=by intro h;omega
      go_wp2_with fail
      go_end0
      have hf:=FIN.out _ _ _ (.inr ⟨N1.out,rfl⟩) (.inr ⟨N2.out,rfl⟩) (.inr ⟨N3.out,rfl⟩)
      exact ⟨rfl,_,hf.1,hf.2,S1.out⟩
    · have za1:(j:Int)<(m:Int):=by omega
      have zb1:¬ (m:Int)<(e:Int):=by omega
      have N1:Hid (¬ (j<m∧m<e)):=by intro h;omega
      have za2:¬ (a:Int)<(j:Int):=by omega
      have N2:Hid (¬ (a<j∧j<mid)):=by intro h;omega
      have za3:¬ (mid:Int)<(e:Int):=by omega
      have N3:Hid (¬ (mid<e∧e<b)):=by intro h;omega
      go_wp2_with fail
      go_end0
      have hf:=FIN.out _ _ _ (.inr ⟨N1.out,rfl⟩) (.inr ⟨N2.out,rfl⟩) (.inr ⟨N3.out,rfl⟩)
      exact ⟨rfl,_,hf.1,hf.2,S1.out⟩
    · have za1:¬ (j:Int)<(m:Int):=by omega
      have N1:Hid (¬ (j<m∧m<e)):=by intro h;omega
      have za2:(a:Int)<(j:Int):=by omega
      have zb2:(j:Int)<(mid:Int):=by omega
      have za3:(mid:Int)<(e:Int):=by omega
      have zb3:(e:Int)<(b:Int):=by omega
      go_wp2_with (first | (go_at_call_of 142 (Value.int .i64 (a:Int));refine (HA1.out c2 _ _ (.inr ⟨N1.out,rfl⟩) S1.out).mono ?_;rintro e2 w2 ⟨rfl,d2,h2,t2,S3⟩;have HP2:=Lib.hid (And.intro h2 t2);have SR2:=Lib.hid S3;clear h2 t2 S3) | (go_at_call_of 142 (Value.int .i64 (b:Int));refine (HA2.out c3 _ _ _ (.inr ⟨N1.out,rfl⟩) (.inl HP2.out) SR2.out).mono ?_;rintro e3 w3 ⟨rfl,d3,h3,t3,S4⟩;have HP3:=Lib.hid (And.intro h3 t3);have SR3:=Lib.hid S4;clear h3 t3 S4))
      go_end0
      have hf:=FIN.out _ _ _ (.inr ⟨N1.out,rfl⟩) (.inl HP2.out) (.inl HP3.out)
      exact ⟨rfl,_,hf.1,hf.2,SR3.out⟩
    · have za1:¬ (j:Int)<(m:Int):=by omega
      have N1:Hid (¬ (j<m∧m<e)):=by intro h;omega
      have za2:(a:Int)<(j:Int):=by omega
      have zb2:(j:Int)<(mid:Int):=by omega
      have za3:(mid:Int)<(e:Int):=by omega
      have zb3:¬ (e:Int)<(b:Int):=by omega
      have N3:Hid (¬ (mid<e∧e<b)):=by intro h;omega
      go_wp2_with (go_at_call_of 142 (Value.int .i64 (a:Int));refine (HA1.out c2 _ _ (.inr ⟨N1.out,rfl⟩) S1.out).mono ?_;rintro e2 w2 ⟨rfl,d2,h2,t2,S3⟩;have HP2:=Lib.hid (And.intro h2 t2);have SR2:=Lib.hid S3;clear h2 t2 S3)
      go_end0
      have hf:=FIN.out _ _ _ (.inr ⟨N1.out,rfl⟩) (.inl HP2.out) (.inr ⟨N3.out,rfl⟩)
      exact ⟨rfl,_,hf.1,hf.2,SR2.out⟩
    · have za1:¬ (j:Int)<(m:Int):=by omega
      have N1:Hid (¬ (j<m∧m<e)):=by intro h;omega
      have za2:(a:Int)<(j:Int):=by omega
      have zb2:(j:Int)<(mid:Int):=by omega
      have za3:¬ (mid:Int)<(e:Int):=by omega
      have N3:Hid (¬ (mid<e∧e<b)):=by intro h;omega
      go_wp2_with (go_at_call_of 142 (Value.int .i64 (a:Int));refine (HA1.out c2 _ _ (.inr ⟨N1.out,rfl⟩) S1.out).mono ?_;rintro e2 w2 ⟨rfl,d2,h2,t2,S3⟩;have HP2:=Lib.hid (And.intro h2 t2);have SR2:=Lib.hid S3;clear h2 t2 S3)
      go_end0
      have hf:=FIN.out _ _ _ (.inr ⟨N1.out,rfl⟩) (.inl HP2.out) (.inr ⟨N3.out,rfl⟩)
      exact ⟨rfl,_,hf.1,hf.2,SR2.out⟩
    · have za1:¬ (j:Int)<(m:Int):=by omega
      have N1:Hid (¬ (j<m∧m<e)):=by intro h;omega
      have za2:(a:Int)<(j:Int):=by omega
      have zb2:¬ (j:Int)<(mid:Int):=by omega
      have N2:Hid (¬ (a<j∧j<mid)):=by intro h;omega
      have za3:(mid:Int)<(e:Int):=by omega
      have zb3:(e:Int)<(b:Int):=by omega
      go_wp2_with (go_at_call_of 142 (Value.int .i64 (b:Int));refine (HA2.out c3 _ _ _ (.inr ⟨N1.out,rfl⟩) (.inr ⟨N2.out,rfl⟩) S1.out).mono ?_;rintro e3 w3 ⟨rfl,d3,h3,t3,S4⟩;have HP3:=Lib.hid (And.intro h3 t3);have SR3:=Lib.hid S4;clear h3 t3 S4)
      go_end0
      have hf:=FIN.out _ _ _ (.inr ⟨N1.out,rfl⟩) (.inr ⟨N2.out,rfl⟩) (.inl HP3.out)
      exact ⟨rfl,_,hf.1,hf.2,SR3.out⟩
    · have za1:¬ (j:Int)<(m:Int):=by omega
      have N1:Hid (¬ (j<m∧m<e)):=by intro h;omega
      have za2:(a:Int)<(j:Int):=by omega
      have zb2:¬ (j:Int)<(mid:Int):=by omega
      have N2:Hid (¬ (a<j∧j<mid)):=by intro h;omega
      have za3:(mid:Int)<(e:Int):=by omega
      have zb3:¬ (e:Int)<(b:Int):=by omega
      have N3:Hid (¬ (mid<e∧e<b)):=by intro h;omega
      go_wp2_with fail
      go_end0
      have hf:=FIN.out _ _ _ (.inr ⟨N1.out,rfl⟩) (.inr ⟨N2.out,rfl⟩) (.inr ⟨N3.out,rfl⟩)
      exact ⟨rfl,_,hf.1,hf.2,S1.out⟩
    · have za1:¬ (j:Int)<(m:Int):=by omega
      have N1:Hid (¬ (j<m∧m<e)):=by intro h;omega
      have za2:(a:Int)<(j:Int):=by omega
      have zb2:¬ (j:Int)<(mid:Int):=by omega
      have N2:Hid (¬ (a<j∧j<mid)):=by intro h;omega
      have za3:¬ (mid:Int)<(e:Int):=by omega
      have N3:Hid (¬ (mid<e∧e<b)):=by intro h;omega
      go_wp2_with fail
      go_end0
      have hf:=FIN.out _ _ _ (.inr ⟨N1.out,rfl⟩) (.inr ⟨N2.out,rfl⟩) (.inr ⟨N3.out,rfl⟩)
      exact ⟨rfl,_,hf.1,hf.2,S1.out⟩
    · have za1:¬ (j:Int)<(m:Int):=by omega
      have N1:Hid (¬ (j<m∧m<e)):=by intro h;omega
      have za2:¬ (a:Int)<(j:Int):=by omega
      have N2:Hid (¬ (a<j∧j<mid)):=by intro h;omega
      have za3:(mid:Int)<(e:Int):=by omega
      have zb3:(e:Int)<(b:Int):=by omega
      go_wp2_with (go_at_call_of 142 (Value.int .i64 (b:Int));refine (HA2.out c3 _ _ _ (.inr ⟨N1.out,rfl⟩) (.inr ⟨N2.out,rfl⟩) S1.out).mono ?_;rintro e3 w3 ⟨rfl,d3,h3,t3,S4⟩;have HP3:=Lib.hid (And.intro h3 t3);have SR3:=Lib.hid S4;clear h3 t3 S4)
      go_end0
      have hf:=FIN.out _ _ _ (.inr ⟨N1.out,rfl⟩) (.inr ⟨N2.out,rfl⟩) (.inl HP3.out)
      exact ⟨rfl,_,hf.1,hf.2,SR3.out⟩
    · have za1:¬ (j:Int)<(m:Int):=by omega
      have N1:Hid (¬ (j<m∧m<e)):=by intro h;omega
      have za2:¬ (a:Int)<(j:Int):=by omega
      have N2:Hid (¬ (a<j∧j<mid)):=by intro h;omega
      have za3:(mid:Int)<(e:Int):=by omega
      have zb3:¬ (e:Int)<(b:Int):=by omega
      have N3:Hid (¬ (mid<e∧e<b)):=by intro h;omega
      go_wp2_with fail
      go_end0
      have hf:=FIN.out _ _ _ (.inr ⟨N1.out,rfl⟩) (.inr ⟨N2.out,rfl⟩) (.inr ⟨N3.out,rfl⟩)
      exact ⟨rfl,_,hf.1,hf.2,S1.out⟩
    · have za1:¬ (j:Int)<(m:Int):=by omega
      have N1:Hid (¬ (j<m∧m<e)):=by intro h;omega
      have za2:¬ (a:Int)<(j:Int):=by omega
      have N2:Hid (¬ (a<j∧j<mid)):=by intro h;omega
      have za3:¬ (mid:Int)<(e:Int):=by omega
      have N3:Hid (¬ (mid<e∧e<b)):=by intro h;omega
      go_wp2_with fail
      go_end0
      have hf:=FIN.out _ _ _ (.inr ⟨N1.out,rfl⟩) (.inr ⟨N2.out,rfl⟩) (.inr ⟨N3.out,rfl⟩)
      exact ⟨rfl,_,hf.1,hf.2,S1.out⟩
end walks
end Go.Proofs.YtjhknhgkjfabaaaGreatDoor
namespace Go.Stab
open Go.Sort
variable {α : Type} [Inhabited α]
theorem Agr.sub {lt slt:α→α→Bool} {a b a' b':Nat} {d:Array α} (h:Agr lt slt a b d) (ha:a≤a') (hb:b'≤b):Agr lt slt a' b' d:=fun p q h1 h2 h3=>h p q (by omega) h2 (by omega)
end Go.Stab
namespace Go.Proofs.YtjhknhgkjfabaaaGreatDoor
open Go.Shelf Go.RowKit Go.Lib Go.Sort Go.Stab
variable {α : Type} [Inhabited α]
theorem symMerge_all {P:Program} {kc:Nat} (L:StL P kc) (enc:α→List Value) (cf:α→α→Int) {slt:α→α→Bool} (hS:SWO slt) (g:Nat) (cb:Array Value) (blk off cap n:Nat) (d0:Array α) (w0:World)
 (eg:∀ args w,(callFunc g args).run P w=.ok (.enter g args) w) (hcmp:CmpLays P g cb enc kc cf blk off d0.size w0)
 (R:RowK enc kc w0 blk off d0) (hn:d0.size=n) (hsz:n<4611686018427387904) :
 ∀ (N a m b:Nat) (d:Array α) (w:World),b - a≤N→a<m→m<b→b≤n→d.size=n→MPre (ltOf cf) slt a m b d→SWK enc kc w0 blk off d w→SymTo P kc enc slt g cb blk off cap n w0 a m b d w
 | 0,a,m,b,d,w,hN,ham,hmb,_,_,_,_=>by omega
 | N+1,a,m,b,d,w,hN,ham,hmb,hb,hs,hp,S=>by
   subst hs
   by_cases h1:m=a+1
   · exact symMerge_left L enc cf hS g cb blk off cap a m b d0 d w0 w eg hcmp R hn S h1 (by omega) hb hsz hp
   · by_cases h2:b=m+1
     · exact symMerge_right L enc cf hS g cb blk off cap a m b d0 d w0 w eg hcmp R hn S h2 (by omega) hb hsz hp
     · have IH:∀ (a' m' b':Nat) (d':Array α) (w':World),b' - a'<b - a→a'<m'→m'<b'→b'≤d.size→d'.size=d.size→MPre (ltOf cf) slt a' m' b' d'→SWK enc kc w0 blk off d' w'→SymTo P kc enc slt g cb blk off cap d.size w0 a' m' b' d' w' :=
        fun a' m' b' d' w' hlt k1 k2 k3 k4 k5 k6=>symMerge_all L enc cf hS g cb blk off cap d.size d0 w0 eg hcmp R hn hsz N a' m' b' d' w' (by omega) k1 k2 k3 k4 k5 k6
       by_cases h3:(a+b) / 2<m
       · exact symMerge_hi L enc cf hS g cb blk off cap a m b _ d0 d w0 w eg hcmp R hn S (by omega) (by omega) hb hsz hp rfl h3 IH
       · exact symMerge_lo L enc cf hS g cb blk off cap a m b _ d0 d w0 w eg hcmp R hn S (by omega) (by omega) hb hsz hp rfl h3 IH
def insRen:Go.Shelf.Ren:=⟨fun _=>141,fun t=>match t with | 0=>0 | 3=>3 | 4=>4 | 22=>22 | 24=>42 | 25=>59 | n=>n,fun x=>x⟩
theorem ins_z {P:Program} {kc:Nat} (L:StL P kc) (LI:SlLaysF0.n20 P insRen) (enc:α→List Value) (cf:α→α→Int) (hO:SWO (ltOf cf)) (g:Nat) (cb:Array Value) (blk off cap a b n:Nat) (za zb:Int) (d0 d:Array α) (w0 w:World)
 (eg:∀ args w,(callFunc g args).run P w=.ok (.enter g args) w) (hcmp:CmpLays P g cb enc kc cf blk off d0.size w0) (ha:za=(a:Int)) (hb':zb=(b:Int))
 (R:RowK enc kc w0 blk off d0) (hs:d0.size=n) (hd:d.size=n) (S:SWK enc kc w0 blk off d w) (hab:a≤b) (hb:b≤n) (hsz:n<4611686018427387904) :
 Calls P 141 #[.slice (some ⟨blk,off,none⟩) n cap,.int .i64 za,.int .i64 zb,.func (.func g) #[] cb] w fun e w'=>e=.returned (.tuple #[])∧∃ d',PermIn a b d d'∧SortedIn (ltOf cf) a b d'∧SWK enc kc w0 blk off d' w':=by
 subst ha hb' hd
 refine (AnyQ.insertionSortCmpFunc_w LI kc L.aE L.zE enc cf g cb blk off cap a b d0 d w0 w eg hcmp R hs S hO hab hb hsz).mono ?_
 rintro e w' ⟨rfl,h⟩
 have hh:=insertionSort_holds hO d a b hab hb
 exact ⟨rfl,_,hh.1,hh.2,h⟩
theorem sym_z {P:Program} {kc:Nat} (L:StL P kc) (enc:α→List Value) (cf:α→α→Int) (hO:SWO (ltOf cf)) (g:Nat) (cb:Array Value) (blk off cap a m b n:Nat) (za zm zb:Int) (d0 d:Array α) (w0 w:World)
 (eg:∀ args w,(callFunc g args).run P w=.ok (.enter g args) w) (hcmp:CmpLays P g cb enc kc cf blk off d0.size w0) (ha:za=(a:Int)) (hm':zm=(m:Int)) (hb':zb=(b:Int))
 (R:RowK enc kc w0 blk off d0) (hs:d0.size=n) (hd:d.size=n) (S:SWK enc kc w0 blk off d w) (ham:a<m) (hmb:m<b) (hb:b≤n) (hsz:n<4611686018427387904) (h1:SortedIn (ltOf cf) a m d) (h2:SortedIn (ltOf cf) m b d) :
 Calls P 142 #[.slice (some ⟨blk,off,none⟩) n cap,.int .i64 za,.int .i64 zm,.int .i64 zb,.func (.func g) #[] cb] w fun e w'=>e=.returned (.tuple #[])∧∃ d',PermIn a b d d'∧SortedIn (ltOf cf) a b d'∧SWK enc kc w0 blk off d' w':=by
 subst ha hm' hb'
 exact symMerge_all L enc cf hO g cb blk off cap n d0 w0 eg hcmp R hs hsz (b - a) a m b d w (Nat.le_refl _) ham hmb hb hd ⟨h1,h2,fun _ _ _ _ _ _=>rfl⟩ S
def Blk (lt:α→α→Bool) (bs lo n:Nat) (d:Array α):Prop:=∀ p,lo≤p→p<n→bs ∣ p→SortedIn lt p (min (p+bs) n) d
def Done (lt:α→α→Bool) (bs hi:Nat) (d:Array α):Prop:=∀ p,p<hi→bs ∣ p→SortedIn lt p (p+bs) d
theorem sorted_same {lt:α→α→Bool} {a b:Nat} {d d':Array α} (h:SortedIn lt a b d) (he:∀ i,a≤i→i<b→d'[i]! = d[i]!):SortedIn lt a b d':=by
 intro i j h1 h2 h3
 rw [he i h1 (by omega),he j (by omega) h3]
 exact h i j h1 h2 h3
theorem sorted_none {lt:α→α→Bool} {a b:Nat} (d:Array α) (h:b≤a+1):SortedIn lt a b d:=fun i j h1 h2 h3=>by omega
theorem next_mult {bs a p:Nat} (h1:bs ∣ a) (h2:bs ∣ p) (h:a<p):a+bs≤p:=by
 have:bs ∣ p - a:=Nat.dvd_sub h2 h1
 have:=Nat.le_of_dvd (by omega) this
 omega
theorem Done.zero (lt:α→α→Bool) (bs:Nat) (d:Array α):Done lt bs 0 d:=fun p hp=>by omega
theorem Done.step {lt:α→α→Bool} {bs a n:Nat} {d d':Array α} (h:Done lt bs a d) (ha:bs ∣ a) (hp:PermIn a (a+bs) d d') (hs:SortedIn lt a (a+bs) d'):Done lt bs (a+bs) d':=by
 intro p hpa hd
 by_cases e:p=a
 · subst e;exact hs
 · have hlt:p<a:=by
    by_cases q:p<a
    · exact q
    · have:=next_mult ha hd (by omega);omega
   have:=next_mult hd ha hlt
   exact sorted_same (h p hlt hd) (fun i _ hi=>hp.2.1 i (.inl (by omega)))
theorem Blk.step {lt:α→α→Bool} {bs a b n:Nat} {d d':Array α} (h:Blk lt bs a n d) (hab:a≤b) (hp:PermIn a b d d'):Blk lt bs b n d' :=
 fun p h1 h2 h3=>sorted_same (h p (by omega) h2 h3) (fun i hi _=>hp.2.1 i (.inr (by omega)))
theorem Done.last {lt:α→α→Bool} {bs a n:Nat} {d d':Array α} (h:Done lt bs a d) (ha:bs ∣ a) (han:a≤n) (hn:n<a+bs) (hp:PermIn a n d d') (hs:SortedIn lt a n d'):Blk lt bs 0 n d':=by
 intro p _ hpn hd
 by_cases e:p=a
 · subst e;rw [Nat.min_eq_right (by omega)];exact hs
 · have hlt:p<a:=by
    by_cases q:p<a
    · exact q
    · have:=next_mult ha hd (by omega);omega
   have:=next_mult hd ha hlt
   rw [Nat.min_eq_left (by omega)]
   exact sorted_same (h p hlt hd) (fun i _ hi=>hp.2.1 i (.inl (by omega)))
theorem Blk.two {lt:α→α→Bool} {bs a n:Nat} {d:Array α} (h:Blk lt bs a n d) (ha:2 * bs ∣ a) (hb:a+2 * bs≤n) (h0:0<bs):SortedIn lt a (a+bs) d∧SortedIn lt (a+bs) (a+2 * bs) d:=by
 have ha':bs ∣ a:=Nat.dvd_trans ⟨2,by omega⟩ ha
 have h1:=h a (Nat.le_refl _) (by omega) ha'
 have h2:=h (a+bs) (by omega) (by omega) ((Nat.dvd_add_right ha').2 (Nat.dvd_refl _))
 rw [Nat.min_eq_left (by omega)] at h1 h2
 exact ⟨h1,by rw [show a+2 * bs=a+bs+bs by omega];exact h2⟩
theorem Blk.end2 {lt:α→α→Bool} {bs a n:Nat} {d:Array α} (h:Blk lt bs a n d) (ha:2 * bs ∣ a) (hb:a+bs<n) (hn:n<a+2 * bs) (h0:0<bs):SortedIn lt a (a+bs) d∧SortedIn lt (a+bs) n d:=by
 have ha':bs ∣ a:=Nat.dvd_trans ⟨2,by omega⟩ ha
 have h1:=h a (Nat.le_refl _) (by omega) ha'
 have h2:=h (a+bs) (by omega) (by omega) ((Nat.dvd_add_right ha').2 (Nat.dvd_refl _))
 rw [Nat.min_eq_left (by omega)] at h1
 rw [Nat.min_eq_right (by omega)] at h2
 exact ⟨h1,h2⟩
theorem Blk.end1 {lt:α→α→Bool} {bs a n:Nat} {d:Array α} (h:Blk lt bs a n d) (ha:2 * bs ∣ a) (han:a≤n) (hb:n≤a+bs):SortedIn lt a n d:=by
 have ha':bs ∣ a:=Nat.dvd_trans ⟨2,by omega⟩ ha
 by_cases e:a=n
 · exact sorted_none d (by omega)
 · have h1:=h a (Nat.le_refl _) (by omega) ha'
   rw [Nat.min_eq_right hb] at h1
   exact h1
theorem dvd_next {bs a:Nat} (h:bs ∣ a):bs ∣ a+bs:=(Nat.dvd_add_right h).2 (Nat.dvd_refl _)
section walks
set_option maxHeartbeats 8000000
set_option maxRecDepth 1000000
theorem stable_k {P:Program} {kc:Nat} (L:StL P kc) (LI:SlLaysF0.n20 P insRen) (e141:∀ (args:Array Value) (w:World),(callFunc 141 args).run P w=.ok (.enter 141 args) w) (enc:α→List Value) (cf:α→α→Int) (hO:SWO (ltOf cf)) (g:Nat) (cb:Array Value) (blk off cap:Nat) (d:Array α) (w:World)
 (eg:∀ args w,(callFunc g args).run P w=.ok (.enter g args) w) (hcmp:CmpLays P g cb enc kc cf blk off d.size w)
 (R:RowK enc kc w blk off d) (hsz:d.size<1152921504606846976) :
 Calls P 102 #[.slice (some ⟨blk,off,none⟩) d.size cap,.int .i64 d.size,.func (.func g) #[] cb] w fun e w'=>e=.returned (.tuple #[])∧∃ d',PermIn 0 d.size d d'∧SortedIn (ltOf cf) 0 d.size d'∧SWK enc kc w blk off d' w':=by
 have S0:Aside (SWK enc kc w blk off d w):=SWK.start R.hH
 obtain ⟨n,hn⟩:∃ n,n=d.size:=⟨_,rfl⟩
 rw [← hn] at hsz
 have HI:Hid (∀ (a b:Nat) (za zb:Int) (dk:Array α) (W:World),za=(a:Int)→zb=(b:Int)→dk.size=n→SWK enc kc w blk off dk W→a≤b→b≤n→Calls P 141 #[.slice (some ⟨blk,off,none⟩) n cap,.int .i64 za,.int .i64 zb,.func (.func g) #[] cb] W fun e w'=>e=.returned (.tuple #[])∧∃ d',PermIn a b dk d'∧SortedIn (ltOf cf) a b d'∧SWK enc kc w blk off d' w') :=
  fun a b za zb dk W h1 h2 h3 h4 h5 h6=>ins_z L LI enc cf hO g cb blk off cap a b n za zb d dk w W eg hcmp h1 h2 R hn.symm h3 h4 h5 h6 (by omega)
 have HS:Hid (∀ (a m b:Nat) (za zm zb:Int) (dk:Array α) (W:World),za=(a:Int)→zm=(m:Int)→zb=(b:Int)→dk.size=n→SWK enc kc w blk off dk W→a<m→m<b→b≤n→SortedIn (ltOf cf) a m dk→SortedIn (ltOf cf) m b dk→Calls P 142 #[.slice (some ⟨blk,off,none⟩) n cap,.int .i64 za,.int .i64 zm,.int .i64 zb,.func (.func g) #[] cb] W fun e w'=>e=.returned (.tuple #[])∧∃ d',PermIn a b dk d'∧SortedIn (ltOf cf) a b d'∧SWK enc kc w blk off d' w') :=
  fun a m b za zm zb dk W h1 h2 h3 h4 h5 h6 h7 h8 h9 h10=>sym_z L enc cf hO g cb blk off cap a m b n za zm zb d dk w W eg hcmp h1 h2 h3 R hn.symm h4 h5 h6 h7 h8 (by omega) h9 h10
 have HN:Hid (n=d.size):=hn
 rw [← hn]
 clear R hcmp hn hO
 obtain ⟨mixed,FG1,FG2,FG3,FG4,FG5,E1,E2,E3,E4,t0,a0,z0,v0,t3,a3,z3,v3,t4,a4,z4,v4,t22,a22,z22,v22,t59,a59,z59,v59,t100,a100,z100,v100,aE,zE⟩:=id L
 go_enter FG4,Tryz.ntmps102
 go_wp2
 go_loopg [7,8] (n+20) (fun kx s7 s8 wr=>∃ (a b:Nat) (dk:Array α),s7=.int .i64 a∧s8=.int .i64 b∧Hid (b=a+20)∧a≤n∧n+20 - a≤kx∧20 ∣ a∧dk.size=n∧Aside (SWK enc kc w blk off dk wr)∧Hid (PermIn 0 n d dk∧Done (ltOf cf) 20 a dk))
 case atStart=>exact ⟨0,20,d,rfl,rfl,Lib.hid rfl,by omega,by omega,by omega,HN.out.symm,S0,permIn_refl _ _ _,Done.zero _ _ _⟩
 case round =>
  clear S0
  obtain ⟨a,b,dk,rfl,rfl,hba,han,hkx,hda,hds,S1,HK⟩:=hrel
  by_cases hlt:b≤n
  · have hlz:(b:Int)≤(n:Int):=by omega
    have wb:IntKind.i64.wrap ((b:Int)+20)=(b:Int)+20:=by rw [IntKind.wrap_i64];omega
    have HC:=Lib.hid (HI.out a b (a:Int) (b:Int) dk wr rfl rfl hds S1.out (by have:=hba.out;omega) hlt)
    go_wp2_with (go_at_call 141;refine HC.out.mono ?_;rintro e w1 ⟨rfl,d1,p1,s1,S2⟩;have SR:=Lib.hid S2;have HP:=Lib.hid (And.intro p1 s1);clear S2 p1 s1)
    go_roundg (n+20 - b)
    case measure=>have:=hba.out;omega
    case rel =>
     have hba:=hba.out
     subst hba
     refine ⟨a+20,a+20+20,d1,by go_num,by go_num,Lib.hid rfl,hlt,by omega,dvd_next hda,by rw [HP.out.1.1];exact hds,SR.out,?_,Done.step (n:=n) HK.out.2 hda HP.out.1 HP.out.2⟩
     exact permIn_trans _ _ _ _ _ HK.out.1 (permIn_mono dk d1 a (a+20) 0 n (Nat.zero_le _) hlt (by omega) HP.out.1)
  · have hlz:¬ (b:Int)≤(n:Int):=by omega
    have HC:=Lib.hid (HI.out a n (a:Int) (n:Int) dk wr rfl rfl hds S1.out (by omega) (Nat.le_refl _))
    go_wp2_with (go_at_call 141;refine HC.out.mono ?_;rintro e w1 ⟨rfl,d1,p1,s1,S2⟩;have SR:=Lib.hid S2;have HB1:Hid (PermIn 0 n d d1∧Blk (ltOf cf) 20 0 n d1):=⟨permIn_trans _ _ _ _ _ HK.out.1 (permIn_mono dk d1 a n 0 n (Nat.zero_le _) (Nat.le_refl _) (by omega) p1),Done.last HK.out.2 hda han (by have:=hba.out;omega) p1 s1⟩;clear S2 p1 s1)
    have hd1:d1.size=n:=by rw [HB1.out.1.1];exact HN.out.symm
    clear HC S1 HK hds
    go_loopg [6,7,8,9] n (fun kx s6 s7 s8 s9 wr=>∃ (bs:Nat) (dk:Array α),s6=.int .i64 bs∧20≤bs∧bs≤2 * n+20∧n - bs≤kx∧dk.size=n∧Aside (SWK enc kc w blk off dk wr)∧Hid (PermIn 0 n d dk∧Blk (ltOf cf) bs 0 n dk))
    case atStart=>exact ⟨20,d1,rfl,Nat.le_refl _,by omega,by omega,hd1,SR,HB1⟩
    case round =>
     clear SR HB1 hd1
     obtain ⟨bs,dk,rfl,hb20,hbn,hkx,hds,S1,HK⟩:=hrel
     by_cases hl:bs<n
     · have hlz2:(bs:Int)<(n:Int):=by omega
       obtain ⟨bb,hbb⟩:∃ q,q=2 * bs:=⟨_,rfl⟩
       have hbz:(2:Int) * (bs:Int)=(bb:Int):=by omega
       have hbz2:(bs:Int) * 2=(bb:Int):=by omega
       have HBB:Hid (bb=2 * bs):=hbb
       have wbb:IntKind.i64.wrap (bb:Int)=(bb:Int):=by rw [IntKind.wrap_i64];omega
       clear hbb
       go_wp2
       go_loopg [7,8] (n+bb) (fun kx s7 s8 wr2=>∃ (a b:Nat) (dj:Array α),s7=.int .i64 a∧s8=.int .i64 b∧Hid (b=a+bb)∧a≤n∧n+bb - a≤kx∧bb ∣ a∧dj.size=n∧Aside (SWK enc kc w blk off dj wr2)∧Hid (PermIn 0 n d dj∧Done (ltOf cf) bb a dj∧Blk (ltOf cf) bs a n dj))
       case atStart=>exact ⟨0,bb,dk,rfl,rfl,Lib.hid (by omega),by omega,by omega,Nat.dvd_zero _,hds,S1,HK.out.1,Done.zero _ _ _,HK.out.2⟩
       case round =>
        have hkx0:=hkx
        clear S1 HK hds hkx
        obtain ⟨a,b,dj,rfl,rfl,hba2,han2,hkx,hda2,hds,S1,HK⟩:=hrel
        obtain ⟨mm,hmm⟩:∃ q,q=a+bs:=⟨_,rfl⟩
        have hmz:(a:Int)+(bs:Int)=(mm:Int):=by omega
        have wmm:IntKind.i64.wrap (mm:Int)=(mm:Int):=by rw [IntKind.wrap_i64];omega
        have HMM:Hid (mm=a+bs):=hmm
        clear hmm
        by_cases hl3:b≤n
        · have hlz3:(b:Int)≤(n:Int):=by omega
          obtain ⟨b2,hb2⟩:∃ q,q=b+bb:=⟨_,rfl⟩
          have hb2z:(b:Int)+(bb:Int)=(b2:Int):=by omega
          have wb2:IntKind.i64.wrap (b2:Int)=(b2:Int):=by rw [IntKind.wrap_i64];omega
          have HB2:Hid (b2=b+bb):=hb2
          have htwo:=Blk.two HK.out.2.2 (by rw [← HBB.out];exact hda2) (by have:=HBB.out;have:=HMM.out;have:=hba2.out;omega) (by have:=HBB.out;omega)
          rw [← HMM.out,show a+2 * bs=b by have:=HBB.out;have:=HMM.out;have:=hba2.out;omega] at htwo
          have HC:=Lib.hid (HS.out a mm b (a:Int) (mm:Int) (b:Int) dj wr rfl rfl rfl hds S1.out (by have:=HMM.out;omega) (by have:=HBB.out;have:=HMM.out;have:=hba2.out;omega) hl3 htwo.1 htwo.2)
          clear htwo hb2
          go_wp2_with (go_at_call 142;refine HC.out.mono ?_;rintro e w1 ⟨rfl,d1,p1,s1,S2⟩;have SR:=Lib.hid S2;have HP:=Lib.hid (And.intro p1 s1);clear S2 p1 s1)
          have hba2:=hba2.out
          go_roundg (n+bb - b)
          case measure=>omega
          case rel =>
           refine ⟨b,b2,d1,rfl,rfl,HB2,hl3,by omega,by rw [hba2];exact dvd_next hda2,by rw [HP.out.1.1];exact hds,SR.out,?_,?_,Blk.step HK.out.2.2 (by have:=HBB.out;omega) HP.out.1⟩
           · exact permIn_trans _ _ _ _ _ HK.out.1 (permIn_mono dj d1 a b 0 n (Nat.zero_le _) hl3 (by have:=HBB.out;omega) HP.out.1)
           · have hpp:=HP.out
             rw [hba2] at hpp ⊢
             exact Done.step (n:=n) HK.out.2.1 hda2 hpp.1 hpp.2
        · have hlz3:¬ (b:Int)≤(n:Int):=by omega
          by_cases hl4:mm<n
          · have hlz4:(mm:Int)<(n:Int):=by omega
            have htwo:=Blk.end2 HK.out.2.2 (by rw [← HBB.out];exact hda2) (by have:=HBB.out;omega) (by have:=HBB.out;have:=HMM.out;have:=hba2.out;omega) (by have:=HBB.out;omega)
            rw [← HMM.out] at htwo
            have HC:=Lib.hid (HS.out a mm n (a:Int) (mm:Int) (n:Int) dj wr rfl rfl rfl hds S1.out (by have:=HMM.out;omega) (by omega) (Nat.le_refl _) htwo.1 htwo.2)
            clear htwo
            go_wp2_with (go_at_call 142;refine HC.out.mono ?_;rintro e w1 ⟨rfl,d1,p1,s1,S2⟩;have SR:=Lib.hid S2;have HP:=Lib.hid (And.intro p1 s1);clear S2 p1 s1)
            go_roundg (n - bb)
            case measure=>have:=HBB.out;have:=HMM.out;omega
            case rel =>
             have:=HBB.out
             have:=HMM.out
             have:=hba2.out
             refine ⟨bb,d1,rfl,by omega,by omega,by omega,by rw [HP.out.1.1];exact hds,SR.out,?_,Done.last HK.out.2.1 hda2 han2 (by have:=HBB.out;omega) HP.out.1 HP.out.2⟩
             exact permIn_trans _ _ _ _ _ HK.out.1 (permIn_mono dj d1 a n 0 n (Nat.zero_le _) (Nat.le_refl _) (by have:=HBB.out;omega) HP.out.1)
          · have hlz4:¬ (mm:Int)<(n:Int):=by omega
            have hend:=Lib.hid (Blk.end1 HK.out.2.2 (by rw [← HBB.out];exact hda2) han2 (by have:=HMM.out;omega))
            go_wp2
            go_roundg (n - bb)
            case measure=>have:=HBB.out;have:=HMM.out;omega
            case rel =>
             have:=HBB.out
             have:=HMM.out
             have:=hba2.out
             have:=hba2.out
             exact ⟨bb,dj,rfl,by omega,by omega,by omega,hds,S1,HK.out.1,Done.last HK.out.2.1 hda2 han2 (by omega) (permIn_refl _ _ _) hend.out⟩
     · have hlz2:¬ (bs:Int)<(n:Int):=by omega
       have hend:=HK.out.2 0
       go_wp2
       go_end0
       refine ⟨rfl,dk,HK.out.1,?_,S1.out⟩
       by_cases h0:n=0
       · exact sorted_none _ (by omega)
       · have:=HK.out.2 0 (Nat.le_refl _) (by omega) (Nat.dvd_zero _)
         rw [Nat.min_eq_right (by omega)] at this
         exact this
end walks
end Go.Proofs.YtjhknhgkjfabaaaGreatDoor
namespace Go.Proofs.YtjhknhgkjfabaaaGreatDoor
open Go.RowKit Go.Proofs.YtjhknhgkjfabaaaGreatDoor.Cmps Go.Shelf Go.Sort Go.Stab
theorem laysIns' (hm:Tryz.prog.follows .mixedOrders=true):SlLaysF0.n20 Tryz.prog insRen:={ laysIns with mixed:=hm }
theorem stL (hm:Tryz.prog.follows .mixedOrders=true):StL Tryz.prog 3:={
 mixed:=hm
 f257:=Tryz.func257
 f190:=Tryz.func190
 f142:=Tryz.func142
 f102:=Tryz.func102
 f56:=Tryz.func56
 e257:=enters_of Tryz.func257 (by kernel_rfl) rfl
 e190:=enters_of Tryz.func190 (by kernel_rfl) rfl
 e142:=enters_of Tryz.func142 (by kernel_rfl) rfl
 e102:=enters_of Tryz.func102 (by kernel_rfl) rfl
 t0:=Tryz.underlying0
 a0:=Tryz.isAgg0
 z0:=Tryz.sizeOf0
 v0:=Tryz.zeroValue0
 t3:=Tryz.underlying3
 a3:=Tryz.isAgg3
 z3:=Tryz.sizeOf3
 v3:=Tryz.zeroValue3
 t4:=Tryz.underlying4
 a4:=Tryz.isAgg4
 z4:=Tryz.sizeOf4
 v4:=Tryz.zeroValue4
 t22:=Tryz.underlying22
 a22:=Tryz.isAgg22
 z22:=Tryz.sizeOf22
 v22:=Tryz.zeroValue22
 t59:=Tryz.underlying59
 a59:=Tryz.isAgg59
 z59:=Tryz.sizeOf59
 v59:=Tryz.zeroValue59
 t100:=Tryz.underlying100
 a100:=Tryz.isAgg100
 z100:=Tryz.sizeOf100
 v100:=Tryz.zeroValue100
 aE:=Tryz.isAgg42
 zE:=Tryz.sizeOf42 }
section rows
variable {α : Type} [Inhabited α] {enc : α → List Value} {k : Nat}
theorem sortK_block (w:World) (blk off m:Nat) (dk:Array α) (os:Array Obj) (b:Nat) (hb:b<w.heap.size) (hne:b≠blk):(sortWorldK enc k w blk off m dk os).heap[b]? = w.heap[b]? := by
 unfold sortWorldK
 have h1:(grow (putRowK enc k (Sort.ahead w m) blk off dk) os).heap[b]? = (putRowK enc k (Sort.ahead w m) blk off dk).heap[b]? := by
  unfold grow
  simp only
  rw [Array.getElem?_append_left (by rw [size_putRowK];exact hb)]
 rw [h1]
 unfold putRowK putRow mapBlock
 simp [Array.getElem?_modify,Ne.symm hne,Sort.ahead]
theorem swK_grown {w W:World} {blk off:Nat} {dk:Array α} (h:SWK enc k w blk off dk W):w.grownBy W (some blk):=by
 obtain ⟨m,os,rfl⟩:=h
 exact ⟨rfl,rfl,rfl,(SWK.le (enc:=enc) (k:=k) (dk:=dk) (blk:=blk) (off:=off) ⟨m,os,rfl⟩),fun b hb hne=>sortK_block w blk off m dk os b hb (fun e=>hne (by rw [e]))⟩
end rows
end Go.Proofs.YtjhknhgkjfabaaaGreatDoor
namespace Go.Proofs.YtjhknhgkjfabaaaGreatDoor
open Go.RowKit Go.Proofs.YtjhknhgkjfabaaaGreatDoor.Cmps Go.Shelf Go.Stab
abbrev CR (w:World) (D:Nat→Prop):Type:={ p:Chg×Value // RowAt w D p.2 p.1.r }
instance (w:World) (D:Nat→Prop):Inhabited (CR w D):=⟨⟨(⟨0,[],0⟩,.slice none 0 0),none,0,rfl,by simp,.inl rfl⟩⟩
def crE {w:World} {D:Nat→Prop} (x:CR w D):List Value:=cel x.1
def crC {w:World} {D:Nat→Prop} (x y:CR w D):Int:=cmpChg x.1.1 y.1.1
theorem crC_3 (w:World) (D:Nat→Prop):Cmp3 (crC (w:=w) (D:=D)):=cmpChg_3.comap (fun x:CR w D=>x.1.1)
theorem crs_of {w:World} {D:Nat→Prop} (xs:List (Chg×Value)) (hr:∀ p ∈ xs,RowAt w D p.2 p.1.r):∃ ys:List (CR w D),ys.map (·.1)=xs:=by
 induction xs with
 | nil=>exact ⟨[],rfl⟩
 | cons p t ih =>
   obtain ⟨ys,hy⟩:=ih fun q hq=>hr q (List.mem_cons_of_mem _ hq)
   exact ⟨⟨p,hr p List.mem_cons_self⟩ :: ys,by rw [List.map_cons,hy]⟩
theorem crs_cels {w:World} {D:Nat→Prop} (ys:List (CR w D)):ys.flatMap crE=cels (ys.map (·.1)):=by
 induction ys with
 | nil=>rfl
 | cons p t ih =>
   show crE p ++ t.flatMap crE=cel p.1 ++ cels (t.map (·.1))
   rw [ih];rfl
theorem flatK_list {α:Type} [Inhabited α] (enc:α→List Value) (k:Nat) (hk:∀ x,(enc x).length=k) (d:Array α) (t:Nat) (ht:t<d.size * k):(d.toList.flatMap enc)[t]? = some (Sort.flatK enc k d)[t]! := by
 have k0:0<k:=by rcases Nat.eq_zero_or_pos k with e | e;· subst e;simp at ht
                 · exact e
 have hi:t / k<d.size:=Nat.div_lt_of_lt_mul (by rw [Nat.mul_comm];exact ht)
 have hj:t % k<k:=Nat.mod_lt _ k0
 have he:t=t / k * k+t % k:=by rw [Nat.mul_comm];exact (Nat.div_add_mod t k).symm
 rw [Sort.get_flatK enc k d t ht]
 have h1:=flat_get enc k hk d.toList (t / k) (t % k) (by simpa using hi) hj
 rw [← he] at h1
 rw [h1,getElem!_pos d _ hi,Array.getElem_toList]
 have:t % k<(enc d[t / k]).length:=by rw [hk];exact hj
 rw [List.getElem?_eq_getElem this]
 exact congrArg some (getElem!_pos (enc d[t / k]) (t % k) this).symm
theorem holdsK_of {w:World} {α:Type} [Inhabited α] (enc:α→List Value) (k:Nat) (hk:∀ x,(enc x).length=k) {e:TypeId} {g o n cap:Nat} {d:Array α} {blk:Option Nat} (hn:d.size=n) (h:SlOwn w e k (.slice (some ⟨g,o,none⟩) n cap) n (d.toList.flatMap enc) blk):Sort.HoldsK enc k w g o d:=by
 intro j hj
 rw [Sort.size_flatK] at hj
 refine ⟨?_,h.frozen _⟩
 exact h.cell j _ (flatK_list enc k hk d j hj)
theorem cells_of_holdsK {w:World} {α:Type} [Inhabited α] (enc:α→List Value) (k:Nat) (hk:∀ x,(enc x).length=k) {g o:Nat} {d:Array α} (h:Sort.HoldsK enc k w g o d):∀ j u,(d.toList.flatMap enc)[j]? = some u→w.cell? ⟨g,o+j,none⟩=some u:=by
 intro j u hu
 have hj:j<d.size * k:=by
  have:=(List.getElem?_eq_some_iff.1 hu).1
  rw [flat_len enc k hk] at this
  simpa using this
 rw [flatK_list enc k hk d j hj] at hu
 have:=(h j (by rw [Sort.size_flatK];exact hj)).1
 rw [← hu];exact this
theorem cmpLays21 (hm:Tryz.prog.follows .mixedOrders=true) (w:World) (D:Nat→Prop) (g o n:Nat) (hd:¬ D g) (hD:∀ b,D b→b<w.heap.size):CmpLays Tryz.prog 21 #[] (crE (w:=w) (D:=D)) 3 crC g o n w:=by
 intro m os dk hs x y
 have hk:∀ (z:CR w D),RowAt (Sort.grow (Sort.putRowK crE 3 (Sort.ahead w m) g o dk) os) D z.1.2 z.1.1.r:=fun z=>z.2.keep fun b hb hlt=>sortK_block (enc:=crE) (k:=3) w g o m dk os b hlt (fun e=>hd (e ▸ hb))
 have h:=f21_any hm (Sort.grow (Sort.putRowK crE 3 (Sort.ahead w m) g o dk) os) x.1.1 y.1.1 x.1.2 y.1.2 D D (hk x) (hk y)
 exact h
theorem perm_of_permIn {α:Type} [Inhabited α] {n:Nat} {d d':Array α} (hn:d.size=n) (h:Sort.PermIn 0 n d d'):d'.toList.Perm d.toList:=by
 have:=h.2.2
 rwa [Array.extract_eq_self_of_le (by rw [h.1];omega),Array.extract_eq_self_of_le (by omega)] at this
theorem sorted_list {w:World} {D:Nat→Prop} {n:Nat} {d:Array (CR w D)} (hn:d.size=n) (h:Sort.SortedIn (ltOf crC) 0 n d):d.toList.Pairwise (fun a b=>crC a b≤0):=by
 rw [List.pairwise_iff_getElem]
 intro i j hi hj hij
 have:=h i j (Nat.zero_le _) hij (by rw [← hn];simpa using hj)
 rw [getElem!_pos d j (by simpa using hj),getElem!_pos d i (by simpa using hi)] at this
 have h2:¬ crC d[j] d[i]<0:=of_decide_eq_false this
 have h3:=(crC_3 w D).swap d[j] d[i]
 simp only [Array.getElem_toList]
 omega
section leaves
set_option maxHeartbeats 1000000
set_option maxRecDepth 10000
theorem f141_none (w:World) :
 Calls Tryz.prog 141 #[.slice none 0 0,.int .i64 0,.int .i64 0,.func (.func 21) #[] #[]] w fun e w'=>e=.returned (.tuple #[])∧w'=w:=by
 go_enter Tryz.func141,Tryz.ntmps141
 go_wp2
 refine wp_loop_rounds 1 ?_
 rw [rounds_succ]
 go_wp2
 go_end0
 exact ⟨rfl,rfl⟩
theorem f102_none (w:World) :
 Calls Tryz.prog 102 #[.slice none 0 0,.int .i64 0,.func (.func 21) #[] #[]] w fun e w'=>e=.returned (.tuple #[])∧w'=w:=by
 go_enter Tryz.func102,Tryz.ntmps102
 go_wp2
 refine wp_loop_rounds 1 ?_
 rw [rounds_succ]
 go_wp2_with (go_at_call 141;refine (f141_none _).mono ?_;rintro e w1 ⟨rfl,rfl⟩)
 refine wp_loop_rounds 1 ?_
 rw [rounds_succ]
 go_wp2
 go_end0
 exact ⟨rfl,rfl⟩
theorem f56_any (hm:Tryz.prog.follows .mixedOrders=true) (w:World) (v:Value) (xs:List (Chg×Value)) (blk:Option Nat) (D:Nat→Prop) (ho:SlOwn w 42 3 v xs.length (cels xs) blk) (hl:xs.length≤1000) (hr:∀ p ∈ xs,RowAt w D p.2 p.1.r) (hd:∀ g,blk=some g→¬ D g) (hD:∀ b,D b→b<w.heap.size) :
 Calls Tryz.prog 56 #[v,.func (.func 21) #[] #[]] w fun e w'=>e=.returned (.tuple #[])∧(∃ l',l'.Perm (xs.map (·.1))∧l'.Pairwise (fun a b=>cmpChg a b≤0)∧ChgsAt w' (fun b=>D b∨blk=some b) v l')∧w.grownBy w' blk:=by
 rcases id ho.2 with ⟨rfl,h0,rfl⟩ | ⟨g,o,cap,cur,rfl,rfl,hg,hnc,hcm,hcs,htk⟩
 · have hn:xs=[]:=List.eq_nil_of_length_eq_zero h0
   subst hn
   go_enter Tryz.func56,Tryz.ntmps56
   go_wp2_with (go_at_call 102;refine (f102_none _).mono ?_;rintro e w1 ⟨rfl,rfl⟩)
   go_end0
   exact ⟨rfl,⟨[],List.Perm.nil,List.Pairwise.nil,none,0,rfl,by simp,.inl rfl⟩,World.grownBy.refl _ _⟩
 · obtain ⟨ys,rfl⟩:=crs_of xs hr
   have hys:(ys.map (·.1)).length=ys.toArray.size:=by simp
   rw [← crs_cels] at ho
   have hH:Sort.HoldsK crE 3 w g o ys.toArray:=holdsK_of crE 3 (fun x=>cel_len x.1) hys.symm ho
   have hgl:=heap_lt hg
   have hk:=stable_k (stL hm) (laysIns' hm) (enters_of Tryz.func141 (by kernel_rfl) rfl) (crE (w:=w) (D:=D)) crC (crC_3 w D).swo 21 #[] g o cap ys.toArray w (enters_of Tryz.func21 (by kernel_rfl) rfl) (cmpLays21 hm w D g o _ (hd g rfl) hD)
    ⟨fun x=>cel_len x.1,fun x u hu=>by simp [crE,cel] at hu;rcases hu with rfl | rfl | rfl;rfl;exact x.2.one;rfl,hH,hgl⟩ (by simp at hl ⊢;omega)
   rw [← hys] at hk
   have HO:=Lib.hid ho
   have HY:=Lib.hid hys
   obtain ⟨n,hn⟩:∃ n,n=(ys.map (·.1)).length:=⟨_,rfl⟩
   have HN:=Lib.hid hn
   rw [← hn] at hk ⊢
   have HK:=Lib.hid hk
   clear hk hH ho hys hn hnc htk hr
   go_enter Tryz.func56,Tryz.ntmps56
   go_wp2_with (go_at_call 102;refine HK.out.mono ?_;rintro e w1 ⟨rfl,d',hp,hs,hS⟩;have HP:=Lib.hid hp;have HS:=Lib.hid hs;have HW:=Lib.hid hS;clear hp hs hS)
   go_end0
   have hn:=HN.out
   subst hn
   have ho:=HO.out
   have hys:=HY.out
   have hsz:d'.size=(ys.map (·.1)).length:=by rw [HP.out.1];simp
   have hG:=swK_grown HW.out
   refine ⟨rfl,⟨d'.toList.map (·.1.1),?_,?_,?_⟩,hG⟩
   · have:=(perm_of_permIn hys.symm HP.out).map (fun x:CR w D=>x.1.1)
     rw [List.map_map]
     exact this
   · rw [List.pairwise_map]
     exact sorted_list hsz HS.out
   · have hH2:=HW.out.holds hgl (d0:=ys.toArray) (holdsK_of crE 3 (fun x=>cel_len x.1) hys.symm ho) (by rw [HP.out.1])
     have hc:=chgs_of (w:=w1) (D:=fun b=>D b∨some g=some b) (v:=.slice (some ⟨g,o,none⟩) (ys.map (·.1)).length cap) (xs:=d'.toList.map (·.1)) (a:=some ⟨g,o,none⟩) (c:=cap) (by simp [hsz]) (by simp [hsz];simp at hl;omega)
      (.inr ⟨g,o,rfl,.inr rfl,fun j u hu=>cells_of_holdsK crE 3 (fun x=>cel_len x.1) hH2 j u (by rw [crs_cels];exact hu)⟩)
      (fun p hp=>by
        obtain ⟨x,hx,rfl⟩:=List.mem_map.1 hp
        exact (x.2.keep fun b hb hlt=>hG.block b hlt (fun e=>hd g rfl (by injection e with e;exact e ▸ hb))).mono fun b h=>.inl h)
     rw [List.map_map] at hc
     exact hc
end leaves
end Go.Proofs.YtjhknhgkjfabaaaGreatDoor
