/-
 Texts quoted: what row's quoted answers. No conditions.
-/
import Derived.Test.YtjhknhgkjfabaaaGreatDoorU11
import Derived.Test.YtjhknhgkjfabaaaGreatDoorU12
import Derived.Shelf.Strings.BuilderK
import Derived.Shelf.Strconv.Itoa3
import Derived.Lib.ItoaNum
import Derived.Lib.Atoi
set_option linter.unusedSimpArgs false
set_option linter.unusedVariables false
namespace Go.Proofs.YtjhknhgkjfabaaaGreatDoor
open Go.RowKit Go.Proofs.YtjhknhgkjfabaaaGreatDoor.Cmps Go.Shelf
def hexS:ByteArray:=⟨#[48,49,50,51,52,53,54,55,56,57,97,98,99,100,101,102]⟩
def hexB (i:Nat):UInt8:=hexS.data[i]!
def esc1 (c:UInt8):List UInt8 :=
 if c=34∨c=92 then [92,c] else if c=10 then [92,110] else if c<32∨126<c then [92,120,hexB (c.toNat / 16),hexB (c.toNat % 16)] else [c]
def escL (l:List UInt8):List UInt8:=l.flatMap esc1
def quotedL (l:List UInt8):List UInt8:=34 :: escL l ++ [34]
theorem byte_at (s:ByteArray) (k:Nat) (h:k<s.size):s.data[k]! = s[k]'h:=getElem!_pos s.data k h
theorem byte_wrap (c:UInt8):wrap64 (c.toNat:Int)=(c.toNat:Int):=by
 have:=c.toNat_lt
 unfold wrap64
 omega
theorem byte_law (s:ByteArray) (k:Nat) (h:k<s.size):∃ b:UInt8,b=s.data[k]!∧∃ c:Int,c=(b.toNat:Int)∧wrap64 c=c∧∀ W:World,(Instr.index 9 (.string s) (.int .i64 k)).run Tryz.prog W=.ok (.int .u8 c) W:=by
 refine ⟨_,rfl,_,rfl,byte_wrap _,fun W=>?_⟩
 have u9:=Tryz.underlying9
 rw [byte_at s k h]
 go_simp
theorem esc1_len (c:UInt8):(esc1 c).length≤4:=by
 unfold esc1
 split
 · simp
 · split
   · simp
   · split <;> simp
theorem escL_len (l:List UInt8):(escL l).length≤4 * l.length:=by
 induction l with
 | nil=>simp [escL]
 | cons c t ih =>
   have:=esc1_len c
   simp only [escL,List.flatMap_cons,List.length_append,List.length_cons] at ih ⊢
   omega
theorem esc_step {s:ByteArray} {k:Nat} (h:k<s.size) {b:UInt8} (hb:b=s.data[k]!):escL (s.data.toList.take (k+1))=escL (s.data.toList.take k) ++ esc1 b:=by
 have hk:k<s.data.toList.length:=by rw [Array.length_toList];exact h
 rw [List.take_succ_eq_append_getElem hk]
 simp only [escL,List.flatMap_append,List.flatMap_cons,List.flatMap_nil,List.append_nil]
 rw [hb,byte_at s k h]
 rfl
theorem esc_a {b:UInt8} {c:Int} (hc:c=(b.toNat:Int)) (h:c=34∨c=92):Lib.byteCells (esc1 b)=[.int .u8 92,.int .u8 c]:=by
 have:b=34∨b=92:=by
  rcases h with h | h
  · exact .inl (UInt8.toNat_inj.1 (by show b.toNat=34;omega))
  · exact .inr (UInt8.toNat_inj.1 (by show b.toNat=92;omega))
 unfold esc1
 rw [if_pos this,hc];rfl
theorem esc_n {b:UInt8} {c:Int} (hc:c=(b.toNat:Int)) (h:c=10):Lib.byteCells (esc1 b)=Lib.strCells ⟨#[92,110]⟩:=by
 have:b=10:=UInt8.toNat_inj.1 (by show b.toNat=10;omega)
 subst this;rfl
theorem ne_of {b:UInt8} {c:Int} (hc:c=(b.toNat:Int)) (e1:¬ c=34) (e2:¬ c=92) (e3:¬ c=10):¬ (b=34∨b=92)∧¬ b=10:=by
 refine ⟨?_,?_⟩
 · rintro (rfl | rfl)
   · exact e1 (by rw [hc];rfl)
   · exact e2 (by rw [hc];rfl)
 · rintro rfl
   exact e3 (by rw [hc];rfl)
theorem esc_x {b:UInt8} {c:Int} (hc:c=(b.toNat:Int)) (e1:¬ c=34) (e2:¬ c=92) (e3:¬ c=10) (h:c<32∨126<c) (h1:0≤c / 16∧c / 16<16) (h2:0≤c % 16∧c % 16<16) :
 Lib.byteCells (esc1 b)=Lib.strCells ⟨#[92,120]⟩ ++ [.int .u8 ((hexS[(c / 16).toNat]'(by show _<16;omega)).toNat:Int)] ++ [.int .u8 ((hexS[(c % 16).toNat]'(by show _<16;omega)).toNat:Int)]:=by
 obtain ⟨n1,n2⟩:=ne_of hc e1 e2 e3
 have n3:b<32∨126<b:=by
  rcases h with h | h
  · exact .inl (UInt8.lt_iff_toNat_lt.2 (by show b.toNat<32;omega))
  · exact .inr (UInt8.lt_iff_toNat_lt.2 (by show 126<b.toNat;omega))
 unfold esc1
 rw [if_neg n1,if_neg n2,if_pos n3]
 have a1:b.toNat / 16=(c / 16).toNat:=by omega
 have a2:b.toNat % 16=(c % 16).toNat:=by omega
 rw [a1,a2]
 unfold hexB
 rw [byte_at hexS _ (by show _<16;omega),byte_at hexS _ (by show _<16;omega)]
 rfl
theorem esc_p {b:UInt8} {c:Int} (hc:c=(b.toNat:Int)) (e1:¬ c=34) (e2:¬ c=92) (e3:¬ c=10) (e4:¬ c<32) (e5:¬ 126<c):Lib.byteCells (esc1 b)=[.int .u8 c]:=by
 obtain ⟨n1,n2⟩:=ne_of hc e1 e2 e3
 have n3:¬ (b<32∨126<b):=by
  rintro (h | h)
  · have:=UInt8.lt_iff_toNat_lt.1 h
    have e:(32:UInt8).toNat=32:=rfl
    omega
  · have:=UInt8.lt_iff_toNat_lt.1 h
    have e:(126:UInt8).toNat=126:=rfl
    omega
 unfold esc1
 rw [if_neg n1,if_neg n2,if_neg n3,hc];rfl
theorem quot_end {T e:TypeId} {B b:Nat} {l:List UInt8} {w:World} (h:Lib.IsBuilderF T e B b (Lib.byteCells (34 :: escL l) ++ [.int .u8 34]) w):Lib.IsBuilderF T e B b (Lib.byteCells (quotedL l)) w:=by
 have:Lib.byteCells (quotedL l)=Lib.byteCells (34 :: escL l) ++ [.int .u8 34]:=by
  show Lib.byteCells ((34 :: escL l) ++ [34])=_
  rw [Lib.byteCells_append];rfl
 rw [this];exact h
theorem two1:(⟨#[92,110]⟩:ByteArray).size=2:=rfl
theorem two2:(⟨#[92,120]⟩:ByteArray).size=2:=rfl
section leaves
set_option maxHeartbeats 1000000
set_option maxRecDepth 10000
theorem f78_any (s:ByteArray) (hs:s.size≤100000) (w:World) :
 Calls Tryz.prog 78 #[.string s] w fun e w'=>e=.returned (.string ⟨(quotedL s.data.toList).toArray⟩)∧Below w.heap.size w w':=by
 have W127:=Lib.hid (fun (c:Int) (bs:List Value) (W:World) h1 h2 h3=>Any.Builder_WriteByte_k lays167 extra167 w.heap.size w.heap.size bs c W h1 h2 h3)
 have W128:=Lib.hid (fun (t:ByteArray) (bs:List Value) (W:World) h1 h2 h3=>Any.Builder_WriteString_k lays166 extra166 w.heap.size w.heap.size bs t W h1 h2 h3)
 have W129:=Lib.hid (fun (l:List UInt8) (W:World) h1 h2=>Any.Builder_String_any_k lays169 extra169 w.heap.size w.heap.size l W h1 h2)
 have HI0:Hid (Lib.IsBuilderF 187 5 w.heap.size w.heap.size (Lib.byteCells []) (w.alloc (.cells #[.pointer none,.slice none 0 0] 187))):=Lib.IsBuilderF.of (Lib.fresh_isBuilder 187 5 w)
 have HB0:Hid (Below w.heap.size w (w.alloc (.cells #[.pointer none,.slice none 0 0] 187))):=(Below.refl _ w).alloc (Nat.le_refl _) _
 go_enter Tryz.func78,Tryz.ntmps78
 go_wp2_with (go_at_call 127;refine (W127.out 34 _ _ HI0.out (by rw [Lib.byteCells_length];simp) HB0.out.size).mono ?_;rintro e W1 ⟨rfl,h1,b1,-⟩;have HI1:Hid (Lib.IsBuilderF 187 5 w.heap.size w.heap.size (Lib.byteCells [34]) W1):=Or.inr h1;have HB1:=Lib.hid (HB0.out.trans b1);clear h1 b1)
 go_loopw [9] (fun i wr=>∃ k:Nat,k≤s.size∧i=.int .i64 k∧Hid (Lib.IsBuilderF 187 5 w.heap.size w.heap.size (Lib.byteCells (34 :: escL (s.data.toList.take k))) wr)∧Hid (Below w.heap.size w wr)) (fun i _=>s.size - (intOf i).toNat)
 case atStart=>exact ⟨0,by omega,rfl,by simpa [escL] using HI1,HB1⟩
 case round =>
  obtain ⟨k,hk,rfl,HI,HB⟩:=hrel
  by_cases hlt:k<s.size
  · obtain ⟨b,hb,c,hc,hw,hx⟩:=byte_law s k hlt
    have HC:=Lib.hid (And.intro hb hc)
    have hc0:0≤c∧c<256:=by rw [hc];have:=b.toNat_lt;omega
    clear hb hc
    have hel:(escL (s.data.toList.take k)).length≤4 * k:=by
     refine Nat.le_trans (escL_len _) ?_
     rw [List.length_take];omega
    by_cases e1:c=34
    · have q1:(c == 34)=true:=by simpa using e1
      go_wp2_with (first | (go_at_call 127;refine (W127.out _ _ _ HI.out (by simp only [List.length_append,List.length_cons,List.length_nil,Lib.byteCells_length,Lib.strCells_length,two1,two2];omega) HB.out.size).mono ?_;rintro e W1 ⟨rfl,h1,b1,-⟩;replace HI:=Lib.hid (show Lib.IsBuilderF 187 5 _ _ _ _ from Or.inr h1);replace HB:=Lib.hid (HB.out.trans b1);clear h1 b1) | (go_at_call 128;refine (W128.out _ _ _ HI.out (by simp only [List.length_append,List.length_cons,List.length_nil,Lib.byteCells_length,Lib.strCells_length,two1,two2];omega) HB.out.size).mono ?_;rintro e W1 ⟨rfl,h1,b1,-⟩;replace HI:=Lib.hid (show Lib.IsBuilderF 187 5 _ _ _ _ from Or.inr h1);replace HB:=Lib.hid (HB.out.trans b1);clear h1 b1))
      refine ⟨⟨k+1,by omega,by go_num,?_,HB⟩,by simp [intOf];omega⟩
      have HI:=HI.out
      show Lib.IsBuilderF _ _ _ _ _ _
      rw [esc_step hlt HC.out.1,← List.cons_append,Lib.byteCells_append,esc_a HC.out.2 (.inl e1),e1]
      try simp only [List.append_assoc,List.cons_append,List.nil_append] at HI ⊢
      exact HI
    · have q1:(c == 34)=false:=by simpa using e1
      by_cases e2:c=92
      · have q2:(c == 92)=true:=by simpa using e2
        go_wp2_with (first | (go_at_call 127;refine (W127.out _ _ _ HI.out (by simp only [List.length_append,List.length_cons,List.length_nil,Lib.byteCells_length,Lib.strCells_length,two1,two2];omega) HB.out.size).mono ?_;rintro e W1 ⟨rfl,h1,b1,-⟩;replace HI:=Lib.hid (show Lib.IsBuilderF 187 5 _ _ _ _ from Or.inr h1);replace HB:=Lib.hid (HB.out.trans b1);clear h1 b1) | (go_at_call 128;refine (W128.out _ _ _ HI.out (by simp only [List.length_append,List.length_cons,List.length_nil,Lib.byteCells_length,Lib.strCells_length,two1,two2];omega) HB.out.size).mono ?_;rintro e W1 ⟨rfl,h1,b1,-⟩;replace HI:=Lib.hid (show Lib.IsBuilderF 187 5 _ _ _ _ from Or.inr h1);replace HB:=Lib.hid (HB.out.trans b1);clear h1 b1))
        refine ⟨⟨k+1,by omega,by go_num,?_,HB⟩,by simp [intOf];omega⟩
        have HI:=HI.out
        show Lib.IsBuilderF _ _ _ _ _ _
        rw [esc_step hlt HC.out.1,← List.cons_append,Lib.byteCells_append,esc_a HC.out.2 (.inr e2),e2]
        try simp only [List.append_assoc,List.cons_append,List.nil_append] at HI ⊢
        exact HI
      · have q2:(c == 92)=false:=by simpa using e2
        by_cases e3:c=10
        · have q3:(c == 10)=true:=by simpa using e3
          go_wp2_with (first | (go_at_call 127;refine (W127.out _ _ _ HI.out (by simp only [List.length_append,List.length_cons,List.length_nil,Lib.byteCells_length,Lib.strCells_length,two1,two2];omega) HB.out.size).mono ?_;rintro e W1 ⟨rfl,h1,b1,-⟩;replace HI:=Lib.hid (show Lib.IsBuilderF 187 5 _ _ _ _ from Or.inr h1);replace HB:=Lib.hid (HB.out.trans b1);clear h1 b1) | (go_at_call 128;refine (W128.out _ _ _ HI.out (by simp only [List.length_append,List.length_cons,List.length_nil,Lib.byteCells_length,Lib.strCells_length,two1,two2];omega) HB.out.size).mono ?_;rintro e W1 ⟨rfl,h1,b1,-⟩;replace HI:=Lib.hid (show Lib.IsBuilderF 187 5 _ _ _ _ from Or.inr h1);replace HB:=Lib.hid (HB.out.trans b1);clear h1 b1))
          refine ⟨⟨k+1,by omega,by go_num,?_,HB⟩,by simp [intOf];omega⟩
          have HI:=HI.out
          show Lib.IsBuilderF _ _ _ _ _ _
          rw [esc_step hlt HC.out.1,← List.cons_append,Lib.byteCells_append,esc_n HC.out.2 e3]
          try simp only [List.append_assoc,List.cons_append,List.nil_append] at HI ⊢
          exact HI
        · have q3:(c == 10)=false:=by simpa using e3
          by_cases e4:c<32
          · go_wp2_with (first | (go_at_call 127;refine (W127.out _ _ _ HI.out (by simp only [List.length_append,List.length_cons,List.length_nil,Lib.byteCells_length,Lib.strCells_length,two1,two2];omega) HB.out.size).mono ?_;rintro e W1 ⟨rfl,h1,b1,-⟩;replace HI:=Lib.hid (show Lib.IsBuilderF 187 5 _ _ _ _ from Or.inr h1);replace HB:=Lib.hid (HB.out.trans b1);clear h1 b1) | (go_at_call 128;refine (W128.out _ _ _ HI.out (by simp only [List.length_append,List.length_cons,List.length_nil,Lib.byteCells_length,Lib.strCells_length,two1,two2];omega) HB.out.size).mono ?_;rintro e W1 ⟨rfl,h1,b1,-⟩;replace HI:=Lib.hid (show Lib.IsBuilderF 187 5 _ _ _ _ from Or.inr h1);replace HB:=Lib.hid (HB.out.trans b1);clear h1 b1))
            refine ⟨⟨k+1,by omega,by go_num,?_,HB⟩,by simp [intOf];omega⟩
            have HI:=HI.out
            show Lib.IsBuilderF _ _ _ _ _ _
            rw [esc_step hlt HC.out.1,← List.cons_append,Lib.byteCells_append,esc_x HC.out.2 e1 e2 e3 (.inl e4) (by assumption) (by assumption)]
            try simp only [List.append_assoc,List.cons_append,List.nil_append] at HI ⊢
            exact HI
          · by_cases e5:126<c
            · go_wp2_with (first | (go_at_call 127;refine (W127.out _ _ _ HI.out (by simp only [List.length_append,List.length_cons,List.length_nil,Lib.byteCells_length,Lib.strCells_length,two1,two2];omega) HB.out.size).mono ?_;rintro e W1 ⟨rfl,h1,b1,-⟩;replace HI:=Lib.hid (show Lib.IsBuilderF 187 5 _ _ _ _ from Or.inr h1);replace HB:=Lib.hid (HB.out.trans b1);clear h1 b1) | (go_at_call 128;refine (W128.out _ _ _ HI.out (by simp only [List.length_append,List.length_cons,List.length_nil,Lib.byteCells_length,Lib.strCells_length,two1,two2];omega) HB.out.size).mono ?_;rintro e W1 ⟨rfl,h1,b1,-⟩;replace HI:=Lib.hid (show Lib.IsBuilderF 187 5 _ _ _ _ from Or.inr h1);replace HB:=Lib.hid (HB.out.trans b1);clear h1 b1))
              refine ⟨⟨k+1,by omega,by go_num,?_,HB⟩,by simp [intOf];omega⟩
              have HI:=HI.out
              show Lib.IsBuilderF _ _ _ _ _ _
              rw [esc_step hlt HC.out.1,← List.cons_append,Lib.byteCells_append,esc_x HC.out.2 e1 e2 e3 (.inr e5) (by assumption) (by assumption)]
              try simp only [List.append_assoc,List.cons_append,List.nil_append] at HI ⊢
              exact HI
            · have e5':c≤126:=by omega
              go_wp2_with (first | (go_at_call 127;refine (W127.out _ _ _ HI.out (by simp only [List.length_append,List.length_cons,List.length_nil,Lib.byteCells_length,Lib.strCells_length,two1,two2];omega) HB.out.size).mono ?_;rintro e W1 ⟨rfl,h1,b1,-⟩;replace HI:=Lib.hid (show Lib.IsBuilderF 187 5 _ _ _ _ from Or.inr h1);replace HB:=Lib.hid (HB.out.trans b1);clear h1 b1) | (go_at_call 128;refine (W128.out _ _ _ HI.out (by simp only [List.length_append,List.length_cons,List.length_nil,Lib.byteCells_length,Lib.strCells_length,two1,two2];omega) HB.out.size).mono ?_;rintro e W1 ⟨rfl,h1,b1,-⟩;replace HI:=Lib.hid (show Lib.IsBuilderF 187 5 _ _ _ _ from Or.inr h1);replace HB:=Lib.hid (HB.out.trans b1);clear h1 b1))
              refine ⟨⟨k+1,by omega,by go_num,?_,HB⟩,by simp [intOf];omega⟩
              have HI:=HI.out
              show Lib.IsBuilderF _ _ _ _ _ _
              rw [esc_step hlt HC.out.1,← List.cons_append,Lib.byteCells_append,esc_p HC.out.2 e1 e2 e3 (by omega) (by omega)]
              try simp only [List.append_assoc,List.cons_append,List.nil_append] at HI ⊢
              exact HI
  · have hkl:k=s.data.toList.length:=by rw [Array.length_toList];show k=s.size;omega
    have HF:Hid (Lib.IsBuilderF 187 5 w.heap.size w.heap.size (Lib.byteCells (34 :: escL s.data.toList)) wr):=by
     have:=HI.out
     rw [hkl,List.take_length] at this
     exact this
    have hel:=escL_len s.data.toList
    have hsl:s.data.toList.length=s.size:=Array.length_toList
    have HI:=HF
    clear hkl HF
    go_wp2_with (first
     | (go_at_call 127;refine (W127.out _ _ _ HI.out (by simp only [List.length_append,List.length_cons,List.length_nil,Lib.byteCells_length,Lib.strCells_length,two1,two2];omega) HB.out.size).mono ?_;rintro e W1 ⟨rfl,h1,b1,-⟩
        have HI2:Hid (Lib.IsBuilderF 187 5 w.heap.size w.heap.size (Lib.byteCells (quotedL s.data.toList)) W1):=quot_end (Or.inr h1)
        replace HB:=Lib.hid (HB.out.trans b1)
        clear h1 b1)
     | (go_at_call 129;refine (W129.out _ _ HI2.out HB.out.size).mono ?_;rintro e W2 ⟨rfl,-,b1,-⟩
        replace HB:=Lib.hid (HB.out.trans b1)
        clear b1))
    go_ret
    exact ⟨rfl,HB.out⟩
end leaves
end Go.Proofs.YtjhknhgkjfabaaaGreatDoor
namespace Go.Proofs.YtjhknhgkjfabaaaGreatDoor
open Go.Proofs.YtjhknhgkjfabaaaGreatDoor.Cmps
theorem cmpI_zero {a b:Int} (h:cmpI a b=0):a=b:=by unfold cmpI at h;split at h <;> (try split at h) <;> omega
theorem cmpS_zero {a b:ByteArray} (h:cmpS a b=0):a=b:=by
 unfold cmpS at h
 cases h1:lessS a b
 · rw [h1] at h
   cases h2:lessS b a
   · unfold lessS at h1 h2
     simp only [bytesLess_lt,decide_eq_false_iff_not,List.not_lt] at h1 h2
     exact bytes_eq (List.le_antisymm h2 h1)
   · rw [h2] at h;simp at h
 · rw [h1] at h;simp at h
theorem bytes_nil {s:ByteArray} (h:s.toList.isEmpty=true):s=ByteArray.empty:=by
 apply bytes_eq
 have:s.toList=[]:=by simpa using h
 rw [this,ByteArray.toList_eq];rfl
theorem cmpVal_zero {a b:Val} (ha:validValue a=true) (hb:validValue b=true) (h:cmpVal a b=0):a=b:=by
 unfold validValue at ha hb
 obtain ⟨k,n,s⟩:=a
 obtain ⟨k',n',s'⟩:=b
 simp only [cmpVal] at h
 have hk:cls k=cls k':=by
  unfold orI at h
  split at h
  · rename_i hne;simp at hne;exact absurd (cmpI_zero h) (by intro e;rw [e,cmpI_3.refl] at hne;exact hne rfl)
  · rename_i he;simp at he;exact cmpI_zero he
 rw [hk,cmpI_3.refl] at h
 simp only [orI,bne_self_eq_false,Bool.false_eq_true,if_false] at h
 simp only at ha hb
 unfold cls at hk h
 by_cases h0:k=0
 · subst h0
   have hk':¬ k'=1∧¬ k'=2:=by
    constructor <;> (intro e;subst e;simp at hk)
   have:k'=0:=by
    by_cases e:k'=0
    · exact e
    · simp [e,hk'.1,hk'.2] at hb
   subst this
   simp at ha hb
   have e1:=bytes_nil (s:=s) (by simpa using ha.2)
   have e2:=bytes_nil (s:=s') (by simpa using hb.2)
   rw [e1,e2,ha.1,hb.1]
 · by_cases h1:k=1
   · subst h1
     have:k'=1:=by
      by_cases e:k'=1
      · exact e
      · by_cases e2:k'=2 <;> simp [e,e2] at hk
     subst this
     simp at ha hb h
     have e1:=bytes_nil (s:=s) (by simpa using ha.2)
     have e2:=bytes_nil (s:=s') (by simpa using hb.2)
     rw [e1,e2,cmpI_zero h]
   · by_cases h2:k=2
     · subst h2
       have:k'=2:=by
        by_cases e:k'=2
        · exact e
        · by_cases e2:k'=1 <;> simp [e,e2] at hk
       subst this
       simp at ha hb h
       rw [ha.1,hb.1,cmpS_zero h]
     · simp [h0,h1,h2] at ha
theorem cmpRow_zero:∀ {a b:List Val},(∀ v ∈ a,validValue v=true)→(∀ v ∈ b,validValue v=true)→cmpRow a b=0→a=b
 | [],[],_,_,_=>rfl
 | [],_ :: _,_,_,h=>by simp [cmpRow] at h
 | _ :: _,[],_,_,h=>by simp [cmpRow] at h
 | x :: xs,y :: ys,ha,hb,h=>by
   simp only [cmpRow,orI] at h
   by_cases e:cmpVal x y=0
   · rw [e] at h
     simp at h
     rw [cmpVal_zero (ha x List.mem_cons_self) (hb y List.mem_cons_self) e,cmpRow_zero (fun v hv=>ha v (List.mem_cons_of_mem _ hv)) (fun v hv=>hb v (List.mem_cons_of_mem _ hv)) h]
   · rw [if_pos (by simpa using e)] at h
     exact absurd h e
abbrev Key:Type:=Int×List Val
abbrev Chg.key (c:Chg):Key:=(c.t,c.r)
def okRow (r:List Val):Prop:=∀ v ∈ r,validValue v=true
def okC (c:Chg):Prop:=okRow c.r
theorem okC_of {c:Chg} (h:validChg c=true):okC c:=by
 unfold validChg validRow at h
 simp only [Bool.and_eq_true,List.all_eq_true] at h
 exact h.1.2.2
theorem cmpChg_zero {x y:Chg} (hx:okC x) (hy:okC y):cmpChg x y=0↔x.key=y.key:=by
 constructor
 · intro h
   unfold cmpChg orI at h
   by_cases e:cmpI x.t y.t=0
   · rw [e] at h
     simp at h
     exact Prod.ext (cmpI_zero e) (cmpRow_zero hx hy h)
   · rw [if_pos (by simpa using e)] at h
     exact absurd h e
 · intro h
   injection h with h1 h2
   unfold cmpChg
   rw [h1,h2,cmpI_3.refl,cmpRow_3.refl];rfl
def sumOf (l:List Chg) (q:Key):Int:=(l.map fun c=>if c.key=q then c.n else 0).sum
theorem sumOf_nil (q:Key):sumOf [] q=0:=rfl
theorem sumOf_cons (c:Chg) (l:List Chg) (q:Key):sumOf (c :: l) q=(if c.key=q then c.n else 0)+sumOf l q:=by simp [sumOf]
theorem sumOf_append (l m:List Chg) (q:Key):sumOf (l ++ m) q=sumOf l q+sumOf m q:=by simp [sumOf]
theorem sumOf_perm {l m:List Chg} (h:l.Perm m) (q:Key):sumOf l q=sumOf m q:=by
 induction h with
 | nil=>rfl
 | cons x _ ih=>rw [sumOf_cons,sumOf_cons,ih]
 | swap x y l=>rw [sumOf_cons,sumOf_cons,sumOf_cons,sumOf_cons];omega
 | trans _ _ h1 h2=>exact h1.trans h2
theorem sumOf_none {l:List Chg} {q:Key} (h:∀ c ∈ l,c.key≠q):sumOf l q=0:=by
 induction l with
 | nil=>rfl
 | cons c t ih=>rw [sumOf_cons,if_neg (h c List.mem_cons_self),ih fun x hx=>h x (List.mem_cons_of_mem _ hx)];rfl
def Asc (l:List Chg):Prop:=l.Pairwise (fun a b=>cmpChg a b<0)
theorem Asc.sum {l:List Chg} (ha:∀ c ∈ l,okC c) (h:Asc l) {c:Chg} (hc:c ∈ l):sumOf l c.key=c.n:=by
 induction l with
 | nil=>cases hc
 | cons x t ih =>
   rw [Asc,List.pairwise_cons] at h
   rw [sumOf_cons]
   rcases List.mem_cons.1 hc with rfl | hc
   · rw [if_pos rfl,sumOf_none,Int.add_zero]
     intro y hy e
     have:=(cmpChg_zero (ha c List.mem_cons_self) (ha y (List.mem_cons_of_mem _ hy))).2 e.symm
     have:=h.1 y hy
     omega
   · rw [if_neg,Int.zero_add]
     · exact ih (fun y hy=>ha y (List.mem_cons_of_mem _ hy)) h.2 hc
     · intro e
       have:=(cmpChg_zero (ha x List.mem_cons_self) (ha c (List.mem_cons_of_mem _ hc))).2 e
       have:=h.1 c hc
       omega
theorem sum_mem {l:List Chg} {q:Key} (h:sumOf l q≠0):∃ c ∈ l,c.key=q:=by
 refine Classical.byContradiction fun hn=>h (sumOf_none fun c hc e=>hn ⟨c,hc,e⟩)
theorem asc_eq {l m:List Chg} (al:∀ c ∈ l,okC c) (am:∀ c ∈ m,okC c) (hl:Asc l) (hm:Asc m) (nl:∀ c ∈ l,c.n≠0) (nm:∀ c ∈ m,c.n≠0) (h:∀ q,sumOf l q=sumOf m q):l=m:=by
 have key:∀ {l m:List Chg},(∀ c ∈ l,okC c)→(∀ c ∈ m,okC c)→Asc l→Asc m→(∀ c ∈ l,c.n≠0)→(∀ q,sumOf l q=sumOf m q)→∀ c ∈ l,c ∈ m:=by
  intro l m al am hl hm nl h c hc
  have h1:=hl.sum al hc
  rw [h] at h1
  obtain ⟨d,hd,hk⟩:=sum_mem (l:=m) (q:=c.key) (by rw [h1];exact nl c hc)
  have h2:=hm.sum am hd
  rw [hk,h1] at h2
  have:d=c:=by
   obtain ⟨t,r,n⟩:=d
   obtain ⟨t',r',n'⟩:=c
   injection hk with e1 e2
   simp only at e1 e2 h2
   rw [e1,e2,h2]
  exact this ▸ hd
 have nd:∀ {l:List Chg},Asc l→l.Nodup:=fun h=>List.Pairwise.imp (fun {a b} hab e=>by rw [e,cmpChg_3.refl] at hab;omega) h
 have hp:l.Perm m:=(List.perm_ext_iff_of_nodup (nd hl) (nd hm)).2 fun c=>⟨key al am hl hm nl h c,key am al hm hl nm (fun q=>(h q).symm) c⟩
 exact hp.eq_of_pairwise (le:=fun a b=>cmpChg a b<0) (fun a b _ _ h1 h2=>by have:=cmpChg_3.swap a b;omega) hl hm
/-! ### the program's adding up: one by one, in their order -/
def stepM (A:List Chg) (c:Chg):List Chg :=
 match A.getLast? with
 | some x=>if cmpChg x c=0 then A.dropLast ++ [⟨x.t,x.r,x.n+c.n⟩] else A ++ [c]
 | none=>[c]
def gathA (l:List Chg):List Chg:=l.foldl stepM []
structure GathOk (l A:List Chg):Prop where
 ok:∀ c ∈ A,okC c
 asc:Asc A
 sum:∀ q,sumOf A q=sumOf l q
 last:∀ c ∈ A,∃ d ∈ l,d.key=c.key
theorem stepM_nil (c:Chg):stepM [] c=[c]:=rfl
theorem stepM_same {I:List Chg} {x c:Chg} (h:cmpChg x c=0):stepM (I ++ [x]) c=I ++ [⟨x.t,x.r,x.n+c.n⟩]:=by simp [stepM,h]
theorem stepM_new {I:List Chg} {x c:Chg} (h:cmpChg x c≠0):stepM (I ++ [x]) c=I ++ [x] ++ [c]:=by simp [stepM,h]
theorem cmpChg_key {x y c:Chg} (h:x.key=y.key):cmpChg x c=cmpChg y c:=by
 injection h with h1 h2
 unfold cmpChg;rw [h1,h2]
theorem cmpChg_key' {x y c:Chg} (h:x.key=y.key):cmpChg c x=cmpChg c y:=by
 injection h with h1 h2
 unfold cmpChg;rw [h1,h2]
theorem GathOk.step {l A:List Chg} {c:Chg} (h:GathOk l A) (hc:okC c) (hle:∀ d ∈ l,cmpChg d c≤0):GathOk (l ++ [c]) (stepM A c):=by
 rcases List.eq_nil_or_concat A with rfl | ⟨I,x,rfl⟩
 · rw [stepM_nil]
   refine ⟨fun d hd=>by rw [List.mem_singleton] at hd;exact hd ▸ hc,by simp [Asc],fun q=>?_,fun d hd=>⟨c,by simp,by rw [List.mem_singleton] at hd;rw [hd]⟩⟩
   have:=h.sum q
   rw [sumOf_nil] at this
   rw [sumOf_append,← this,Int.zero_add]
 · rw [List.concat_eq_append] at h ⊢
   have hx:=h.ok x (by simp)
   have hA:=h.asc
   rw [Asc,List.pairwise_append] at hA
   obtain ⟨a1,-,a3⟩:=hA
   obtain ⟨dx,hdx,hkx⟩:=h.last x (by simp)
   have hxc:cmpChg x c≤0:=by rw [← cmpChg_key hkx];exact hle dx hdx
   by_cases e:cmpChg x c=0
   · rw [stepM_same e]
     have hk:=(cmpChg_zero hx hc).1 e
     refine ⟨fun d hd=>?_,?_,fun q=>?_,fun d hd=>?_⟩
     · rcases List.mem_append.1 hd with hd | hd
       · exact h.ok d (by simp [hd])
       · rw [List.mem_singleton] at hd;subst hd;exact hx
     · rw [Asc,List.pairwise_append]
       refine ⟨a1,by simp,fun a ha b hb=>?_⟩
       rw [List.mem_singleton] at hb;subst hb
       exact a3 a ha x (by simp)
     · rw [sumOf_append,sumOf_append,← h.sum q,sumOf_append]
       simp only [sumOf_cons,sumOf_nil,Int.add_zero]
       show sumOf I q+(if x.key=q then x.n+c.n else 0)=_
       rw [← hk]
       split <;> omega
     · rcases List.mem_append.1 hd with hd | hd
       · obtain ⟨y,hy,e⟩:=h.last d (by simp [hd]);exact ⟨y,by simp [hy],e⟩
       · rw [List.mem_singleton] at hd;subst hd;exact ⟨dx,by simp [hdx],hkx⟩
   · rw [stepM_new e]
     refine ⟨fun d hd=>?_,?_,fun q=>by rw [sumOf_append (I ++ [x]),h.sum q,sumOf_append],fun d hd=>?_⟩
     · rcases List.mem_append.1 hd with hd | hd
       · exact h.ok d hd
       · rw [List.mem_singleton] at hd;exact hd ▸ hc
     · have hA:=h.asc
       rw [Asc,List.pairwise_append]
       refine ⟨hA,by simp,fun a ha b hb=>?_⟩
       rw [List.mem_singleton] at hb;subst hb
       obtain ⟨y,hy,hk⟩:=h.last a ha
       have h1:cmpChg a b≤0:=by rw [← cmpChg_key hk];exact hle y hy
       rcases List.mem_append.1 ha with ha | ha
       · exact cmpChg_3.ltle (a3 a ha x (by simp)) hxc
       · rw [List.mem_singleton] at ha;subst ha;omega
     · rcases List.mem_append.1 hd with hd | hd
       · obtain ⟨y,hy,e⟩:=h.last d hd;exact ⟨y,by simp [hy],e⟩
       · rw [List.mem_singleton] at hd;exact ⟨c,by simp,by rw [hd]⟩
theorem gathA_ok {l:List Chg} (hl:∀ c ∈ l,okC c) (hs:l.Pairwise (fun a b=>cmpChg a b≤0)):GathOk l (gathA l):=by
 have:∀ (k:Nat),k≤l.length→GathOk (l.take k) (gathA (l.take k)):=by
  intro k
  induction k with
  | zero=>intro _;exact ⟨fun c hc=>by simp [gathA] at hc,List.Pairwise.nil,fun q=>rfl,fun c hc=>by simp [gathA] at hc⟩
  | succ k ih =>
    intro hk
    have:=(ih (by omega)).step (c:=l[k]) (hl _ (List.getElem_mem hk)) (fun d hd=>by
     obtain ⟨j,hj,rfl⟩:=List.mem_iff_getElem.1 hd
     rw [List.length_take] at hj
     rw [List.getElem_take]
     exact List.pairwise_iff_getElem.1 hs j k (by omega) hk (by omega))
    rw [List.take_succ_eq_append_getElem hk]
    show GathOk _ (List.foldl stepM [] (l.take k ++ [l[k]]))
    rw [List.foldl_append]
    exact this
 have:=this l.length (Nat.le_refl _)
 rwa [List.take_length] at this
end Go.Proofs.YtjhknhgkjfabaaaGreatDoor
namespace Go.Proofs.YtjhknhgkjfabaaaGreatDoor
open Go.Lib Go.Proofs.YtjhknhgkjfabaaaGreatDoor.Cmps
theorem decFrom_snoc (b:UInt8) (d:Nat) (hd:digitVal b=some d):∀ (l:List UInt8) (acc n:Nat),decFrom acc l=some n→decFrom acc (l ++ [b])=some (n * 10+d)
 | [],acc,n,h=>by
   simp only [decFrom,Option.some.injEq] at h
   subst h
   simp [decFrom,hd]
 | x :: l,acc,n,h=>by
   simp only [decFrom] at h
   rw [List.cons_append]
   simp only [decFrom]
   split at h
   · exact decFrom_snoc b d hd l _ _ h
   · cases h
theorem digit_val {d:Nat} (h:d<10):digitVal (UInt8.ofNat (48+d))=some d:=by
 unfold digitVal
 have:(UInt8.ofNat (48+d)).toNat=48+d:=by simp;omega
 rw [this,if_pos (by omega)]
 congr 1
 omega
theorem decFrom_digits (u:Nat):decFrom 0 (decDigits u)=some u:=by
 induction u using Nat.strongRecOn with
 | ind u ih =>
   rw [decDigits]
   split
   · rename_i h
     rw [decFrom,digit_val h]
     simp [decFrom]
   · rename_i h
     have h1:=ih (u / 10) (by omega)
     rw [decFrom_snoc _ (u % 10) (digit_val (by omega)) _ _ _ h1]
     congr 1
     omega
theorem decDigits_mem (u:Nat):∀ b ∈ decDigits u,48≤b.toNat∧b.toNat≤57:=by
 induction u using Nat.strongRecOn with
 | ind u ih =>
   rw [decDigits]
   split
   · rename_i h
     intro b hb
     rw [List.mem_singleton] at hb
     subst hb
     simp;omega
   · rename_i h
     intro b hb
     rcases List.mem_append.1 hb with hb | hb
     · exact ih (u / 10) (by omega) b hb
     · rw [List.mem_singleton] at hb
       subst hb
       simp;omega
theorem decDigits_ne (u:Nat):decDigits u≠[]:=by
 have:=nDigits_pos u
 intro e
 rw [← decDigits_length,e] at this
 simp at this
theorem decNat_digits (u:Nat):decNat (decDigits u)=some u:=by
 unfold decNat
 rw [if_neg (by simp [decDigits_ne]),decFrom_digits]
theorem atoi_itoa (n:Int):atoi (itoa n)=some n:=by
 unfold itoa
 split
 · simp only [atoi,beq_self_eq_true,if_true,decNat_digits,Option.map_some]
   congr 1
   omega
 · obtain ⟨b,r,hb⟩:=List.exists_cons_of_ne_nil (decDigits_ne n.toNat)
   have hm:=decDigits_mem n.toNat b (by rw [hb];exact List.mem_cons_self)
   have h1:(b == 45)=false:=by
    cases e:(b == 45) with
    | false=>rfl
    | true=>rw [beq_iff_eq.1 e] at hm;simp at hm
   have h2:(b == 43)=false:=by
    cases e:(b == 43) with
    | false=>rfl
    | true=>rw [beq_iff_eq.1 e] at hm;simp at hm
   have h3:=decNat_digits n.toNat
   rw [hb] at h3 ⊢
   simp only [atoi,h1,h2,Bool.false_eq_true,if_false,h3,Option.map_some]
   congr 1
   omega
theorem itoa_mem (n:Int):∀ b ∈ itoa n,(48≤b.toNat∧b.toNat≤57)∨b=45:=by
 unfold itoa
 split
 · intro b hb
   rcases List.mem_cons.1 hb with hb | hb
   · exact .inr hb
   · exact .inl (decDigits_mem _ b hb)
 · exact fun b hb=>.inl (decDigits_mem _ b hb)
theorem itoa_no (n:Int) {c:UInt8} (h:c.toNat<45):c ∉ itoa n:=fun hc=>by
 rcases itoa_mem n c hc with h1 | h1
 · omega
 · subst h1;simp at h
theorem nDigits_le {u k:Nat} (h:u<10 ^ (k+1)):nDigits u≤k+1:=by
 induction k generalizing u with
 | zero=>rw [nDigits_small (by simpa using h)];omega
 | succ k ih =>
   by_cases hu:u<10
   · rw [nDigits_small hu];omega
   · rw [nDigits_big hu]
     have:=ih (u:=u / 10) (by rw [Nat.pow_succ] at h;omega)
     omega
theorem itoa_len {n:Int} (h0 : -10000000000000000≤n) (h1:n≤10000000000000000):(itoa n).length≤18:=by
 unfold itoa
 split
 · rw [List.length_cons,decDigits_length]
   have:=nDigits_le (u:=n.natAbs) (k:=16) (by omega)
   omega
 · rw [decDigits_length]
   have:=nDigits_le (u:=n.toNat) (k:=16) (by omega)
   omega
theorem itoa_inj {a b:Int} (h:itoa a=itoa b):a=b:=by
 have h1:=atoi_itoa a
 rw [h,atoi_itoa b] at h1
 exact (Option.some.inj h1).symm
theorem hexB_inj:∀ i j:Fin 16,hexB i.val=hexB j.val→i=j:=by decide
theorem esc1_ne (c:UInt8):∃ b r,esc1 c=b :: r∧b≠34:=by
 unfold esc1
 by_cases h1:c=34∨c=92
 · rw [if_pos h1];exact ⟨92,_,rfl,by decide⟩
 · rw [if_neg h1]
   by_cases h2:c=10
   · rw [if_pos h2];exact ⟨92,_,rfl,by decide⟩
   · rw [if_neg h2]
     by_cases h3:c<32∨126<c
     · rw [if_pos h3];exact ⟨92,_,rfl,by decide⟩
     · rw [if_neg h3];exact ⟨c,[],rfl,fun e=>h1 (.inl e)⟩
theorem byte_parts {c d:UInt8} (h1:hexB (c.toNat / 16)=hexB (d.toNat / 16)) (h2:hexB (c.toNat % 16)=hexB (d.toNat % 16)):c=d:=by
 have b1:=c.toNat_lt
 have b2:=d.toNat_lt
 have e1:=hexB_inj ⟨c.toNat / 16,by omega⟩ ⟨d.toNat / 16,by omega⟩ h1
 have e2:=hexB_inj ⟨c.toNat % 16,by omega⟩ ⟨d.toNat % 16,by omega⟩ h2
 injection e1 with e1
 injection e2 with e2
 exact UInt8.toNat_inj.1 (by omega)
theorem esc1_inj {c d:UInt8} {x y:List UInt8} (h:esc1 c ++ x=esc1 d ++ y):c=d∧x=y:=by
 unfold esc1 at h
 by_cases c1:c=34∨c=92
 · rw [if_pos c1] at h
   by_cases d1:d=34∨d=92
   · rw [if_pos d1] at h
     simp only [List.cons_append,List.nil_append,List.cons.injEq,true_and] at h
     exact h
   · rw [if_neg d1] at h
     by_cases d2:d=10
     · rw [if_pos d2] at h
       simp only [List.cons_append,List.nil_append,List.cons.injEq,true_and] at h
       rcases c1 with rfl | rfl <;> exact absurd h.1 (by decide)
     · rw [if_neg d2] at h
       by_cases d3:d<32∨126<d
       · rw [if_pos d3] at h
         simp only [List.cons_append,List.nil_append,List.cons.injEq,true_and] at h
         rcases c1 with rfl | rfl <;> exact absurd h.1 (by decide)
       · rw [if_neg d3] at h
         simp only [List.cons_append,List.nil_append,List.cons.injEq] at h
         exact absurd (.inr h.1.symm) d1
 · rw [if_neg c1] at h
   by_cases c2:c=10
   · rw [if_pos c2] at h
     by_cases d1:d=34∨d=92
     · rw [if_pos d1] at h
       simp only [List.cons_append,List.nil_append,List.cons.injEq,true_and] at h
       rcases d1 with rfl | rfl <;> exact absurd h.1 (by decide)
     · rw [if_neg d1] at h
       by_cases d2:d=10
       · rw [if_pos d2] at h
         simp only [List.cons_append,List.nil_append,List.cons.injEq,true_and] at h
         exact ⟨c2.trans d2.symm,h⟩
       · rw [if_neg d2] at h
         by_cases d3:d<32∨126<d
         · rw [if_pos d3] at h
           simp only [List.cons_append,List.nil_append,List.cons.injEq,true_and] at h
           exact absurd h.1 (by decide)
         · rw [if_neg d3] at h
           simp only [List.cons_append,List.nil_append,List.cons.injEq] at h
           exact absurd (.inr h.1.symm) d1
   · rw [if_neg c2] at h
     by_cases c3:c<32∨126<c
     · rw [if_pos c3] at h
       by_cases d1:d=34∨d=92
       · rw [if_pos d1] at h
         simp only [List.cons_append,List.nil_append,List.cons.injEq,true_and] at h
         rcases d1 with rfl | rfl <;> exact absurd h.1 (by decide)
       · rw [if_neg d1] at h
         by_cases d2:d=10
         · rw [if_pos d2] at h
           simp only [List.cons_append,List.nil_append,List.cons.injEq,true_and] at h
           exact absurd h.1 (by decide)
         · rw [if_neg d2] at h
           by_cases d3:d<32∨126<d
           · rw [if_pos d3] at h
             simp only [List.cons_append,List.nil_append,List.cons.injEq,true_and] at h
             exact ⟨byte_parts h.1 h.2.1,h.2.2⟩
           · rw [if_neg d3] at h
             simp only [List.cons_append,List.nil_append,List.cons.injEq] at h
             exact absurd (.inr h.1.symm) d1
     · rw [if_neg c3] at h
       by_cases d1:d=34∨d=92
       · rw [if_pos d1] at h
         simp only [List.cons_append,List.nil_append,List.cons.injEq] at h
         exact absurd (.inr h.1) c1
       · rw [if_neg d1] at h
         by_cases d2:d=10
         · rw [if_pos d2] at h
           simp only [List.cons_append,List.nil_append,List.cons.injEq] at h
           exact absurd (.inr h.1) c1
         · rw [if_neg d2] at h
           by_cases d3:d<32∨126<d
           · rw [if_pos d3] at h
             simp only [List.cons_append,List.nil_append,List.cons.injEq] at h
             exact absurd (.inr h.1) c1
           · rw [if_neg d3] at h
             simp only [List.cons_append,List.nil_append,List.cons.injEq] at h
             exact h
theorem escL_inj:∀ {s t x y:List UInt8},escL s ++ 34 :: x=escL t ++ 34 :: y→s=t∧x=y
 | [],[],x,y,h=>by
   simp only [escL,List.flatMap_nil,List.nil_append,List.cons.injEq,true_and] at h
   exact ⟨rfl,h⟩
 | [],d :: t,x,y,h=>by
   obtain ⟨b,r,hb,hn⟩:=esc1_ne d
   simp only [escL,List.flatMap_nil,List.flatMap_cons,List.nil_append,hb,List.cons_append,List.cons.injEq] at h
   exact absurd h.1.symm hn
 | c :: s,[],x,y,h=>by
   obtain ⟨b,r,hb,hn⟩:=esc1_ne c
   simp only [escL,List.flatMap_nil,List.flatMap_cons,List.nil_append,hb,List.cons_append,List.cons.injEq] at h
   exact absurd h.1 hn
 | c :: s,d :: t,x,y,h=>by
   have e1:escL (c :: s)=esc1 c ++ escL s:=rfl
   have e2:escL (d :: t)=esc1 d ++ escL t:=rfl
   rw [e1,e2,List.append_assoc,List.append_assoc] at h
   obtain ⟨h1,h2⟩:=esc1_inj h
   obtain ⟨h3,h4⟩:=escL_inj h2
   exact ⟨by rw [h1,h3],h4⟩
def textV (v:Val):List UInt8:=if v.k=1 then Lib.itoa v.n else if v.k=2 then quotedL v.s.data.toList else [126]
theorem comma_split:∀ {a b x y:List UInt8},(44:UInt8) ∉ a→(44:UInt8) ∉ b→a ++ 44 :: x=b ++ 44 :: y→a=b∧x=y
 | [],[],x,y,_,_,h=>by
   simp only [List.nil_append,List.cons.injEq,true_and] at h
   exact ⟨rfl,h⟩
 | [],d :: t,x,y,_,hb,h=>by
   simp only [List.nil_append,List.cons_append,List.cons.injEq] at h
   exact absurd (h.1 ▸ List.mem_cons_self) hb
 | c :: s,[],x,y,ha,_,h=>by
   simp only [List.nil_append,List.cons_append,List.cons.injEq] at h
   exact absurd (h.1 ▸ List.mem_cons_self) ha
 | c :: s,d :: t,x,y,ha,hb,h=>by
   simp only [List.cons_append,List.cons.injEq] at h
   obtain ⟨e1,e2⟩:=comma_split (fun hm=>ha (List.mem_cons_of_mem _ hm)) (fun hm=>hb (List.mem_cons_of_mem _ hm)) h.2
   exact ⟨by rw [h.1,e1],e2⟩
theorem itoa_head (n:Int):∃ b r,itoa n=b :: r∧((48≤b.toNat∧b.toNat≤57)∨b=45):=by
 have hne:itoa n≠[]:=by
  unfold itoa
  split
  · simp
  · exact decDigits_ne _
 obtain ⟨b,r,hb⟩:=List.exists_cons_of_ne_nil hne
 exact ⟨b,r,hb,itoa_mem n b (by rw [hb];exact List.mem_cons_self)⟩
theorem kinds {v:Val} (h:validValue v=true):(v.k=0∧v=⟨0,0,ByteArray.empty⟩)∨(v.k=1∧v=⟨1,v.n,ByteArray.empty⟩)∨(v.k=2∧v=⟨2,0,v.s⟩):=by
 obtain ⟨k,n,s⟩:=v
 unfold validValue at h
 by_cases h0:k=0
 · subst h0
   simp at h
   refine .inl ⟨rfl,?_⟩
   rw [h.1,bytes_nil (s:=s) (by simpa using h.2)]
 · by_cases h1:k=1
   · subst h1
     simp at h
     refine .inr (.inl ⟨rfl,?_⟩)
     rw [bytes_nil (s:=s) (by simpa using h.2)]
   · by_cases h2:k=2
     · subst h2
       simp at h
       refine .inr (.inr ⟨rfl,?_⟩)
       rw [h.1]
     · simp [h0,h1,h2] at h
theorem textV_inj {a b:Val} (ha:validValue a=true) (hb:validValue b=true) {x y:List UInt8} (h:textV a ++ 44 :: x=textV b ++ 44 :: y):a=b∧x=y:=by
 rcases kinds ha with ⟨_,e1⟩ | ⟨_,e1⟩ | ⟨_,e1⟩
 · rw [e1] at h ⊢
   rcases kinds hb with ⟨_,e2⟩ | ⟨_,e2⟩ | ⟨_,e2⟩
   · rw [e2] at h ⊢
     simp [textV] at h
     exact ⟨rfl,h⟩
   · rw [e2] at h
     obtain ⟨c,r,hc,hm⟩:=itoa_head b.n
     simp [textV,hc] at h
     obtain ⟨h1,_⟩:=h
     subst h1
     simp at hm
   · rw [e2] at h
     simp [textV,quotedL] at h
 · rw [e1] at h ⊢
   obtain ⟨c,r,hc,hm⟩:=itoa_head a.n
   rcases kinds hb with ⟨_,e2⟩ | ⟨_,e2⟩ | ⟨_,e2⟩
   · rw [e2] at h
     simp [textV,hc] at h
     obtain ⟨h1,_⟩:=h
     subst h1
     simp at hm
   · rw [e2] at h ⊢
     have h':itoa a.n ++ 44 :: x=itoa b.n ++ 44 :: y:=by simpa [textV] using h
     obtain ⟨e3,e4⟩:=comma_split (itoa_no _ (by decide)) (itoa_no _ (by decide)) h'
     exact ⟨by rw [itoa_inj e3],e4⟩
   · rw [e2] at h
     simp [textV,quotedL,hc] at h
     obtain ⟨h1,_⟩:=h
     subst h1
     simp at hm
 · rw [e1] at h ⊢
   rcases kinds hb with ⟨_,e2⟩ | ⟨_,e2⟩ | ⟨_,e2⟩
   · rw [e2] at h
     simp [textV,quotedL] at h
   · rw [e2] at h
     obtain ⟨c,r,hc,hm⟩:=itoa_head b.n
     simp [textV,quotedL,hc] at h
     obtain ⟨h1,_⟩:=h
     subst h1
     simp at hm
   · rw [e2] at h ⊢
     have h':escL a.s.data.toList ++ 34 :: (44 :: x)=escL b.s.data.toList ++ 34 :: (44 :: y):=by simpa [textV,quotedL] using h
     obtain ⟨e3,e4⟩:=escL_inj h'
     have e5:a.s=b.s:=by
      apply bytes_eq
      rw [ByteArray.toList_eq,ByteArray.toList_eq]
      exact e3
     rw [e5]
     simpa using e4
end Go.Proofs.YtjhknhgkjfabaaaGreatDoor
namespace Go.Proofs.YtjhknhgkjfabaaaGreatDoor
open Go.RowKit Go.Proofs.YtjhknhgkjfabaaaGreatDoor.Cmps
section flat
variable {α β : Type}
theorem flat_len (f:α→List β) (k:Nat) (hf:∀ x,(f x).length=k) (l:List α):(l.flatMap f).length=l.length * k:=by
 induction l with
 | nil=>simp
 | cons a t ih=>rw [List.flatMap_cons,List.length_append,hf,ih,List.length_cons,Nat.add_mul];omega
theorem flat_get (f:α→List β) (k:Nat) (hf:∀ x,(f x).length=k):∀ (l:List α) (i j:Nat) (hi:i<l.length),j<k→(l.flatMap f)[i * k+j]? = (f l[i])[j]?
 | a :: t,0,j,_,hj=>by
   rw [List.flatMap_cons,Nat.zero_mul,Nat.zero_add,List.getElem?_append_left (by rw [hf];exact hj)];rfl
 | a :: t,i+1,j,hi,hj=>by
   rw [List.flatMap_cons,List.getElem?_append_right (by rw [hf,Nat.add_mul];omega),hf,show (i+1) * k+j - k=i * k+j by rw [Nat.add_mul];omega]
   exact flat_get f k hf t i j (by simpa using hi) hj
theorem flat_at (f:α→List β) (k:Nat) (hf:∀ x,(f x).length=k) (l:List α) (t:Nat) (u:β) (h:(l.flatMap f)[t]? = some u):∃ i j,∃ (hi:i<l.length),j<k∧t=i * k+j∧(f l[i])[j]? = some u:=by
 have ht:t<l.length * k:=by rw [← flat_len f k hf l];exact (List.getElem?_eq_some_iff.1 h).1
 have k0:0<k:=by rcases Nat.eq_zero_or_pos k with e | e;· subst e;simp at ht
                 · exact e
 have hi:t / k<l.length:=Nat.div_lt_of_lt_mul (by rw [Nat.mul_comm];exact ht)
 have hj:t % k<k:=Nat.mod_lt _ k0
 have he:t=t / k * k+t % k:=by rw [Nat.mul_comm];exact (Nat.div_add_mod t k).symm
 refine ⟨t / k,t % k,hi,hj,he,?_⟩
 rw [← flat_get f k hf l _ _ hi hj,← he];exact h
theorem flat_mem (f:α→List β) (p:β→Prop) (l:List α) (h:∀ x,∀ u ∈ f x,p u):∀ u ∈ l.flatMap f,p u:=by
 intro u hu
 obtain ⟨x,_,hx⟩:=List.mem_flatMap.1 hu
 exact h x u hx
end flat
def valC (v:Val):List Value:=[.int .i64 v.k,.int .i64 v.n,.string v.s]
def rowC (row:List Val):List Value:=row.flatMap valC
theorem valC_len (v:Val):(valC v).length=3:=rfl
theorem rowC_len (row:List Val):(rowC row).length=row.length * 3:=flat_len valC 3 valC_len row
theorem rowC_one (row:List Val):∀ u ∈ rowC row,u.oneCell'=true :=
 flat_mem valC (fun u=>u.oneCell'=true) row (fun x u hu=>by simp [valC] at hu;rcases hu with rfl | rfl | rfl <;> rfl)
def cel (p:Chg×Value):List Value:=[.int .i64 p.1.t,p.2,.int .i64 p.1.n]
def cels (xs:List (Chg×Value)):List Value:=xs.flatMap cel
theorem cel_len (p:Chg×Value):(cel p).length=3:=rfl
theorem cels_len (xs:List (Chg×Value)):(cels xs).length=xs.length * 3:=flat_len cel 3 cel_len xs
theorem src_of {w:World} {size:Nat} {a:Option Addr} {n c:Nat} {news:List Value} (hl:news.length=n * size) (h:news=[]∨∃ b o,a=some ⟨b,o,none⟩∧∀ j u,news[j]? = some u→w.cell? ⟨b,o+j,none⟩=some u):Src w size (.slice a n c) n news:=by
 refine ⟨hl,a,c,rfl,?_⟩
 rcases h with h | ⟨b,o,rfl,h⟩
 · exact .inl h
 · exact .inr ⟨_,rfl,fun j u hu=>by rw [add_at];exact h j u hu⟩
theorem RowAt.src {w:World} {D:Nat→Prop} {r:Value} {row:List Val} (h:RowAt w D r row):Src w 3 r row.length (rowC row):=by
 obtain ⟨a,cap,rfl,hl,hx⟩:=h
 refine src_of (rowC_len row) ?_
 rcases hx with rfl | ⟨b,off,rfl,hb,hc⟩
 · exact .inl rfl
 · refine .inr ⟨b,off,rfl,fun j u hu=>?_⟩
   obtain ⟨i,q,hi,hq,rfl,hz⟩:=flat_at valC 3 valC_len row j u hu
   obtain ⟨h0,h1,h2⟩:=hc i hi
   rw [← Nat.add_assoc]
   rcases q with _ | _ | _ | q
   · simp [valC] at hz;subst hz;exact h0
   · simp [valC] at hz;subst hz;exact h1
   · simp [valC] at hz;subst hz;exact h2
   · omega
theorem SlOwn.row {w:World} {v:Value} {row:List Val} {blk:Option Nat} (h:SlOwn w 44 3 v row.length (rowC row) blk) (hl:row.length≤9223372036854775807):RowAt w (fun b=>blk=some b) v row:=by
 rcases h.2 with ⟨hv,h0,_⟩ | ⟨g,o,cap,cur,hb,hv,hg,_⟩
 · refine ⟨none,0,by rw [hv,h0],hl,.inl (List.eq_nil_of_length_eq_zero h0)⟩
 · subst hv
   refine ⟨_,cap,rfl,hl,.inr ⟨g,o,rfl,hb,fun i hi=>?_⟩⟩
   have hc:=fun j (hj:j<3)=>flat_get valC 3 valC_len row i j hi hj
   refine ⟨?_,?_,?_⟩
   · have:=h.cell (i * 3+0) (.int .i64 row[i].k) (by show (rowC row)[i * 3+0]? = _;rw [show rowC row=row.flatMap valC from rfl,hc 0 (by omega)];rfl)
     simpa using this
   · have:=h.cell (i * 3+1) (.int .i64 row[i].n) (by show (rowC row)[i * 3+1]? = _;rw [show rowC row=row.flatMap valC from rfl,hc 1 (by omega)];rfl)
     rw [← Nat.add_assoc] at this;exact this
   · have:=h.cell (i * 3+2) (.string row[i].s) (by show (rowC row)[i * 3+2]? = _;rw [show rowC row=row.flatMap valC from rfl,hc 2 (by omega)];rfl)
     rw [← Nat.add_assoc] at this;exact this
theorem ChgsAt.parts {w:World} {D:Nat→Prop} {v:Value} {l:List Chg} (h:ChgsAt w D v l):∃ xs:List (Chg×Value),xs.map (·.1)=l∧Src w 3 v l.length (cels xs)∧∀ p ∈ xs,RowAt w D p.2 p.1.r:=by
 obtain ⟨a,cap,rfl,hl,hx⟩:=h
 rcases hx with rfl | ⟨b,off,rfl,hb,rs,hc⟩
 · exact ⟨[],rfl,src_of rfl (.inl rfl),fun p hp=>by simp at hp⟩
 · refine ⟨(List.range l.length).pmap (fun i hi=>(l[i],rs i)) (fun i hi=>by simpa using hi),?_,?_,?_⟩
   · rw [List.map_pmap]
     apply List.ext_getElem
     · simp
     · intro i h1 h2;simp
   · have hn:((List.range l.length).pmap (fun i hi=>(l[i],rs i)) (fun i hi=>by simpa using hi)).length=l.length:=by simp
     refine src_of (by rw [cels_len,hn]) (.inr ⟨b,off,rfl,fun j u hu=>?_⟩)
     obtain ⟨i,q,hi,hq,rfl,hz⟩:=flat_at cel 3 cel_len _ j u hu
     rw [hn] at hi
     obtain ⟨h0,h1,h2,_⟩:=hc i hi
     rw [← Nat.add_assoc]
     rcases q with _ | _ | _ | q
     · simp [cel] at hz;subst hz;exact h0
     · simp [cel] at hz;subst hz;exact h1
     · simp [cel] at hz;subst hz;exact h2
     · omega
   · intro p hp
     obtain ⟨i,hi,rfl⟩:=List.mem_pmap.1 hp
     exact (hc i (by simpa using hi)).2.2.2
theorem chgs_of {w:World} {D:Nat→Prop} {v:Value} {xs:List (Chg×Value)} {a:Option Addr} {c:Nat} (hv:v=.slice a xs.length c) (hl:xs.length≤9223372036854775807) (h:xs=[]∨∃ b o,a=some ⟨b,o,none⟩∧D b∧∀ j u,(cels xs)[j]? = some u→w.cell? ⟨b,o+j,none⟩=some u)
 (hr:∀ p ∈ xs,RowAt w D p.2 p.1.r):ChgsAt w D v (xs.map (·.1)):=by
 subst hv
 refine ⟨a,c,by simp,by simpa using hl,?_⟩
 rcases h with rfl | ⟨b,o,rfl,hb,hc⟩
 · exact .inl rfl
 · refine .inr ⟨b,o,rfl,hb,fun i=>(xs[i]?.map (·.2)).getD (.bool false),fun i hi=>?_⟩
   have hi':i<xs.length:=by simpa using hi
   have hg:=fun j (hj:j<3)=>flat_get cel 3 cel_len xs i j hi' hj
   refine ⟨?_,?_,?_,?_⟩
   · have:=hc (i * 3+0) _ ((hg 0 (by omega)).trans rfl)
     simpa using this
   · have:=hc (i * 3+1) _ ((hg 1 (by omega)).trans rfl)
     rw [← Nat.add_assoc] at this
     simpa [hi'] using this
   · have:=hc (i * 3+2) _ ((hg 2 (by omega)).trans rfl)
     rw [← Nat.add_assoc] at this
     simpa using this
   · have:=hr xs[i] (List.getElem_mem hi')
     simpa [hi'] using this
theorem SlOwn.chgs {w:World} {D:Nat→Prop} {v:Value} {xs:List (Chg×Value)} {blk:Option Nat} (h:SlOwn w 42 3 v xs.length (cels xs) blk) (hl:xs.length≤9223372036854775807) (hb:∀ b,blk=some b→D b) (hr:∀ p ∈ xs,RowAt w D p.2 p.1.r):ChgsAt w D v (xs.map (·.1)):=by
 rcases h.2 with ⟨hv,h0,_⟩ | ⟨g,o,cap,cur,hg,hv,_⟩
 · exact chgs_of (a:=none) (c:=0) (by rw [hv,h0]) hl (.inl (List.eq_nil_of_length_eq_zero h0)) hr
 · subst hv
   exact chgs_of rfl hl (.inr ⟨g,o,rfl,hb g hg,fun j u hu=>h.cell j u hu⟩) hr
theorem cels_one (xs:List (Chg×Value)) (h:∀ p ∈ xs,p.2.oneCell'=true):∀ u ∈ cels xs,u.oneCell'=true:=by
 intro u hu
 obtain ⟨x,hx,hu⟩:=List.mem_flatMap.1 hu
 simp [cel] at hu
 rcases hu with rfl | rfl | rfl
 · rfl
 · exact h x hx
 · rfl
theorem RowAt.one {w:World} {D:Nat→Prop} {r:Value} {row:List Val} (h:RowAt w D r row):r.oneCell'=true:=by
 obtain ⟨a,cap,rfl,_⟩:=h;rfl
theorem info44:(Tryz.prog.info? 44).map (fun i=>(i.zero,i.size,i.bytes))=some (some (.agg #[.int .i64 0,.int .i64 0,.string ⟨#[]⟩]),3,32):=by kernel_rfl
theorem info42:(Tryz.prog.info? 42).map (fun i=>(i.zero,i.size,i.bytes))=some (some (.agg #[.int .i64 0,.slice none 0 0,.int .i64 0]),3,40):=by kernel_rfl
theorem Src.below {w W:World} {size:Nat} {x:Value} {m:Nat} {news:List Value} (h:Src w size x m news) (hb:Below w.heap.size w W):Src W size x m news:=by
 obtain ⟨hl,a,c,rfl,hx⟩:=h
 refine ⟨hl,a,c,rfl,?_⟩
 rcases hx with h | ⟨ad,rfl,h⟩
 · exact .inl h
 · refine .inr ⟨ad,rfl,fun j u hu=>?_⟩
   have hc:=h j u hu
   exact (hb.cell (p:=ad.add j) (World.block_lt_of_cell? w _ hc)).trans hc
theorem own_empty (w:World) (e:TypeId) (size:Nat):SlOwn (w.alloc (.cells #[] e)) e size (.slice (some ⟨w.heap.size,0,none⟩) 0 0) 0 [] (some w.heap.size) :=
 ⟨by simp,.inr ⟨w.heap.size,0,0,#[],rfl,rfl,World.alloc_heap_new w _,Nat.le_refl _,by simp [maxLen],by simp,by simp⟩⟩
theorem own_new {w wr w':World} {blk blk':Option Nat} (hb:Below w.heap.size w wr) (hn:∀ g,blk=some g→w.heap.size≤g) (hg:wr.grownBy w' blk) (hat:blk'=blk∨blk'=some wr.heap.size) :
 Below w.heap.size w w'∧(∀ g,blk'=some g→w.heap.size≤g):=by
 refine ⟨hb.grown hg hb.size hn,fun g e=>?_⟩
 rcases hat with h | h
 · exact hn g (h ▸ e)
 · rw [h] at e;injection e with e;rw [← e];exact hb.size
theorem run_make42 (w:World) (ty:TypeId) (n:Nat) (h0:0<n) (hn:n≤1000) :
 ∃ m cur,n≤m∧m≤maxLen∧m * 3≤cur.size∧(Builtin.append_ #[22,3] ty #[.slice none 0 0,.int .i64 (n:Int)]).run Tryz.prog w=.ok (.slice (some ⟨w.heap.size,0,none⟩) n m) (w.drew.alloc (.cells cur 42)):=by
 obtain ⟨i,hi,hz0,hz1,hz2⟩:=info_parts info42
 have hti:∀ W:World,(typeInfo 42).run Tryz.prog W=.ok i W:=fun W=>run_typeInfo W hi
 have hz:∀ W:World,(zeroValue 42).run Tryz.prog W=.ok (.agg #[.int .i64 0,.slice none 0 0,.int .i64 0]) W:=fun W=>by simp [zeroValue,hti,hz0]
 have hcs:(Value.agg #[.int .i64 0,.slice none 0 0,.int .i64 0]).cells.size=3:=by kernel_rfl
 refine ⟨grownCap w n 0 42,#[] ++ Builtin.zeroCells (Value.agg #[.int .i64 0,.slice none 0 0,.int .i64 0]).cells n ++ Builtin.zeroCells (Value.agg #[.int .i64 0,.slice none 0 0,.int .i64 0]).cells (grownCap w n 0 42 - n),grownCap_ge w n 0 42,grownCap_le_maxLen w n 0 42 (by simp only [maxLen];omega),?_,?_⟩
 rotate_left
 · have hw:IntKind.i64.wrap (n:Int)=n:=by rw [IntKind.wrap_i64];omega
   have hneg:¬ ((n:Int)<0):=by omega
   have hbig:¬ ((n:Int) * ((40:Nat):Int) > 2 ^ 48):=by omega
   have hmul:¬ (n * 3=0):=by omega
   have hmax:¬ ((n:Int) > IntKind.i64.max):=by
    have:IntKind.i64.max=2 ^ 63 - 1:=by decide
    rw [this]
    omega
   have hcap:¬ (Builtin.nextslicecap n 0 * 40 > 2 ^ 48):=by
    unfold Builtin.nextslicecap
    rw [if_pos (by omega)];omega
   have hle:¬ (n≤0):=by omega
   simp only [Builtin.append_,List.getElem?_toArray,List.getElem?_cons_zero,List.getElem?_cons_succ,Sem.run_bind,run_underlying Tryz.underlying22,run_underlying Tryz.underlying3,Result.andThen_ok,sizeOf,hti,Sem.run_pure,asInt,asIntOf,hw,hneg,hz1,hz2,hbig,if_false,if_true,
    Nat.zero_add,hle,hmax,false_and,hcap,run_choose,Question.forced,run_askRoom,Builtin.firstCells,Bool.not_true,Bool.false_eq_true,hmul,hz,newRow,run_newObj,Int.toNat_natCast,grownCap]
   rfl
 · have hge:=grownCap_ge w n 0 42
   rw [Array.size_append,Array.size_append,size_zeroCells,size_zeroCells,hcs]
   show _≤0+_+_
   omega
theorem wpList_append_run {P:Program} {w:World} {ops:Array Oper} {rest:List Oper} {o:Oper} {a:Act} {Q:Exit→Act→World→Prop} (hgd:o.guard=none) (s x:Operand) (ts:Array TypeId)
 (ho:o.op=.call { callee:=.builtin .append,args:=#[s,x],argTypes:=ts }) (sv xv v':Value) (w':World) (hs:a.eval s=sv) (hx:a.eval x=xv)
 (hr:(Builtin.append_ ts o.type #[sv,xv]).run P w=.ok v' w') (h:wpList P ops Q rest (a.put o.dst v') w'):wpList P ops Q (o :: rest) a w:=by
 refine wpList_plain hgd fun K hK=>?_
 unfold Oper.wp execOp
 simp only [ho,resolve,invoke,builtin,Sem.run_bind,Sem.run_pure,Result.andThen_ok,List.map_toArray,List.map_cons,List.map_nil,hs,hx,hr]
 exact hK _ _ h
section leaves
set_option maxHeartbeats 400000
set_option maxRecDepth 10000
theorem f25_any (w:World) (r:Value) (row:List Val) (D:Nat→Prop) (hr:RowAt w D r row) (h8:row.length≤1000) :
 Calls Tryz.prog 25 #[r] w fun e w'=>(∃ v,e=.returned v∧RowAt w' (fun b=>w.heap.size≤b) v row)∧Below w.heap.size w w':=by
 obtain ⟨i0,hi0,hz0,hz1,hz2⟩:=info_parts info44
 have HSRC:=Lib.hid (fun W (hb:Below w.heap.size w W)=>(hr.below hb).src)
 have HE:=Lib.hid (own_empty w 44 3)
 have HB:=Lib.hid ((Below.refl w.heap.size w).alloc (Nat.le_refl _) (.cells #[] 44))
 obtain ⟨a,cap,rfl,hl,hx⟩:=hr
 rcases a with _ | a
 · have hn:row=[]:=by rcases hx with h | ⟨b,off,h,_⟩;exact h;cases h
   subst hn
   have hq:∀ W,(binOp .eql 40 (.slice none 0 cap) (.slice none 0 0)).run Tryz.prog W=.ok (.bool true) W:=fun W=>rfl
   go_enter Tryz.func25,Tryz.ntmps25
   go_wp2
   go_ret
   exact ⟨⟨_,rfl,none,_,rfl,by simp,.inl rfl⟩,Below.refl _ _⟩
 · clear hx
   have hq:∀ W,(binOp .eql 40 (.slice (some a) row.length cap) (.slice none 0 0)).run Tryz.prog W=.ok (.bool false) W:=fun W=>rfl
   go_enter Tryz.func25,Tryz.ntmps25
   go_wp2_with (at_builtin;refine wpList_append_S rfl (.tmp 5) (.tmp 6) 40 rfl 44 i0 _ 3 32 Tryz.underlying40 hi0 hz0 hz1 hz2 rfl (by omega) (.slice (some ⟨w.heap.size,0,none⟩) 0 0) 0 [] (some w.heap.size) rfl HE.out (.slice (some a) row.length cap) row.length (rowC row) rfl (HSRC.out _ HB.out) (rowC_one row) (by simp only [maxLen];omega) (by omega) ?_;intro v1 w1 blk1 hown1 hgrow1 hat1;have H1:=Lib.hid hown1;have H2:=Lib.hid (own_new HB.out (fun g e=>by injection e with e;omega) hgrow1 (by simpa using hat1));clear hown1 hgrow1 hat1)
   go_ret
   have h1:=H1.out
   simp only [Nat.zero_add,List.nil_append] at h1
   exact ⟨⟨_,rfl,(h1.row (by omega)).mono fun b e=>H2.out.2 b e⟩,H2.out.1⟩
theorem f101_any (w:World) (n:Nat) (hn:n≤1000) :
 Calls Tryz.prog 101 #[.slice none 0 0,.int .i64 n] w fun e w'=>(∃ v blk,e=.returned v∧SlOwn w' 42 3 v 0 [] blk∧∀ g,blk=some g→w.heap.size≤g)∧Below w.heap.size w w':=by
 by_cases h0:n=0
 · subst h0
   go_enter Tryz.func101,Tryz.ntmps101
   go_wp2
   go_ret
   exact ⟨⟨_,none,rfl,SlOwn.nil _ _ _,fun g e=>by cases e⟩,Below.refl _ _⟩
 · have hpos:(0:Int)<(n:Int):=by omega
   obtain ⟨m,cur,hnm,hmm,hcur,hrun⟩:=run_make42 w 22 n (by omega) hn
   have HO:Hid (SlOwn (w.drew.alloc (.cells cur 42)) 42 3 (.slice (some ⟨w.heap.size,0,none⟩) 0 m) 0 [] (some w.heap.size)) :=
    ⟨by simp,.inr ⟨w.heap.size,0,m,cur,rfl,rfl,World.alloc_heap_new w.drew _,by omega,hmm,by omega,by simp⟩⟩
   have HR:=Lib.hid hrun
   clear hmm hcur hrun
   go_enter Tryz.func101,Tryz.ntmps101
   go_wp2_with (at_builtin;refine wpList_append_run rfl (.tmp 20) (.tmp 21) #[22,3] rfl (.slice none 0 0) (.int .i64 n) _ _ rfl rfl HR.out ?_)
   go_ret
   exact ⟨⟨_,_,rfl,HO.out,fun g e=>by injection e with e;omega⟩,(Below.refl _ _).drew.alloc (Nat.le_refl _) _⟩
theorem f55_any (w:World) (b off c:Nat) (v:Value) (l:List Chg) (D:Nat→Prop) (h:ChgsAt w D v l) (hv:w.cell? ⟨b,off,none⟩=some v) (hl:l.length≤1000) :
 Calls Tryz.prog 55 #[.slice (some ⟨b,off,none⟩) 1 c] w fun e w'=>(∃ v' xs blk,e=.returned v'∧xs.map (·.1)=l∧(∀ p ∈ xs,RowAt w D p.2 p.1.r)∧SlOwn w' 42 3 v' l.length (cels xs) blk∧∀ g,blk=some g→w.heap.size≤g)∧Below w.heap.size w w':=by
 obtain ⟨i0,hi0,hz0,hz1,hz2⟩:=info_parts info42
 obtain ⟨xs,hxs,hsx,hxr⟩:=h.parts
 have HSRC:Hid (∀ W,Below w.heap.size w W→Src W 3 v l.length (cels xs)):=fun W hb=>hsx.below hb
 have H101:=Lib.hid (f101_any w l.length hl)
 obtain ⟨a,cap,rfl,-,-⟩:=h
 have hbb:=cell_lt hv
 have HC:Hid (∀ W,Below w.heap.size w W→W.cell? ⟨b,off,none⟩=some (.slice a l.length cap)):=fun W hb=>(hb.cell (p:=⟨b,_,none⟩) hbb).trans hv
 have hwl:IntKind.i64.wrap (l.length:Int)=l.length:=by rw [IntKind.wrap_i64];omega
 go_enter Tryz.func55,Tryz.ntmps55
 go_wp2
 refine wp_loop_rounds 2 ?_
 rw [rounds_succ]
 go_wp2
 rw [rounds_succ]
 go_wp2_with (go_at_call 101;refine H101.out.mono ?_;rintro e w1 ⟨⟨v1,blk1,rfl,hown1,hnew1⟩,hb1⟩;have HO1:=Lib.hid hown1;have HN1:=Lib.hid hnew1;have HB1:=Lib.hid hb1;have hc1:=HC.out _ hb1;clear hown1 hnew1 hb1)
 refine wp_loop_rounds 2 ?_
 rw [rounds_succ]
 go_wp2_with (at_builtin;refine wpList_append_S rfl (.tmp 31) (.tmp 32) 22 rfl 42 i0 _ 3 40 Tryz.underlying22 hi0 hz0 hz1 hz2 rfl (by omega) v1 0 [] blk1 rfl HO1.out (.slice a l.length cap) l.length (cels xs) rfl (HSRC.out _ HB1.out) (cels_one xs fun p hp=>(hxr p hp).one) (by simp only [maxLen];omega) (by omega) ?_;intro v2 w2 blk2 hown2 hgrow2 hat2;have H1:=Lib.hid hown2;have H2:=Lib.hid (own_new HB1.out HN1.out hgrow2 hat2);clear hown2 hgrow2 hat2)
 rw [rounds_succ]
 go_wp2
 go_ret
 have h1:=H1.out
 simp only [Nat.zero_add,List.nil_append] at h1
 exact ⟨⟨_,xs,blk2,rfl,hxs,hxr,h1,H2.out.2⟩,H2.out.1⟩
end leaves
end Go.Proofs.YtjhknhgkjfabaaaGreatDoor
