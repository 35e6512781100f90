/-
 The well, part 41: the reference's new wells. If the schema lies in the world as the words say.
-/
import Derived.Test.YtimahogkcmmcnaaGreatDoorL15
import Derived.Test.YtimahogkcmmcnaaGreatDoorL13
set_option linter.unusedSimpArgs false
set_option linter.unusedVariables false
namespace Go.Proofs.YtimahogkcmmcnaaGreatDoor
open Go.RowKit Go.Proofs.YtimahogkcmmcnaaGreatDoor.Cmps
def newE (s:List Col) (b r:Int):Int:=if validSchema s=false then 1 else if b<0∨1000000000<b∨r<1∨16<r then 7 else 0
def newM (b:Int) (n:Nat):WlM:=⟨b,[],List.replicate n (-1000000000000),false,[]⟩
theorem newM_ok {b:Int} {n:Nat} (h0:0≤b) (h1:b≤1000000000) (h2:1≤n) (h3:n≤16):WOk (newM b n):=by
 have hl:(newM b n).marks.length=n:=by simp [newM]
 refine ⟨by simp [newM],by simp [newM,allN],?_,?_,by rw [hl];exact h2,by rw [hl];exact h3,⟨h0,h1⟩,?_,?_,?_,?_⟩
 · intro x hx;cases hx
 · intro x hx;cases hx
 · intro x hx;cases hx
 · intro x hx
   have:=List.eq_of_mem_replicate hx
   omega
 · intro x hx;cases hx
 · intro x hx;cases hx
theorem newM_row (b:Int) (n:Nat):WRow (newM b n):=⟨fun x hx=>(by cases hx),fun x hx=>(by cases hx),by simp [newM]⟩
section leaves
set_option maxHeartbeats 1000000
set_option maxRecDepth 10000
theorem f17_any (hm:Tryz.prog.follows .mixedOrders=true) (w:World) (D:Nat→Prop) (v:Value) (s:List Col) (b r:Int) (hs:SchemaAt w D v s) :
 Calls Tryz.prog 17 #[v,.int .i64 b,.int .i64 r] w fun e w'=>Below w.heap.size w w'∧((newE s b r≠0∧e=.returned (.tuple #[.agg #[.slice none 0 0,.int .i64 0,.slice none 0 0,.slice none 0 0,.bool false,.slice none 0 0],.int .i64 (newE s b r)])) ∨
  (newE s b r=0∧∃ p',e=.returned (.tuple #[refV (newM b r.toNat) p',.int .i64 0])∧RefAt w' (Plus D w w') s (newM b r.toNat) p')):=by
 obtain ⟨i0,hi0,hz0,hz1,hz2⟩:=info_parts info3
 have HR1:Hid ((w.alloc (.cells #[.slice none 0 0,.int .i64 0,.slice none 0 0,.slice none 0 0,.bool false,.slice none 0 0] 45)).heap[w.heap.size]? = some (.cells #[.slice none 0 0,.int .i64 0,.slice none 0 0,.slice none 0 0,.bool false,.slice none 0 0] 45 (0,0))):=heap_alloc_new w _
 have HW1:Hid (Below w.heap.size w (w.alloc (.cells #[.slice none 0 0,.int .i64 0,.slice none 0 0,.slice none 0 0,.bool false,.slice none 0 0] 45))):=(Below.refl _ _).alloc (Nat.le_refl _) _
 have H39:Hid (Calls Tryz.prog 39 #[v] (w.alloc (.cells #[.slice none 0 0,.int .i64 0,.slice none 0 0,.slice none 0 0,.bool false,.slice none 0 0] 45)) fun e w'=>e=.returned (.bool (validSchema s))∧Below (w.alloc (.cells #[.slice none 0 0,.int .i64 0,.slice none 0 0,.slice none 0 0,.bool false,.slice none 0 0] 45)).heap.size (w.alloc (.cells #[.slice none 0 0,.int .i64 0,.slice none 0 0,.slice none 0 0,.bool false,.slice none 0 0] 45)) w') :=
  (f39_any hm _ D v s (hs.keep fun b _ hlt=>HW1.out.block b hlt)).mono fun e w' ⟨h,hb1⟩=>⟨h,hb1.belowW⟩
 have HS:=Lib.hid hs
 obtain ⟨sha,shc,rfl⟩:∃ a c,v=.slice a s.length c:=by obtain ⟨a,c,e,_⟩:=hs;exact ⟨a,c,e⟩
 clear hs
 obtain ⟨vs,hvs⟩:∃ b,validSchema s=b:=⟨_,rfl⟩
 rw [hvs] at H39
 cases vs
 · have HE:Hid (newE s b r=1):=by show newE s b r=1;rw [newE,if_pos hvs]
   clear hvs
   go_enter Tryz.func17,Tryz.ntmps17
   go_wp2_with (first
    | (go_at_call 39;(with_reducible refine H39.out.mono ?_);rintro e w2 ⟨rfl,hb⟩
       have hR:=(hb.block _ (heap_lt HR1.out)).trans HR1.out
       obtain ⟨r0,r1,r2,r3,r4,r5,rf⟩:=box45_cells hR
       have HR:=Lib.hid hR;have HB:=Lib.hid hb;clear hR hb))
   refine bodyPost_ret (ret45_2 rfl _ _ w.heap.size (box45_fill HR.out _ _ _ _ _ _) rfl) rfl ?_
   refine ⟨fill_below (HW1.out.trans (HB.out.mono HW1.out.size)) (Nat.le_refl _) _ _ _ _ _ _,.inl ⟨by rw [HE.out];omega,by rw [HE.out];rfl⟩⟩
 · have HE:Hid (newE s b r=if b<0∨1000000000<b∨r<1∨16<r then 7 else 0):=by show newE s b r=_;rw [newE,hvs,if_neg (by simp)]
   clear hvs
   by_cases hbad:b<0∨1000000000<b∨r<1∨16<r
   · have HE7:Hid (newE s b r=7):=by show newE s b r=7;rw [HE.out,if_pos hbad]
     have key:∀ (c1 c2 c3 c4:Bool),decide (b<0)=c1→decide (1000000000<b)=c2→decide (r<1)=c3→decide (16<r)=c4→(c1=true∨(c1=false∧c2=true)∨(c1=false∧c2=false∧c3=true)∨(c1=false∧c2=false∧c3=false∧c4=true)):=by
      intro c1 c2 c3 c4 h1 h2 h3 h4
      subst h1 h2 h3 h4
      simp only [decide_eq_true_eq,decide_eq_false_iff_not]
      omega
     clear HE
     by_cases q1:b<0
     · clear hbad key
       go_enter Tryz.func17,Tryz.ntmps17
       go_wp2_with (first
        | (go_at_call 39;(with_reducible refine H39.out.mono ?_);rintro e w2 ⟨rfl,hb⟩
           have hR:=(hb.block _ (heap_lt HR1.out)).trans HR1.out
           obtain ⟨r0,r1,r2,r3,r4,r5,rf⟩:=box45_cells hR
           have HR:=Lib.hid hR;have HB:=Lib.hid hb;clear hR hb))
       refine bodyPost_ret (ret45_2 rfl _ _ w.heap.size (box45_fill HR.out _ _ _ _ _ _) rfl) rfl ?_
       exact ⟨fill_below (HW1.out.trans (HB.out.mono HW1.out.size)) (Nat.le_refl _) _ _ _ _ _ _,.inl ⟨by rw [HE7.out];omega,by rw [HE7.out];rfl⟩⟩
     · by_cases q2:1000000000<b
       · clear hbad key
         go_enter Tryz.func17,Tryz.ntmps17
         go_wp2_with (first
          | (go_at_call 39;(with_reducible refine H39.out.mono ?_);rintro e w2 ⟨rfl,hb⟩
             have hR:=(hb.block _ (heap_lt HR1.out)).trans HR1.out
             obtain ⟨r0,r1,r2,r3,r4,r5,rf⟩:=box45_cells hR
             have HR:=Lib.hid hR;have HB:=Lib.hid hb;clear hR hb))
         refine bodyPost_ret (ret45_2 rfl _ _ w.heap.size (box45_fill HR.out _ _ _ _ _ _) rfl) rfl ?_
         exact ⟨fill_below (HW1.out.trans (HB.out.mono HW1.out.size)) (Nat.le_refl _) _ _ _ _ _ _,.inl ⟨by rw [HE7.out];omega,by rw [HE7.out];rfl⟩⟩
       · by_cases q3:r<1
         · clear hbad key
           go_enter Tryz.func17,Tryz.ntmps17
           go_wp2_with (first
            | (go_at_call 39;(with_reducible refine H39.out.mono ?_);rintro e w2 ⟨rfl,hb⟩
               have hR:=(hb.block _ (heap_lt HR1.out)).trans HR1.out
               obtain ⟨r0,r1,r2,r3,r4,r5,rf⟩:=box45_cells hR
               have HR:=Lib.hid hR;have HB:=Lib.hid hb;clear hR hb))
           refine bodyPost_ret (ret45_2 rfl _ _ w.heap.size (box45_fill HR.out _ _ _ _ _ _) rfl) rfl ?_
           exact ⟨fill_below (HW1.out.trans (HB.out.mono HW1.out.size)) (Nat.le_refl _) _ _ _ _ _ _,.inl ⟨by rw [HE7.out];omega,by rw [HE7.out];rfl⟩⟩
         · have q4:16<r:=by omega
           clear hbad key
           go_enter Tryz.func17,Tryz.ntmps17
           go_wp2_with (first
            | (go_at_call 39;(with_reducible refine H39.out.mono ?_);rintro e w2 ⟨rfl,hb⟩
               have hR:=(hb.block _ (heap_lt HR1.out)).trans HR1.out
               obtain ⟨r0,r1,r2,r3,r4,r5,rf⟩:=box45_cells hR
               have HR:=Lib.hid hR;have HB:=Lib.hid hb;clear hR hb))
           refine bodyPost_ret (ret45_2 rfl _ _ w.heap.size (box45_fill HR.out _ _ _ _ _ _) rfl) rfl ?_
           exact ⟨fill_below (HW1.out.trans (HB.out.mono HW1.out.size)) (Nat.le_refl _) _ _ _ _ _ _,.inl ⟨by rw [HE7.out];omega,by rw [HE7.out];rfl⟩⟩
   · have HE0:Hid (newE s b r=0):=by show newE s b r=0;rw [HE.out,if_neg hbad]
     obtain ⟨n,rfl⟩:∃ n:Nat,r=n:=⟨r.toNat,by omega⟩
     have q1:¬ b<0:=by omega
     have q2:¬ 1000000000<b:=by omega
     have q3:¬ (n:Int)<1:=by omega
     have q4:¬ (16:Int)<(n:Int):=by omega
     clear HE hbad
     go_enter Tryz.func17,Tryz.ntmps17
     go_wp2_with (first
      | (go_at_call 39;(with_reducible refine H39.out.mono ?_);rintro e w2 ⟨rfl,hb⟩
         have hR:=(hb.block _ (heap_lt HR1.out)).trans HR1.out
         have hw2:=HW1.out.trans (hb.mono HW1.out.size)
         have HR:=Lib.hid hR;have HB:=Lib.hid hw2;clear hR hb hw2))
     have HBX:Hid ((w2.alloc (.cells #[.slice sha s.length shc,.int .i64 b,.slice none 0 0,.slice none 0 0,.bool false,.slice none 0 0] 45)).heap[w2.heap.size]? = some (.cells #[.slice sha s.length shc,.int .i64 b,.slice none 0 0,.slice none 0 0,.bool false,.slice none 0 0] 45 (0,0))):=heap_alloc_new w2 _
     have hRlt:=heap_lt HR.out
     go_loopw [9] (fun i wr=>∃ (k:Nat) (ma:Option Addr) (mc:Nat) (mb:Option Nat),k≤n∧i=.int .i64 k∧Hid (wr.heap[w2.heap.size]? = some (.cells #[.slice sha s.length shc,.int .i64 b,.slice none 0 0,.slice ma k mc,.bool false,.slice none 0 0] 45 (0,0))) ∧
      Hid (SlOwn wr 3 1 (.slice ma k mc) k (List.replicate k (Value.int .i64 (-1000000000000))) mb)∧Hid (∀ g,mb=some g→w2.heap.size<g)∧Hid (Below w2.heap.size w2 wr)) (fun i _=>n - (intOf i).toNat)
     case atStart=>exact ⟨0,none,0,none,by omega,rfl,HBX,Lib.hid (SlOwn.nil _ _ _),Lib.hid (fun g hg=>by cases hg),Lib.hid ((Below.refl _ _).alloc (Nat.le_refl _) _)⟩
     case round =>
      obtain ⟨k,ma,mc,mb,hk,rfl,hbx,hmk,hnew,hbr⟩:=hrel
      obtain ⟨c0,c1,c2,c3,c4,c5,cf⟩:=box45_cells hbx.out
      have hsz:=heap_lt hbx.out
      by_cases hlt:k<n
      · have HO:Hid (SlOwn (wr.alloc (.cells #[.int .i64 (-1000000000000)] 3)) 3 1 (.slice ma k mc) k (List.replicate k (Value.int .i64 (-1000000000000))) mb):=hmk.out.keep fun g hg=>Below.heap_alloc _ _ _ (hmk.out.lt_of hg)
        have HNX:Hid (∀ w3 blk,(wr.alloc (.cells #[.int .i64 (-1000000000000)] 3)).grownBy w3 mb→w3.heap[w2.heap.size]? = some (.cells #[.slice sha s.length shc,.int .i64 b,.slice none 0 0,.slice ma k mc,.bool false,.slice none 0 0] 45 (0,0))∧Below w2.heap.size w2 w3 ∧
         ((blk=mb∨blk=some (wr.alloc (.cells #[.int .i64 (-1000000000000)] 3)).heap.size)→∀ g,blk=some g→w2.heap.size<g)):=by
         intro w3 blk hg
         refine ⟨(hg.block _ (by simp;omega) (fun e=>by have:=hnew.out _ e.symm;omega)).trans (alloc_keep hbx.out),(hbr.out.alloc hbr.out.size _).grown hg (by have:=hbr.out.size;simp;omega) (fun q hq=>by have:=hnew.out q hq;omega),fun hat g hgg=>?_⟩
         rcases hat with e | e
         · exact hnew.out g (e ▸ hgg)
         · rw [hgg] at e;injection e with e;simp at e;omega
        go_wp2_with (at_builtin;refine wpList_append_S rfl (.tmp 38) (.tmp 39) 31 rfl 3 i0 _ 1 8 Tryz.underlying31 hi0 hz0 hz1 hz2 rfl (by omega) (.slice ma k mc) k (List.replicate k (Value.int .i64 (-1000000000000))) mb rfl HO.out (.slice (some ⟨wr.heap.size,0,none⟩) 1 1) 1 [.int .i64 (-1000000000000)] rfl (int_src _ _) (fun u hu=>by rw [List.mem_singleton] at hu;subst hu;rfl) (by simp only [maxLen];omega) (by omega) ?_
                     intro v3 w3 blk3 h1 h2 h3
                     obtain ⟨z1,z2,z3⟩:=HNX.out w3 blk3 h2
                     have z4:=z3 h3
                     obtain ⟨a3,c3',rfl⟩:=h1.form
                     obtain ⟨d0,d1,d2,d3,d4,d5,df⟩:=box45_cells z1
                     have H1:=Lib.hid h1;have Z1:=Lib.hid z1;have Z2:=Lib.hid z2;have Z4:=Lib.hid z4;clear h1 h2 h3 z1 z2 z3 z4)
        go_roundw
        case rel =>
         refine ⟨k+1,a3,c3',blk3,by omega,by go_num,Lib.hid (box45_set3 Z1.out _),Lib.hid ?_,Z4,Lib.hid (Z2.out.setCell (p:=⟨w2.heap.size,3,none⟩) (Nat.le_refl _) _)⟩
         have h1:=H1.out.keep (w':=w3.setCell ⟨w2.heap.size,3,none⟩ (.slice a3 (k+1) c3')) fun g hg=>heap_set_ne _ (by have:=Z4.out g hg;omega)
         rw [List.replicate_succ']
         exact h1
        case measure=>simp [intOf];omega
      · have hkl:k=n:=by omega
        subst hkl
        have hR2:=(hbr.out.block w.heap.size hRlt).trans HR.out
        obtain ⟨r0,r1,r2,r3,r4,r5,rf⟩:=box45_cells hR2
        have HR2:=Lib.hid hR2
        clear hR2
        go_wp2_with fail
        refine bodyPost_ret (ret45_2 rfl _ _ w.heap.size (box45_fill HR2.out _ _ _ _ _ _) rfl) rfl ?_
        have hb1:Below w.heap.size w wr:=HB.out.trans (hbr.out.mono HB.out.size)
        have hbF:=fill_below hb1 (Nat.le_refl w.heap.size) (.slice sha s.length shc) (.int .i64 b) (.slice none 0 0) (.slice ma k mc) (.bool false) (.slice none 0 0)
        refine ⟨hbF,.inr ⟨HE0.out,⟨.slice sha s.length shc,(none,0),(ma,mc),.slice none 0 0⟩,by simp [refV,newM],?_⟩⟩
        have hmk2:=hmk.out.keep (w':=fill45 wr w.heap.size (.slice sha s.length shc) (.int .i64 b) (.slice none 0 0) (.slice ma k mc) (.bool false) (.slice none 0 0)) fun g hg=>fill_ne (by have:=hnew.out g hg;omega) _ _ _ _ _ _
        refine ⟨(HS.out.keep fun b _ hlt=>hbF.block b hlt).mono fun b h=>.inl h,⟨none,0,rfl,.inl rfl⟩,?_,⟨none,0,rfl,by simp [newM],.inl rfl⟩⟩
        have hn:=own_nums (l:=List.replicate k (-1000000000000)) (by simpa using hmk2)
        have hn2:NumsAt (fill45 wr w.heap.size (.slice sha s.length shc) (.int .i64 b) (.slice none 0 0) (.slice ma k mc) (.bool false) (.slice none 0 0)) (fun b=>mb=some b) (.slice ma (newM b k).marks.length mc) (newM b k).marks:=by simpa [newM] using hn
        exact hn2.imp fun g hl hg=>.inr ⟨by have:=hnew.out g hg;omega,hl⟩
end leaves
structure Went (w w':World) (col col':Nat→Nat):Prop where
 only:Only (fun b=>col b≠0) w w'
 colE:∀ b,b<w.heap.size→col' b=col b
theorem Went.below {w w':World} {col:Nat→Nat} (h:Below w.heap.size w w'):Went w w' col col:=⟨Only.of_below h,fun _ _=>rfl⟩
theorem Went.trans {a b c:World} {ca cb cc:Nat→Nat} (h:Went a b ca cb) (k:Went b c cb cc):Went a c ca cc :=
 ⟨h.only.trans k.only (fun x hx hn=>by rw [← h.colE x hx];exact hn),fun x hx=>(k.colE x (Nat.lt_of_lt_of_le hx h.only.size)).trans (h.colE x hx)⟩
theorem Went.calm {w w':World} {col col':Nat→Nat} (h:Went w w' col col') {b:Nat} (hb:Calm w col b):Calm w' col' b:=⟨Nat.lt_of_lt_of_le hb.1 h.only.size,(h.colE b hb.1).trans hb.2⟩
theorem Went.keep {w w':World} {col col':Nat→Nat} (h:Went w w' col col'):∀ b,Calm w col b→b<w.heap.size→w'.heap[b]? = w.heap[b]? := fun b hb hlt=>h.only.block b hlt (fun hn=>hn hb.2)
def paint (col:Nat→Nat) (blk:Option Nat) (c b:Nat):Nat:=if blk=some b then c else col b
section leaves
set_option maxHeartbeats 1000000
set_option maxRecDepth 10000
theorem f53_any (hm:Tryz.prog.follows .mixedOrders=true) (w:World) (col:Nat→Nat) (s:List Col) (ws:WS) (m:WlM) (nm:ByteArray) (v:Value) (l:List Evt) (h:WAt w col s ws m) (hok:WOk m) (hl:EvtsAt w (Calm w col) v l) :
 Calls Tryz.prog 53 #[ptr ws.W,.string nm,v] w fun e w'=>e=.returned (.int .i64 (moreR s m nm l).2)∧∃ col' ws',ws'.W=ws.W∧WAt w' col' s ws' (moreR s m nm l).1∧Went w w' col col':=by
 have mixed:=hm
 obtain ⟨c0,_,_,c3,_,_,_⟩:=h.cells
 obtain ⟨sha,shc,hsch⟩:∃ a c,ws.sch=.slice a s.length c:=by obtain ⟨a,c,e,_⟩:=h.hC;exact ⟨a,c,e⟩
 obtain ⟨va,vc,rfl⟩:∃ a c,v=.slice a l.length c:=by obtain ⟨a,c,e,_⟩:=hl;exact ⟨a,c,e⟩
 have H131:=Lib.hid (f131_any hm w (Calm w col) (Calm w col) ws.sch (.slice va l.length vc) s l h.hC hl)
 rw [hsch] at c0 H131
 have H:=Lib.hid h
 have HL:=Lib.hid hl
 have hWlt:=cell_lt c0
 have hN:=hok.all
 obtain ⟨rb,hrb⟩:∃ b,rightB s l=b:=⟨_,rfl⟩
 rw [hrb] at H131
 unfold ptr
 clear h hl
 cases rb
 · rw [moreR,if_pos hrb]
   clear hrb hok
   go_enter Tryz.func53,Tryz.ntmps53
   go_wp2_with (first
    | (go_at_call 131;(with_reducible refine H131.out.mono ?_);rintro e w1 ⟨rfl,hb⟩;have HB:=Lib.hid hb;clear hb))
   go_ret
   exact ⟨rfl,col,ws,rfl,H.out.below HB.out,Went.below HB.out⟩
 · obtain ⟨hL,hT,hRW⟩:=right_facts hrb
   rcases idxI_lt (p:=fun x:SpM=>eqS x.name nm) (l:=m.splits) with hi | ⟨k,hlt,hi⟩
   · have hi':findI m.splits nm<0:=hi
     have HR:Hid (moreR s m nm l=(m,5)):=by show _=_;rw [moreR,hrb,if_neg (by simp),if_pos hi']
     have hvn:=valS_none (xb:=ws.xb) hi'
     have HVN:=Lib.hid hvn
     clear hi hi' hrb hok hvn
     go_enter Tryz.func53,Tryz.ntmps53
     go_wp2_with (first
      | (go_at_call 131;(with_reducible refine H131.out.mono ?_);rintro e w1 ⟨rfl,hb⟩
         have h1:=H.out.below hb
         obtain ⟨_,_,_,d3,_,_,_⟩:=h1.cells
         have hlk:=lookup_p w1 ws.mp ws.clock nm h1.ents h1.hM
         rw [HVN.out] at hlk
         have HB:=Lib.hid hb;clear hb h1))
     go_ret
     exact ⟨ret_int (by rw [HR.out]),col,ws,rfl,by rw [HR.out];exact H.out.below HB.out,Went.below HB.out⟩
   · have hi':findI m.splits nm=k:=hi
     have HR:Hid (moreR s m nm l=if m.splits[k].sealed=true then (m,10) else if 400<allN m.splits+l.length then (m,4) else (moreM m k m.splits[k] l,0)):=moreR_at hrb hlt hi'
     have hvn:=valS_some (xb:=ws.xb) hi'
     have HVN:=Lib.hid hvn
     obtain ⟨b,hs⟩:∃ b,m.splits[k].sealed=b:=⟨_,rfl⟩
     have HS0:=Lib.hid hs
     have hwr:IntKind.i64.wrap ((allN m.splits:Int)+(l.length:Int))=(allN m.splits:Int)+(l.length:Int):=wrapI (by omega)
     have HOK:=Lib.hid hok
     clear hi hi' hrb hvn hs hok
     cases b
     · by_cases hA:400<allN m.splits+l.length
       · have HR2:Hid (moreR s m nm l=(m,4)):=by show _=_;rw [HR.out,HS0.out,if_neg (by simp),if_pos hA]
         have gA:(400:Int)<(allN m.splits:Int)+(l.length:Int):=by omega
         clear HR
         go_enter Tryz.func53,Tryz.ntmps53
         go_wp2_with (first
          | (go_at_call 131;(with_reducible refine H131.out.mono ?_);rintro e w1 ⟨rfl,hb⟩
             have h1:=H.out.below hb
             obtain ⟨_,_,_,d3,_,_,_⟩:=h1.cells
             obtain ⟨spa,spc,espl⟩:=h1.splForm
             have hlk:=lookup_p w1 ws.mp ws.clock nm h1.ents h1.hM
             rw [HVN.out] at hlk
             obtain ⟨g,o,e1,e2,rfl,hg,x0,hev,hxb,x1,y1,y2,y3,y4,y5⟩:=h1.split espl hlt
             rw [HS0.out] at y4
             have H119:=Lib.hid (f119_any w1 col s ws m h1 HOK.out)
             unfold ptr at hlk H119
             have HB:=Lib.hid hb;clear hb h1 espl)
          | (go_at_call 119;(with_reducible refine H119.out.mono ?_);rintro e w2 ⟨rfl,rfl⟩))
         go_ret
         exact ⟨ret_int (by rw [HR2.out]),col,ws,rfl,by rw [HR2.out];exact H.out.below HB.out,Went.below HB.out⟩
       · have HR2:Hid (moreR s m nm l=(moreM m k m.splits[k] l,0)):=by show _=_;rw [HR.out,HS0.out,if_neg (by simp),if_neg hA]
         have gA:¬ (400:Int)<(allN m.splits:Int)+(l.length:Int):=by omega
         clear HR
         go_enter Tryz.func53,Tryz.ntmps53
         go_wp2_with (first
          | (go_at_call 131;(with_reducible refine H131.out.mono ?_);rintro e w1 ⟨rfl,hb⟩
             have h1:=H.out.below hb
             obtain ⟨_,_,_,d3,_,_,_⟩:=h1.cells
             obtain ⟨spa,spc,espl⟩:=h1.splForm
             have hlk:=lookup_p w1 ws.mp ws.clock nm h1.ents h1.hM
             rw [HVN.out] at hlk
             obtain ⟨g,o,e1,e2,rfl,hg,x0,hev,hxb,x1,y1,y2,y3,y4,y5⟩:=h1.split espl hlt
             rw [HS0.out] at y4
             have H119:=Lib.hid (f119_any w1 col s ws m h1 HOK.out)
             unfold ptr at hlk H119
             have H1:=Lib.hid h1;have HEV:=Lib.hid hev
             have HB:=Lib.hid hb;clear hb h1 espl hev)
          | (go_at_call 119;(with_reducible refine H119.out.mono ?_);rintro e w2 ⟨rfl,rfl⟩))
         obtain ⟨i0,hi0,hz0,hz1,hz2⟩:=info_parts info30
         have hEL:m.splits[k].evs.length≤400:=by
          have h1:=allN_take hlt
          have h2:=allN_le m.splits (k+1)
          omega
         have hX1:w1.heap[ws.xb k]? = some (.cells #[.string m.splits[k].name,.slice e1 m.splits[k].evs.length e2,.int .i64 m.splits[k].read,.pointer (some ⟨ws.gb k,0,none⟩),.bool false,.int .i64 m.splits[k].owner] 129 (0,0)):=by
          have:=H1.out.hX k hlt
          rw [HEV.out,HS0.out] at this
          exact this
         have HX1:=Lib.hid hX1
         have H62:=Lib.hid (fun (W:World) (hb:Below w1.heap.size w1 W)=>f62_any hm W (Calm w col) (.slice va l.length vc) l (HL.out.below (HB.out.trans (hb.mono HB.out.size))) hRW (by omega))
         obtain ⟨ps,hps,hown,hrows⟩:=H1.out.hE k hlt
         rw [HEV.out] at hown
         have HPS:=Lib.hid hps;have HOWN:=Lib.hid hown;have HROWS:=Lib.hid hrows
         have HC0:Hid (Below w1.heap.size w1 w1.drew):=(Below.refl w1.heap.size w1).drew
         clear hps hown hrows hX1 d3 hlk x0 x1 y1 y2 y3 y4 y5
         refine wp_region_float 6 2 (fun W=>W.heap[ws.xb k]? = some (.cells #[.string m.splits[k].name,.slice e1 m.splits[k].evs.length e2,.int .i64 m.splits[k].read,.pointer (some ⟨ws.gb k,0,none⟩),.bool false,.int .i64 m.splits[k].owner] 129 (0,0))) mixed (by kernel_rfl) HX1.out ?_
         simp only [List.take_succ_cons,List.take_zero,List.drop_succ_cons,List.drop_zero]
         repeat (
          refine wpFloat_ex (fun K hK=>?_)
          apply Exists.intro
          refine ⟨fun W hW=>?_,?_⟩
          · have e1':=cells_at hW 1
            clear hW
            go_simp
            rfl
          go_simp
          refine hK _ ?_
          clear hK K)
         refine wpFloat_nil ?_
         refine wpChain_step (fun K hK=>?_)
         go_simp
         go_at_call 62
         refine (H62.out _ HC0.out).mono ?_
         rintro e' w3 ⟨r,blk,rfl,ho⟩
         obtain ⟨ra,rn,rc,rfl⟩:∃ a n c,r=.slice a n c:=by obtain ⟨a,c,h⟩:=ho.own.form;exact ⟨a,_,c,h⟩
         have HO:=Lib.hid ho
         have hb3:Below w1.heap.size w1 w3:=HC0.out.trans ho.below
         have HB3:=Lib.hid hb3
         have hX3:=(hb3.block _ (heap_lt HX1.out)).trans HX1.out
         refine hK _ _ rfl (fun _=>hX3) ?_
         clear hK K hb3
         obtain ⟨qs,hqs,hqo,hqr⟩:=ho.own
         have hrn:rn=l.length:=by obtain ⟨a',c',e⟩:=hqo.form;injection e
         subst hrn
         have hown3:=HOWN.out.keep (w':=w3) fun g hg=>HB3.out.block g (HOWN.out.lt_of hg)
         have hqsrc:=hqo.src
         refine wpChain_step (fun K hK=>?_)
         refine wp_append_S (.tmp 44) (.tmp 46) 24 rfl 30 i0 _ 2 32 Tryz.underlying24 hi0 hz0 hz1 hz2 rfl (by omega) (.slice e1 m.splits[k].evs.length e2) m.splits[k].evs.length (evC ps) (ws.eb k) rfl hown3 (.slice ra l.length rc) l.length (evC qs) rfl hqsrc (evC_one hqr) (by simp only [maxLen];omega) (by omega) ?_
         intro v4 w4 blk4 hown4 hgrow hat
         obtain ⟨a4,c4,rfl⟩:=hown4.form
         have hebc:∀ b,ws.eb k=some b→b<w1.heap.size∧col b=8 * k+10:=fun b hb=>⟨HOWN.out.lt_of hb,H1.out.cE k b hlt hb⟩
         have hxbc:=H1.out.cX k hlt
         have hX4:=(hgrow.block (ws.xb k) (heap_lt hX3) (fun e=>by have:=hebc _ e.symm;omega)).trans hX3
         refine hK _ _ rfl (fun _=>hX4) ?_
         clear hK K
         have q1:=cells_at hX4 1
         have hf4:w4.frozen? ⟨ws.xb k,1,none⟩=false:=by simp [World.frozen?,hX4]
         have HX4:=Lib.hid hX4;have HGR:=Lib.hid hgrow;have HAT:=Lib.hid hat;have HO4:=Lib.hid hown4;have HQS:=Lib.hid hqs;have HQR:=Lib.hid hqr;have HEBC:=Lib.hid hebc;have HXBC:=Lib.hid hxbc
         clear hX4 hX3 hgrow hat hown4 hqs hqr hown3 hqsrc hqo ho hebc hxbc
         iterate 3 (
          refine wpChain_step (fun K hK=>?_)
          go_simp
          refine hK _ _ rfl (fun h=>by omega) ?_
          clear hK K)
         refine wpChain_nil ?_
         go_wp2_with fail
         go_ret
         have hz3:=HB3.out.size
         have hz4:=HGR.out.size
         have hnew:∀ b,blk4=some b→ws.eb k=some b∨b=w3.heap.size:=fun b hb=>by
          rcases HAT.out with e | e
          · exact .inl (e ▸ hb)
          · rw [hb] at e;injection e with e;exact .inr e
         have hkb:∀ b,b<w1.heap.size→b≠ws.xb k→ws.eb k≠some b→(w4.setCell ⟨ws.xb k,1,none⟩ (.slice a4 (m.splits[k].evs.length+l.length) c4)).heap[b]? = w1.heap[b]? := fun b h0 h1 h2 =>
          (heap_set_ne _ h1).trans ((HGR.out.block b (by omega) (fun e=>h2 e.symm)).trans (HB3.out.block b h0))
         have hz5:(w4.setCell ⟨ws.xb k,1,none⟩ (.slice a4 (m.splits[k].evs.length+l.length) c4)).heap.size=w4.heap.size:=by simp
         have hcl:∀ b,b<w1.heap.size→paint col blk4 (8 * k+10) b=col b:=fun b hb=>by
          unfold paint
          split
          · rename_i e
            rcases hnew b e with e' | e'
            · exact (HEBC.out b e').2.symm
            · omega
          · rfl
         have hone:Only (fun b=>b=ws.xb k∨ws.eb k=some b) w1 (w4.setCell ⟨ws.xb k,1,none⟩ (.slice a4 (m.splits[k].evs.length+l.length) c4)) :=
          ((Only.of_below HB3.out).grown HGR.out (fun q hq _=>.inr hq)).setCell (p:=⟨ws.xb k,1,none⟩) (fun _=>.inl rfl) _
         have hkept:Kept w1 (w4.setCell ⟨ws.xb k,1,none⟩ (.slice a4 (m.splits[k].evs.length+l.length) c4)) col (paint col blk4 (8 * k+10)) (fun c=>c=8 * k+8∨c=8 * k+10):=by
          refine ⟨hone.size,hcl,fun b hb hn=>hone.block b hb (fun e=>?_),fun b hb=>?_⟩
          · rcases e with e | e
            · exact hn (.inl (e ▸ HXBC.out))
            · exact hn (.inr (HEBC.out b e).2)
          · unfold paint at hb
            split at hb
            · rename_i e
              rcases hnew b e with e' | e'
              · have:=(HEBC.out b e').1;omega
              · have:=HO4.out.lt_of e;omega
            · have:=H1.out.c0 b hb;omega
         have hown5:=HO4.out.keep (w':=w4.setCell ⟨ws.xb k,1,none⟩ (.slice a4 (m.splits[k].evs.length+l.length) c4)) fun g hg=>heap_set_ne _ (by
          rintro rfl
          rcases hnew _ hg with e | e
          · have:=(HEBC.out _ e).2;have:=HXBC.out;omega
          · have:=heap_lt HX1.out;omega)
         have hevs:EvsOwn (w4.setCell ⟨ws.xb k,1,none⟩ (.slice a4 (m.splits[k].evs.length+l.length) c4)) (Calm (w4.setCell ⟨ws.xb k,1,none⟩ (.slice a4 (m.splits[k].evs.length+l.length) c4)) (paint col blk4 (8 * k+10))) (.slice a4 (m.splits[k].evs.length+l.length) c4) (m.splits[k].evs ++ l) blk4:=by
          refine ⟨ps ++ qs,by rw [List.map_append,HPS.out,HQS.out],by rw [evC_app,List.length_append];exact hown5,fun p hp=>?_⟩
          rcases List.mem_append.1 hp with hp | hp
          · exact hkept.rows (by omega) (HROWS.out p hp)
          · have hr3:=(HQR.out p hp)
            have hr4:=hr3.keep (w':=w4.setCell ⟨ws.xb k,1,none⟩ (.slice a4 (m.splits[k].evs.length+l.length) c4)) fun b hb hlt'=>(heap_set_ne _ (by
             rintro rfl
             have h1:=hb.1
             have h2:=heap_lt HX1.out
             have h3:w1.drew.heap.size=w1.heap.size:=rfl
             omega)).trans (HGR.out.block b hlt' (fun e=>by have h1:=hb.1;have h2:=(HEBC.out b e.symm).1;have h3:w1.drew.heap.size=w1.heap.size:=rfl;omega))
            refine hr4.mono fun b hb=>⟨by have h2:=hb.2.1;omega,?_⟩
            have h1:=hb.1
            have h3:w1.drew.heap.size=w1.heap.size:=rfl
            have hc:col b=0:=by
             rcases Nat.eq_zero_or_pos (col b) with e | e
             · exact e
             · have:=H1.out.c0 b (by omega);omega
            unfold paint
            split
            · rename_i e
              rcases hnew b e with e' | e'
              · have:=(HEBC.out b e').1;omega
              · have:=hb.2.1;omega
            · exact hc
         have hset:=H1.out.setEvs hlt hkept hevs (fun b hb=>by unfold paint;rw [if_pos hb]) (by simp [SpM.done,HS0.out]) (by
          have:=heap_set (j:=1) HX4.out (.slice a4 (m.splits[k].evs.length+l.length) c4)
          rw [HS0.out]
          simpa [ptr] using this)
         refine ⟨ret_int (by rw [HR2.out]),paint col blk4 (8 * k+10),{ ws with ev:=updF ws.ev k (.slice a4 (m.splits[k].evs.length+l.length) c4),eb:=updF ws.eb k blk4 },rfl,by rw [HR2.out];exact hset,?_⟩
         refine Went.trans (Went.below HB.out) ⟨hone.mono fun b _ e=>?_,hcl⟩
         rcases e with e | e
         · subst e;rw [HXBC.out];omega
         · rw [(HEBC.out b e).2];omega
     · have HR2:Hid (moreR s m nm l=(m,10)):=by show _=_;rw [HR.out,HS0.out,if_pos rfl]
       clear HR
       go_enter Tryz.func53,Tryz.ntmps53
       go_wp2_with (first
        | (go_at_call 131;(with_reducible refine H131.out.mono ?_);rintro e w1 ⟨rfl,hb⟩
           have h1:=H.out.below hb
           obtain ⟨_,_,_,d3,_,_,_⟩:=h1.cells
           obtain ⟨spa,spc,espl⟩:=h1.splForm
           have hlk:=lookup_p w1 ws.mp ws.clock nm h1.ents h1.hM
           rw [HVN.out] at hlk
           obtain ⟨g,o,e1,e2,rfl,hg,x0,hev,hxb,x1,y1,y2,y3,y4,y5⟩:=h1.split espl hlt
           rw [HS0.out] at y4
           unfold ptr at hlk
           have HB:=Lib.hid hb;clear hb h1 espl))
       go_ret
       exact ⟨ret_int (by rw [HR2.out]),col,ws,rfl,by rw [HR2.out];exact H.out.below HB.out,Went.below HB.out⟩
end leaves
theorem WAt.lateMore {w w9 w10:World} {col:Nat→Nat} {s:List Col} {ws:WS} {m:WlM} (H:WAt w col s ws m) {ps qs:List (Evt×Value)} {l:List Evt} {blk4:Option Nat} {v4:Value} (hps:ps.map Prod.fst=m.late) (hrows:∀ p ∈ ps,RowAt w (Calm w col) p.2 p.1.r)
 (hqs:qs.map Prod.fst=l) (hqr:∀ p ∈ qs,RowAt w9 (fun b=>w.heap.size≤b∧b<w9.heap.size) p.2 p.1.r) (hb:Below w.heap.size w w9) (hg:w9.grownBy w10 ws.lb) (hat:blk4=ws.lb∨blk4=some w9.heap.size)
 (ho:SlOwn w10 30 2 v4 (m.late.length+l.length) (evC ps ++ evC qs) blk4) :
 WAt (w10.setCell ⟨ws.W,6,none⟩ v4) (paint col blk4 5) s { ws with late:=v4,lb:=blk4 } { m with late:=m.late ++ l }∧Only (fun b=>b=ws.W∨ws.lb=some b) w (w10.setCell ⟨ws.W,6,none⟩ v4)∧∀ b,b<w.heap.size→paint col blk4 5 b=col b:=by
 have hz9:=hb.size
 have hz10:=hg.size
 have hWlt:=heap_lt H.hW
 have hLlt:∀ b,ws.lb=some b→b<w.heap.size:=fun b e=>H.c0 b (by rw [H.cL b e];omega)
 have hnew:∀ b,blk4=some b→ws.lb=some b∨b=w9.heap.size:=fun b hb=>by
  rcases hat with e | e
  · exact .inl (e ▸ hb)
  · rw [hb] at e;injection e with e;exact .inr e
 have hcl:∀ b,b<w.heap.size→paint col blk4 5 b=col b:=fun b hb=>by
  unfold paint
  split
  · rename_i e
    rcases hnew b e with e' | e'
    · exact (H.cL b e').symm
    · omega
  · rfl
 have hz5:(w10.setCell ⟨ws.W,6,none⟩ v4).heap.size=w10.heap.size:=by simp
 have hone:Only (fun b=>b=ws.W∨ws.lb=some b) w (w10.setCell ⟨ws.W,6,none⟩ v4) :=
  ((Only.of_below hb).grown hg (fun q hq _=>.inr hq)).setCell (p:=⟨ws.W,6,none⟩) (fun _=>.inl rfl) _
 have hkept:Kept w (w10.setCell ⟨ws.W,6,none⟩ v4) col (paint col blk4 5) (fun c=>c=1∨c=5):=by
  refine ⟨hone.size,hcl,fun b hb hn=>hone.block b hb (fun e=>?_),fun b hb=>?_⟩
  · rcases e with e | e
    · exact hn (.inl (e ▸ H.cW))
    · exact hn (.inr (H.cL b e))
  · unfold paint at hb
    split at hb
    · rename_i e
      have:=ho.lt_of e;omega
    · have:=H.c0 b hb;omega
 refine ⟨H.setLate hkept ⟨ps ++ qs,by rw [List.map_append,hps,hqs],?_,fun p hp=>?_⟩ (fun b hb=>by unfold paint;rw [if_pos hb]) ?_,hone,hcl⟩
 · rw [evC_app,List.length_append]
   exact ho.keep fun g hgg=>heap_set_ne _ (by
    rintro rfl
    rcases hnew _ hgg with e | e
    · have:=H.cL _ e;have:=H.cW;omega
    · omega)
 · rcases List.mem_append.1 hp with hp | hp
   · exact hkept.rows (by omega) (hrows p hp)
   · have hr4:=(hqr p hp).keep (w':=w10.setCell ⟨ws.W,6,none⟩ v4) fun b hb hlt'=>(heap_set_ne _ (by
      rintro rfl
      have h1:=hb.1
      omega)).trans (hg.block b hlt' (fun e=>by have h1:=hb.1;have h2:=hLlt b e.symm;omega))
     refine hr4.mono fun b hb=>⟨by have h2:=hb.2;omega,?_⟩
     have h1:=hb.1
     have hc:col b=0:=by
      rcases Nat.eq_zero_or_pos (col b) with e | e
      · exact e
      · have:=H.c0 b (by omega);omega
     unfold paint
     split
     · rename_i e
       rcases hnew b e with e' | e'
       · have:=hLlt b e';omega
       · have:=hb.2;omega
     · exact hc
 · have h1:=(hg.block ws.W (by omega) (fun e=>by have:=H.cL _ e.symm;have:=H.cW;omega)).trans ((hb.block _ hWlt).trans H.hW)
   simpa using heap_set (j:=6) h1 v4
theorem evts_box {w:World} {D:Nat→Prop} {b:Nat} {y:Evt} {rv:Value} (hb:w.heap[b]? = some (.cells #[.int .i64 y.t,rv] 30 (0,0))) (hD:D b) (hr:RowAt w D rv y.r):EvtsAt w D (.slice (some ⟨b,0,none⟩) 1 1) [y]:=by
 refine ⟨_,1,rfl,by simp,.inr ⟨b,0,rfl,hD,fun i hi=>?_⟩⟩
 have:i=0:=by simpa using hi
 subst this
 exact ⟨cells_at hb 0,rv,cells_at hb 1,hr⟩
theorem WAt.kept {w w':World} {col col':Nat→Nat} {s:List Col} {ws:WS} {m:WlM} (h:WAt w col s ws m) (k:Kept w w' col col' (fun c=>c=6∨c=7)):WAt w' col' s ws m :=
 ⟨k.new,k.colb h.cW (by omega) h.c0,fun b hb=>k.colb (h.cS b hb) (by omega) h.c0,k.colb h.cM (by omega) h.c0,fun b hb=>k.colb (h.cR b hb) (by omega) h.c0,fun b hb=>k.colb (h.cL b hb) (by omega) h.c0,
  fun q hq=>k.colb (h.cX q hq) (by omega) h.c0,fun q hq=>k.colb (h.cG q hq) (by omega) h.c0,fun q b hq hb=>k.colb (h.cE q b hq hb) (by omega) h.c0,fun q hq=>k.colb (h.cB q hq) (by omega) h.c0,fun q hq=>k.colb (h.cI q hq) (by omega) h.c0,
  k.obj h.hW h.cW (by omega),k.sch (by omega) h.hC,k.own (by omega) h.cS h.hS,k.own (by omega) h.cR h.hR,k.evs (by omega) (by omega) h.cL h.hL,
  fun q hq=>k.obj (h.hX q hq) (h.cX q hq) (by omega),fun q hq=>k.obj (h.hG q hq) (h.cG q hq) (by omega),fun q hq=>k.evs (by omega) (by omega) (fun b hb=>h.cE q b hq hb) (h.hE q hq),
  fun q hq=>k.obj (h.hB q hq) (h.cB q hq) (by omega),fun q hq=>k.obj (h.hI q hq) (h.cI q hq) (by omega),k.obj h.hM h.cM (by omega),h.hN⟩
theorem kept_paint {w w':World} {col:Nat→Nat} (h0:∀ b,col b≠0→b<w.heap.size) (hb:Below w.heap.size w w') {g:Nat} (hg:w.heap.size≤g) (hlt:g<w'.heap.size):Kept w w' col (paint col (some g) 6) (fun c=>c=6∨c=7) :=
 ⟨hb.size,fun b hb'=>by unfold paint;rw [if_neg (by intro e;injection e;omega)],fun b hb' _=>hb.block b hb',fun b hn=>by
  unfold paint at hn
  split at hn
  · rename_i e;injection e with e;omega
  · exact Nat.lt_of_lt_of_le (h0 b hn) hb.size⟩
theorem WOk.seen {m:WlM} (h:WOk m) {k:Nat} (hk:k<m.splits.length) (hlt:m.splits[k].read<m.splits[k].evs.length):WOk (m.setS k (seenS m.bound m.splits[k] (m.splits[k].evs[m.splits[k].read]).t)):=by
 have hx:=List.getElem_mem hk
 have hb:=h.bound
 have hg:=h.gauge m.splits[k] hx
 have ht:=h.time m.splits[k] hx _ (List.getElem_mem hlt)
 exact h.setS hk (x:=seenS m.bound m.splits[k] (m.splits[k].evs[m.splits[k].read]).t) (by have:=h.all;show allN m.splits+m.splits[k].evs.length≤_;omega) (by show m.splits[k].read+1≤m.splits[k].evs.length;omega) (h.owner m.splits[k] hx) (by show -1000000000000≤max _ _∧max _ _≤(1000000000001:Int);omega) (h.name m.splits[k] hx) (h.time m.splits[k] hx)
section leaves
set_option maxHeartbeats 1000000
set_option maxRecDepth 10000
theorem f82_hi (w:World) (col:Nat→Nat) (s:List Col) (ws:WS) (m:WlM) (r:Nat) (h:WAt w col s ws m) (hok:WOk m) (hr:r<m.marks.length) :
 Calls Tryz.prog 82 #[ptr ws.W,.int .i64 r] w fun e w'=>e=.returned (.tuple #[])∧WAt w' col s ws (risenM m r)∧Only (fun b=>8≤col b) w w':=by
 obtain ⟨a,c,e⟩:=h.splForm
 obtain ⟨a',c',e'⟩:=h.rdForm
 obtain ⟨_,_,c2,_,c4,c5,_⟩:=h.cells
 have hWs:=cell_lt c2
 rw [e] at c2
 rw [e'] at c4
 have H:=Lib.hid h
 have h50:=hok.splits
 have h16:=hok.hi
 have HG:=Lib.hid hok.gauge
 have HMK:=Lib.hid hok.marks
 obtain ⟨sl,hsl⟩:∃ b,m.sealed=b:=⟨_,rfl⟩
 rw [hsl] at c5
 have HSL:=Lib.hid hsl
 unfold ptr
 clear h hok hsl
 go_enter Tryz.func82,Tryz.ntmps82
 go_wp2_with fail
 go_loopw [4,5,18] (fun t u i wr=>∃ k:Nat,k≤m.splits.length∧i=.int .i64 k∧t=.int .i64 (riseN (m.splits.take k) sl r).1∧u=.bool (riseN (m.splits.take k) sl r).2∧Hid (Below w.heap.size w wr)) (fun _ _ i _=>m.splits.length - (intOf i).toNat)
 case atStart=>exact ⟨0,by omega,rfl,rfl,rfl,Lib.hid (Below.refl _ _)⟩
 case round =>
  obtain ⟨k,hk,rfl,rfl,rfl,hbr⟩:=hrel
  by_cases hlt:k<m.splits.length
  · have HW:=Lib.hid (H.out.below hbr.out)
    obtain ⟨g,o,e1,e2,rfl,hg,x0,hev,hxb,x1,y1,y2,y3,y4,y5⟩:=HW.out.split e hlt
    obtain ⟨_,_,_,_,_,c5',_⟩:=HW.out.cells
    rw [HSL.out] at c5'
    have H138:=Lib.hid (f138_any wr (ws.xb k) _ _ _ _ _ y1 y2 y4)
    have hgk:=HW.out.hG k hlt
    have HK:Hid (∀ w1,Below wr.heap.size wr w1→w1.cell? ⟨ws.xb k,3,none⟩=some (.pointer (some ⟨ws.gb k,0,none⟩))∧Calls Tryz.prog 150 #[.pointer (some ⟨ws.gb k,0,none⟩)] w1 fun e w'=>e=.returned (.int .i64 m.splits[k].mark)∧w1=w') :=
     fun w1 h=>⟨by rw [h.cell (p:=⟨ws.xb k,3,none⟩) hxb];exact y3,f150_any w1 (ws.gb k) _ (by rw [cells_at ((h.block _ (heap_lt hgk)).trans hgk)];rfl)⟩
    have hb0:=riseN_bound (l:=m.splits.take k) (sl:=sl) (r:=r) (fun x hx=>HG.out x (List.mem_of_mem_take hx))
    have hsu:sl=true→(riseN (m.splits.take k) sl r).2=true:=fun h=>riseN_sl h
    have HS:Hid (riseN (m.splits.take (k+1)) sl r=riseStep r ((riseN (m.splits.take k) sl r).1,(riseN (m.splits.take k) sl r).2) m.splits[k]):=riseN_take hlt
    generalize (riseN (m.splits.take k) sl r).1=T at *
    generalize (riseN (m.splits.take k) sl r).2=U at *
    obtain ⟨dn,hdn⟩:∃ b,m.splits[k].done=b:=⟨_,rfl⟩
    have hdn':(m.splits[k].sealed && ((m.splits[k].read:Int) == (m.splits[k].evs.length:Int)))=dn:=hdn
    rw [hdn'] at H138
    have HDN:=Lib.hid hdn
    unfold ptr at H138
    have hon:(m.splits[k].owner == r)=((m.splits[k].owner:Int) == (r:Int)):=by rw [Bool.eq_iff_iff];simp only [beq_iff_eq];omega
    clear hdn hdn' e y1 y2 y4 hev hgk
    cases ho:((m.splits[k].owner:Int) == (r:Int))
    · have HU:Hid (riseN (m.splits.take (k+1)) sl r=(T,U)):=by
       show _=_
       rw [HS.out,riseStep,hon,ho];rfl
      clear hon
      go_wp2_with fail
      go_roundw
      case rel=>exact ⟨k+1,by omega,by go_num,by rw [HU.out],by rw [HU.out],hbr⟩
      case measure=>simp [intOf];omega
    · have HU:Hid (riseN (m.splits.take (k+1)) sl r=if dn=true then (T,U) else (if m.splits[k].gauge<T then m.splits[k].gauge else T,true)):=by
       show _=_
       rw [HS.out,riseStep,hon,ho,HDN.out];cases dn <;> rfl
      have HM:Hid (m.splits[k].mark=if dn=true then 1000000000001 else m.splits[k].gauge):=by show m.splits[k].mark=_;rw [SpM.mark,HDN.out]
      clear hon HS
      generalize m.splits[k].mark=M at HK HM
      obtain ⟨z3,z4⟩:=HK.out wr (Below.refl _ _)
      have Z4:=Lib.hid z4
      clear z4
      cases sl
      · cases dn
        · go_wp2_with (first
           | (go_at_call 138;with_reducible refine H138.out.mono ?_;rintro e w1 ⟨rfl,hb1⟩;obtain ⟨z5,z6⟩:=HK.out w1 hb1;have Z6:=Lib.hid z6;have HB1:=Lib.hid hb1;clear hb1 z6)
           | (go_at_call 150;with_reducible refine Z6.out.mono ?_;rintro e w2 ⟨rfl,rfl⟩))
          go_roundw
          case rel=>exact ⟨k+1,by omega,by go_num,by rw [HU.out,HM.out];simp,by rw [HU.out];simp,Lib.hid (below_then hbr.out HB1.out)⟩
          case measure=>simp [intOf];omega
        · go_wp2_with (first
           | (go_at_call 138;with_reducible refine H138.out.mono ?_;rintro e w1 ⟨rfl,hb1⟩;have HB1:=Lib.hid hb1;clear hb1))
          go_roundw
          case rel=>exact ⟨k+1,by omega,by go_num,by rw [HU.out];simp,by rw [HU.out];simp,Lib.hid (below_then hbr.out HB1.out)⟩
          case measure=>simp [intOf];omega
      · obtain rfl:=hsu rfl
        go_wp2_with (first
         | (go_at_call 150;with_reducible refine Z4.out.mono ?_;rintro e w2 ⟨rfl,rfl⟩))
        go_roundw
        case rel =>
         refine ⟨k+1,by omega,by go_num,?_,?_,hbr⟩
         · rw [HU.out,HM.out]
           cases dn
           · simp
           · simp;omega
         · rw [HU.out];cases dn <;> simp
        case measure=>simp [intOf];omega
  · have hkl:k=m.splits.length:=by omega
    subst hkl
    rw [List.take_length]
    have HW:=Lib.hid (H.out.below hbr.out)
    obtain ⟨_,_,_,_,c4',_,_⟩:=HW.out.cells
    rw [e'] at c4'
    obtain ⟨g,o,rfl,hg,x0,x1⟩:=HW.out.reader e' hr
    have hb0:=riseN_bound (l:=m.splits) (sl:=sl) (r:=r) HG.out
    have HRM:Hid (risenM m r=if ((riseN m.splits sl r).2 && decide (m.marks[r]<(riseN m.splits sl r).1))=true then { m with marks:=m.marks.set r (riseN m.splits sl r).1 } else m):=by
     show risenM m r=_
     rw [risenM,HSL.out]
     simp [List.getD,hr]
    have hbb:=HW.out.hB r hr
    have hbi:=HW.out.hI r hr
    have hmm:=HMK.out _ (List.getElem_mem hr)
    have HA:Hid (Below wr.heap.size wr (wr.alloc (.cells #[.pointer (some ⟨ws.mb r,0,none⟩)] 104))):=(Below.refl _ _).alloc (Nat.le_refl _) _
    have a1:=(HA.out.block _ (heap_lt hbb)).trans hbb
    have a2:=(HA.out.block _ (heap_lt hbi)).trans hbi
    have a3:(wr.alloc (.cells #[.pointer (some ⟨ws.mb r,0,none⟩)] 104)).cell? ⟨ws.mb r,1,none⟩=some (.int .i64 m.marks[r]):=by rw [cells_at a1];rfl
    have H48:=Lib.hid (f48_any _ (ws.mb r) _ a3)
    have HW2:=Lib.hid (HW.out.below HA.out)
    have HBR:=Lib.hid (hbr.out.trans (HA.out.mono hbr.out.size))
    generalize (riseN m.splits sl r).1=T at *
    generalize (riseN m.splits sl r).2=U at *
    unfold ptr at x0 H48
    clear x1 a3 e hbb hbi
    cases U
    · go_wp2_with fail
      go_returns
      exact ⟨rfl,by rw [HRM.out];exact HW2.out,Only.of_below HBR.out⟩
    · by_cases hgt:m.marks[r]<T
      · have H81:=Lib.hid (f81_any _ (ws.mb r) (ws.ib r) _ T a1 a2 (by omega) (by omega) (by omega))
        unfold ptr at H81
        clear a1 a2
        go_wp2_with (first
         | (go_at_call 48;with_reducible refine H48.out.mono ?_;rintro e w2 ⟨rfl,rfl⟩)
         | (go_at_call 81;with_reducible refine H81.out.mono ?_;rintro e w2 ⟨rfl,ho,h1,h2⟩;have HO:=Lib.hid ho;have H1:=Lib.hid h1;have H2:=Lib.hid h2;clear ho h1 h2))
        go_returns
        refine ⟨rfl,?_,?_⟩
        · rw [HRM.out,if_pos (by simpa using hgt)]
          exact HW2.out.setMark hr T HO.out H1.out H2.out
        · exact (Only.of_below HBR.out).trans HO.out (fun x _ hx=>by rcases hx with rfl | rfl;rw [HW2.out.cB r hr];omega;rw [HW2.out.cI r hr];omega)
      · clear a1 a2
        go_wp2_with (first
         | (go_at_call 48;with_reducible refine H48.out.mono ?_;rintro e w2 ⟨rfl,rfl⟩))
        go_returns
        refine ⟨rfl,?_,Only.of_below HBR.out⟩
        rw [HRM.out,if_neg (by simpa using hgt)]
        exact HW2.out
end leaves
end Go.Proofs.YtimahogkcmmcnaaGreatDoor
