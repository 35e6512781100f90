/-
 The well, part 60: acts on both wells: the model, and what stays. No conditions but those stated.
-/
import Derived.Test.YtimahogkcmmcnaaGreatDoorL18
import Derived.Test.YtimahogkcmmcnaaGreatDoorL21
import Derived.Test.YtimahogkcmmcnaaGreatDoorL23
import Derived.Test.YtimahogkcmmcnaaGreatDoorL14
set_option linter.unusedSimpArgs false
set_option linter.unusedVariables false
namespace Go.Proofs.YtimahogkcmmcnaaGreatDoor
open Go.RowKit Go.Proofs.YtimahogkcmmcnaaGreatDoor.Cmps
def kindI (x:ActM):Int:=x.kind.tmod 10
def actR (s:List Col) (m:WlM) (x:ActM):WlM :=
 if kindI x=0 then (findR s m x.name x.evs).1 else if kindI x=1 then (moreR s m x.name x.evs).1 else if kindI x=2 then (sealR m x.name).1 else if kindI x=3 then (sealAllR m).1 else (readR m x.reader).1
structure Good (m:WlM):Prop where
 ok:WOk m
 row:WRow m
theorem findR_good {s:List Col} {m:WlM} {n:ByteArray} {l:List Evt} (h:Good m):Good (findR s m n l).1:=by
 unfold findR
 split
 · rename_i he
   have hsp:splitB s n l=true:=by
    cases hq:splitB s n l with
    | true=>rfl
    | false=>unfold findE at he;rw [hq,if_pos rfl] at he;omega
   have hbound:¬ (400<allN m.splits+l.length∨m.splits.length=50):=fun hh=>by
    unfold findE at he
    rw [hsp,if_neg (by simp)] at he
    split at he
    · omega
    · split at he
      · omega
      · simp [hh] at he
   obtain ⟨h1,h2⟩:=split_facts hsp
   obtain ⟨r1,r2,r3⟩:=right_facts h2
   exact ⟨h.ok.find n l (by have:=h.ok.splits;omega) (by omega) h1 r2,h.row.find n r3⟩
 · exact h
theorem moreR_good {s:List Col} {m:WlM} {n:ByteArray} {l:List Evt} (h:Good m):Good (moreR s m n l).1:=by
 unfold moreR
 split
 · exact h
 · rename_i hr
   split
   · exact h
   · split
     · exact h
     · rename_i x hx
       split
       · exact h
       · split
         · exact h
         · rename_i ha
           obtain ⟨r1,r2,r3⟩:=right_facts (by simpa using hr)
           obtain ⟨hk,e⟩:=List.getElem?_eq_some_iff.1 hx
           subst e
           exact ⟨h.ok.more hk (by omega) r2,h.row.more hk r3⟩
theorem sealR_good {m:WlM} {n:ByteArray} (h:Good m):Good (sealR m n).1:=by
 unfold sealR
 split
 · exact h
 · split
   · exact h
   · rename_i x hx
     split
     · exact h
     · obtain ⟨hk,e⟩:=List.getElem?_eq_some_iff.1 hx
       subst e
       exact ⟨h.ok.sealOne hk,h.row.sealOne hk⟩
theorem sealAllR_good {m:WlM} (h:Good m):Good (sealAllR m).1:=by
 unfold sealAllR
 split
 · exact h
 · exact ⟨h.ok.sealAll,h.row.sealAll⟩
theorem readR_good {m:WlM} {r:Int} (h:Good m):Good (readR m r).1:=by
 unfold readR
 split
 · exact h
 · split
   · exact h
   · rename_i p hp
     split
     · exact h
     · rename_i x hx
       split
       · exact h
       · rename_i y hy
         obtain ⟨hk,e⟩:=List.getElem?_eq_some_iff.1 hx
         subst e
         obtain ⟨hlt,e⟩:=List.getElem?_eq_some_iff.1 hy
         subst e
         exact ⟨h.ok.readOne hk hlt _,h.row.readOne hk hlt _⟩
theorem actR_good {s:List Col} {m:WlM} {x:ActM} (h:Good m):Good (actR s m x):=by
 unfold actR
 split
 · exact findR_good h
 · split
   · exact moreR_good h
   · split
     · exact sealR_good h
     · split
       · exact sealAllR_good h
       · exact readR_good h
def Mute (w:World) (b:Nat):Prop:=∃ cs t fr,w.heap[b]? = some (.cells cs t fr)∧∀ (i:Nat) (x:ByteArray),cs[i]?≠some (Value.string x)
theorem Mute.no {w:World} {b o:Nat} {x:ByteArray} (h:Mute w b):w.cell? ⟨b,o,none⟩≠some (Value.string x):=by
 obtain ⟨cs,t,fr,hb,hn⟩:=h
 rw [cell_of_row w b o cs t fr hb]
 exact hn o x
theorem RowAt.mute {w:World} {D:Nat→Prop} {v:Value} {l:List Val} {b:Nat} (h:RowAt w D v l) (hm:Mute w b):RowAt w (fun x=>D x∧x≠b) v l:=by
 obtain ⟨a,cap,rfl,hl,hx⟩:=h
 refine ⟨a,cap,rfl,hl,?_⟩
 rcases hx with rfl | ⟨g,o,rfl,hD,hc⟩
 · exact .inl rfl
 · by_cases h0:l.length=0
   · exact .inl (List.eq_nil_of_length_eq_zero h0)
   · exact .inr ⟨g,o,rfl,⟨hD,fun e=>by subst e;exact hm.no (hc 0 (by omega)).2.2⟩,hc⟩
theorem SchemaAt.mute {w:World} {D:Nat→Prop} {v:Value} {l:List Col} {b:Nat} (h:SchemaAt w D v l) (hm:Mute w b):SchemaAt w (fun x=>D x∧x≠b) v l:=by
 obtain ⟨a,cap,rfl,h1,h2,h3,hx⟩:=h
 refine ⟨a,cap,rfl,h1,h2,h3,?_⟩
 rcases hx with rfl | ⟨g,o,rfl,hD,hc⟩
 · exact .inl rfl
 · by_cases h0:l.length=0
   · exact .inl (List.eq_nil_of_length_eq_zero h0)
   · exact .inr ⟨g,o,rfl,⟨hD,fun e=>by subst e;exact hm.no (hc 0 (by omega)).1⟩,hc⟩
theorem EvsOwn.mute {w:World} {D:Nat→Prop} {v:Value} {l:List Evt} {blk:Option Nat} {b:Nat} (h:EvsOwn w D v l blk) (hm:Mute w b):EvsOwn w (fun x=>D x∧x≠b) v l blk:=by
 obtain ⟨ps,e,ho,hr⟩:=h
 exact ⟨ps,e,ho,fun p hp=>(hr p hp).mute hm⟩
theorem WAt.aside {w:World} {col:Nat→Nat} {s:List Col} {ws:WS} {m:WlM} {b:Nat} (h:WAt w col s ws m) (hm:Mute w b) (h0:col b=0) (hb:b<w.heap.size):WAt w (paint col (some b) 6) s ws m:=by
 have hp:∀ x,x≠b→paint col (some b) 6 x=col x:=fun x hx=>by unfold paint;rw [if_neg (by intro e;injection e with e;exact hx e.symm)]
 have hc:∀ x,Calm w col x∧x≠b→Calm w (paint col (some b) 6) x:=fun x hx=>⟨hx.1.1,(hp x hx.2).trans hx.1.2⟩
 have hq:∀ {x c:Nat},col x=c→c≠0→paint col (some b) 6 x=c:=fun {x c} hx hc=>(hp x (fun e=>by subst e;omega)).trans hx
 exact ⟨fun x hx=>by
  by_cases e:x=b
  · subst e;exact hb
  · rw [hp x e] at hx;exact h.c0 x hx,
  hq h.cW (by omega),fun x hx=>hq (h.cS x hx) (by omega),hq h.cM (by omega),fun x hx=>hq (h.cR x hx) (by omega),fun x hx=>hq (h.cL x hx) (by omega),
  fun k hk=>hq (h.cX k hk) (by omega),fun k hk=>hq (h.cG k hk) (by omega),fun k x hk hx=>hq (h.cE k x hk hx) (by omega),fun k hk=>hq (h.cB k hk) (by omega),fun k hk=>hq (h.cI k hk) (by omega),
  h.hW,(h.hC.mute hm).mono hc,h.hS,h.hR,(h.hL.mute hm).mono hc,h.hX,h.hG,fun k hk=>((h.hE k hk).mute hm).mono hc,h.hB,h.hI,h.hM,h.hN⟩
theorem mute45 {w:World} {b:Nat} (h:w.heap[b]? = some (.cells #[.slice none 0 0,.int .i64 0,.slice none 0 0,.slice none 0 0,.bool false,.slice none 0 0] 45 (0,0))):Mute w b:=by
 refine ⟨_,_,_,h,fun i x hx=>?_⟩
 match i,hx with
 | 0,hx=>cases hx
 | 1,hx=>cases hx
 | 2,hx=>cases hx
 | 3,hx=>cases hx
 | 4,hx=>cases hx
 | 5,hx=>cases hx
 | n+6,hx=>cases hx
def DidTo (w:World) (col:Nat→Nat) (D:Nat→Prop) (s:List Col) (W:Nat) (m':WlM) (p':RS) (w':World):Prop :=
 ∃ col' ws',ws'.W=W∧WAt w' col' s ws' m'∧RefAt w' (fun x=>Calm w' col' x∧(D x∨w.heap.size≤x)) s m' p'∧Went w w' col col'
theorem did_end {w w7 w8:World} {col col7:Nat→Nat} {s:List Col} {ws7:WS} {m':WlM} {p':RS} {D D7:Nat→Prop} {b6:Nat} (hw:WAt w7 col7 s ws7 m') (hr:RefAt w7 D7 s m' p')
 (hD:∀ b,D7 b→b<w7.heap.size∧col7 b=0∧b≠b6∧(D b∨w.heap.size≤b)) (h6:w7.heap[b6]? = some (.cells #[.slice none 0 0,.int .i64 0,.slice none 0 0,.slice none 0 0,.bool false,.slice none 0 0] 45 (0,0))) (h60:col7 b6=0)
 (hwent:Went w w7 col col7) (hb6:w.heap.size≤b6) (ho:Only (fun x=>x=b6) w7 w8):DidTo w col D s ws7.W m' p' w8:=by
 have hlt:=heap_lt h6
 have ha:=hw.aside (mute45 h6) h60 hlt
 have hk:Kept w7 w8 (paint col7 (some b6) 6) (paint col7 (some b6) 6) (fun c=>c=6∨c=7):=by
  refine Kept.of_only (ho.mono fun x hx e=>?_) ha.c0
  subst e
  left;unfold paint;rw [if_pos rfl]
 refine ⟨paint col7 (some b6) 6,ws7,rfl,ha.kept hk,?_,?_,?_⟩
 · refine (hr.keep (w':=w8) fun x hx hl=>ho.block x hl (hD x hx).2.2.1).mono fun x hx=>?_
   obtain ⟨h1,h2,h3,h4⟩:=hD x hx
   refine ⟨⟨Nat.lt_of_lt_of_le h1 ho.size,?_⟩,h4⟩
   unfold paint;rw [if_neg (by intro e;injection e with e;exact h3 e.symm)];exact h2
 · exact hwent.only.trans ho (fun x hx e=>by omega)
 · intro x hx
   unfold paint;rw [if_neg (by intro e;injection e with e;omega)]
   exact hwent.colE x hx
end Go.Proofs.YtimahogkcmmcnaaGreatDoor
