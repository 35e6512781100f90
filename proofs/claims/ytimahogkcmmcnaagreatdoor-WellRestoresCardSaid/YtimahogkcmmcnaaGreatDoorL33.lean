/-
 The well, part 71: reading noted; what holds between two acts of the law WellOnce. If the wells and the noted marks lie in the world as the words say.
-/
import Derived.Test.YtimahogkcmmcnaaGreatDoorL29
import Derived.Test.YtimahogkcmmcnaaGreatDoorL32
set_option linter.unusedSimpArgs false
set_option linter.unusedVariables false
namespace Go.Proofs.YtimahogkcmmcnaaGreatDoor
open Go.RowKit Go.Proofs.YtimahogkcmmcnaaGreatDoor.Cmps
structure OnceSt (w0 wr:World) (gs bm W n:Nat) (s:List Col) (col:Nat→Nat) (ws:WS) (m:WlM) (p:RS) (bx:Array Value) (mk:List Int):Prop where
 hW:ws.W=W
 wat:WAt wr col s ws m
 ref:RefAt wr (fun x=>Calm wr col x∧x≠gs∧x≠bm) s m p
 good:Good m
 uniq:Uniq m
 box:wr.heap[gs]? = some (.cells bx 45 (0,0))
 mute:Mute wr gs
 ints:IntsB wr bm mk
 len:mk.length=n
 num:m.marks.length=n
 below:Below w0.heap.size w0 wr
 c0:∀ x,x<w0.heap.size→col x=0
 cg:col gs=0
 cm:col bm=0
 ne:gs≠bm
 og:w0.heap.size≤gs
 om:w0.heap.size≤bm
section once
variable {w0 wr W' : World} {gs bm W n : Nat} {s : List Col} {col : Nat → Nat} {ws : WS} {m : WlM} {p : RS} {bx : Array Value} {mk : List Int}
theorem OnceSt.lt (h:OnceSt w0 wr gs bm W n s col ws m p bx mk):gs<wr.heap.size∧bm<wr.heap.size:=⟨heap_lt h.box,heap_lt h.ints⟩
theorem Mute.keep {w w':World} {b:Nat} (h:Mute w b) (e:w'.heap[b]? = w.heap[b]?):Mute w' b:=by
 obtain ⟨cs,t,fr,h1,h2⟩:=h
 exact ⟨cs,t,fr,e.trans h1,h2⟩
theorem OnceSt.to (h:OnceSt w0 wr gs bm W n s col ws m p bx mk) (hb:Below wr.heap.size wr W'):OnceSt w0 W' gs bm W n s col ws m p bx mk:=by
 obtain ⟨hg,hi⟩:=h.lt
 exact ⟨h.hW,h.wat.below hb,(h.ref.below hb).mono fun x hx=>⟨⟨Nat.lt_of_lt_of_le hx.1.1 hb.size,hx.1.2⟩,hx.2⟩,h.good,h.uniq,(hb.block _ hg).trans h.box,h.mute.keep (hb.block _ hg),(hb.block _ hi).trans h.ints,h.len,h.num,h.below.trans (hb.mono h.below.size),h.c0,h.cg,h.cm,h.ne,h.og,h.om⟩
theorem OnceSt.form (h:OnceSt w0 wr gs bm W n s col ws m p bx mk):∃ (sha sa ma ba:Option Addr) (shc sc mc bc:Nat),p=⟨.slice sha s.length shc,(sa,sc),(ma,mc),.slice ba m.late.length bc⟩:=by
 obtain ⟨sch,⟨sa,sc⟩,⟨ma,mc⟩,back⟩:=p
 obtain ⟨sha,shc,rfl⟩:∃ a c,sch=.slice a s.length c:=by obtain ⟨a,c,e,_⟩:=h.ref.sch;exact ⟨a,c,e⟩
 obtain ⟨ba,bc,rfl⟩:∃ a c,back=.slice a m.late.length c:=by obtain ⟨a,c,e,_⟩:=h.ref.back;exact ⟨a,c,e⟩
 exact ⟨sha,sa,ma,ba,shc,sc,mc,bc,rfl⟩
theorem OnceSt.did (h:OnceSt w0 wr gs bm W n s col ws m p bx mk) {m':WlM} {p':RS} {w5:World} (hd:DidTo wr col (fun x=>Calm wr col x∧x≠gs∧x≠bm) s W m' p' w5) (hl:Later m m') (hu:Uniq m') (hg:Good m') :
 ∃ col' ws',OnceSt w0 w5 gs bm W n s col' ws' m' p' bx mk:=by
 obtain ⟨col',ws',e,hwa,hra,hwent⟩:=hd
 obtain ⟨h1,h2⟩:=h.lt
 have hz:=h.below.size
 have hbl:∀ y,y<wr.heap.size→col y=0→w5.heap[y]? = wr.heap[y]? := fun y hy h0=>hwent.only.block y hy (fun hn=>hn h0)
 refine ⟨col',ws',e,hwa,hra.mono fun x hx=>⟨hx.1,?_,?_⟩,hg,hu,(hbl _ h1 h.cg).trans h.box,h.mute.keep (hbl _ h1 h.cg),(hbl _ h2 h.cm).trans h.ints,h.len,hl.len.trans h.num,?_,fun x hx=>(hwent.colE x (by omega)).trans (h.c0 x hx),(hwent.colE _ h1).trans h.cg,(hwent.colE _ h2).trans h.cm,h.ne,h.og,h.om⟩
 · rcases hx.2 with hx | hx
   · exact hx.2.1
   · omega
 · rcases hx.2 with hx | hx
   · exact hx.2.2
   · omega
 · exact h.below.trans (hwent.only.below hz fun x hx=>by
    by_cases hq:w0.heap.size≤x
    · exact hq
    · exact absurd (h.c0 x (by omega)) hx)
theorem OnceSt.fill (h:OnceSt w0 wr gs bm W n s col ws m p bx mk) {a b c d e f:Value} (hb:wr.heap[gs]? = some (.cells #[a,b,c,d,e,f] 45 (0,0))) {a1 a2 a3 a4:Option Addr} {n1 n2 n3 n4 c1 c2 c3 c4:Nat} {i:Int} {q:Bool} :
 OnceSt w0 (fill45 wr gs (.slice a1 n1 c1) (.int .i64 i) (.slice a2 n2 c2) (.slice a3 n3 c3) (.bool q) (.slice a4 n4 c4)) gs bm W n s col ws m p #[.slice a1 n1 c1,.int .i64 i,.slice a2 n2 c2,.slice a3 n3 c3,.bool q,.slice a4 n4 c4] mk:=by
 obtain ⟨h1,h2⟩:=h.lt
 have o:Only (fun y=>y=gs) wr (fill45 wr gs (.slice a1 n1 c1) (.int .i64 i) (.slice a2 n2 c2) (.slice a3 n3 c3) (.bool q) (.slice a4 n4 c4)):=(Only.refl (fun y=>y=gs) wr).fill (g:=gs) (fun _=>rfl) _ _ _ _ _ _
 have hbx:=box45_fill (w:=wr) (g:=gs) hb (.slice a1 n1 c1) (.int .i64 i) (.slice a2 n2 c2) (.slice a3 n3 c3) (.bool q) (.slice a4 n4 c4)
 have hog:=h.og
 exact ⟨h.hW,h.wat.turn h.mute h.cg h1 o,(h.ref.keep fun y hy hl=>o.block y hl hy.2.1).mono fun y hy=>⟨⟨Nat.lt_of_lt_of_le hy.1.1 o.size,hy.1.2⟩,hy.2⟩,h.good,h.uniq,hbx,mute45v hbx,(o.block _ h2 (fun e=>h.ne e.symm)).trans h.ints,h.len,h.num,h.below.trans (o.below h.below.size (fun y hy=>by omega)),h.c0,h.cg,h.cm,h.ne,h.og,h.om⟩
theorem OnceSt.noted (h:OnceSt w0 wr gs bm W n s col ws m p bx mk) {mk':List Int} (hl:mk'.length=n) (hi:IntsB W' bm mk') (o:Only (fun x=>x=bm) wr W'):OnceSt w0 W' gs bm W n s col ws m p bx mk':=by
 obtain ⟨h1,h2⟩:=h.lt
 have hom:=h.om
 exact ⟨h.hW,h.wat.turn h.ints.mute h.cm h2 o,(h.ref.keep fun y hy hl=>o.block y hl hy.2.2).mono fun y hy=>⟨⟨Nat.lt_of_lt_of_le hy.1.1 o.size,hy.1.2⟩,hy.2⟩,h.good,h.uniq,(o.block _ h1 h.ne).trans h.box,h.mute.keep (o.block _ h1 h.ne),hi,hl,h.num,h.below.trans (o.below h.below.size (fun y hy=>by omega)),h.c0,h.cg,h.cm,h.ne,h.og,h.om⟩
theorem ints_made (w:World) (n:Nat):IntsB (w.alloc (.cells (madeCells #[.int .i64 0] n) 3)) w.heap.size (List.replicate n 0):=by
 have h:madeCells #[Value.int .i64 0] n=((List.replicate n (0:Int)).map (Value.int .i64)).toArray:=by
  apply Array.ext
  · simp [size_madeCells]
  · intro i h1 h2
    simp [madeCells,Nat.mod_one]
 unfold IntsB
 rw [← h]
 exact heap_alloc_new w _
end once
end Go.Proofs.YtimahogkcmmcnaaGreatDoor
