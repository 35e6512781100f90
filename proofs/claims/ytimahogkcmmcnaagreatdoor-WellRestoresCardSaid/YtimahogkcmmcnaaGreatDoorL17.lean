/-
 The well, part 54: a plan of one source, first leaves. If none but those stated.
-/
import Derived.Test.YtimahogkcmmcnaaGreatDoorL16
import Derived.Test.YtimahogkcmmcnaaGreatDoorL13
import Derived.Laws.EntriesVeiled
import Derived.Deep.WholeRow
import Derived.OwnWalk
set_option linter.unusedSimpArgs false
set_option linter.unusedVariables false
namespace Go.Proofs.YtimahogkcmmcnaaGreatDoor
open Go.RowKit Go.Proofs.YtimahogkcmmcnaaGreatDoor.Cmps
abbrev srcV (sch:Value) (bound:Int):Value:=.agg #[.int .i64 1,.string ⟨#[115]⟩,.slice none 0 0,sch,.int .i64 bound,.string ⟨#[]⟩,.slice none 0 0,.slice none 0 0,.slice none 0 0,.int .i64 0,.int .i64 0,.int .i64 0,.int .i64 0,.int .i64 0,.slice none 0 0,.slice none 0 0,.int .i64 0,.int .i64 0,.slice none 0 0,.bool false,.int .i64 0,.int .i64 0,.slice none 0 0,.int .i64 0,.int .i64 0]
section leaves
set_option maxHeartbeats 2000000
set_option maxRecDepth 10000
theorem f215_one (w:World):Calls Tryz.prog 215 #[.int .i64 1] w fun e w'=>e=.returned (.tuple #[.int .i64 0,.int .i64 0])∧w=w':=by
 go_enter Tryz.func215,Tryz.ntmps215
 go_wp2_with fail
 go_ret2
 exact ⟨rfl,rfl⟩
theorem f276_any (w:World) (n:Int):Calls Tryz.prog 276 #[.int .i64 n] w fun e w'=>e=.returned (.bool (n != 0))∧w=w':=by
 go_enter Tryz.func276,Tryz.ntmps276
 go_wp2_with fail
 go_ret
 exact ⟨rfl,rfl⟩
theorem f277_nil (w:World) (f:Value):Calls Tryz.prog 277 #[.slice none 0 0,f] w fun e w'=>e=.returned (.int .i64 (-1))∧w=w':=by
 go_enter Tryz.func277,Tryz.ntmps277
 go_wp2_with fail
 go_loopw [8] (fun i wr=>i=.int .i64 0∧wr=w) (fun _ _=>0)
 case atStart=>exact ⟨rfl,rfl⟩
 case round =>
  obtain ⟨rfl,rfl⟩:=hrel
  go_wp2_with fail
  go_ret
  exact ⟨rfl,rfl⟩
theorem f219_nil (w:World) (f:Value):Calls Tryz.prog 219 #[.slice none 0 0,f] w fun e w'=>e=.returned (.bool false)∧w=w':=by
 have H:=Lib.hid (f277_nil w f)
 go_enter Tryz.func219,Tryz.ntmps219
 go_wp2_with (go_at_call 277;(with_reducible refine H.out.mono ?_);rintro e w1 ⟨rfl,rfl⟩)
 go_ret
 exact ⟨rfl,rfl⟩
theorem f275_nil (w:World) (f:Value):Calls Tryz.prog 275 #[.slice none 0 0,f] w fun e w'=>e=.returned (.int .i64 (-1))∧w=w':=by
 go_enter Tryz.func275,Tryz.ntmps275
 go_wp2_with fail
 go_loopw [8] (fun i wr=>i=.int .i64 0∧wr=w) (fun _ _=>0)
 case atStart=>exact ⟨rfl,rfl⟩
 case round =>
  obtain ⟨rfl,rfl⟩:=hrel
  go_wp2_with fail
  go_ret
  exact ⟨rfl,rfl⟩
theorem f216_nil (w:World) (f:Value):Calls Tryz.prog 216 #[.slice none 0 0,f] w fun e w'=>e=.returned (.bool false)∧w=w':=by
 have H:=Lib.hid (f275_nil w f)
 go_enter Tryz.func216,Tryz.ntmps216
 go_wp2_with (go_at_call 275;(with_reducible refine H.out.mono ?_);rintro e w1 ⟨rfl,rfl⟩)
 go_ret
 exact ⟨rfl,rfl⟩
theorem f277_zeros (w:World) (b n:Nat) (hn:n≤100) (h:∀ i,i<n→w.cell? ⟨b,i,none⟩=some (.int .i64 0)):Calls Tryz.prog 277 #[.slice (some ⟨b,0,none⟩) n n,.func (.func 276) #[] #[]] w fun e w'=>e=.returned (.int .i64 (-1))∧w=w':=by
 have H:=Lib.hid (f276_any w 0)
 have HC:=Lib.hid h
 clear h
 go_enter Tryz.func277,Tryz.ntmps277
 go_wp2_with fail
 go_loopw [8] (fun i wr=>∃ k:Nat,k≤n∧i=.int .i64 k∧wr=w) (fun i _=>n - (intOf i).toNat)
 case atStart=>exact ⟨0,by omega,rfl,rfl⟩
 case round =>
  obtain ⟨k,hk,rfl,rfl⟩:=hrel
  by_cases hlt:k<n
  · have c0:=HC.out k hlt
    have h1:(k:Int)<(n:Int):=by omega
    have h0:(0:Int)≤(k:Int):=by omega
    go_wp2_with (go_at_call 276;(with_reducible refine H.out.mono ?_);rintro e w1 ⟨rfl,rfl⟩)
    go_roundw
    case rel=>exact ⟨k+1,by omega,by go_num,trivial⟩
    case measure=>simp [intOf];omega
  · have h1:¬ (k:Int)<(n:Int):=by omega
    go_wp2_with fail
    go_ret
    exact ⟨rfl,rfl⟩
theorem f219_zeros (w:World) (b n:Nat) (hn:n≤100) (h:∀ i,i<n→w.cell? ⟨b,i,none⟩=some (.int .i64 0)):Calls Tryz.prog 219 #[.slice (some ⟨b,0,none⟩) n n,.func (.func 276) #[] #[]] w fun e w'=>e=.returned (.bool false)∧w=w':=by
 have H:=Lib.hid (f277_zeros w b n hn h)
 clear h
 go_enter Tryz.func219,Tryz.ntmps219
 go_wp2_with (go_at_call 277;(with_reducible refine H.out.mono ?_);rintro e w1 ⟨rfl,rfl⟩)
 go_ret
 exact ⟨rfl,rfl⟩
theorem f278_any (w:World) (t:Value) (a:Option Addr) (n c:Nat) (bound:Int):Calls Tryz.prog 278 #[t,srcV (.slice a n c) bound] w fun e w'=>e=.returned (if (0≤bound∧bound≤1000000000) then .tuple #[.slice a n c,.int .i64 0] else .tuple #[.slice none 0 0,.int .i64 11])∧Below w.heap.size w w':=by
 by_cases h1:bound<0
 · rw [if_neg (by omega)]
   unfold srcV
   go_enter Tryz.func278,Tryz.ntmps278
   go_wp2_with fail
   go_ret2
   exact ⟨rfl,(Below.refl _ _).alloc (Nat.le_refl _) _⟩
 · by_cases h2:1000000000<bound
   · rw [if_neg (by omega)]
     unfold srcV
     go_enter Tryz.func278,Tryz.ntmps278
     go_wp2_with fail
     go_ret2
     exact ⟨rfl,(Below.refl _ _).alloc (Nat.le_refl _) _⟩
   · rw [if_pos (by omega)]
     unfold srcV
     go_enter Tryz.func278,Tryz.ntmps278
     go_wp2_with fail
     go_ret2
     exact ⟨rfl,(Below.refl _ _).alloc (Nat.le_refl _) _⟩
theorem zeros7 (w:World) (x:Obj):∀ i,i<7→((w.alloc x).alloc (.cells #[.int .i64 0,.int .i64 0,.int .i64 0,.int .i64 0,.int .i64 0,.int .i64 0,.int .i64 0] 3)).cell? ⟨w.heap.size+1,i,none⟩=some (.int .i64 0):=by
 intro i hi
 have h:((w.alloc x).alloc (.cells #[.int .i64 0,.int .i64 0,.int .i64 0,.int .i64 0,.int .i64 0,.int .i64 0,.int .i64 0] 3)).heap[w.heap.size+1]? = some (.cells #[.int .i64 0,.int .i64 0,.int .i64 0,.int .i64 0,.int .i64 0,.int .i64 0,.int .i64 0] 3 (0,0)):=by simpa using heap_alloc_new (w.alloc x) (.cells #[.int .i64 0,.int .i64 0,.int .i64 0,.int .i64 0,.int .i64 0,.int .i64 0,.int .i64 0] 3)
 rw [cells_at h i]
 match i,hi with
 | 0,_=>rfl
 | 1,_=>rfl
 | 2,_=>rfl
 | 3,_=>rfl
 | 4,_=>rfl
 | 5,_=>rfl
 | 6,_=>rfl
theorem f218_any (w:World) (a:Option Addr) (n c:Nat) (bound:Int):Calls Tryz.prog 218 #[srcV (.slice a n c) bound] w fun e w'=>e=.returned (.bool false)∧Below w.heap.size w w':=by
 have HZ:=Lib.hid (fun x=>f219_zeros _ (w.heap.size+1) 7 (by omega) (zeros7 w x))
 have HB:Hid (∀ x y,Below w.heap.size w ((w.alloc x).alloc y)):=fun x y=>((Below.refl _ _).alloc (Nat.le_refl _) _).alloc (by simp) _
 unfold srcV
 go_enter Tryz.func218,Tryz.ntmps218
 go_wp2_with (go_at_call 219;(with_reducible refine (HZ.out _).mono ?_);rintro e w1 ⟨rfl,rfl⟩)
 go_ret
 exact ⟨rfl,HB.out _ _⟩
end leaves
theorem size297:(Tryz.prog.info? 297).map (·.size)=some 11:=by kernel_rfl
abbrev shapesC:Array Value:=#[.nilFunc,.func (.func 278) #[] #[],.func (.func 279) #[] #[],.func (.func 280) #[] #[],.func (.func 281) #[] #[],.func (.func 282) #[] #[],.func (.func 283) #[] #[],.func (.func 284) #[] #[],.func (.func 285) #[] #[],.func (.func 286) #[] #[],.func (.func 287) #[] #[]]
theorem ret297 {fn:Func} {p:Tmp} (h:fn.results=#[.cell p 297]) (tmps:Array Value) (w:World) (g:Nat) (hg:w.heap[g]? = some (.cells shapesC 297 (0,0))) (hp:tmps.getD p undef=.pointer (some ⟨g,0,none⟩)) :
 (results fn tmps).run Tryz.prog w=.ok (.agg shapesC) w:=by
 have hl:=run_loadVar_row (P:=Tryz.prog) w g 297 297 shapesC (0,0) _ hg Tryz.underlying297 rfl size297
 have hp':tmps[p]?.getD undef=.pointer (some ⟨g,0,none⟩):=by simpa using hp
 simp [results,h,hp',asAddr,hl]
theorem name_s:nameB ⟨#[115]⟩=true:=by decide
theorem add_o (b o j:Nat):(⟨b,o,none⟩:Addr).add j=⟨b,o+j,none⟩:=by unfold Addr.add;split <;> simp_all
theorem load_new {w:World} {b:Nat} {c:Array Value} {t:TypeId} (hb:w.heap[b]? = some (.cells c t)) (hc:c.size=25) :
 (loadCellsFrom ⟨b,0,none⟩ 0 25 #[]).run Tryz.prog w=.ok c w:=by
 have:=run_loadCells_list (P:=Tryz.prog) (w:=w) ⟨b,0,none⟩ c.toList (fun j v hv=>by
  rw [add_o,cell_of_row w b _ c t (0,0) hb]
  simpa using hv)
 simpa [loadCells,hc] using this
theorem size167:(Tryz.prog.info? 167).map (·.size)=some 25:=by kernel_rfl
theorem store_new (w:World) (c:Array Value) (hc:c.size=25) (h1:c.all (·.oneCell')=true) (Z:Array Value) (hZ:Z.size=25) :
 (storeCells ⟨w.heap.size,0,none⟩ c.toList 0).run Tryz.prog (w.alloc (.cells Z 167))=.ok () (w.alloc (.cells c 167)) :=
 run_storeCells_new w 167 Z c (by rw [size167,hc]) (by rw [hZ,hc]) h1
theorem loadAt_of {w:World} {b o:Nat} {c:Array Value} (h:(loadCellsFrom ⟨b,o,none⟩ 0 25 #[]).run Tryz.prog w=.ok c w) :
 (Instr.loadAt 167 (.pointer (some ⟨b,o,none⟩))).run Tryz.prog w=.ok (.agg c) w:=by
 simp only [Instr.loadAt,Instr.sureAddr,Sem.run_bind,Sem.run_pure,Result.andThen,loadVar,Tryz.isAgg167,Tryz.sizeOf167]
 simp [loadCells,h,Tryz.isAgg167,Tryz.sizeOf167]
theorem wpList_loadAt {P:Program} {w:World} {ops:Array Oper} {rest:List Oper} {o:Oper} {a:Act} {Q:Exit→Act→World→Prop} (hgd:o.guard=none) (x:Operand) (t:TypeId) (ho:o.op=.load t x)
 (p v:Value) (hx:a.eval x=p) (hr:(Instr.loadAt t p).run P w=.ok v w) (h:wpList P ops Q rest (a.put o.dst v) w):wpList P ops Q (o :: rest) a w :=
 wpList_plain hgd fun K hK=>by
  unfold Oper.wp execOp
  simp only [ho,hx,Sem.run_bind,Sem.run_map,Sem.run_pure,hr,Result.andThen_ok]
  exact hK _ _ h
theorem wpList_load_g {P:Program} {w:World} {ops:Array Oper} {rest:List Oper} {o:Oper} {a:Act} {Q:Exit→Act→World→Prop} (hw:Region.wanted o (yielded ops a.tmps)=true) (x:Operand) (t:TypeId) (ho:o.op=.load t x)
 (p v:Value) (hx:a.eval x=p) (hr:(Instr.loadAt t p).run P w=.ok v w) (h:wpList P ops Q rest (a.put o.dst v) w):wpList P ops Q (o :: rest) a w :=
 BigFrame.wpList_want hw fun K hK=>by
  unfold Oper.wp execOp
  simp only [ho,hx,Sem.run_bind,Sem.run_map,Sem.run_pure,hr,Result.andThen_ok]
  exact hK _ _ h
theorem wpQuiet_load {P:Program} {ops:Array Oper} {C:World→Prop} {Q:Act→Prop} {a:Act} {o:Oper} {rest:List Oper} (hw:Region.wanted o (yielded ops a.tmps)=true) (x:Operand) (t:TypeId) (ho:o.op=.load t x)
 (p v:Value) (hx:a.eval x=p) (hr:∀ w,C w→(Instr.loadAt t p).run P w=.ok v w) (h:wpQuiet P ops C Q rest (a.put o.dst v)):wpQuiet P ops C Q (o :: rest) a :=
 BigFrame.wpQuiet_want hw fun K hK=>⟨v,fun w hC=>by
  unfold Oper.quietAt execOp
  simp only [ho,hx,Sem.run_bind,Sem.run_map,Sem.run_pure,hr w hC,Result.andThen_ok]
  exact ⟨rfl,rfl⟩,hK _ h⟩
theorem fold_zip:∀ (l:List Value) (k:Nat) (Z:Array Value) (i:Nat),((l.zipIdx k).foldl (fun (cs:Array Value) (x:Value×Nat)=>cs.setIfInBounds x.snd x.fst) Z)[i]? = if k≤i∧i<k+l.length∧i<Z.size then l[i - k]? else Z[i]?
 | [],k,Z,i=>by
   rw [if_neg (by simp;omega)];rfl
 | v :: l,k,Z,i=>by
   rw [List.zipIdx_cons,List.foldl_cons,fold_zip l (k+1)]
   simp only [List.length_cons,Array.size_setIfInBounds]
   by_cases h1:k+1≤i∧i<k+1+l.length∧i<Z.size
   · rw [if_pos h1,if_pos (by omega),show i - k=(i - (k+1))+1 by omega,List.getElem?_cons_succ]
   · rw [if_neg h1,Array.getElem?_setIfInBounds]
     by_cases h2:k=i
     · subst h2
       by_cases h3:k<Z.size
       · rw [if_pos rfl,if_pos h3,if_pos (by omega)];simp
       · rw [if_pos rfl,if_neg h3,if_neg (by omega)];simp;omega
     · rw [if_neg h2]
       rw [if_neg (by omega)]
theorem fold25 (C Z:Array Value) (h:C.size=25) (hz:Z.size=25):Array.foldl (fun (cs:Array Value) (x:Value×Nat)=>cs.setIfInBounds x.snd x.fst) Z C.zipIdx 0 25=C:=by
 have h1:Array.foldl (fun (cs:Array Value) (x:Value×Nat)=>cs.setIfInBounds x.snd x.fst) Z C.zipIdx 0 25=(C.toList.zipIdx 0).foldl (fun (cs:Array Value) (x:Value×Nat)=>cs.setIfInBounds x.snd x.fst) Z:=by
  have h2:25=C.zipIdx.size:=by simp [h]
  rw [h2,← Array.foldl_toList,Array.toList_zipIdx]
 rw [h1]
 apply Array.ext_getElem?
 intro i
 rw [fold_zip]
 have hl:C.toList.length=25:=by simpa using h
 by_cases hi:i<25
 · rw [if_pos (by omega)];simp
 · rw [if_neg (by omega)]
   rw [Array.getElem?_eq_none (by omega),Array.getElem?_eq_none (by omega)]
theorem wpFloatC_load {P:Program} {ops:Array Oper} {C:World→Prop} {Q:Act→Prop} {a:Act} {o:Oper} {rest:List Oper} (x:Operand) (t:TypeId) (ho:o.op=.load t x)
 (p v:Value) (hx:a.eval x=p) (hr:∀ w,C w→(Instr.loadAt t p).run P w=.ok v w) (h:wpFloatC P ops C Q rest (a.put o.dst v)):wpFloatC P ops C Q (o :: rest) a :=
 ⟨v,fun w hC=>by
  unfold Oper.wp execOp
  simp only [ho,hx,Sem.run_bind,Sem.run_map,Sem.run_pure,hr w hC,Result.andThen_ok]
  exact ⟨rfl,rfl⟩,h⟩
def colC (c:Col):List Value:=[.string c.n,.int .i64 c.k]
theorem colC_len (c:Col):(colC c).length=2:=rfl
theorem colC_one {l:List Col}:∀ u ∈ l.flatMap colC,u.oneCell'=true:=by
 intro u hu
 rw [List.mem_flatMap] at hu
 obtain ⟨v,_,h⟩:=hu
 simp only [colC,List.mem_cons,List.not_mem_nil,or_false] at h
 rcases h with rfl | rfl <;> rfl
theorem SchemaAt.src {w:World} {D:Nat→Prop} {v:Value} {l:List Col} (h:SchemaAt w D v l):Src w 2 v l.length (l.flatMap colC):=by
 obtain ⟨a,cap,rfl,-,-,-,hx⟩:=h
 refine ⟨flat_len colC_len l,a,cap,rfl,?_⟩
 rcases hx with rfl | ⟨b,off,rfl,hb,hc⟩
 · exact .inl rfl
 · refine .inr ⟨_,rfl,fun j u hu=>?_⟩
   obtain ⟨i,r,hi,hr,rfl,hv⟩:=flat_inv (by omega) colC_len l j u hu
   rw [add_at]
   obtain ⟨h0,h1⟩:=hc i hi
   match r,hr with
   | 0,_=>simp only [colC,List.getElem?_cons_zero,Option.some.injEq] at hv;subst hv;exact h0
   | 1,_=>simp only [colC,List.getElem?_cons_succ,List.getElem?_cons_zero,Option.some.injEq] at hv;subst hv;exact h1
theorem SchemaAt.of_own {w:World} {v:Value} {n:Nat} {l:List Col} {blk:Option Nat} (h:SlOwn w 71 2 v n (l.flatMap colC) blk) (hs:l.length≤9223372036854775807) (hn:∀ c ∈ l,c.n.size≤9223372036854775807):SchemaAt w (fun b=>blk=some b) v l:=by
 have hn':n=l.length:=by
  have:=h.1
  rw [flat_len colC_len] at this
  omega
 subst hn'
 rcases h.2 with ⟨rfl,h0,_⟩ | ⟨g,o,cap,cur,rfl,rfl,_,hnc,_⟩
 · have:l=[]:=List.eq_nil_of_length_eq_zero h0
   subst this
   exact ⟨none,0,rfl,by simp,by simp,hn,.inl rfl⟩
 · refine ⟨_,cap,rfl,hnc,hs,hn,.inr ⟨g,o,rfl,rfl,fun i hi=>?_⟩⟩
   have key:∀ r u,r<2→(colC l[i])[r]? = some u→w.cell? ⟨g,o+(i * 2+r),none⟩=some u:=fun r u hr hu=>h.cell _ u (by rw [flat_at colC_len l i r hi hr];exact hu)
   exact ⟨key 0 _ (by omega) rfl,key 1 _ (by omega) rfl⟩
theorem info71:(Tryz.prog.info? 71).map (fun i=>(i.zero,i.size,i.bytes))=some (some (.agg #[.string ⟨#[]⟩,.int .i64 0]),2,24):=by kernel_rfl
theorem info23:(Tryz.prog.info? 23).map (fun i=>(i.zero,i.size,i.bytes))=some (some (.slice none 0 0),1,24):=by kernel_rfl
theorem info167:(Tryz.prog.info? 167).map (fun i=>(i.zero,i.size,i.bytes))=some (some (.agg #[.int .i64 0,.string ⟨#[]⟩,.slice none 0 0,.slice none 0 0,.int .i64 0,.string ⟨#[]⟩,.slice none 0 0,.slice none 0 0,.slice none 0 0,.int .i64 0,.int .i64 0,.int .i64 0,.int .i64 0,.int .i64 0,.slice none 0 0,.slice none 0 0,.int .i64 0,.int .i64 0,.slice none 0 0,.bool false,.int .i64 0,.int .i64 0,.slice none 0 0,.int .i64 0,.int .i64 0]),25,360):=by kernel_rfl
def GivesSchema (w:World) (s:List Col) (e:Ending) (w':World):Prop:=∃ r,e=.returned r∧SchemaAt w' (fun b=>w.heap.size≤b) r s∧Below w.heap.size w w'
section leaves
set_option maxHeartbeats 2000000
set_option maxRecDepth 100000
theorem f45_any (w:World) (v:Value) (l:List Col) (D:Nat→Prop) (h:SchemaAt w D v l) (hsm:l.length≤1000000) (hpos:0<l.length) :
 Calls Tryz.prog 45 #[v] w (GivesSchema w l):=by
 have h':=h
 obtain ⟨a,cap,rfl,hc,hl,hn,hx⟩:=h
 obtain ⟨b,off,rfl,hb,hcc⟩:=hx.resolve_left (fun e=>by rw [e] at hpos;simp at hpos)
 have hk:=fun (w:World)=>Lib.run_eql_slice_nil (P:=Tryz.prog) w 23 71 (some ⟨b,off,none⟩) l.length cap 0 0 Tryz.underlying23
 have hsrc:=(h'.below ((Below.refl _ w).alloc (Nat.le_refl _) (.cells #[] 71))).src
 have hown:SlOwn (w.alloc (.cells #[] 71)) 71 2 (.slice (some ⟨w.heap.size,0,none⟩) 0 0) 0 [] (some w.heap.size) :=
  ⟨by simp,.inr ⟨w.heap.size,0,0,#[],rfl,rfl,heap_alloc_new w _,by omega,by simp [maxLen],by simp,by simp⟩⟩
 obtain ⟨i0,hi0,hz0,hz1,hz2⟩:=info_parts info71
 have HS:=Lib.hid hsrc
 have HO:=Lib.hid hown
 have HN:=Lib.hid hn
 clear h' hx hsrc hl hown hcc hn
 go_enter Tryz.func45,Tryz.ntmps45
 go_wp2_with (at_builtin;refine wpList_append_S rfl (.tmp 5) (.tmp 6) 23 rfl 71 i0 _ 2 24 Tryz.underlying23 hi0 hz0 hz1 hz2 rfl (by omega) (.slice (some ⟨w.heap.size,0,none⟩) 0 0) 0 [] (some w.heap.size) rfl HO.out (.slice (some ⟨b,off,none⟩) l.length cap) l.length (l.flatMap colC) rfl HS.out colC_one (by simp only [maxLen];omega) (by omega) ?_;intro v1 w1 blk1 hown1 hgrow1 hat1)
 have hrow:=SchemaAt.of_own (l:=l) hown1 (by omega) HN.out
 go_ret
 refine ⟨_,rfl,hrow.mono fun b hb=>?_,((Below.refl _ w).alloc (Nat.le_refl _) _).grown hgrow1 (by simp) (fun k hk=>by cases hk;exact Nat.le_refl _)⟩
 rcases hat1 with h | h <;> rw [h] at hb <;> cases hb <;> simp
theorem f221_any (w:World):Calls Tryz.prog 221 #[] w fun e w'=>e=.returned (.agg shapesC)∧Below w.heap.size w w':=by
 go_enter Tryz.func221,Tryz.ntmps221
 go_wp2_with fail
 refine bodyPost_ret (ret297 rfl _ _ w.heap.size (heap_alloc_new w _) rfl) rfl ?_
 exact ⟨rfl,(Below.refl _ _).alloc (Nat.le_refl _) _⟩
theorem f158_any (hm:Tryz.prog.follows .mixedOrders=true) (w:World) (D:Nat→Prop) (tb:Nat) (a:Option Addr) (c:Nat) (s:List Col) (bound:Int) (C:Array Value) (hC:Value.agg C=srcV (.slice a s.length c) bound) (hs:SchemaAt w D (.slice a s.length c) s) (hv:validSchema s=true) (ht:w.heap[tb]? = some (.cells #[.slice none 0 0,.slice none 0 0] 231 (0,0))) (hD:∀ b,D b→b≠tb) :
 Calls Tryz.prog 158 #[.pointer (some ⟨tb,0,none⟩),.agg C] w fun e w'=>e=.returned (.int .i64 (if (0≤bound∧bound≤1000000000) then 0 else 11))∧Only (fun b=>b=tb) w w':=by
 have mixed:=hm
 have hC':C=_:=Value.agg.inj hC
 have zC:C.size=25:=by rw [hC'];rfl
 have uC:C.all (·.oneCell')=true:=by rw [hC'];simp [Value.oneCell']
 have c0:C[0]? = some (.int .i64 1):=by rw [hC'];rfl
 have c1:C[1]? = some (.string ⟨#[115]⟩):=by rw [hC'];rfl
 have c2:C[2]? = some (.slice none 0 0):=by rw [hC'];rfl
 have hW:Below w.heap.size w ((w.alloc (.cells #[.pointer (some ⟨tb,0,none⟩)] 228)).alloc (.cells C 167)):=((Below.refl _ _).alloc (Nat.le_refl _) _).alloc (by simp) _
 have hN:((w.alloc (.cells #[.pointer (some ⟨tb,0,none⟩)] 228)).alloc (.cells C 167)).heap[w.heap.size+1]? = some (.cells C 167 (0,0)):=by simpa using heap_alloc_new (w.alloc (.cells #[.pointer (some ⟨tb,0,none⟩)] 228)) (.cells C 167)
 have hP:((w.alloc (.cells #[.pointer (some ⟨tb,0,none⟩)] 228)).alloc (.cells C 167)).heap[w.heap.size]? = some (.cells #[.pointer (some ⟨tb,0,none⟩)] 228 (0,0)):=alloc_keep (heap_alloc_new w _)
 have hT:=(hW.block _ (heap_lt ht)).trans ht
 have H215:=Lib.hid (f215_one ((w.alloc (.cells #[.pointer (some ⟨tb,0,none⟩)] 228)).alloc (.cells C 167)))
 have H103:Hid (∀ W,Calls Tryz.prog 103 #[.string ⟨#[115]⟩] W fun e w'=>e=.returned (.bool true)∧W=w'):=fun W=>by
  have h:=f103_any ⟨#[115]⟩ (by decide) W
  rw [name_s] at h
  exact h
 have H216:Hid (∀ W f,Calls Tryz.prog 216 #[.slice none 0 0,f] W fun e w'=>e=.returned (.bool false)∧W=w'):=f216_nil
 have H219:Hid (∀ W f,Calls Tryz.prog 219 #[.slice none 0 0,f] W fun e w'=>e=.returned (.bool false)∧W=w'):=f219_nil
 have h218:=f218_any ((w.alloc (.cells #[.pointer (some ⟨tb,0,none⟩)] 228)).alloc (.cells C 167)) a s.length c bound
 have h278:=fun (W:World) (t:Value)=>f278_any W t a s.length c bound
 rw [← hC] at h218
 simp only [← hC] at h278
 have H218:=Lib.hid h218
 have H278:=Lib.hid h278
 have HW:=Lib.hid hW;have HN:=Lib.hid hN;have HP:=Lib.hid hP;have HT:=Lib.hid hT
 have t0:((w.alloc (.cells #[.pointer (some ⟨tb,0,none⟩)] 228)).alloc (.cells C 167)).cell? ⟨tb,0,none⟩=some (.slice none 0 0):=cells_at hT 0
 have m0:((w.alloc (.cells #[.pointer (some ⟨tb,0,none⟩)] 228)).alloc (.cells C 167)).cell? ⟨w.heap.size+1,0,none⟩=some (.int .i64 1):=(cells_at hN 0).trans c0
 have m1:((w.alloc (.cells #[.pointer (some ⟨tb,0,none⟩)] 228)).alloc (.cells C 167)).cell? ⟨w.heap.size+1,1,none⟩=some (.string ⟨#[115]⟩):=(cells_at hN 1).trans c1
 have lN:(loadCellsFrom ⟨w.heap.size+1,0,none⟩ 0 25 #[]).run Tryz.prog ((w.alloc (.cells #[.pointer (some ⟨tb,0,none⟩)] 228)).alloc (.cells C 167))=.ok C ((w.alloc (.cells #[.pointer (some ⟨tb,0,none⟩)] 228)).alloc (.cells C 167)):=load_new hN zC
 have HS:=Lib.hid hs
 have hl8:1≤s.length∧s.length≤8:=by
  simp [validSchema] at hv;exact hv.2
 have HV:=Lib.hid hv
 have htl:=heap_lt ht
 have HC0:=Lib.hid c0;have HC2:=Lib.hid c2;have UC:=Lib.hid uC
 obtain ⟨i0,hi0,hz0,hz1,hz2⟩:=info_parts info167
 obtain ⟨k0,hk0,hy0,hy1,hy2⟩:=info_parts info23 -- info23p
 have HDT:=Lib.hid hD
 clear hD hW hN hP hT hs hv ht h218 h278 hC hC' c0 c1 c2 uC
 obtain ⟨R,hR⟩:∃ v:Int,(if (0≤bound∧bound≤1000000000) then 0 else 11)=v:=⟨_,rfl⟩
 rw [hR]
 have HR:=Lib.hid hR
 clear hR
 go_enter Tryz.func158,Tryz.ntmps158
 go_wp2_with (first
  | ((with_reducible show wpList _ _ _ (Oper.mk _ (.load 167 (.tmp 3)) _ _ _ _ :: _) _ _);refine wpList_load_g (by first | rfl | (simp [Region.wanted,yielded];done)) (.tmp 3) 167 rfl _ _ rfl (loadAt_of lN) ?_)
  | (go_at_call 215;(with_reducible refine H215.out.mono ?_);rintro e w1 ⟨rfl,rfl⟩)
  | (go_at_call 216;(with_reducible refine (H216.out _ _).mono ?_);rintro e w1 ⟨rfl,rfl⟩)
  | (go_at_call 103;(with_reducible refine (H103.out _).mono ?_);rintro e w1 ⟨rfl,rfl⟩)
  | (go_at_call 218;(with_reducible refine H218.out.mono ?_);rintro e w3 ⟨rfl,hb⟩
     have hN3:=(hb.block _ (heap_lt HN.out)).trans HN.out
     have hP3:=(hb.block _ (heap_lt HP.out)).trans HP.out
     have hT3:=(hb.block _ (heap_lt HT.out)).trans HT.out
     have p3:w3.cell? ⟨w.heap.size,0,none⟩=some (.pointer (some ⟨tb,0,none⟩)):=cells_at hP3 0
     have n0:w3.cell? ⟨w.heap.size+1,0,none⟩=some (.int .i64 1):=(cells_at hN3 0).trans HC0.out
     have n2:w3.cell? ⟨w.heap.size+1,2,none⟩=some (.slice none 0 0):=(cells_at hN3 2).trans HC2.out
     have HN3:=Lib.hid hN3;have HP3:=Lib.hid hP3;have HT3:=Lib.hid hT3;have HB3:=Lib.hid (HW.out.trans (hb.mono HW.out.size))
     clear hb hN3 hP3 hT3 t0 m0 m1 lN)
  | (go_at_call 219;(with_reducible refine (H219.out _ _).mono ?_);rintro e w1 ⟨rfl,rfl⟩))
 have h3lt:w.heap.size+1<w3.heap.size:=heap_lt HN3.out
 have h3lt0:w.heap.size<w3.heap.size:=heap_lt HP3.out
 have H221:Hid (∀ d os,Calls Tryz.prog 221 #[] (Sort.grow (redrawn w3 d) os) fun e w''=>e=.returned (.agg shapesC)∧∃ p:Regrown,w''=Sort.grow (redrawn w3 p.d) p.os):=fun d os=>Calls.regrown_of (f221_any _)
 have HL:Hid (∀ W,(∃ p:Regrown,W=Sort.grow (redrawn w3 p.d) p.os)→(Instr.loadAt 167 (.pointer (some ⟨w.heap.size+1,0,none⟩))).run Tryz.prog W=.ok (.agg C) W):=by
  rintro W ⟨p,rfl⟩
  exact loadAt_of (load_new (((below_regrown w3 p.d p.os).block _ h3lt).trans HN3.out) zC)
 have HIX:Hid (∀ W:World,(Instr.index 297 (.agg shapesC) (.int .i64 1)).run Tryz.prog W=.ok (.func (.func 278) #[] #[]) W):=fun W=>by kernel_rfl
 by_cases hbd:0≤bound∧bound≤1000000000
 · have H278q:Hid (∀ t d os,Calls Tryz.prog 278 #[t,.agg C] (Sort.grow (redrawn w3 d) os) fun e w''=>e=.returned (.tuple #[.slice a s.length c,.int .i64 0])∧∃ p:Regrown,w''=Sort.grow (redrawn w3 p.d) p.os):=fun t d os=>Calls.regrown_of (by have h:=H278.out (Sort.grow (redrawn w3 d) os) t;rw [if_pos hbd] at h;exact h)
   have HR0:=HR.out
   rw [if_pos hbd] at HR0
   subst HR0
   clear HR
   have hcl:=fun d os b' o' h=>(below_regrown w3 d os).cell (p:=⟨b',o',none⟩) h
   refine wp_region_quiet_below mixed (by kernel_rfl) ?_
   quiet_step (with_reducible exact H221.out _ _)
   have hix:=HIX.out
   iterate 4 (quiet_step (fail))
   refine wpQuiet_load (by first | rfl | (simp [Region.wanted,yielded];done)) (.tmp 3) 167 rfl _ _ rfl (fun W hC=>HL.out W hC) ?_
   clear hix
   quiet_step (with_reducible exact H278q.out _ _ _)
   iterate 5 (quiet_step (fail))
   refine wpQuiet_nil ?_
   intro w4 hw'
   have HB4:=Lib.hid (below_of_class hw')
   clear hw' hcl
   have hsch4:=(HS.out.below (HB3.out.trans (HB4.out.mono HB3.out.size)))
   have H36:=Lib.hid (f36_any w4 D _ s hsch4)
   rw [HV.out] at H36
   have HN4:=Lib.hid ((HB4.out.block _ (heap_lt HN3.out)).trans HN3.out)
   have HP4:=Lib.hid ((HB4.out.block _ (heap_lt HP3.out)).trans HP3.out)
   have HT4:=Lib.hid ((HB4.out.block _ (heap_lt HT3.out)).trans HT3.out)
   clear hsch4 p3 n0 n2
   go_wp2_with (go_at_call 36;(with_reducible refine H36.out.mono ?_);rintro e w5 ⟨rfl,hb5⟩)
   have HB5:=Lib.hid (HB3.out.trans ((HB4.out.trans (hb5.mono HB4.out.size)).mono HB3.out.size))
   have HN5:=Lib.hid ((hb5.block _ (heap_lt HN4.out)).trans HN4.out)
   have HP5:=Lib.hid ((hb5.block _ (heap_lt HP4.out)).trans HP4.out)
   have HT5:=Lib.hid ((hb5.block _ (heap_lt HT4.out)).trans HT4.out)
   have HC5:Hid (∀ W,Below w5.heap.size w5 W→W.cell? ⟨w.heap.size,0,none⟩=some (.pointer (some ⟨tb,0,none⟩))∧W.cell? ⟨tb,0,none⟩=some (.slice none 0 0)):=fun W hb =>
    ⟨cells_at ((hb.block _ (heap_lt HP5.out)).trans HP5.out) 0,cells_at ((hb.block _ (heap_lt HT5.out)).trans HT5.out) 0⟩
   have HL5:Hid (∀ W,Below w5.heap.size w5 W→(Instr.loadAt 167 (.pointer (some ⟨w.heap.size+1,0,none⟩))).run Tryz.prog W=.ok (.agg C) W):=fun W hb=>loadAt_of (load_new ((hb.block _ (heap_lt HN5.out)).trans HN5.out) zC)
   clear hb5
   refine wp_region_game [0,1,2,3,4,5] 5 (fun W=>Below w5.heap.size w5 W) mixed (by kernel_rfl) ((Below.refl w5.heap.size w5).drew) ?_
   iterate 5 (
    refine wpFloatC_ex (fun K hK=>?_)
    apply Exists.intro
    refine ⟨fun W hW=>?_,?_⟩
    · obtain ⟨q1,q2⟩:=HC5.out W hW
      go_simp
      rfl
    go_simp
    refine hK _ ?_
    clear hK K)
   refine wpFloatC_load (.tmp 3) 167 rfl _ _ rfl HL5.out ?_
   refine wpFloatC_nil ?_
   refine game_on 6 true (fun K hK=>?_)
   go_simp
   rw [fold25 C _ zC rfl]
   refine hK _ _ rfl (fun _=>((Below.refl w5.heap.size w5).alloc (Nat.le_refl _) _).drew) ?_
   clear hK K
   refine game_on 7 true (fun K hK=>?_)
   have HB6:Hid (Below w5.heap.size w5 (w5.alloc (.cells C 167)).drew):=((Below.refl w5.heap.size w5).alloc (Nat.le_refl _) _).drew
   have HSRC:Hid (Src (w5.alloc (.cells C 167)).drew 25 (.slice (some ⟨w5.heap.size,0,none⟩) 1 1) 1 C.toList):=SlOwn.src (e:=167) (blk:=some w5.heap.size) ⟨by simp [zC],.inr ⟨_,0,1,_,rfl,rfl,World.alloc_heap_new w5 _,Nat.le_refl _,by simp [maxLen],by simp [zC],by rw [Nat.one_mul,List.drop_zero];exact List.take_of_length_le (by simp [zC])⟩⟩
   have HONE:Hid (∀ u ∈ C.toList,u.oneCell'=true):=fun u hu=>by have:=UC.out;rw [Array.all_eq_true'] at this;exact this u (by simpa using hu)
   have hz6:(w5.alloc (.cells C 167)).drew.heap.size=w5.heap.size+1:=by simp
   have HZ6:=Lib.hid hz6
   clear hz6
   generalize (w5.alloc (.cells C 167)).drew=w6 at HB6 HSRC HZ6 ⊢
   refine wp_append_S (.tmp 83) (.tmp 85) 67 rfl 167 i0 _ 25 360 Tryz.underlying67 hi0 hz0 hz1 hz2 rfl (by omega) (.slice none 0 0) 0 [] none rfl (SlOwn.nil _ _ _) (.slice (some ⟨w5.heap.size,0,none⟩) 1 1) 1 C.toList rfl HSRC.out HONE.out (by simp [maxLen]) (by omega) ?_
   intro v7 w7 b7 h1 h2 h3
   obtain ⟨a7,c7,rfl⟩:=h1.form
   have HB7:Hid (Below w5.heap.size w5 w7):=HB6.out.grown h2 (by have:=HZ6.out;omega) (fun q hq=>by cases hq)
   clear h1 h2 h3
   refine hK _ _ rfl (fun _=>HB7.out) ?_
   clear hK K
   refine game_on 8 false (fun K hK=>?_)
   go_simp
   refine hK _ _ rfl (fun h=>by cases h) ?_
   clear hK K
   refine game_on 9 false (fun K hK=>?_)
   go_simp
   refine hK _ _ rfl (fun h=>by cases h) ?_
   clear hK K
   have HT7:=Lib.hid ((HB7.out.block _ (heap_lt HT5.out)).trans HT5.out)
   have HP7:=Lib.hid ((HB7.out.block _ (heap_lt HP5.out)).trans HP5.out)
   have hf7:w7.frozen? ⟨tb,0,none⟩=false:=by simp [World.frozen?,HT7.out]
   obtain ⟨t70,-⟩:w7.cell? ⟨tb,0,none⟩=some (.slice none 0 0)∧True:=⟨cells_at HT7.out 0,trivial⟩
   refine game_on 10 false (fun K hK=>?_)
   go_simp
   have HT8:Hid ((w7.setCell ⟨tb,0,none⟩ (.slice a7 (0+1) c7)).heap[tb]? = some (.cells #[.slice a7 (0+1) c7,.slice none 0 0] 231 (0,0))):=heap_set HT7.out _
   have HP8:Hid ((w7.setCell ⟨tb,0,none⟩ (.slice a7 (0+1) c7)).heap[w.heap.size]? = some (.cells #[.pointer (some ⟨tb,0,none⟩)] 228 (0,0))):=(heap_set_ne _ (by omega)).trans HP7.out
   have HO8:Hid (Only (fun b=>b=tb) w (w7.setCell ⟨tb,0,none⟩ (.slice a7 (0+1) c7))):=(Only.of_below (S:=fun b=>b=tb) (HB5.out.trans (HB7.out.mono HB5.out.size))).setCell (p:=⟨tb,0,none⟩) (fun _=>rfl) _
   refine hK _ _ rfl (fun h=>by cases h) ?_
   clear hK K hf7 t70
   refine game_end (by kernel_rfl) ?_
   have hz8:w.heap.size<(w7.setCell ⟨tb,0,none⟩ (.slice a7 (0+1) c7)).heap.size:=heap_lt HP8.out
   generalize w7.setCell ⟨tb,0,none⟩ (.slice a7 (0+1) c7)=w8 at HT8 HP8 HO8 hz8 ⊢
   clear HB7 HB6 HT7 HP7 HSRC HONE HZ6 HC5 HL5
   have HT8lt:=heap_lt HT8.out
   have HC8:Hid (∀ W,Below w8.heap.size w8 W→W.cell? ⟨w.heap.size,0,none⟩=some (.pointer (some ⟨tb,0,none⟩))∧W.cell? ⟨tb,1,none⟩=some (.slice none 0 0)):=fun W hb =>
    ⟨cells_at ((hb.block _ hz8).trans HP8.out) 0,cells_at ((hb.block _ HT8lt).trans HT8.out) 1⟩
   have hS8:SchemaAt w8 D (.slice a s.length c) s:=HS.out.keep fun b hb hl=>HO8.out.block b hl (HDT.out b hb)
   have H45:Hid (∀ W,Below w8.heap.size w8 W→Calls Tryz.prog 45 #[.slice a s.length c] W (GivesSchema W s)):=fun W hb=>f45_any W _ s D (hS8.below hb) (by omega) (by omega)
   clear hS8
   go_wp2_with fail
   refine wp_region_game [0,1,2,3,4,5] 6 (fun W=>Below w8.heap.size w8 W) mixed (by kernel_rfl) ((Below.refl w8.heap.size w8).drew) ?_
   iterate 6 (
    refine wpFloatC_ex (fun K hK=>?_)
    apply Exists.intro
    refine ⟨fun W hW=>?_,?_⟩
    · obtain ⟨q1,q2⟩:=HC8.out W hW
      go_simp
      rfl
    go_simp
    refine hK _ ?_
    clear hK K)
   refine wpFloatC_nil ?_
   refine game_on 6 true (fun K hK=>?_)
   go_simp
   go_at_call 45
   refine (H45.out _ (Below.refl w8.heap.size w8).drew).mono ?_
   rintro e w9 ⟨r,rfl,hr9,hb9⟩
   obtain ⟨ra,rc,rfl⟩:∃ a c,r=.slice a s.length c:=by obtain ⟨a,c,e,_⟩:=hr9;exact ⟨a,c,e⟩
   have HB9:Hid (Below w8.heap.size w8 w9):=(Below.refl w8.heap.size w8).drew.trans hb9
   clear hr9 hb9
   refine hK _ _ rfl (fun _=>HB9.out) ?_
   clear hK K
   refine game_on 7 true (fun K hK=>?_)
   go_simp
   refine hK _ _ rfl (fun _=>HB9.out.alloc HB9.out.size _) ?_
   clear hK K
   have HB10:Hid (Below w8.heap.size w8 (w9.alloc (.cells #[.slice ra s.length rc] 23))):=HB9.out.alloc HB9.out.size _
   have HSRC:Hid (Src (w9.alloc (.cells #[.slice ra s.length rc] 23)) 1 (.slice (some ⟨w9.heap.size,0,none⟩) 1 1) 1 [.slice ra s.length rc]):=SlOwn.src (e:=23) (blk:=some w9.heap.size) ⟨rfl,.inr ⟨_,0,1,_,rfl,rfl,World.alloc_heap_new w9 _,Nat.le_refl _,by simp [maxLen],by simp,rfl⟩⟩
   refine game_on 8 true (fun K hK=>?_)
   refine wp_append_S (.tmp 93) (.tmp 96) 229 rfl 23 k0 _ 1 24 Tryz.underlying229 hk0 hy0 hy1 hy2 rfl (by omega) (.slice none 0 0) 0 [] none rfl (SlOwn.nil _ _ _) (.slice (some ⟨w9.heap.size,0,none⟩) 1 1) 1 [.slice ra s.length rc] rfl HSRC.out (fun u hu=>by rw [List.mem_singleton] at hu;subst hu;rfl) (by simp [maxLen]) (by omega) ?_
   intro v11 w11 b11 h1 h2 h3
   obtain ⟨a11,c11,rfl⟩:=h1.form
   have HB11:Hid (Below w8.heap.size w8 w11):=HB10.out.grown h2 HB10.out.size (fun q hq=>by cases hq)
   clear h1 h2 h3
   refine hK _ _ rfl (fun _=>HB11.out) ?_
   clear hK K
   refine game_on 9 false (fun K hK=>?_)
   go_simp
   refine hK _ _ rfl (fun h=>by cases h) ?_
   clear hK K
   refine game_on 10 false (fun K hK=>?_)
   go_simp
   refine hK _ _ rfl (fun h=>by cases h) ?_
   clear hK K
   have HT11:=Lib.hid ((HB11.out.block _ HT8lt).trans HT8.out)
   have hf11:w11.frozen? ⟨tb,1,none⟩=false:=by simp [World.frozen?,HT11.out]
   obtain ⟨t71,-⟩:w11.cell? ⟨tb,1,none⟩=some (.slice none 0 0)∧True:=⟨cells_at HT11.out 1,trivial⟩
   refine game_on 11 false (fun K hK=>?_)
   go_simp
   have HO12:Hid (Only (fun b=>b=tb) w (w11.setCell ⟨tb,1,none⟩ (.slice a11 (0+1) c11))):=(HO8.out.trans (S':=fun b=>b=tb) (Only.of_below HB11.out) (fun _ _ h=>h)).setCell (p:=⟨tb,1,none⟩) (fun _=>rfl) _
   refine hK _ _ rfl (fun h=>by cases h) ?_
   clear hK K hf11 t71
   refine game_end (by kernel_rfl) ?_
   go_wp2_with fail
   go_ret
   exact ⟨rfl,HO12.out⟩
 · have H278q:Hid (∀ t d os,Calls Tryz.prog 278 #[t,.agg C] (Sort.grow (redrawn w3 d) os) fun e w''=>e=.returned (.tuple #[.slice none 0 0,.int .i64 11])∧∃ p:Regrown,w''=Sort.grow (redrawn w3 p.d) p.os):=fun t d os=>Calls.regrown_of (by have h:=H278.out (Sort.grow (redrawn w3 d) os) t;rw [if_neg hbd] at h;exact h)
   have HR0:=HR.out
   rw [if_neg hbd] at HR0
   subst HR0
   clear HR
   have hcl:=fun d os b' o' h=>(below_regrown w3 d os).cell (p:=⟨b',o',none⟩) h
   refine wp_region_quiet_below mixed (by kernel_rfl) ?_
   quiet_step (with_reducible exact H221.out _ _)
   have hix:=HIX.out
   iterate 4 (quiet_step (fail))
   refine wpQuiet_load (by first | rfl | (simp [Region.wanted,yielded];done)) (.tmp 3) 167 rfl _ _ rfl (fun W hC=>HL.out W hC) ?_
   clear hix
   quiet_step (with_reducible exact H278q.out _ _ _)
   iterate 5 (quiet_step (fail))
   refine wpQuiet_nil ?_
   intro w4 hw'
   have HB4:=Lib.hid (below_of_class hw')
   clear hw' hcl
   go_wp2_with fail
   go_ret
   exact ⟨rfl,Only.of_below (HB3.out.trans (HB4.out.mono HB3.out.size))⟩
theorem SchemaAt.keepB {w w':World} {D:Nat→Prop} {v:Value} {l:List Col} (h:SchemaAt w D v l) (hb:Below w.heap.size w w'):SchemaAt w' (fun b=>D b∧b<w.heap.size) v l:=by
 have h':=h.below hb
 obtain ⟨a,cap,rfl,h1,h2,h3,hx⟩:=h
 refine ⟨a,cap,rfl,h1,h2,h3,?_⟩
 rcases hx with rfl | ⟨b,off,rfl,hD,hc⟩
 · exact .inl rfl
 · by_cases hl:l.length=0
   · exact .inl (List.eq_nil_of_length_eq_zero hl)
   · refine .inr ⟨b,off,rfl,⟨hD,cell_lt (hc 0 (by omega)).1⟩,fun i hi=>⟨by rw [hb.cell (cell_lt (hc i hi).1)];exact (hc i hi).1,by rw [hb.cell (cell_lt (hc i hi).2)];exact (hc i hi).2⟩⟩
theorem f222_one (hm:Tryz.prog.follows .mixedOrders=true) (w:World) (D:Nat→Prop) (pb:Nat) (a:Option Addr) (c:Nat) (s:List Col) (bound:Int) (C:Array Value) (hC:Value.agg C=srcV (.slice a s.length c) bound) (hs:SchemaAt w D (.slice a s.length c) s) (hv:validSchema s=true) (hp:w.heap[pb]? = some (.cells C 167 (0,0))) (hD:∀ b,D b→b<w.heap.size) :
 Calls Tryz.prog 222 #[.slice (some ⟨pb,0,none⟩) 1 1] w fun e w'=>(∃ v n,e=.returned (.tuple #[v,.int .i64 n,.int .i64 (if (0≤bound∧bound≤1000000000) then 0 else 11)]))∧Below w.heap.size w w':=by
 have hC':C=_:=Value.agg.inj hC
 have zC:C.size=25:=by rw [hC'];rfl
 have uC:C.all (·.oneCell')=true:=by rw [hC'];simp [Value.oneCell']
 obtain ⟨R,hR⟩:∃ v:Int,(if (0≤bound∧bound≤1000000000) then 0 else 11)=v:=⟨_,rfl⟩
 rw [hR]
 have HR:=Lib.hid hR
 have HP:=Lib.hid hp
 clear hR hC' hp
 go_enter Tryz.func222,Tryz.ntmps222
 go_wp2_with fail
 go_loopw [22] (fun i wr=>(i=.int .i64 0∧wr=w.alloc (.cells #[.slice none 0 0,.slice none 0 0] 231))∨(i=.int .i64 1∧R=0∧Hid (Below w.heap.size w wr))) (fun i _=>1 - (intOf i).toNat)
 case atStart=>exact .inl ⟨rfl,rfl⟩
 case round =>
  rcases hrel with ⟨rfl,rfl⟩ | ⟨rfl,rfl,hb⟩
  · have hp1:(w.alloc (.cells #[.slice none 0 0,.slice none 0 0] 231)).heap[pb]? = some (.cells C 167 (0,0)):=alloc_keep HP.out
    have l1:(loadCellsFrom ⟨pb,0,none⟩ 0 25 #[]).run Tryz.prog (w.alloc (.cells #[.slice none 0 0,.slice none 0 0] 231))=.ok C (w.alloc (.cells #[.slice none 0 0,.slice none 0 0] 231)):=load_new hp1 zC
    have t1:∀ Z:Array Value,Z.size=25→(storeCells ⟨w.heap.size+1,0,none⟩ C.toList 0).run Tryz.prog ((w.alloc (.cells #[.slice none 0 0,.slice none 0 0] 231)).alloc (.cells Z 167))=.ok () ((w.alloc (.cells #[.slice none 0 0,.slice none 0 0] 231)).alloc (.cells C 167)):=fun Z hZ=>by
     have h:=store_new (w.alloc (.cells #[.slice none 0 0,.slice none 0 0] 231)) C zC uC Z hZ
     rwa [show (w.alloc (.cells #[.slice none 0 0,.slice none 0 0] 231)).heap.size=w.heap.size+1 by simp] at h
    have e1:((w.alloc (.cells #[.slice none 0 0,.slice none 0 0] 231)).alloc (.cells C 167)).heap[w.heap.size+1]? = some (.cells C 167 (0,0)):=by simpa using heap_alloc_new (w.alloc (.cells #[.slice none 0 0,.slice none 0 0] 231)) (.cells C 167)
    have l2:(loadCellsFrom ⟨w.heap.size+1,0,none⟩ 0 25 #[]).run Tryz.prog ((w.alloc (.cells #[.slice none 0 0,.slice none 0 0] 231)).alloc (.cells C 167))=.ok C ((w.alloc (.cells #[.slice none 0 0,.slice none 0 0] 231)).alloc (.cells C 167)):=load_new e1 zC
    have e0:((w.alloc (.cells #[.slice none 0 0,.slice none 0 0] 231)).alloc (.cells C 167)).heap[w.heap.size]? = some (.cells #[.slice none 0 0,.slice none 0 0] 231 (0,0)):=alloc_keep (heap_alloc_new _ _)
    have hB2:Below w.heap.size w ((w.alloc (.cells #[.slice none 0 0,.slice none 0 0] 231)).alloc (.cells C 167)):=((Below.refl _ _).alloc (Nat.le_refl _) _).alloc (by simp) _
    have hX:w.heap.size+1<((w.alloc (.cells #[.slice none 0 0,.slice none 0 0] 231)).alloc (.cells C 167)).heap.size:=heap_lt e1
    have HX:=Lib.hid hX
    have HB2:=Lib.hid hB2
    have H158:=Lib.hid (f158_any hm _ (fun b=>D b) w.heap.size a c s bound C hC (hs.keep fun b _ hl=>hB2.block b hl) hv e0 (fun b hb=>by have:=hD b hb;omega))
    rw [HR.out] at H158
    have zz:=Lib.hid zC
    clear hp1 e1 e0 hB2 hX hC hs hv hD
    go_wp2_with (first
     | ((with_reducible show wpList _ _ _ (Oper.mk _ (.load 167 (.tmp 25)) _ _ _ _ :: _) _ _);refine wpList_loadAt rfl (.tmp 25) 167 rfl _ _ rfl (loadAt_of l1) ?_)
     | ((with_reducible show wpList _ _ _ (Oper.mk _ (.load 167 (.tmp 7)) _ _ _ _ :: _) _ _);refine wpList_loadAt rfl (.tmp 7) 167 rfl _ _ rfl (loadAt_of l2) ?_)
     | (go_at_call 158;(with_reducible refine H158.out.mono ?_);rintro e w3 ⟨rfl,ho⟩;have HO:=Lib.hid ho;clear ho l1 t1 l2))
    · go_ret3
      exact ⟨⟨_,_,rfl⟩,HB2.out.trans (HO.out.below HB2.out.size (fun x hx=>by omega))⟩
    · rename_i hR0
      refine ⟨.inr ⟨rfl,by simpa using hR0,Lib.hid ?_⟩,by decide⟩
      exact HB2.out.trans (HO.out.below HB2.out.size (fun x hx=>by omega))
  · go_wp2_with fail
    go_ret3
    exact ⟨⟨_,_,rfl⟩,hb.out⟩
theorem f185_one (hm:Tryz.prog.follows .mixedOrders=true) (w:World) (D:Nat→Prop) (pb:Nat) (a:Option Addr) (c:Nat) (s:List Col) (bound:Int) (C:Array Value) (hC:Value.agg C=srcV (.slice a s.length c) bound) (hs:SchemaAt w D (.slice a s.length c) s) (hv:validSchema s=true) (hp:w.heap[pb]? = some (.cells C 167 (0,0))) (hD:∀ b,D b→b<w.heap.size) :
 Calls Tryz.prog 185 #[.slice (some ⟨pb,0,none⟩) 1 1] w fun e w'=>(∃ n,e=.returned (.tuple #[.int .i64 n,.int .i64 (if (0≤bound∧bound≤1000000000) then 0 else 11)]))∧Below w.heap.size w w':=by
 have H:=Lib.hid (f222_one hm w D pb a c s bound C hC hs hv hp hD)
 obtain ⟨R,hR⟩:∃ v:Int,(if (0≤bound∧bound≤1000000000) then 0 else 11)=v:=⟨_,rfl⟩
 rw [hR] at H
 rw [hR]
 clear hC hs hv hp hD hR
 go_enter Tryz.func185,Tryz.ntmps185
 go_wp2_with (go_at_call 222;(with_reducible refine H.out.mono ?_);rintro e w1 ⟨⟨v,n,rfl⟩,hb⟩;have HB:=Lib.hid hb;clear hb)
 go_ret2
 exact ⟨⟨_,rfl⟩,HB.out⟩
theorem f128_one (hm:Tryz.prog.follows .mixedOrders=true) (w:World) (D:Nat→Prop) (pb:Nat) (a:Option Addr) (c:Nat) (s:List Col) (bound:Int) (C:Array Value) (hC:Value.agg C=srcV (.slice a s.length c) bound) (hs:SchemaAt w D (.slice a s.length c) s) (hv:validSchema s=true) (hp:w.heap[pb]? = some (.cells C 167 (0,0))) (hD:∀ b,D b→b<w.heap.size) :
 Calls Tryz.prog 128 #[.slice (some ⟨pb,0,none⟩) 1 1] w fun e w'=>e=.returned (.bool (decide (0≤bound∧bound≤1000000000)))∧Below w.heap.size w w':=by
 have H:=Lib.hid (f185_one hm w D pb a c s bound C hC hs hv hp hD)
 clear hC hs hv hp hD
 by_cases hb:0≤bound∧bound≤1000000000
 · rw [if_pos hb] at H
   have hd:decide (0≤bound∧bound≤1000000000)=true:=decide_eq_true hb
   rw [hd]
   clear hd hb
   go_enter Tryz.func128,Tryz.ntmps128
   go_wp2_with (go_at_call 185;(with_reducible refine H.out.mono ?_);rintro e w1 ⟨⟨n,rfl⟩,hb⟩;have HB:=Lib.hid hb;clear hb)
   go_ret
   exact ⟨rfl,HB.out⟩
 · rw [if_neg hb] at H
   have hd:decide (0≤bound∧bound≤1000000000)=false:=decide_eq_false hb
   rw [hd]
   clear hd hb
   go_enter Tryz.func128,Tryz.ntmps128
   go_wp2_with (go_at_call 185;(with_reducible refine H.out.mono ?_);rintro e w1 ⟨⟨n,rfl⟩,hb⟩;have HB:=Lib.hid hb;clear hb)
   go_ret
   exact ⟨rfl,HB.out⟩
theorem f44_any (hm:Tryz.prog.follows .mixedOrders=true) (w:World) (D:Nat→Prop) (a:Option Addr) (c:Nat) (s:List Col) (bound:Int) (hs:SchemaAt w D (.slice a s.length c) s) (hv:validSchema s=true) :
 Calls Tryz.prog 44 #[.slice a s.length c,.int .i64 bound] w fun e w'=>e=.returned (.bool (decide (0≤bound∧bound≤1000000000)))∧Below w.heap.size w w':=by
 have hB1:∀ o,Below w.heap.size w (w.alloc o):=fun o=>(Below.refl _ _).alloc (Nat.le_refl _) o
 have H:=fun C (hC:Value.agg C=srcV (.slice a s.length c) bound)=>f128_one hm (w.alloc (.cells C 167)) (fun b=>D b∧b<w.heap.size) w.heap.size a c s bound C hC (hs.keepB (hB1 _)) hv (heap_alloc_new _ _) (fun b hb=>by have:=hb.2;simp;omega)
 have H1:=Lib.hid (H _ rfl)
 have HB:=Lib.hid hB1
 clear H hB1 hs hv
 go_enter Tryz.func44,Tryz.ntmps44
 go_wp2_with (first
  | (go_at_call 128;(with_reducible refine H1.out.mono ?_);rintro e w1 ⟨rfl,hb⟩;have HB1:=Lib.hid hb;clear hb))
 go_ret
 exact ⟨ret_bool (by simp),(HB.out _).trans (HB1.out.mono (HB.out _).size)⟩
end leaves
end Go.Proofs.YtimahogkcmmcnaaGreatDoor
