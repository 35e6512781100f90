/-
 WellRestores: at every input the law returns true, and the arguments read as they did. If the listed variables of Go's library hold what the program's text lays.
-/
import Derived.Test.YtimahogkcmmcnaaGreatDoorRows
import Derived.Test.YtimahogkcmmcnaaGreatDoorCards
import Derived.Test.YtimahogkcmmcnaaGreatDoorTie
import Derived.Test.YtimahogkcmmcnaaGreatDoorL01
import Derived.Test.YtimahogkcmmcnaaGreatDoorL27
import Derived.Test.YtimahogkcmmcnaaGreatDoorL39
import Derived.ProofKit
import Derived.OpenShut
import Derived.LaidMore
import Derived.Lay
import Derived.SevenTiedAt
import Derived.HandedShaped
import Derived.Shelf.Vars
import Derived.Lib.LaidU8
import Derived.Stop.Joined
set_option linter.unusedSimpArgs false
set_option linter.unusedVariables false
namespace Go.Proofs.YtimahogkcmmcnaaGreatDoor
open Go.ChangeShapes Go.WideShapes Go.ChangeAt Go.RowKit
theorem Tryz.own:ownKnob Tryz.prog.godebug=none:=by kernel_rfl
theorem Tryz.laidOut:laidOutB Tryz.prog=true:=fact_laidout
theorem handed_both {H:Type} {enc:TypeId×Value→H} {a:Assume} {C:Checked} {os:Os} {f:FuncId} {fn:Func} {s:ChangeSpec} {conds:List PathCond} {apart fresh handsOn again:Bool} {X:World→Array Value→Prop}
 (hX:∀ (w w':World) (args:Array Value),w.heap=w'.heap→X w args→X w' args)
 (own:ownKnob C.prog.godebug=none) (started:os.Started) (noInit:C.prog.inits.idxOf? f=none) (hfn:C.prog.funcs[f]? = some fn)
 (witness:∃ (w:World) (tape:Tape) (i:Input),w.os=os∧(w.forCall tape i).Shaped C.prog∧i.vars=[]∧Input.okWide C.prog (w.forCall tape i) .any w.heap.size f i ∧
   ((s.pre enc C.prog fn conds apart (w.forCall tape i).memory i.args∧X (w.forCall tape i).memory i.args)∧sizedMet enc C.prog fn (OpenSpec.ofChange s) apart (w.forCall tape i).memory i.args)∧a.holds C.prog (lone (Frame.enter C.prog f i.args .normal) [] (w.forCall tape i)))
 (contract:∀ (W:World) (base:Nat) (args:Array Value) (ds gs:List (DataW H)) (before:List MemPlace),
   (∀ (j:Nat) t v,fn.params[j]? = some t→args[j]? = some v→Value.okWide C.prog W .any base t v) →
   DataW.Whole enc C.prog fn.params.toList s.vars apart W args.toList ds gs before →
   conds.all (PathCond.test C.prog ⟨fn.params.toList,ds,s.plain.varTypes C.prog,gs⟩)=true →
   W.ShapedOpen C.prog→X W args →
   Calls C.prog f args W fun e W'=>∃ v,e=.returned v∧s.post enc C.prog fn apart fresh handsOn again W args v W') :
 ReturnsInHanded a C os f .any (fun w args=>(s.pre enc C.prog fn conds apart w args∧X w args)∧sizedMet enc C.prog fn (OpenSpec.ofChange s) apart w args) (s.post enc C.prog fn apart fresh handsOn again):=by
 refine returnsInHanded_of_calls own started noInit witness ?_
 intro w tape i _ hsh _ hok hpre hholds
 obtain ⟨_,_,_,fn',hfn',_,_,_,_,hval⟩:=hok
 have e:fn'=fn:=Option.some.inj (hfn'.symm.trans hfn)
 subst e
 obtain ⟨⟨⟨ds,gs,before,hw,hc⟩,hx⟩,hz⟩:=hpre
 have hw':=DataW.Whole.of_heap (w':=w.forCall tape i) (by rfl) hw
 refine (contract (w.forCall tape i) w.heap.size i.args ds gs before hval hw' hc hsh (hX _ _ _ (by rfl) hx)).mono fun e W' ⟨v,he,hp⟩=>?_
 subst he
 exact ChangeSpec.post_blind hp
theorem row_of_shaped {w:World} (h:w.ShapedOpen Tryz.prog):∃ m e f1 f2,w.heap[1]? = some (.cells #[.int .i64 m] e (f1,f2)):=by
 obtain ⟨m,hm⟩:=cell_of_shapedOpen_int (P:=Tryz.prog) (g:=1) (t:=3) (zero:=#[.int .i64 0]) h (of_decide_eq_true (by kernel_rfl)) (by kernel_rfl) rfl (by kernel_rfl) (by kernel_rfl) Tryz.underlying3
 obtain ⟨cs,hh,hs,_⟩:=h.1 1 #[.int .i64 0] 3 (of_decide_eq_true (by kernel_rfl)) (by kernel_rfl)
 have h1:cs.size=1:=hs
 have hc:cs[0]? = some (.int .i64 m):=by simpa [World.cell?,hh] using hm
 have:cs=#[.int .i64 m]:=by
  apply Array.ext (by simp [h1])
  intro i hi hj
  have:i=0:=by omega
  subst this
  rw [Array.getElem?_eq_getElem (by omega)] at hc
  simpa using Option.some.inj hc
 subst this
 exact ⟨m,_,_,_,hh⟩
theorem tabIs_of_reads {P:Program} {W:World} {name:String} {k:IntKind} {zs:List Int} {g:Nat} {t e:TypeId} {n:Nat}
 (hg:P.globalNamed name=some g) (hty:(P.globals[g]?).map (·.type)=some t) (ht:P.underlying t=some (.array n e)) (he:P.underlying e=some (.int k)) (hce:P.cellsOf e=1) (hct:P.cellsOf t=n)
 (h:Lib.VarReads P W name (Lib.tabData k zs)):Lib.TabIs P W name k zs:=by
 obtain ⟨g',t',cs,fuel,p,hg',ht',hvar,hd⟩:=h
 obtain rfl:=Option.some.inj (hg.symm.trans hg')
 obtain rfl:=Option.some.inj (hty.symm.trans ht')
 unfold Lib.TabIs
 rw [hvar,← Lib.cells_of_tab ht he hce hct hd]
theorem pow_data:(Rows.laid_internal_strconv_uint64pow10:DataW Unit)=Lib.tabData .u64 Lib.pow10Tab:=by kernel_rfl
set_option maxRecDepth 100000 in
theorem wellRestores_lifted (os:Os) (started:os.Started) (H:Type) (enc:TypeId×Value→H) :
 ReturnsInHanded {} Tryz.checked os 6 .any (fun w args=>(Rows.wellRestoresSpec.pre enc Tryz.prog Tryz.f6 Rows.wellRestoresRow.domain false w args∧laidMetH Tryz.prog Rows.wellRestoresRow.laid w)∧sizedMet enc Tryz.prog Tryz.f6 (OpenSpec.ofChange Rows.wellRestoresSpec) false w args)
  (Rows.wellRestoresSpec.post enc Tryz.prog Tryz.f6 false true false false):=by
 refine handed_both (C:=Tryz.checked) (X:=fun w _=>laidMetH Tryz.prog Rows.wellRestoresRow.laid w) (fun _ _ _ hh h=>h.of_heap hh) Tryz.own started (by kernel_rfl) Tryz.func6
  (ChangeSpec.witness_shaped (enc:=enc) (C:=Tryz.checked) (os:=os) (X:=fun w _=>laidMetH Tryz.prog Rows.wellRestoresRow.laid w) false (World.laidAll Tryz.prog os Rows.wellRestoresRow.laid) #[.slice none 0 0,.int .i64 0,.int .i64 0,.int .i64 0,.slice none 0 0,.slice none 0 0,.int .i64 0,.slice none 0 0] 8 (World.laidAll_os _ _ _)
    (World.shaped_of_ZipB (by kernel_rfl) (by kernel_rfl)) (by kernel_rfl) (by kernel_rfl) (by kernel_rfl)
    (by rw [MakeChecks.laidMetH_plain _ _ _ (by kernel_rfl)];exact laidMet_laidAll _ (by kernel_rfl) (by kernel_rfl))) ?_
 intro W base args ds gs before hval0 hW hcnd hsh hL0
 obtain ⟨m1,e1,f1,f2,hw1⟩:=row_of_shaped hsh
 have hL:laidMet Tryz.prog Rows.wellRestoresRow.laid W:=by
  rw [← MakeChecks.laidMetH_plain _ _ _ (by kernel_rfl)];exact hL0
 have hT:Tabs W:=by
  refine ⟨tabIs_of_reads (g:=0) (t:=383) (n:=20) (e:=325) pow_at (by kernel_rfl) (by kernel_rfl) (by kernel_rfl) (by kernel_rfl) (by kernel_rfl) ?_,m1,by simp [World.cell?,hw1]⟩
  exact pow_data ▸ Lib.laidMet.reads hL (.tail _ (.tail _ (.head _)))
 have hval:∀ (j:Nat) t v,Tryz.f6.params[j]? = some t→args[j]? = some v→Value.okWide Tryz.prog W .any base t v:=hval0
 have hW':=hW
 obtain ⟨p,q,hA0,hV,rfl,hfz,hnd⟩:=hW
 have hA:DataW.TrodAll enc Tryz.prog W 0 (fun _=>true) true Tryz.f6.params.toList args.toList ds p:=hA0
 rw [Tryz.params6] at hA hval
 obtain ⟨v0,vs1,d0,ds1,p0,q0,ha0,rfl,rfl,h0,hr0⟩:=trodAll_cons hA
 obtain ⟨v1,vs2,d1,ds2,p1,q1,rfl,rfl,rfl,h1,hr1⟩:=trodAll_cons hr0
 obtain ⟨v2,vs3,d2,ds3,p2,q2,rfl,rfl,rfl,h2,hr2⟩:=trodAll_cons hr1
 obtain ⟨v3,vs4,d3,ds4,p3,q3,rfl,rfl,rfl,h3,hr3⟩:=trodAll_cons hr2
 obtain ⟨v4,vs5,d4,ds5,p4,q4,rfl,rfl,rfl,h4,hr4⟩:=trodAll_cons hr3
 obtain ⟨v5,vs6,d5,ds6,p5,q5,rfl,rfl,rfl,h5,hr5⟩:=trodAll_cons hr4
 obtain ⟨v6,vs7,d6,ds7,p6,q6,rfl,rfl,rfl,h6,hr6⟩:=trodAll_cons hr5
 obtain ⟨v7,vs8,d7,ds8,p7,q7,rfl,rfl,rfl,h7,hr7⟩:=trodAll_cons hr6
 obtain ⟨rfl,rfl,rfl⟩:=trodAll_nil hr7
 obtain rfl:args=#[v0,v1,v2,v3,v4,v5,v6,v7]:=by cases args;simp_all
 obtain ⟨rfl,rfl⟩:=trodVars_none hV
 obtain ⟨a0,b0,c0,rfl⟩:=okWide_slice Tryz.underlying23 (hval 0 23 v0 rfl rfl)
 obtain ⟨n1,rfl⟩:=okWide_int Tryz.underlying3 (hval 1 3 v1 rfl rfl)
 obtain ⟨n2,rfl⟩:=okWide_int Tryz.underlying3 (hval 2 3 v2 rfl rfl)
 obtain ⟨n3,rfl⟩:=okWide_int Tryz.underlying3 (hval 3 3 v3 rfl rfl)
 obtain ⟨a4,b4,c4,rfl⟩:=okWide_slice Tryz.underlying37 (hval 4 37 v4 rfl rfl)
 obtain ⟨a5,b5,c5,rfl⟩:=okWide_slice Tryz.underlying37 (hval 5 37 v5 rfl rfl)
 obtain ⟨n6,rfl⟩:=okWide_int Tryz.underlying3 (hval 6 3 v6 rfl rfl)
 obtain ⟨a7,b7,c7,rfl⟩:=okWide_slice Tryz.underlying24 (hval 7 24 v7 rfl rfl)
 have h0':=h0
 have h1':=h1
 have h2':=h2
 have h3':=h3
 have h4':=h4
 have h5':=h5
 have h6':=h6
 have h7':=h7
 obtain ⟨fuel0,hd0⟩:=h0
 obtain ⟨fuel4,hd4⟩:=h4
 obtain ⟨fuel5,hd5⟩:=h5
 obtain ⟨fuel6,hd6⟩:=h6
 obtain ⟨fuel7,hd7⟩:=h7
 obtain ⟨u0,s,hcs0,hs⟩:=trod_schema hd0
 obtain ⟨u4,bl,hcs4,hbl⟩:=trod_acts hd4
 obtain ⟨u5,fl,hcs5,hfl⟩:=trod_acts hd5
 obtain ⟨u7,ml,hcs7,hml,hsm⟩:=trod_events hd7
 have hn6:n6≤9223372036854775807:=by
  obtain ⟨z,ez,_,wz⟩:=DataW.trod_int Tryz.underlying3 hd6
  simp only [Value.cells,List.cons.injEq,and_true,Value.int.injEq,true_and] at ez
  subst ez
  simp [Lit.wf,IntKind.min,IntKind.max,IntKind.signed,IntKind.bits] at wz
  omega
 have hv0:u0=.slice a0 b0 c0:=by
  simp only [Value.cells,List.cons.injEq,and_true] at hcs0
  exact hcs0.symm
 have hv4:u4=.slice a4 b4 c4:=by
  simp only [Value.cells,List.cons.injEq,and_true] at hcs4
  exact hcs4.symm
 have hv5:u5=.slice a5 b5 c5:=by
  simp only [Value.cells,List.cons.injEq,and_true] at hcs5
  exact hcs5.symm
 have hv7:u7=.slice a7 b7 c7:=by
  simp only [Value.cells,List.cons.injEq,and_true] at hcs7
  exact hcs7.symm
 subst hv0 hv4 hv5 hv7
 have hlt:∀ y ∈ p0 ++ (p1 ++ (p2 ++ (p3 ++ (p4 ++ (p5 ++ (p6 ++ (p7 ++ []))))))),y.block<W.heap.size:=fun y hy=>hW'.lt y (List.mem_append_left _ hy)
 refine (f6_any Tryz.checked.mixed W hT _ _ _ _ _ s n1 n2 n3 n6 bl fl ml hs hbl hfl hml hsm hn6).mono fun x W' ⟨he,hB⟩=>?_
 subst he
 have g0:=Below.trod Tryz.laidOut (by kernel_rfl) (of_decide_eq_true (by kernel_rfl)) h0' hB (fun y hy=>hlt y (by simp [hy]))
 have g1:=Below.trod Tryz.laidOut (by kernel_rfl) (of_decide_eq_true (by kernel_rfl)) h1' hB (fun y hy=>hlt y (by simp [hy]))
 have g2:=Below.trod Tryz.laidOut (by kernel_rfl) (of_decide_eq_true (by kernel_rfl)) h2' hB (fun y hy=>hlt y (by simp [hy]))
 have g3:=Below.trod Tryz.laidOut (by kernel_rfl) (of_decide_eq_true (by kernel_rfl)) h3' hB (fun y hy=>hlt y (by simp [hy]))
 have g4:=Below.trod Tryz.laidOut (by kernel_rfl) (of_decide_eq_true (by kernel_rfl)) h4' hB (fun y hy=>hlt y (by simp [hy]))
 have g5:=Below.trod Tryz.laidOut (by kernel_rfl) (of_decide_eq_true (by kernel_rfl)) h5' hB (fun y hy=>hlt y (by simp [hy]))
 have g6:=Below.trod Tryz.laidOut (by kernel_rfl) (of_decide_eq_true (by kernel_rfl)) h6' hB (fun y hy=>hlt y (by simp [hy]))
 have g7:=Below.trod Tryz.laidOut (by kernel_rfl) (of_decide_eq_true (by kernel_rfl)) h7' hB (fun y hy=>hlt y (by simp [hy]))
 refine ⟨_,rfl,_,_,_,[],p0 ++ (p1 ++ (p2 ++ (p3 ++ (p4 ++ (p5 ++ (p6 ++ (p7 ++ []))))))),[],hW',?_,?_,?_,hB.frame _,fun h=>by cases h⟩
 · exact trodAll_mk1 (shut_bool Tryz.underlying4 true)
 · exact trodAll_cons_mk g0 (trodAll_cons_mk g1 (trodAll_cons_mk g2 (trodAll_cons_mk g3 (trodAll_cons_mk g4 (trodAll_cons_mk g5 (trodAll_cons_mk g6 (trodAll_cons_mk g7 trodAll_mk0)))))))
 · rfl
theorem wellRestores_wf:Rows.wellRestoresRow.wf (OpenSpec.ofChange Rows.wellRestoresSpec)=true:=by kernel_rfl
theorem wellRestores_params:Tryz.f6.params.all (Tryz.pinned.checked.prog.readableRec ·)=true:=by kernel_rfl
theorem wellRestores_tied:namedTie Tryz.pinned.checked.prog Rows.wellRestoresRow.named Rows.wellRestoresSpec.vars=true:=by kernel_rfl
theorem wellRestores_inPlace:(Rows.wellRestoresRow.inPlace == Tryz.pinned.checked.prog.inPlace 6)=true:=by kernel_rfl
theorem wellRestores_unfollowed:(Rows.wellRestoresRow.unfollowed == Tryz.pinned.checked.prog.unfollowed 6)=true:=by kernel_rfl
theorem wellRestores_recurses:(Rows.wellRestoresRow.recurses == Tryz.pinned.checked.prog.recurses 6)=true:=by kernel_rfl
theorem wellRestores_varsNamed:(Rows.wellRestoresRow.named == Tryz.pinned.checked.prog.varsNamed 6)=true:=by kernel_rfl
theorem wellRestores_found:Tryz.pinned.checked.prog.funcNamed Rows.wellRestoresRow.func=some 6:=by kernel_rfl
theorem wellRestores_wrapper:Tryz.f6.isWrapper Tryz.pinned.checked.prog Rows.wellRestoresRow.wrapper Rows.wellRestoresRow.mainSum:=by
 unfold Func.isWrapper;first | (rw [if_pos (by decide +kernel)];kernel_rfl) | (rw [if_neg (by decide +kernel)];exact ⟨rfl,rfl⟩)
theorem wellRestores_maps:(Rows.wellRestoresRow.maps == (Tryz.f6.params.toList ++ Rows.wellRestoresSpec.plain.varTypes Tryz.pinned.checked.prog).any (Tryz.pinned.checked.prog.mapsRec ·))=true:=by kernel_rfl
theorem wellRestores_ifaces:(Rows.wellRestoresRow.ifaces == (Tryz.f6.params.toList ++ Rows.wellRestoresSpec.plain.varTypes Tryz.pinned.checked.prog).any (Tryz.pinned.checked.prog.ifacesRec ·))=true:=by kernel_rfl
theorem wellRestores_mapsOut:(Rows.wellRestoresRow.mapsOut == Tryz.pinned.checked.prog.mapsAmong Tryz.f6.resultTypes.toList)=true:=by kernel_rfl
theorem wellRestores_loops:(Rows.wellRestoresRow.loops == (Tryz.f6.params.toList ++ Rows.wellRestoresSpec.plain.varTypes Tryz.pinned.checked.prog).any (Tryz.pinned.checked.prog.loopsFrom ·))=true:=by kernel_rfl
theorem wellRestores_wideKeys:(Rows.wellRestoresRow.wideKeys == (Tryz.f6.params.toList ++ Rows.wellRestoresSpec.plain.varTypes Tryz.pinned.checked.prog ++ Tryz.f6.resultTypes.toList).any (Tryz.pinned.checked.prog.wideKeysFrom ·))=true:=by kernel_rfl
theorem wellRestores_vars:Rows.wellRestoresSpec.vars.all (Tryz.pinned.checked.prog.varReadable ·)=true:=by kernel_rfl
theorem wellRestores_results:Tryz.f6.resultTypes.all (fun t=>Tryz.pinned.checked.prog.readableRec t && decide (t<Tryz.pinned.checked.prog.types.size))=true:=by kernel_rfl
theorem wellRestores_ifacesOut:(Rows.wellRestoresRow.ifacesOut == Tryz.f6.resultTypes.toList.any (Tryz.pinned.checked.prog.ifacesRec ·))=true:=by kernel_rfl
theorem wellRestores_loopsOut:(Rows.wellRestoresRow.loopsOut == Tryz.f6.resultTypes.toList.any (Tryz.pinned.checked.prog.loopsFrom ·))=true:=by kernel_rfl
theorem wellRestores_make:(Tryz.pinned.checked.prog.make == some Rows.wellRestoresRow.make)=true:=by kernel_rfl
theorem wellRestores_pinnedBy:(Rows.wellRestoresRow.pinned == Rows.wellRestoresRow.pinnedBy)=true:=by kernel_rfl
theorem wellRestores_veiled:(Rows.wellRestoresRow.veiled == (Tryz.f6.params.toList ++ Rows.wellRestoresSpec.plain.varTypes Tryz.pinned.checked.prog ++ Tryz.f6.resultTypes.toList).any (Tryz.pinned.checked.prog.veiledRec ·))=true:=by kernel_rfl
theorem wellRestores_fits:Rows.wellRestoresRow.veiledFits Tryz.pinned.checked.prog Tryz.f6.params.toList (Tryz.f6.params.toList ++ Rows.wellRestoresSpec.plain.varTypes Tryz.pinned.checked.prog ++ Tryz.f6.resultTypes.toList)=true:=by kernel_rfl
theorem wellRestores_stops:(Rows.wellRestoresRow.stops == [])=true:=by kernel_rfl
theorem wellRestores_stopsP:(Tryz.pinned.checked.prog.stops == [])=true:=beq_iff_eq.2 fact_stops
theorem wellRestores_knobs:(Rows.wellRestoresRow.knobs == [])=true:=by kernel_rfl
theorem wellRestores_knobsP:(Tryz.pinned.checked.prog.stopKnobs == [])=true:=beq_iff_eq.2 fact_knobs
theorem wellRestores_plainKeys:(Rows.wellRestoresRow.plainKeys == Tryz.pinned.checked.prog.plainKeys)=true:=beq_iff_eq.2 (Eq.trans (by kernel_rfl) fact_plain.symm)
theorem wellRestores_short:Rows.wellRestoresRow.shortTexts.isNone=true:=by kernel_rfl
theorem wellRestores_liftedF:(Rows.wellRestoresRow.lifted == Tryz.pinned.checked.prog.liftsFinal)=true:=beq_iff_eq.2 (Eq.trans (by kernel_rfl) fact_lifts.symm)
theorem wellRestores_facts:joinedFacts Tryz.pinned.checked.prog 6 Tryz.f6 Rows.wellRestoresSpec Rows.wellRestoresRow=true:=by
 unfold joinedFacts
 simp only [Bool.and_eq_true]
 exact ⟨⟨⟨⟨⟨⟨⟨⟨⟨⟨⟨⟨⟨⟨⟨⟨⟨⟨⟨⟨⟨⟨⟨⟨⟨⟨⟨⟨⟨⟨⟨wellRestores_wf,fact_laidout⟩,fact_mapsrowed⟩,wellRestores_params⟩,wellRestores_tied⟩,wellRestores_stops⟩,wellRestores_stopsP⟩,wellRestores_knobs⟩,wellRestores_knobsP⟩,wellRestores_inPlace⟩,wellRestores_unfollowed⟩,wellRestores_recurses⟩,wellRestores_varsNamed⟩,wellRestores_maps⟩,wellRestores_ifaces⟩,wellRestores_mapsOut⟩,wellRestores_loops⟩,wellRestores_wideKeys⟩,wellRestores_vars⟩,wellRestores_results⟩,wellRestores_ifacesOut⟩,wellRestores_loopsOut⟩,wellRestores_plainKeys⟩,wellRestores_short⟩,fact_heard⟩,fact_may⟩,wellRestores_liftedF⟩,wellRestores_make⟩,(by kernel_rfl)⟩,wellRestores_pinnedBy⟩,wellRestores_veiled⟩,wellRestores_fits⟩
theorem wellRestores_row:Rows.WellRestoresSaid :=
 OpenClaim.holds_of_wide 6 Tryz.f6 rfl rfl rfl rfl rfl rfl rfl ⟨rfl,rfl,rfl,rfl,rfl⟩ rfl rfl rfl rfl rfl wellRestores_found Tryz.func6 wellRestores_facts
  (of_decide_eq_true (by kernel_rfl)) wellRestores_wrapper
  (fun os started H enc _=>wellRestores_lifted os started H enc)
theorem wellRestores_goes:false=Rows.wellRestoresRow.goesBy Tryz.pinned.checked.prog:=(goesAt_none fact_goes _ _).symm
theorem wellRestores_wfText:Rows.wellRestoresRow.wfByText (OpenSpec.ofChange Rows.wellRestoresSpec)=true:=by kernel_rfl
theorem wellRestores_stand:([23,3,3,3,37,37,3,24].all fun u => !Tryz.prog.wantsStandIn u)=true:=by kernel_rfl
theorem wellRestores_holds:Rows.WellRestoresCardSaid :=
 Claim7.holds_tied_plain_at .later [] [.data,.data,.data,.data,.sentinel,.sentinel,.pinned] true (true,"ba7069e71abb1c892517ba5f93fabb029ec9dc4e1feff656df06738ef640ec5c") true wellRestores_row (fun _ h=>by cases h) wellRestores_wfText (fun _ h=>by cases h) wellRestores_row_tie rfl ⟨rfl,rfl⟩ fact_main rfl
  (fun f fn hf hfn=>by
    obtain rfl:f=6:=Option.some.inj (wellRestores_found.symm.trans hf) |>.symm
    obtain rfl:fn=Tryz.f6:=(Option.some.inj (Tryz.func6.symm.trans hfn)).symm
    exact ⟨fact_looks,fun j t ht=>by
     rw [Tryz.params6] at ht
     have hm:t ∈ [23,3,3,3,37,37,3,24]:=by simpa using Array.mem_of_getElem? ht
     exact (show Tryz.prog.wantsStandIn t=false by simpa using List.all_eq_true.1 wellRestores_stand t hm)⟩)
  wellRestores_goes
end Go.Proofs.YtimahogkcmmcnaaGreatDoor
