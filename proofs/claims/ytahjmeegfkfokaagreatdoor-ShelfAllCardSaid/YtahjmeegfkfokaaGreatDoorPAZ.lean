/- ShelfAll: the law returns true for every input; no condition. -/
import Derived.Test.YtahjmeegfkfokaaGreatDoorPA20
import Derived.Test.YtahjmeegfkfokaaGreatDoorTie
import Derived.Test.YtahjmeegfkfokaaGreatDoorCards
set_option linter.unusedSimpArgs false
set_option linter.unusedVariables false
set_option maxRecDepth 100000
set_option maxHeartbeats 4000000
namespace Go.Proofs.YtahjmeegfkfokaaGreatDoor
open Go Go.Sh Go.ChangeShapes Go.WideShapes Go.ChangeAt Go.RowKit
open Go.Proofs.Tryz
theorem shelfAll_lifted (os:Os) (started:os.Started) (H:Type) (enc:TypeId×Value→H) :
 ReturnsInHanded {} Tryz.checked os 5 .any (fun w args=>(Rows.shelfAllSpec.pre enc prog f5 [] false w args∧laidMetH prog sW w)∧sizedMet enc prog f5 (OpenSpec.ofChange Rows.shelfAllSpec) false w args)
  (Rows.shelfAllSpec.post enc prog f5 false true false false):=by
 refine returnsInHanded_of_change_and (C:=Tryz.checked) (X:=fun w _=>laidMetH prog sW w) (fun _ _ _ hh h=>h.of_heap hh) own started (by kernel_rfl) func5
  (ChangeSpec.witness_shaped (enc:=enc) (C:=Tryz.checked) (os:=os) (X:=fun w _=>laidMetH prog sW w) false (World.doorLaid prog 29 os) #[.slice none 0 0,.agg #[.string ⟨#[]⟩,.int .i64 0,.int .i64 0,.slice none 0 0,.bool false,.slice none 0 0,.slice none 0 0],.int .i64 0] 8 rfl (World.shaped_of_RefB (by kernel_rfl) (by kernel_rfl)) (by kernel_rfl) (by kernel_rfl) (by kernel_rfl) (qGB os _)) ?_
 intro W base args ds gs before hval0 hW _ hsz hL _
 have hval : ∀ (j:Nat) t v,f5.params[j]? = some t→args[j]? = some v→Value.okWide prog W .any base t v:=hval0
 have hsz:(DataW.weightsEach prog (f5.params.toList++Rows.shelfAllSpec.plain.varTypes prog) (ds++gs)).all (·≤reachBytes)=true:=hsz
 have hW':=hW
 obtain ⟨p,q,hA0,hV,rfl,hfz,hnd⟩:=hW
 have hA:DataW.TrodAll enc prog W 0 (fun _=>true) true f5.params.toList args.toList ds p:=hA0
 rw [Tryz.params5] at hA hval hsz
 obtain ⟨v0,v1,v2,d0,d1,d2,p0,p1,p2,rfl,rfl,rfl,h0,h1,h2⟩:=trodAll_three hA
 obtain ⟨rfl,rfl⟩:=trodVars_none hV
 clear hA0 hval0
 obtain ⟨a0,len0,cap0,rfl⟩:=okWide_slice Tryz.underlying32 (hval 0 32 v0 rfl rfl)
 have k0:=h0
 have bl0 : ∀ x∈p0,x.block<W.heap.size:=by obtain ⟨m,hm⟩:=k0; exact DataW.trod_lt m _ _ _ hm
 obtain ⟨fu0,hf0⟩:=h0
 obtain ⟨l0,rd0,hc0⟩:=qPD hf0
 have le0:len0≤1000000000000000:=yU nV qJC (by omega) hsz (j:=0) rfl (by obtain ⟨_,q,_⟩:=rd0; exact q.2.1) rfl hc0
 obtain ⟨cs1,rfl,sz1⟩:=okWide_struct qTT (hval 1 30 v1 rfl rfl)
 obtain ⟨⟨hd1,rc1⟩,ec1,hr1⟩:=(by obtain ⟨fu,hf⟩:=h1; exact qEG (by show cs1.toList.length=7; rw [Array.length_toList,sz1]; exact zU) hf : ∃ p:Hd×Rc,cs1.toList=p.1.cells∧rO W p.1 p.2)
 obtain rfl:cs1=hd1.cells.toArray:=by rw [← Array.toArray_toList (xs:=cs1),show cs1.toList=hd1.cells from ec1]
 have k1:=h1
 have bl1 : ∀ x∈p1,x.block<W.heap.size:=by obtain ⟨m,hm⟩:=k1; exact DataW.trod_lt m _ _ _ hm
 have w2:=hval 2 3 v2 rfl rfl
 obtain ⟨n2,rfl⟩:=okWide_int Tryz.underlying3 w2
 have k2:=h2
 have bl2 : ∀ x∈p2,x.block<W.heap.size:=by obtain ⟨m,hm⟩:=k2; exact DataW.trod_lt m _ _ _ hm
 have g:iM W:=rX hL
 refine (qWR (yK (s:=⟨a0,len0,cap0⟩) (h:=hd1) (r:=rc1) (at0:=n2) g rd0 (by show len0≤_; omega) hr1)).mono fun e W' ⟨he,bel⟩=>?_
 subst he
 exact ⟨_,rfl,_,_,_,[],_,[],hW',trodAll_mk1 (shut_bool Tryz.underlying4 _),trodAll_mk3 (Below.trod laidOut (by kernel_rfl) (of_decide_eq_true (by kernel_rfl)) k0 bel bl0) (Below.trod laidOut (by kernel_rfl) (of_decide_eq_true (by kernel_rfl)) k1 bel bl1) (Below.trod laidOut (by kernel_rfl) (of_decide_eq_true (by kernel_rfl)) k2 bel bl2),rfl,bel.frame _,fun h=>by cases h⟩
theorem andT {a b:Bool} (h1:a=true) (h2:b=true):(a&&b)=true:=by rw [h1,h2]; rfl
theorem shelfAll_k1:(Rows.shelfAllRow.wf (OpenSpec.ofChange Rows.shelfAllSpec))=true:=by kernel_rfl
theorem shelfAll_k2:(laidOutB prog)=true:=by kernel_rfl
theorem shelfAll_k3:(mapsRowed prog)=true:=by kernel_rfl
theorem shelfAll_k4:(f5.params.all (prog.readableRec ·))=true:=by kernel_rfl
theorem shelfAll_k5:(namedTie prog Rows.shelfAllRow.named Rows.shelfAllSpec.vars)=true:=by kernel_rfl
theorem shelfAll_k6:((Rows.shelfAllRow.stops==[]))=true:=by kernel_rfl
theorem shelfAll_k7:((prog.stops==[]))=true:=by kernel_rfl
theorem shelfAll_k8:((Rows.shelfAllRow.knobs==[]))=true:=by kernel_rfl
theorem shelfAll_k9:((prog.stopKnobs==[]))=true:=by kernel_rfl
theorem shelfAll_k10:((Rows.shelfAllRow.inPlace==prog.inPlace 5))=true:=by kernel_rfl
theorem shelfAll_k11:((Rows.shelfAllRow.unfollowed==prog.unfollowed 5))=true:=by kernel_rfl
theorem shelfAll_k12:((Rows.shelfAllRow.recurses==prog.recurses 5))=true:=by kernel_rfl
theorem shelfAll_k13:((Rows.shelfAllRow.named==prog.varsNamed 5))=true:=by kernel_rfl
theorem shelfAll_k14:((Rows.shelfAllRow.maps==(f5.params.toList++Rows.shelfAllSpec.plain.varTypes prog).any (prog.mapsRec ·)))=true:=by kernel_rfl
theorem shelfAll_k15:((Rows.shelfAllRow.ifaces==(f5.params.toList++Rows.shelfAllSpec.plain.varTypes prog).any (prog.ifacesRec ·)))=true:=by kernel_rfl
theorem shelfAll_k16:((Rows.shelfAllRow.mapsOut==prog.mapsAmong f5.resultTypes.toList))=true:=by kernel_rfl
theorem shelfAll_k17:((Rows.shelfAllRow.loops==(f5.params.toList++Rows.shelfAllSpec.plain.varTypes prog).any (prog.loopsFrom ·)))=true:=by kernel_rfl
theorem shelfAll_k18:((Rows.shelfAllRow.wideKeys==(f5.params.toList++Rows.shelfAllSpec.plain.varTypes prog++f5.resultTypes.toList).any (prog.wideKeysFrom ·)))=true:=by kernel_rfl
theorem shelfAll_k19:(Rows.shelfAllSpec.vars.all (prog.varReadable ·))=true:=by kernel_rfl
theorem shelfAll_k20:(f5.resultTypes.all (fun t=>prog.readableRec t&&decide (t<prog.types.size)))=true:=by kernel_rfl
theorem shelfAll_k21:((Rows.shelfAllRow.ifacesOut==f5.resultTypes.toList.any (prog.ifacesRec ·)))=true:=by kernel_rfl
theorem shelfAll_k22:((Rows.shelfAllRow.loopsOut==f5.resultTypes.toList.any (prog.loopsFrom ·)))=true:=by kernel_rfl
theorem shelfAll_k23:((Rows.shelfAllRow.plainKeys==prog.plainKeys))=true:=by kernel_rfl
theorem shelfAll_k24:(Rows.shelfAllRow.shortTexts.isNone)=true:=by kernel_rfl
theorem shelfAll_k25:(prog.stopsHeard)=true:=by kernel_rfl
theorem shelfAll_k26:(prog.mayEnter)=true:=by kernel_rfl
theorem shelfAll_k27:((Rows.shelfAllRow.lifted==prog.liftsFinal))=true:=by kernel_rfl
theorem shelfAll_k28:((prog.make==some Rows.shelfAllRow.make))=true:=by kernel_rfl
theorem shelfAll_k29:((Rows.shelfAllRow.kinds==(if Rows.shelfAllRow.domain.isEmpty then [] else f5.params.toList.map fun t=>match prog.underlying t with | some (.int k)=>some k | _=>none)))=true:=by kernel_rfl
theorem shelfAll_k30:((Rows.shelfAllRow.pinned==Rows.shelfAllRow.pinnedBy))=true:=by kernel_rfl
theorem shelfAll_k31:((Rows.shelfAllRow.veiled==(f5.params.toList++Rows.shelfAllSpec.plain.varTypes prog++f5.resultTypes.toList).any (prog.veiledRec ·)))=true:=by kernel_rfl
theorem shelfAll_k32:(Rows.shelfAllRow.veiledFits prog f5.params.toList (f5.params.toList++Rows.shelfAllSpec.plain.varTypes prog++f5.resultTypes.toList))=true:=by kernel_rfl
theorem shelfAll_closed:joinedFacts prog 5 f5 Rows.shelfAllSpec Rows.shelfAllRow=true:=(andT (andT (andT (andT (andT (andT (andT (andT (andT (andT (andT (andT (andT (andT (andT (andT (andT (andT (andT (andT (andT (andT (andT (andT (andT (andT (andT (andT (andT (andT (andT shelfAll_k1 shelfAll_k2) shelfAll_k3) shelfAll_k4) shelfAll_k5) shelfAll_k6) shelfAll_k7) shelfAll_k8) shelfAll_k9) shelfAll_k10) shelfAll_k11) shelfAll_k12) shelfAll_k13) shelfAll_k14) shelfAll_k15) shelfAll_k16) shelfAll_k17) shelfAll_k18) shelfAll_k19) shelfAll_k20) shelfAll_k21) shelfAll_k22) shelfAll_k23) shelfAll_k24) shelfAll_k25) shelfAll_k26) shelfAll_k27) shelfAll_k28) shelfAll_k29) shelfAll_k30) shelfAll_k31) shelfAll_k32)
theorem shelfAll_named:prog.funcNamed Rows.shelfAllRow.func=some 5:=by kernel_rfl
theorem shelfAll_wrap:f5.isWrapper prog Rows.shelfAllRow.wrapper Rows.shelfAllRow.mainSum:=by unfold Func.isWrapper; first | (rw [if_pos (by decide +kernel)]; kernel_rfl) | (rw [if_neg (by decide +kernel)]; exact ⟨rfl,rfl⟩)
theorem shelfAll_proved:Rows.ShelfAllSaid:=
 OpenClaim.holds_of_wide 5 f5 rfl rfl rfl rfl rfl rfl rfl ⟨rfl,rfl,rfl,rfl,rfl⟩ rfl rfl rfl rfl rfl shelfAll_named func5 shelfAll_closed
  (of_decide_eq_true (by kernel_rfl)) shelfAll_wrap
  (fun os started H enc _=>shelfAll_lifted os started H enc)
theorem shelfAll_text:Rows.shelfAllRow.wfByText (OpenSpec.ofChange Rows.shelfAllSpec)=true:=by kernel_rfl
theorem shelfAll_main:prog.mainIs=some (((true,"46f9a049a33ef8b4da37be91ba602dc28c8f18a9d76b5441fbdaa52b9d077cd2"):Bool×String).1,((true,"46f9a049a33ef8b4da37be91ba602dc28c8f18a9d76b5441fbdaa52b9d077cd2"):Bool×String).2.toList):=by kernel_rfl
theorem shelfAll_looks:true=prog.looks []:=by kernel_rfl
theorem shelfAll_goes:false=Rows.shelfAllRow.goesBy prog:=by kernel_rfl
theorem shelfAll_card:Rows.ShelfAllCardSaid:=
 Claim7.holds_tied_plain_at .later [] [.data,.data,.data,.data] true (true,"46f9a049a33ef8b4da37be91ba602dc28c8f18a9d76b5441fbdaa52b9d077cd2") true
  shelfAll_proved (fun _ h=>by cases h) shelfAll_text (fun _ h=>by cases h) shelfAll_row_tie rfl ⟨rfl,rfl⟩ shelfAll_main rfl
  (fun f fn hf hfn=>by
   obtain rfl:f=5:=Option.some.inj ((show prog.funcNamed f5.name=some 5 by kernel_rfl).symm.trans hf) |>.symm
   obtain rfl:fn=f5:=(Option.some.inj (func5.symm.trans hfn)).symm
   exact ⟨shelfAll_looks,fun j t ht=>by
    rw [Tryz.params5] at ht
    have hm:t∈([32,30,3]:List TypeId):=by simpa using Array.mem_of_getElem? ht
    have hall:(([32,30,3]:List TypeId).all fun u=>!prog.wantsStandIn u)=true:=by kernel_rfl
    exact (show prog.wantsStandIn t=false by simpa using List.all_eq_true.1 hall t hm)⟩)
  shelfAll_goes
end Go.Proofs.YtahjmeegfkfokaaGreatDoor
