/- ShelfSets: the law returns true for every input; no condition. -/
import Derived.Test.YtahjmeegfkfokaaGreatDoorPT20
import Derived.Test.YtahjmeegfkfokaaGreatDoorTie
import Derived.Test.YtahjmeegfkfokaaGreatDoorCards
set_option linter.unusedSimpArgs false
set_option linter.unusedVariables false
set_option maxRecDepth 100000
set_option maxHeartbeats 4000000
namespace Go.Proofs.YtahjmeegfkfokaaGreatDoor
open Go Go.Sh Go.ChangeShapes Go.WideShapes Go.ChangeAt Go.RowKit
open Go.Proofs.Tryz
theorem shelfSets_lifted (os:Os) (started:os.Started) (H:Type) (enc:TypeId×Value→H) :
 ReturnsInHanded {} Tryz.checked os 3 .any (fun w args=>(Rows.shelfSetsSpec.pre enc prog f3 [] false w args∧laidMetH prog sL w)∧sizedMet enc prog f3 (OpenSpec.ofChange Rows.shelfSetsSpec) false w args)
  (Rows.shelfSetsSpec.post enc prog f3 false true false false):=by
 refine returnsInHanded_of_change_and (C:=Tryz.checked) (X:=fun w _=>laidMetH prog sL w) (fun _ _ _ hh h=>h.of_heap hh) own started (by kernel_rfl) func3
  (ChangeSpec.witness_shaped (enc:=enc) (C:=Tryz.checked) (os:=os) (X:=fun w _=>laidMetH prog sL w) false (World.doorLaid prog 29 os) #[] 8 rfl (World.shaped_of_RefB (by kernel_rfl) (by kernel_rfl)) (by kernel_rfl) (by kernel_rfl) (by kernel_rfl) (qFE os _)) ?_
 intro W base args ds gs before hval0 hW _ hsz hL _
 have hval : ∀ (j:Nat) t v,f3.params[j]? = some t→args[j]? = some v→Value.okWide prog W .any base t v:=hval0
 have hsz:(DataW.weightsEach prog (f3.params.toList++Rows.shelfSetsSpec.plain.varTypes prog) (ds++gs)).all (·≤reachBytes)=true:=hsz
 have hW':=hW
 obtain ⟨p,q,hA0,hV,rfl,hfz,hnd⟩:=hW
 have hA:DataW.TrodAll enc prog W 0 (fun _=>true) true f3.params.toList args.toList ds p:=hA0
 rw [Tryz.params3] at hA hval hsz
 obtain ⟨rfl,rfl,rfl⟩:=trodAll_none hA
 obtain ⟨rfl,rfl⟩:=trodVars_none hV
 clear hA0 hval0
 have g:iJ W:=rM hL
 refine (qWS (vO g)).mono fun e W' ⟨he,bel⟩=>?_
 subst he
 exact ⟨_,rfl,_,_,_,[],_,[],hW',trodAll_mk1 (shut_bool Tryz.underlying4 _),trodAll_mk0,rfl,bel.frame _,fun h=>by cases h⟩
theorem andT {a b:Bool} (h1:a=true) (h2:b=true):(a&&b)=true:=by rw [h1,h2]; rfl
theorem shelfSets_k1:(Rows.shelfSetsRow.wf (OpenSpec.ofChange Rows.shelfSetsSpec))=true:=by kernel_rfl
theorem shelfSets_k2:(laidOutB prog)=true:=by kernel_rfl
theorem shelfSets_k3:(mapsRowed prog)=true:=by kernel_rfl
theorem shelfSets_k4:(f3.params.all (prog.readableRec ·))=true:=by kernel_rfl
theorem shelfSets_k5:(namedTie prog Rows.shelfSetsRow.named Rows.shelfSetsSpec.vars)=true:=by kernel_rfl
theorem shelfSets_k6:((Rows.shelfSetsRow.stops==[]))=true:=by kernel_rfl
theorem shelfSets_k7:((prog.stops==[]))=true:=by kernel_rfl
theorem shelfSets_k8:((Rows.shelfSetsRow.knobs==[]))=true:=by kernel_rfl
theorem shelfSets_k9:((prog.stopKnobs==[]))=true:=by kernel_rfl
theorem shelfSets_k10:((Rows.shelfSetsRow.inPlace==prog.inPlace 3))=true:=by kernel_rfl
theorem shelfSets_k11:((Rows.shelfSetsRow.unfollowed==prog.unfollowed 3))=true:=by kernel_rfl
theorem shelfSets_k12:((Rows.shelfSetsRow.recurses==prog.recurses 3))=true:=by kernel_rfl
theorem shelfSets_k13:((Rows.shelfSetsRow.named==prog.varsNamed 3))=true:=by kernel_rfl
theorem shelfSets_k14:((Rows.shelfSetsRow.maps==(f3.params.toList++Rows.shelfSetsSpec.plain.varTypes prog).any (prog.mapsRec ·)))=true:=by kernel_rfl
theorem shelfSets_k15:((Rows.shelfSetsRow.ifaces==(f3.params.toList++Rows.shelfSetsSpec.plain.varTypes prog).any (prog.ifacesRec ·)))=true:=by kernel_rfl
theorem shelfSets_k16:((Rows.shelfSetsRow.mapsOut==prog.mapsAmong f3.resultTypes.toList))=true:=by kernel_rfl
theorem shelfSets_k17:((Rows.shelfSetsRow.loops==(f3.params.toList++Rows.shelfSetsSpec.plain.varTypes prog).any (prog.loopsFrom ·)))=true:=by kernel_rfl
theorem shelfSets_k18:((Rows.shelfSetsRow.wideKeys==(f3.params.toList++Rows.shelfSetsSpec.plain.varTypes prog++f3.resultTypes.toList).any (prog.wideKeysFrom ·)))=true:=by kernel_rfl
theorem shelfSets_k19:(Rows.shelfSetsSpec.vars.all (prog.varReadable ·))=true:=by kernel_rfl
theorem shelfSets_k20:(f3.resultTypes.all (fun t=>prog.readableRec t&&decide (t<prog.types.size)))=true:=by kernel_rfl
theorem shelfSets_k21:((Rows.shelfSetsRow.ifacesOut==f3.resultTypes.toList.any (prog.ifacesRec ·)))=true:=by kernel_rfl
theorem shelfSets_k22:((Rows.shelfSetsRow.loopsOut==f3.resultTypes.toList.any (prog.loopsFrom ·)))=true:=by kernel_rfl
theorem shelfSets_k23:((Rows.shelfSetsRow.plainKeys==prog.plainKeys))=true:=by kernel_rfl
theorem shelfSets_k24:(Rows.shelfSetsRow.shortTexts.isNone)=true:=by kernel_rfl
theorem shelfSets_k25:(prog.stopsHeard)=true:=by kernel_rfl
theorem shelfSets_k26:(prog.mayEnter)=true:=by kernel_rfl
theorem shelfSets_k27:((Rows.shelfSetsRow.lifted==prog.liftsFinal))=true:=by kernel_rfl
theorem shelfSets_k28:((prog.make==some Rows.shelfSetsRow.make))=true:=by kernel_rfl
theorem shelfSets_k29:((Rows.shelfSetsRow.kinds==(if Rows.shelfSetsRow.domain.isEmpty then [] else f3.params.toList.map fun t=>match prog.underlying t with | some (.int k)=>some k | _=>none)))=true:=by kernel_rfl
theorem shelfSets_k30:((Rows.shelfSetsRow.pinned==Rows.shelfSetsRow.pinnedBy))=true:=by kernel_rfl
theorem shelfSets_k31:((Rows.shelfSetsRow.veiled==(f3.params.toList++Rows.shelfSetsSpec.plain.varTypes prog++f3.resultTypes.toList).any (prog.veiledRec ·)))=true:=by kernel_rfl
theorem shelfSets_k32:(Rows.shelfSetsRow.veiledFits prog f3.params.toList (f3.params.toList++Rows.shelfSetsSpec.plain.varTypes prog++f3.resultTypes.toList))=true:=by kernel_rfl
theorem shelfSets_closed:joinedFacts prog 3 f3 Rows.shelfSetsSpec Rows.shelfSetsRow=true:=(andT (andT (andT (andT (andT (andT (andT (andT (andT (andT (andT (andT (andT (andT (andT (andT (andT (andT (andT (andT (andT (andT (andT (andT (andT (andT (andT (andT (andT (andT (andT shelfSets_k1 shelfSets_k2) shelfSets_k3) shelfSets_k4) shelfSets_k5) shelfSets_k6) shelfSets_k7) shelfSets_k8) shelfSets_k9) shelfSets_k10) shelfSets_k11) shelfSets_k12) shelfSets_k13) shelfSets_k14) shelfSets_k15) shelfSets_k16) shelfSets_k17) shelfSets_k18) shelfSets_k19) shelfSets_k20) shelfSets_k21) shelfSets_k22) shelfSets_k23) shelfSets_k24) shelfSets_k25) shelfSets_k26) shelfSets_k27) shelfSets_k28) shelfSets_k29) shelfSets_k30) shelfSets_k31) shelfSets_k32)
theorem shelfSets_named:prog.funcNamed Rows.shelfSetsRow.func=some 3:=by kernel_rfl
theorem shelfSets_wrap:f3.isWrapper prog Rows.shelfSetsRow.wrapper Rows.shelfSetsRow.mainSum:=by unfold Func.isWrapper; first | (rw [if_pos (by decide +kernel)]; kernel_rfl) | (rw [if_neg (by decide +kernel)]; exact ⟨rfl,rfl⟩)
theorem shelfSets_proved:Rows.ShelfSetsSaid:=
 OpenClaim.holds_of_wide 3 f3 rfl rfl rfl rfl rfl rfl rfl ⟨rfl,rfl,rfl,rfl,rfl⟩ rfl rfl rfl rfl rfl shelfSets_named func3 shelfSets_closed
  (of_decide_eq_true (by kernel_rfl)) shelfSets_wrap
  (fun os started H enc _=>shelfSets_lifted os started H enc)
theorem shelfSets_text:Rows.shelfSetsRow.wfByText (OpenSpec.ofChange Rows.shelfSetsSpec)=true:=by kernel_rfl
theorem shelfSets_main:prog.mainIs=some (((true,"46f9a049a33ef8b4da37be91ba602dc28c8f18a9d76b5441fbdaa52b9d077cd2"):Bool×String).1,((true,"46f9a049a33ef8b4da37be91ba602dc28c8f18a9d76b5441fbdaa52b9d077cd2"):Bool×String).2.toList):=by kernel_rfl
theorem shelfSets_looks:true=prog.looks []:=by kernel_rfl
theorem shelfSets_goes:false=Rows.shelfSetsRow.goesBy prog:=by kernel_rfl
theorem shelfSets_card:Rows.ShelfSetsCardSaid:=
 Claim7.holds_tied_plain_at .later [] [.data,.data,.data,.data] true (true,"46f9a049a33ef8b4da37be91ba602dc28c8f18a9d76b5441fbdaa52b9d077cd2") true
  shelfSets_proved (fun _ h=>by cases h) shelfSets_text (fun _ h=>by cases h) shelfSets_row_tie rfl ⟨rfl,rfl⟩ shelfSets_main rfl
  (fun f fn hf hfn=>by
   obtain rfl:f=3:=Option.some.inj ((show prog.funcNamed f3.name=some 3 by kernel_rfl).symm.trans hf) |>.symm
   obtain rfl:fn=f3:=(Option.some.inj (func3.symm.trans hfn)).symm
   exact ⟨shelfSets_looks,fun j t ht=>by
    rw [Tryz.params3] at ht
    have hm:t∈([]:List TypeId):=by simpa using Array.mem_of_getElem? ht
    have hall:(([]:List TypeId).all fun u=>!prog.wantsStandIn u)=true:=by kernel_rfl
    exact (show prog.wantsStandIn t=false by simpa using List.all_eq_true.1 hall t hm)⟩)
  shelfSets_goes
end Go.Proofs.YtahjmeegfkfokaaGreatDoor
