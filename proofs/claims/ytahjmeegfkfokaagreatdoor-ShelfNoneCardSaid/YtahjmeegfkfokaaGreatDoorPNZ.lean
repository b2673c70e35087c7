/- ShelfNone: the law returns true for every input; no condition. -/
import Derived.Test.YtahjmeegfkfokaaGreatDoorPN19
import Derived.Test.YtahjmeegfkfokaaGreatDoorTie
import Derived.Test.YtahjmeegfkfokaaGreatDoorCards
set_option linter.unusedSimpArgs false
set_option linter.unusedVariables false
set_option maxRecDepth 100000
set_option maxHeartbeats 4000000
namespace Go.Proofs.YtahjmeegfkfokaaGreatDoor
open Go Go.Sh Go.ChangeShapes Go.WideShapes Go.ChangeAt Go.RowKit
open Go.Proofs.Tryz
theorem shelfNone_lifted (os:Os) (started:os.Started) (H:Type) (enc:TypeId×Value→H) :
 ReturnsInHanded {} Tryz.checked os 6 .any (fun w args=>(Rows.shelfNoneSpec.pre enc prog f6 [] false w args∧laidMetH prog rK w)∧sizedMet enc prog f6 (OpenSpec.ofChange Rows.shelfNoneSpec) false w args)
  (Rows.shelfNoneSpec.post enc prog f6 false true false false):=by
 refine returnsInHanded_of_change_and (C:=Tryz.checked) (X:=fun w _=>laidMetH prog rK w) (fun _ _ _ hh h=>h.of_heap hh) own started (by kernel_rfl) func6
  (ChangeSpec.witness_shaped (enc:=enc) (C:=Tryz.checked) (os:=os) (X:=fun w _=>laidMetH prog rK w) false (World.doorLaid prog 29 os) #[.slice none 0 0,.int .i64 0] 8 rfl (World.shaped_of_RefB (by kernel_rfl) (by kernel_rfl)) (by kernel_rfl) (by kernel_rfl) (by kernel_rfl) (qDP os _)) ?_
 intro W base args ds gs before hval0 hW _ hsz hL _
 have hval : ∀ (j:Nat) t v,f6.params[j]? = some t→args[j]? = some v→Value.okWide prog W .any base t v:=hval0
 have hsz:(DataW.weightsEach prog (f6.params.toList++Rows.shelfNoneSpec.plain.varTypes prog) (ds++gs)).all (·≤reachBytes)=true:=hsz
 have hW':=hW
 obtain ⟨p,q,hA0,hV,rfl,hfz,hnd⟩:=hW
 have hA:DataW.TrodAll enc prog W 0 (fun _=>true) true f6.params.toList args.toList ds p:=hA0
 rw [Tryz.params6] at hA hval hsz
 obtain ⟨v0,v1,d0,d1,p0,p1,rfl,rfl,rfl,h0,h1⟩:=trodAll_two hA
 obtain ⟨rfl,rfl⟩:=trodVars_none hV
 clear hA0 hval0
 obtain ⟨a0,len0,cap0,rfl⟩:=okWide_slice Tryz.underlying32 (hval 0 32 v0 rfl rfl)
 have k0:=h0
 have bl0 : ∀ x∈p0,x.block<W.heap.size:=by obtain ⟨m,hm⟩:=k0; exact DataW.trod_lt m _ _ _ hm
 obtain ⟨fu0,hf0⟩:=h0
 obtain ⟨l0,rd0,hc0⟩:=qGA hf0
 have le0:len0≤1000000000000000:=wL rA qGM (by omega) hsz (j:=0) rfl (by obtain ⟨_,q,_⟩:=rd0; exact q.2.1) rfl hc0
 have w1:=hval 1 3 v1 rfl rfl
 obtain ⟨n1,rfl⟩:=okWide_int Tryz.underlying3 w1
 have k1:=h1
 have bl1 : ∀ x∈p1,x.block<W.heap.size:=by obtain ⟨m,hm⟩:=k1; exact DataW.trod_lt m _ _ _ hm
 have g:iC W:=qV hL
 refine (qPW (tY (s:=⟨a0,len0,cap0⟩) g rd0 (by show len0≤_; omega))).mono fun e W' ⟨he,bel⟩=>?_
 subst he
 exact ⟨_,rfl,_,_,_,[],_,[],hW',trodAll_mk1 (shut_bool Tryz.underlying4 _),trodAll_mk2 (Below.trod laidOut (by kernel_rfl) (of_decide_eq_true (by kernel_rfl)) k0 bel bl0) (Below.trod laidOut (by kernel_rfl) (of_decide_eq_true (by kernel_rfl)) k1 bel bl1),rfl,bel.frame _,fun h=>by cases h⟩
theorem andT {a b:Bool} (h1:a=true) (h2:b=true):(a&&b)=true:=by rw [h1,h2]; rfl
theorem shelfNone_k1:(Rows.shelfNoneRow.wf (OpenSpec.ofChange Rows.shelfNoneSpec))=true:=by kernel_rfl
theorem shelfNone_k2:(laidOutB prog)=true:=by kernel_rfl
theorem shelfNone_k3:(mapsRowed prog)=true:=by kernel_rfl
theorem shelfNone_k4:(f6.params.all (prog.readableRec ·))=true:=by kernel_rfl
theorem shelfNone_k5:(namedTie prog Rows.shelfNoneRow.named Rows.shelfNoneSpec.vars)=true:=by kernel_rfl
theorem shelfNone_k6:((Rows.shelfNoneRow.stops==[]))=true:=by kernel_rfl
theorem shelfNone_k7:((prog.stops==[]))=true:=by kernel_rfl
theorem shelfNone_k8:((Rows.shelfNoneRow.knobs==[]))=true:=by kernel_rfl
theorem shelfNone_k9:((prog.stopKnobs==[]))=true:=by kernel_rfl
theorem shelfNone_k10:((Rows.shelfNoneRow.inPlace==prog.inPlace 6))=true:=by kernel_rfl
theorem shelfNone_k11:((Rows.shelfNoneRow.unfollowed==prog.unfollowed 6))=true:=by kernel_rfl
theorem shelfNone_k12:((Rows.shelfNoneRow.recurses==prog.recurses 6))=true:=by kernel_rfl
theorem shelfNone_k13:((Rows.shelfNoneRow.named==prog.varsNamed 6))=true:=by kernel_rfl
theorem shelfNone_k14:((Rows.shelfNoneRow.maps==(f6.params.toList++Rows.shelfNoneSpec.plain.varTypes prog).any (prog.mapsRec ·)))=true:=by kernel_rfl
theorem shelfNone_k15:((Rows.shelfNoneRow.ifaces==(f6.params.toList++Rows.shelfNoneSpec.plain.varTypes prog).any (prog.ifacesRec ·)))=true:=by kernel_rfl
theorem shelfNone_k16:((Rows.shelfNoneRow.mapsOut==prog.mapsAmong f6.resultTypes.toList))=true:=by kernel_rfl
theorem shelfNone_k17:((Rows.shelfNoneRow.loops==(f6.params.toList++Rows.shelfNoneSpec.plain.varTypes prog).any (prog.loopsFrom ·)))=true:=by kernel_rfl
theorem shelfNone_k18:((Rows.shelfNoneRow.wideKeys==(f6.params.toList++Rows.shelfNoneSpec.plain.varTypes prog++f6.resultTypes.toList).any (prog.wideKeysFrom ·)))=true:=by kernel_rfl
theorem shelfNone_k19:(Rows.shelfNoneSpec.vars.all (prog.varReadable ·))=true:=by kernel_rfl
theorem shelfNone_k20:(f6.resultTypes.all (fun t=>prog.readableRec t&&decide (t<prog.types.size)))=true:=by kernel_rfl
theorem shelfNone_k21:((Rows.shelfNoneRow.ifacesOut==f6.resultTypes.toList.any (prog.ifacesRec ·)))=true:=by kernel_rfl
theorem shelfNone_k22:((Rows.shelfNoneRow.loopsOut==f6.resultTypes.toList.any (prog.loopsFrom ·)))=true:=by kernel_rfl
theorem shelfNone_k23:((Rows.shelfNoneRow.plainKeys==prog.plainKeys))=true:=by kernel_rfl
theorem shelfNone_k24:(Rows.shelfNoneRow.shortTexts.isNone)=true:=by kernel_rfl
theorem shelfNone_k25:(prog.stopsHeard)=true:=by kernel_rfl
theorem shelfNone_k26:(prog.mayEnter)=true:=by kernel_rfl
theorem shelfNone_k27:((Rows.shelfNoneRow.lifted==prog.liftsFinal))=true:=by kernel_rfl
theorem shelfNone_k28:((prog.make==some Rows.shelfNoneRow.make))=true:=by kernel_rfl
theorem shelfNone_k29:((Rows.shelfNoneRow.kinds==(if Rows.shelfNoneRow.domain.isEmpty then [] else f6.params.toList.map fun t=>match prog.underlying t with | some (.int k)=>some k | _=>none)))=true:=by kernel_rfl
theorem shelfNone_k30:((Rows.shelfNoneRow.pinned==Rows.shelfNoneRow.pinnedBy))=true:=by kernel_rfl
theorem shelfNone_k31:((Rows.shelfNoneRow.veiled==(f6.params.toList++Rows.shelfNoneSpec.plain.varTypes prog++f6.resultTypes.toList).any (prog.veiledRec ·)))=true:=by kernel_rfl
theorem shelfNone_k32:(Rows.shelfNoneRow.veiledFits prog f6.params.toList (f6.params.toList++Rows.shelfNoneSpec.plain.varTypes prog++f6.resultTypes.toList))=true:=by kernel_rfl
theorem shelfNone_closed:joinedFacts prog 6 f6 Rows.shelfNoneSpec Rows.shelfNoneRow=true:=(andT (andT (andT (andT (andT (andT (andT (andT (andT (andT (andT (andT (andT (andT (andT (andT (andT (andT (andT (andT (andT (andT (andT (andT (andT (andT (andT (andT (andT (andT (andT shelfNone_k1 shelfNone_k2) shelfNone_k3) shelfNone_k4) shelfNone_k5) shelfNone_k6) shelfNone_k7) shelfNone_k8) shelfNone_k9) shelfNone_k10) shelfNone_k11) shelfNone_k12) shelfNone_k13) shelfNone_k14) shelfNone_k15) shelfNone_k16) shelfNone_k17) shelfNone_k18) shelfNone_k19) shelfNone_k20) shelfNone_k21) shelfNone_k22) shelfNone_k23) shelfNone_k24) shelfNone_k25) shelfNone_k26) shelfNone_k27) shelfNone_k28) shelfNone_k29) shelfNone_k30) shelfNone_k31) shelfNone_k32)
theorem shelfNone_named:prog.funcNamed Rows.shelfNoneRow.func=some 6:=by kernel_rfl
theorem shelfNone_wrap:f6.isWrapper prog Rows.shelfNoneRow.wrapper Rows.shelfNoneRow.mainSum:=by unfold Func.isWrapper; first | (rw [if_pos (by decide +kernel)]; kernel_rfl) | (rw [if_neg (by decide +kernel)]; exact ⟨rfl,rfl⟩)
theorem shelfNone_proved:Rows.ShelfNoneSaid:=
 OpenClaim.holds_of_wide 6 f6 rfl rfl rfl rfl rfl rfl rfl ⟨rfl,rfl,rfl,rfl,rfl⟩ rfl rfl rfl rfl rfl shelfNone_named func6 shelfNone_closed
  (of_decide_eq_true (by kernel_rfl)) shelfNone_wrap
  (fun os started H enc _=>shelfNone_lifted os started H enc)
theorem shelfNone_text:Rows.shelfNoneRow.wfByText (OpenSpec.ofChange Rows.shelfNoneSpec)=true:=by kernel_rfl
theorem shelfNone_main:prog.mainIs=some (((true,"46f9a049a33ef8b4da37be91ba602dc28c8f18a9d76b5441fbdaa52b9d077cd2"):Bool×String).1,((true,"46f9a049a33ef8b4da37be91ba602dc28c8f18a9d76b5441fbdaa52b9d077cd2"):Bool×String).2.toList):=by kernel_rfl
theorem shelfNone_looks:true=prog.looks []:=by kernel_rfl
theorem shelfNone_goes:false=Rows.shelfNoneRow.goesBy prog:=by kernel_rfl
theorem shelfNone_card:Rows.ShelfNoneCardSaid:=
 Claim7.holds_tied_plain_at .later [] [.data,.data,.data,.data] true (true,"46f9a049a33ef8b4da37be91ba602dc28c8f18a9d76b5441fbdaa52b9d077cd2") true
  shelfNone_proved (fun _ h=>by cases h) shelfNone_text (fun _ h=>by cases h) shelfNone_row_tie rfl ⟨rfl,rfl⟩ shelfNone_main rfl
  (fun f fn hf hfn=>by
   obtain rfl:f=6:=Option.some.inj ((show prog.funcNamed f6.name=some 6 by kernel_rfl).symm.trans hf) |>.symm
   obtain rfl:fn=f6:=(Option.some.inj (func6.symm.trans hfn)).symm
   exact ⟨shelfNone_looks,fun j t ht=>by
    rw [Tryz.params6] at ht
    have hm:t∈([32,3]:List TypeId):=by simpa using Array.mem_of_getElem? ht
    have hall:(([32,3]:List TypeId).all fun u=>!prog.wantsStandIn u)=true:=by kernel_rfl
    exact (show prog.wantsStandIn t=false by simpa using List.all_eq_true.1 hall t hm)⟩)
  shelfNone_goes
end Go.Proofs.YtahjmeegfkfokaaGreatDoor
