/- ShelfOrder: the law returns true for every input; no condition. -/
import Derived.Test.YtahjmeegfkfokaaGreatDoorPR20
import Derived.Test.YtahjmeegfkfokaaGreatDoorTie
import Derived.Test.YtahjmeegfkfokaaGreatDoorCards
set_option linter.unusedSimpArgs false
set_option linter.unusedVariables false
set_option maxRecDepth 100000
set_option maxHeartbeats 4000000
namespace Go.Proofs.YtahjmeegfkfokaaGreatDoor
open Go Go.Sh Go.ChangeShapes Go.WideShapes Go.ChangeAt Go.RowKit
open Go.Proofs.Tryz
theorem shelfOrder_lifted (os:Os) (started:os.Started) (H:Type) (enc:TypeId×Value→H) :
 ReturnsInHanded {} Tryz.checked os 4 .any (fun w args=>(Rows.shelfOrderSpec.pre enc prog f4 [] false w args∧laidMetH prog sH w)∧sizedMet enc prog f4 (OpenSpec.ofChange Rows.shelfOrderSpec) false w args)
  (Rows.shelfOrderSpec.post enc prog f4 false true false false):=by
 refine returnsInHanded_of_change_and (C:=Tryz.checked) (X:=fun w _=>laidMetH prog sH w) (fun _ _ _ hh h=>h.of_heap hh) own started (by kernel_rfl) func4
  (ChangeSpec.witness_shaped (enc:=enc) (C:=Tryz.checked) (os:=os) (X:=fun w _=>laidMetH prog sH w) false (World.doorLaid prog 29 os) #[.slice none 0 0,.slice none 0 0] 8 rfl (World.shaped_of_RefB (by kernel_rfl) (by kernel_rfl)) (by kernel_rfl) (by kernel_rfl) (by kernel_rfl) (qFO os _)) ?_
 intro W base args ds gs before hval0 hW _ hsz hL _
 have hval : ∀ (j:Nat) t v,f4.params[j]? = some t→args[j]? = some v→Value.okWide prog W .any base t v:=hval0
 have hsz:(DataW.weightsEach prog (f4.params.toList++Rows.shelfOrderSpec.plain.varTypes prog) (ds++gs)).all (·≤reachBytes)=true:=hsz
 have hW':=hW
 obtain ⟨p,q,hA0,hV,rfl,hfz,hnd⟩:=hW
 have hA:DataW.TrodAll enc prog W 0 (fun _=>true) true f4.params.toList args.toList ds p:=hA0
 rw [Tryz.params4] at hA hval hsz
 obtain ⟨v0,v1,d0,d1,p0,p1,rfl,rfl,rfl,h0,h1⟩:=trodAll_two hA
 obtain ⟨rfl,rfl⟩:=trodVars_none hV
 clear hA0 hval0
 obtain ⟨a0,len0,cap0,rfl⟩:=okWide_slice Tryz.underlying32 (hval 0 32 v0 rfl rfl)
 have k0:=h0
 have bl0 : ∀ x∈p0,x.block<W.heap.size:=by obtain ⟨m,hm⟩:=k0; exact DataW.trod_lt m _ _ _ hm
 obtain ⟨fu0,hf0⟩:=h0
 obtain ⟨l0,rd0,hc0⟩:=qOV hf0
 have le0:len0≤1000000000000000:=qW tE qJW (by omega) hsz (j:=0) rfl (by obtain ⟨_,q,_⟩:=rd0; exact q.2.1) rfl hc0
 obtain ⟨a1,len1,cap1,rfl⟩:=okWide_slice Tryz.underlying37 (hval 1 37 v1 rfl rfl)
 have k1:=h1
 have bl1 : ∀ x∈p1,x.block<W.heap.size:=by obtain ⟨m,hm⟩:=k1; exact DataW.trod_lt m _ _ _ hm
 obtain ⟨fu1,hf1⟩:=h1
 obtain ⟨l1,rd1,lt1,hc1⟩:=qPC hf1
 have le1:len1≤1000000000000000:=qW qHG qZR (by omega) hsz (j:=1) rfl rd1.2.1 rfl hc1
 have g:iG W:=sA hL
 refine (qXP (uU (s:=⟨a0,len0,cap0⟩) (order:=⟨a1,len1,cap1⟩) g rd0 (by show len0≤_; omega) rd1 (by show len1≤_; omega))).mono fun e W' ⟨he,bel⟩=>?_
 subst he
 exact ⟨_,rfl,_,_,_,[],_,[],hW',trodAll_mk1 (shut_bool Tryz.underlying4 _),trodAll_mk2 (Below.trod laidOut (by kernel_rfl) (of_decide_eq_true (by kernel_rfl)) k0 bel bl0) (Below.trod laidOut (by kernel_rfl) (of_decide_eq_true (by kernel_rfl)) k1 bel bl1),rfl,bel.frame _,fun h=>by cases h⟩
theorem andT {a b:Bool} (h1:a=true) (h2:b=true):(a&&b)=true:=by rw [h1,h2]; rfl
theorem shelfOrder_k1:(Rows.shelfOrderRow.wf (OpenSpec.ofChange Rows.shelfOrderSpec))=true:=by kernel_rfl
theorem shelfOrder_k2:(laidOutB prog)=true:=by kernel_rfl
theorem shelfOrder_k3:(mapsRowed prog)=true:=by kernel_rfl
theorem shelfOrder_k4:(f4.params.all (prog.readableRec ·))=true:=by kernel_rfl
theorem shelfOrder_k5:(namedTie prog Rows.shelfOrderRow.named Rows.shelfOrderSpec.vars)=true:=by kernel_rfl
theorem shelfOrder_k6:((Rows.shelfOrderRow.stops==[]))=true:=by kernel_rfl
theorem shelfOrder_k7:((prog.stops==[]))=true:=by kernel_rfl
theorem shelfOrder_k8:((Rows.shelfOrderRow.knobs==[]))=true:=by kernel_rfl
theorem shelfOrder_k9:((prog.stopKnobs==[]))=true:=by kernel_rfl
theorem shelfOrder_k10:((Rows.shelfOrderRow.inPlace==prog.inPlace 4))=true:=by kernel_rfl
theorem shelfOrder_k11:((Rows.shelfOrderRow.unfollowed==prog.unfollowed 4))=true:=by kernel_rfl
theorem shelfOrder_k12:((Rows.shelfOrderRow.recurses==prog.recurses 4))=true:=by kernel_rfl
theorem shelfOrder_k13:((Rows.shelfOrderRow.named==prog.varsNamed 4))=true:=by kernel_rfl
theorem shelfOrder_k14:((Rows.shelfOrderRow.maps==(f4.params.toList++Rows.shelfOrderSpec.plain.varTypes prog).any (prog.mapsRec ·)))=true:=by kernel_rfl
theorem shelfOrder_k15:((Rows.shelfOrderRow.ifaces==(f4.params.toList++Rows.shelfOrderSpec.plain.varTypes prog).any (prog.ifacesRec ·)))=true:=by kernel_rfl
theorem shelfOrder_k16:((Rows.shelfOrderRow.mapsOut==prog.mapsAmong f4.resultTypes.toList))=true:=by kernel_rfl
theorem shelfOrder_k17:((Rows.shelfOrderRow.loops==(f4.params.toList++Rows.shelfOrderSpec.plain.varTypes prog).any (prog.loopsFrom ·)))=true:=by kernel_rfl
theorem shelfOrder_k18:((Rows.shelfOrderRow.wideKeys==(f4.params.toList++Rows.shelfOrderSpec.plain.varTypes prog++f4.resultTypes.toList).any (prog.wideKeysFrom ·)))=true:=by kernel_rfl
theorem shelfOrder_k19:(Rows.shelfOrderSpec.vars.all (prog.varReadable ·))=true:=by kernel_rfl
theorem shelfOrder_k20:(f4.resultTypes.all (fun t=>prog.readableRec t&&decide (t<prog.types.size)))=true:=by kernel_rfl
theorem shelfOrder_k21:((Rows.shelfOrderRow.ifacesOut==f4.resultTypes.toList.any (prog.ifacesRec ·)))=true:=by kernel_rfl
theorem shelfOrder_k22:((Rows.shelfOrderRow.loopsOut==f4.resultTypes.toList.any (prog.loopsFrom ·)))=true:=by kernel_rfl
theorem shelfOrder_k23:((Rows.shelfOrderRow.plainKeys==prog.plainKeys))=true:=by kernel_rfl
theorem shelfOrder_k24:(Rows.shelfOrderRow.shortTexts.isNone)=true:=by kernel_rfl
theorem shelfOrder_k25:(prog.stopsHeard)=true:=by kernel_rfl
theorem shelfOrder_k26:(prog.mayEnter)=true:=by kernel_rfl
theorem shelfOrder_k27:((Rows.shelfOrderRow.lifted==prog.liftsFinal))=true:=by kernel_rfl
theorem shelfOrder_k28:((prog.make==some Rows.shelfOrderRow.make))=true:=by kernel_rfl
theorem shelfOrder_k29:((Rows.shelfOrderRow.kinds==(if Rows.shelfOrderRow.domain.isEmpty then [] else f4.params.toList.map fun t=>match prog.underlying t with | some (.int k)=>some k | _=>none)))=true:=by kernel_rfl
theorem shelfOrder_k30:((Rows.shelfOrderRow.pinned==Rows.shelfOrderRow.pinnedBy))=true:=by kernel_rfl
theorem shelfOrder_k31:((Rows.shelfOrderRow.veiled==(f4.params.toList++Rows.shelfOrderSpec.plain.varTypes prog++f4.resultTypes.toList).any (prog.veiledRec ·)))=true:=by kernel_rfl
theorem shelfOrder_k32:(Rows.shelfOrderRow.veiledFits prog f4.params.toList (f4.params.toList++Rows.shelfOrderSpec.plain.varTypes prog++f4.resultTypes.toList))=true:=by kernel_rfl
theorem shelfOrder_closed:joinedFacts prog 4 f4 Rows.shelfOrderSpec Rows.shelfOrderRow=true:=(andT (andT (andT (andT (andT (andT (andT (andT (andT (andT (andT (andT (andT (andT (andT (andT (andT (andT (andT (andT (andT (andT (andT (andT (andT (andT (andT (andT (andT (andT (andT shelfOrder_k1 shelfOrder_k2) shelfOrder_k3) shelfOrder_k4) shelfOrder_k5) shelfOrder_k6) shelfOrder_k7) shelfOrder_k8) shelfOrder_k9) shelfOrder_k10) shelfOrder_k11) shelfOrder_k12) shelfOrder_k13) shelfOrder_k14) shelfOrder_k15) shelfOrder_k16) shelfOrder_k17) shelfOrder_k18) shelfOrder_k19) shelfOrder_k20) shelfOrder_k21) shelfOrder_k22) shelfOrder_k23) shelfOrder_k24) shelfOrder_k25) shelfOrder_k26) shelfOrder_k27) shelfOrder_k28) shelfOrder_k29) shelfOrder_k30) shelfOrder_k31) shelfOrder_k32)
theorem shelfOrder_named:prog.funcNamed Rows.shelfOrderRow.func=some 4:=by kernel_rfl
theorem shelfOrder_wrap:f4.isWrapper prog Rows.shelfOrderRow.wrapper Rows.shelfOrderRow.mainSum:=by unfold Func.isWrapper; first | (rw [if_pos (by decide +kernel)]; kernel_rfl) | (rw [if_neg (by decide +kernel)]; exact ⟨rfl,rfl⟩)
theorem shelfOrder_proved:Rows.ShelfOrderSaid:=
 OpenClaim.holds_of_wide 4 f4 rfl rfl rfl rfl rfl rfl rfl ⟨rfl,rfl,rfl,rfl,rfl⟩ rfl rfl rfl rfl rfl shelfOrder_named func4 shelfOrder_closed
  (of_decide_eq_true (by kernel_rfl)) shelfOrder_wrap
  (fun os started H enc _=>shelfOrder_lifted os started H enc)
theorem shelfOrder_text:Rows.shelfOrderRow.wfByText (OpenSpec.ofChange Rows.shelfOrderSpec)=true:=by kernel_rfl
theorem shelfOrder_main:prog.mainIs=some (((true,"46f9a049a33ef8b4da37be91ba602dc28c8f18a9d76b5441fbdaa52b9d077cd2"):Bool×String).1,((true,"46f9a049a33ef8b4da37be91ba602dc28c8f18a9d76b5441fbdaa52b9d077cd2"):Bool×String).2.toList):=by kernel_rfl
theorem shelfOrder_looks:true=prog.looks []:=by kernel_rfl
theorem shelfOrder_goes:false=Rows.shelfOrderRow.goesBy prog:=by kernel_rfl
theorem shelfOrder_card:Rows.ShelfOrderCardSaid:=
 Claim7.holds_tied_plain_at .later [] [.data,.data,.data,.data] true (true,"46f9a049a33ef8b4da37be91ba602dc28c8f18a9d76b5441fbdaa52b9d077cd2") true
  shelfOrder_proved (fun _ h=>by cases h) shelfOrder_text (fun _ h=>by cases h) shelfOrder_row_tie rfl ⟨rfl,rfl⟩ shelfOrder_main rfl
  (fun f fn hf hfn=>by
   obtain rfl:f=4:=Option.some.inj ((show prog.funcNamed f4.name=some 4 by kernel_rfl).symm.trans hf) |>.symm
   obtain rfl:fn=f4:=(Option.some.inj (func4.symm.trans hfn)).symm
   exact ⟨shelfOrder_looks,fun j t ht=>by
    rw [Tryz.params4] at ht
    have hm:t∈([32,37]:List TypeId):=by simpa using Array.mem_of_getElem? ht
    have hall:(([32,37]:List TypeId).all fun u=>!prog.wantsStandIn u)=true:=by kernel_rfl
    exact (show prog.wantsStandIn t=false by simpa using List.all_eq_true.1 hall t hm)⟩)
  shelfOrder_goes
end Go.Proofs.YtahjmeegfkfokaaGreatDoor
