/- UnionShelf: the law returns true for every input; no condition. -/
import Derived.Test.YthaefcgpbccmbaaGreatDoorPV20
import Derived.Test.YthaefcgpbccmbaaGreatDoorTie
import Derived.Test.YthaefcgpbccmbaaGreatDoorCards
set_option linter.unusedSimpArgs false
set_option linter.unusedVariables false
set_option maxRecDepth 100000
set_option maxHeartbeats 4000000
namespace Go.Proofs.YthaefcgpbccmbaaGreatDoor
open Go Go.Sh Go.ChangeShapes Go.WideShapes Go.ChangeAt Go.RowKit
open Go.Proofs.Tryz
theorem unionShelf_lifted (os:Os) (started:os.Started) (H:Type) (enc:TypeId×Value→H) :
 ReturnsInHanded {} Tryz.checked os 6 .any (fun w args=>(Rows.unionShelfSpec.pre enc prog f6 [] false w args∧laidMetH prog sB w)∧sizedMet enc prog f6 (OpenSpec.ofChange Rows.unionShelfSpec) false w args)
  (Rows.unionShelfSpec.post enc prog f6 false true false false):=by
 refine returnsInHanded_of_change_and (C:=Tryz.checked) (X:=fun w _=>laidMetH prog sB w) (fun _ _ _ hh h=>h.of_heap hh) own started (by kernel_rfl) func6
  (ChangeSpec.witness_shaped (enc:=enc) (C:=Tryz.checked) (os:=os) (X:=fun w _=>laidMetH prog sB w) false (World.doorLaid prog 29 os) #[.slice none 0 0] 8 rfl (World.shaped_of_RefB (by kernel_rfl) (by kernel_rfl)) (by kernel_rfl) (by kernel_rfl) (by kernel_rfl) (qE5 os _)) ?_
 intro W base args ds gs before hval0 hW _ hsz hL _
 have hval : ∀ (j:Nat) t v,f6.params[j]? = some t→args[j]? = some v→Value.okWide prog W .any base t v:=hval0
 have hsz:(DataW.weightsEach prog (f6.params.toList++Rows.unionShelfSpec.plain.varTypes prog) (ds++gs)).all (·≤reachBytes)=true:=hsz
 have hW':=hW
 obtain ⟨p,q,hA0,hV,rfl,hfz,hnd⟩:=hW
 have hA:DataW.TrodAll enc prog W 0 (fun _=>true) true f6.params.toList args.toList ds p:=hA0
 rw [Tryz.params6] at hA hval hsz
 obtain ⟨v0,d0,rfl,rfl,h0⟩:=trodAll_one hA
 obtain ⟨rfl,rfl⟩:=trodVars_none hV
 clear hA0 hval0
 obtain ⟨a0,len0,cap0,rfl⟩:=okWide_slice Tryz.underlying22 (hval 0 22 v0 rfl rfl)
 have k0:=h0
 have bl0 : ∀ x∈p,x.block<W.heap.size:=by obtain ⟨m,hm⟩:=k0; exact DataW.trod_lt m _ _ _ hm
 obtain ⟨fu0,hf0⟩:=h0
 obtain ⟨l0,rd0,hc0⟩:=qI1 hf0
 have le0:len0≤1000000000000000:=xA jX qHP (by omega) hsz (j:=0) rfl (by obtain ⟨_,q,_⟩:=rd0; exact q.2.1) rfl hc0
 have g:iE W:=rL hL
 refine (qS5 (tH (s:=⟨a0,len0,cap0⟩) g rd0 (by show len0≤_; omega))).mono fun e W' ⟨he,bel⟩=>?_
 subst he
 exact ⟨_,rfl,_,_,_,[],_,[],hW',trodAll_mk1 (shut_bool Tryz.underlying4 _),trodAll_mk1 (Below.trod laidOut (by kernel_rfl) (of_decide_eq_true (by kernel_rfl)) k0 bel bl0),rfl,bel.frame _,fun h=>by cases h⟩
theorem andT {a b:Bool} (h1:a=true) (h2:b=true):(a&&b)=true:=by rw [h1,h2]; rfl
theorem unionShelf_k1:(Rows.unionShelfRow.wf (OpenSpec.ofChange Rows.unionShelfSpec))=true:=by kernel_rfl
theorem unionShelf_k2:(laidOutB prog)=true:=by kernel_rfl
theorem unionShelf_k3:(mapsRowed prog)=true:=by kernel_rfl
theorem unionShelf_k4:(f6.params.all (prog.readableRec ·))=true:=by kernel_rfl
theorem unionShelf_k5:(namedTie prog Rows.unionShelfRow.named Rows.unionShelfSpec.vars)=true:=by kernel_rfl
theorem unionShelf_k6:((Rows.unionShelfRow.stops==[]))=true:=by kernel_rfl
theorem unionShelf_k7:((prog.stops==[]))=true:=by kernel_rfl
theorem unionShelf_k8:((Rows.unionShelfRow.knobs==[]))=true:=by kernel_rfl
theorem unionShelf_k9:((prog.stopKnobs==[]))=true:=by kernel_rfl
theorem unionShelf_k10:((Rows.unionShelfRow.inPlace==prog.inPlace 6))=true:=by kernel_rfl
theorem unionShelf_k11:((Rows.unionShelfRow.unfollowed==prog.unfollowed 6))=true:=by kernel_rfl
theorem unionShelf_k12:((Rows.unionShelfRow.recurses==prog.recurses 6))=true:=by kernel_rfl
theorem unionShelf_k13:((Rows.unionShelfRow.named==prog.varsNamed 6))=true:=by kernel_rfl
theorem unionShelf_k14:((Rows.unionShelfRow.maps==(f6.params.toList++Rows.unionShelfSpec.plain.varTypes prog).any (prog.mapsRec ·)))=true:=by kernel_rfl
theorem unionShelf_k15:((Rows.unionShelfRow.ifaces==(f6.params.toList++Rows.unionShelfSpec.plain.varTypes prog).any (prog.ifacesRec ·)))=true:=by kernel_rfl
theorem unionShelf_k16:((Rows.unionShelfRow.mapsOut==prog.mapsAmong f6.resultTypes.toList))=true:=by kernel_rfl
theorem unionShelf_k17:((Rows.unionShelfRow.loops==(f6.params.toList++Rows.unionShelfSpec.plain.varTypes prog).any (prog.loopsFrom ·)))=true:=by kernel_rfl
theorem unionShelf_k18:((Rows.unionShelfRow.wideKeys==(f6.params.toList++Rows.unionShelfSpec.plain.varTypes prog++f6.resultTypes.toList).any (prog.wideKeysFrom ·)))=true:=by kernel_rfl
theorem unionShelf_k19:(Rows.unionShelfSpec.vars.all (prog.varReadable ·))=true:=by kernel_rfl
theorem unionShelf_k20:(f6.resultTypes.all (fun t=>prog.readableRec t&&decide (t<prog.types.size)))=true:=by kernel_rfl
theorem unionShelf_k21:((Rows.unionShelfRow.ifacesOut==f6.resultTypes.toList.any (prog.ifacesRec ·)))=true:=by kernel_rfl
theorem unionShelf_k22:((Rows.unionShelfRow.loopsOut==f6.resultTypes.toList.any (prog.loopsFrom ·)))=true:=by kernel_rfl
theorem unionShelf_k23:((Rows.unionShelfRow.plainKeys==prog.plainKeys))=true:=by kernel_rfl
theorem unionShelf_k24:(Rows.unionShelfRow.shortTexts.isNone)=true:=by kernel_rfl
theorem unionShelf_k25:(prog.stopsHeard)=true:=by kernel_rfl
theorem unionShelf_k26:(prog.mayEnter)=true:=by kernel_rfl
theorem unionShelf_k27:((Rows.unionShelfRow.lifted==prog.liftsFinal))=true:=by kernel_rfl
theorem unionShelf_k28:((prog.make==some Rows.unionShelfRow.make))=true:=by kernel_rfl
theorem unionShelf_k29:((Rows.unionShelfRow.kinds==(if Rows.unionShelfRow.domain.isEmpty then [] else f6.params.toList.map fun t=>match prog.underlying t with | some (.int k)=>some k | _=>none)))=true:=by kernel_rfl
theorem unionShelf_k30:((Rows.unionShelfRow.pinned==Rows.unionShelfRow.pinnedBy))=true:=by kernel_rfl
theorem unionShelf_k31:((Rows.unionShelfRow.veiled==(f6.params.toList++Rows.unionShelfSpec.plain.varTypes prog++f6.resultTypes.toList).any (prog.veiledRec ·)))=true:=by kernel_rfl
theorem unionShelf_k32:(Rows.unionShelfRow.veiledFits prog f6.params.toList (f6.params.toList++Rows.unionShelfSpec.plain.varTypes prog++f6.resultTypes.toList))=true:=by kernel_rfl
theorem unionShelf_closed:joinedFacts prog 6 f6 Rows.unionShelfSpec Rows.unionShelfRow=true:=(andT (andT (andT (andT (andT (andT (andT (andT (andT (andT (andT (andT (andT (andT (andT (andT (andT (andT (andT (andT (andT (andT (andT (andT (andT (andT (andT (andT (andT (andT (andT unionShelf_k1 unionShelf_k2) unionShelf_k3) unionShelf_k4) unionShelf_k5) unionShelf_k6) unionShelf_k7) unionShelf_k8) unionShelf_k9) unionShelf_k10) unionShelf_k11) unionShelf_k12) unionShelf_k13) unionShelf_k14) unionShelf_k15) unionShelf_k16) unionShelf_k17) unionShelf_k18) unionShelf_k19) unionShelf_k20) unionShelf_k21) unionShelf_k22) unionShelf_k23) unionShelf_k24) unionShelf_k25) unionShelf_k26) unionShelf_k27) unionShelf_k28) unionShelf_k29) unionShelf_k30) unionShelf_k31) unionShelf_k32)
theorem unionShelf_named:prog.funcNamed Rows.unionShelfRow.func=some 6:=by kernel_rfl
theorem unionShelf_wrap:f6.isWrapper prog Rows.unionShelfRow.wrapper Rows.unionShelfRow.mainSum:=by unfold Func.isWrapper; first | (rw [if_pos (by decide +kernel)]; kernel_rfl) | (rw [if_neg (by decide +kernel)]; exact ⟨rfl,rfl⟩)
theorem unionShelf_proved:Rows.UnionShelfSaid:=
 OpenClaim.holds_of_wide 6 f6 rfl rfl rfl rfl rfl rfl rfl ⟨rfl,rfl,rfl,rfl,rfl⟩ rfl rfl rfl rfl rfl unionShelf_named func6 unionShelf_closed
  (of_decide_eq_true (by kernel_rfl)) unionShelf_wrap
  (fun os started H enc _=>unionShelf_lifted os started H enc)
theorem unionShelf_text:Rows.unionShelfRow.wfByText (OpenSpec.ofChange Rows.unionShelfSpec)=true:=by kernel_rfl
theorem unionShelf_main:prog.mainIs=some (((true,"4eb84264ab377918e0d8c9e53665800ae11e3af38f4a816413dc66f2727d98e9"):Bool×String).1,((true,"4eb84264ab377918e0d8c9e53665800ae11e3af38f4a816413dc66f2727d98e9"):Bool×String).2.toList):=by kernel_rfl
theorem unionShelf_looks:true=prog.looks []:=by kernel_rfl
theorem unionShelf_goes:false=Rows.unionShelfRow.goesBy prog:=by kernel_rfl
theorem unionShelf_card:Rows.UnionShelfCardSaid:=
 Claim7.holds_tied_plain_at .later [] [.data,.data,.data,.data] true (true,"4eb84264ab377918e0d8c9e53665800ae11e3af38f4a816413dc66f2727d98e9") true
  unionShelf_proved (fun _ h=>by cases h) unionShelf_text (fun _ h=>by cases h) unionShelf_row_tie rfl ⟨rfl,rfl⟩ unionShelf_main rfl
  (fun f fn hf hfn=>by
   obtain rfl:f=6:=Option.some.inj ((show prog.funcNamed f6.name=some 6 by kernel_rfl).symm.trans hf) |>.symm
   obtain rfl:fn=f6:=(Option.some.inj (func6.symm.trans hfn)).symm
   exact ⟨unionShelf_looks,fun j t ht=>by
    rw [Tryz.params6] at ht
    have hm:t∈([22]:List TypeId):=by simpa using Array.mem_of_getElem? ht
    have hall:(([22]:List TypeId).all fun u=>!prog.wantsStandIn u)=true:=by kernel_rfl
    exact (show prog.wantsStandIn t=false by simpa using List.all_eq_true.1 hall t hm)⟩)
  unionShelf_goes
end Go.Proofs.YthaefcgpbccmbaaGreatDoor
