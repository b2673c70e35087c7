/- UnionTells: the law returns true for every input; no condition. -/
import Derived.Test.YthaefcgpbccmbaaGreatDoorPE21
import Derived.Test.YthaefcgpbccmbaaGreatDoorTie
import Derived.Test.YthaefcgpbccmbaaGreatDoorCards
set_option linter.unusedSimpArgs false
set_option linter.unusedVariables false
set_option maxRecDepth 100000
set_option maxHeartbeats 4000000
namespace Go.Proofs.YthaefcgpbccmbaaGreatDoor
open Go Go.Sh Go.ChangeShapes Go.WideShapes Go.ChangeAt Go.RowKit
open Go.Proofs.Tryz
theorem unionTells_lifted (os:Os) (started:os.Started) (H:Type) (enc:TypeId×Value->H) :
 ReturnsInHanded {} Tryz.checked os 3 .any (λw args=>(Rows.unionTellsSpec.pre enc prog f3 [] false w args/\laidMetH prog uF w)/\sizedMet enc prog f3 (OpenSpec.ofChange Rows.unionTellsSpec) false w args)
  (Rows.unionTellsSpec.post enc prog f3 false true false false):=by
 refine returnsInHanded_of_change_and (C:=Tryz.checked) (X:=λw _=>laidMetH prog uF w) (λ_ _ _ hh h=>h.of_heap hh) own started (by kernel_rfl) func3
  (ChangeSpec.witness_shaped (enc:=enc) (C:=Tryz.checked) (os:=os) (X:=λw _=>laidMetH prog uF w) false (World.doorLaid prog 29 os) #[.slice none 0 0] 8 rfl (World.shaped_of_RefB (by kernel_rfl) (by kernel_rfl)) (by kernel_rfl) (by kernel_rfl) (by kernel_rfl) (qJR os _)) ?_
 intro W base args ds gs before h9 hW _ hsz hL _
 have hval : ∀ (j:Nat) t v,f3.params[j]? = some t->args[j]? = some v->Value.okWide prog W .any base t v:=h9
 have hsz:(DataW.weightsEach prog (f3.params.toList++Rows.unionTellsSpec.plain.varTypes prog) (ds++gs)).all (·<=reachBytes)=true:=hsz
 have k5:=hW
 obtain ⟨p,q,k3,hV,rfl,p8,p9⟩:=hW
 have hA:DataW.TrodAll enc prog W 0 (λ_=>true) true f3.params.toList args.toList ds p:=k3
 rw [Tryz.params3] at hA hval hsz
 obtain ⟨v0,d0,rfl,rfl,h0⟩:=trodAll_one hA
 obtain ⟨rfl,rfl⟩:=trodVars_none hV
 clear k3 h9
 obtain ⟨a0,len0,cap0,rfl⟩:=okWide_slice Tryz.underlying22 (hval 0 22 v0 rfl rfl)
 have k0:=h0
 have k6 : ∀ x∈p,x.block<W.heap.size:=by obtain ⟨m,hm⟩:=k0; exact DataW.trod_lt m _ _ _ hm
 obtain ⟨q8,hf0⟩:=h0
 obtain ⟨l0,k4,hc0⟩:=qRY hf0
 have q9:len0<=1000000000000000:=qAF fA qLX (by omega) hsz (j:=0) rfl (by obtain ⟨_,q,_⟩:=k4; exact q.2.1) rfl hc0
 have g:iW W:=tN hL
 refine (jAZ (wJ (s:=⟨a0,len0,cap0⟩) g k4 (by show len0<=_; omega))).mono λe W' ⟨he,bel⟩=>?_
 subst he
 exact ⟨_,rfl,_,_,_,[],_,[],k5,trodAll_mk1 (shut_bool Tryz.underlying4 _),trodAll_mk1 (Below.trod laidOut (by kernel_rfl) (of_decide_eq_true (by kernel_rfl)) k0 bel k6),rfl,bel.frame _,λh=>by cases h⟩
theorem andT {a b:Bool} (h1:a=true) (h2:b=true):(a&&b)=true:=by rw [h1,h2]; rfl
theorem unionTells_k1:(Rows.unionTellsRow.wf (OpenSpec.ofChange Rows.unionTellsSpec))=true:=by kernel_rfl
theorem unionTells_k2:(laidOutB prog)=true:=by kernel_rfl
theorem unionTells_k3:(mapsRowed prog)=true:=by kernel_rfl
theorem unionTells_k4:(f3.params.all (prog.readableRec ·))=true:=by kernel_rfl
theorem unionTells_k5:(namedTie prog Rows.unionTellsRow.named Rows.unionTellsSpec.vars)=true:=by kernel_rfl
theorem unionTells_k6:((Rows.unionTellsRow.stops==[]))=true:=by kernel_rfl
theorem unionTells_k7:((prog.stops==[]))=true:=by kernel_rfl
theorem unionTells_k8:((Rows.unionTellsRow.knobs==[]))=true:=by kernel_rfl
theorem unionTells_k9:((prog.stopKnobs==[]))=true:=by kernel_rfl
theorem unionTells_k10:((Rows.unionTellsRow.inPlace==prog.inPlace 3))=true:=by kernel_rfl
theorem unionTells_k11:((Rows.unionTellsRow.unfollowed==prog.unfollowed 3))=true:=by kernel_rfl
theorem unionTells_k12:((Rows.unionTellsRow.recurses==prog.recurses 3))=true:=by kernel_rfl
theorem unionTells_k13:((Rows.unionTellsRow.named==prog.varsNamed 3))=true:=by kernel_rfl
theorem unionTells_k14:((Rows.unionTellsRow.maps==(f3.params.toList++Rows.unionTellsSpec.plain.varTypes prog).any (prog.mapsRec ·)))=true:=by kernel_rfl
theorem unionTells_k15:((Rows.unionTellsRow.ifaces==(f3.params.toList++Rows.unionTellsSpec.plain.varTypes prog).any (prog.ifacesRec ·)))=true:=by kernel_rfl
theorem unionTells_k16:((Rows.unionTellsRow.mapsOut==prog.mapsAmong f3.resultTypes.toList))=true:=by kernel_rfl
theorem unionTells_k17:((Rows.unionTellsRow.loops==(f3.params.toList++Rows.unionTellsSpec.plain.varTypes prog).any (prog.loopsFrom ·)))=true:=by kernel_rfl
theorem unionTells_k18:((Rows.unionTellsRow.wideKeys==(f3.params.toList++Rows.unionTellsSpec.plain.varTypes prog++f3.resultTypes.toList).any (prog.wideKeysFrom ·)))=true:=by kernel_rfl
theorem unionTells_k19:(Rows.unionTellsSpec.vars.all (prog.varReadable ·))=true:=by kernel_rfl
theorem unionTells_k20:(f3.resultTypes.all (λt=>prog.readableRec t&&decide (t<prog.types.size)))=true:=by kernel_rfl
theorem unionTells_k21:((Rows.unionTellsRow.ifacesOut==f3.resultTypes.toList.any (prog.ifacesRec ·)))=true:=by kernel_rfl
theorem unionTells_k22:((Rows.unionTellsRow.loopsOut==f3.resultTypes.toList.any (prog.loopsFrom ·)))=true:=by kernel_rfl
theorem unionTells_k23:((Rows.unionTellsRow.plainKeys==prog.plainKeys))=true:=by kernel_rfl
theorem unionTells_k24:(Rows.unionTellsRow.shortTexts.isNone)=true:=by kernel_rfl
theorem unionTells_k25:(prog.stopsHeard)=true:=by kernel_rfl
theorem unionTells_k26:(prog.mayEnter)=true:=by kernel_rfl
theorem unionTells_k27:((Rows.unionTellsRow.lifted==prog.liftsFinal))=true:=by kernel_rfl
theorem unionTells_k28:((prog.make==some Rows.unionTellsRow.make))=true:=by kernel_rfl
theorem unionTells_k29:((Rows.unionTellsRow.kinds==(if Rows.unionTellsRow.domain.isEmpty then [] else f3.params.toList.map λt=>match prog.underlying t with | some (.int k)=>some k | _=>none)))=true:=by kernel_rfl
theorem unionTells_k30:((Rows.unionTellsRow.pinned==Rows.unionTellsRow.pinnedBy))=true:=by kernel_rfl
theorem unionTells_k31:((Rows.unionTellsRow.veiled==(f3.params.toList++Rows.unionTellsSpec.plain.varTypes prog++f3.resultTypes.toList).any (prog.veiledRec ·)))=true:=by kernel_rfl
theorem unionTells_k32:(Rows.unionTellsRow.veiledFits prog f3.params.toList (f3.params.toList++Rows.unionTellsSpec.plain.varTypes prog++f3.resultTypes.toList))=true:=by kernel_rfl
theorem unionTells_closed:joinedFacts prog 3 f3 Rows.unionTellsSpec Rows.unionTellsRow=true:=(andT (andT (andT (andT (andT (andT (andT (andT (andT (andT (andT (andT (andT (andT (andT (andT (andT (andT (andT (andT (andT (andT (andT (andT (andT (andT (andT (andT (andT (andT (andT unionTells_k1 unionTells_k2) unionTells_k3) unionTells_k4) unionTells_k5) unionTells_k6) unionTells_k7) unionTells_k8) unionTells_k9) unionTells_k10) unionTells_k11) unionTells_k12) unionTells_k13) unionTells_k14) unionTells_k15) unionTells_k16) unionTells_k17) unionTells_k18) unionTells_k19) unionTells_k20) unionTells_k21) unionTells_k22) unionTells_k23) unionTells_k24) unionTells_k25) unionTells_k26) unionTells_k27) unionTells_k28) unionTells_k29) unionTells_k30) unionTells_k31) unionTells_k32)
theorem unionTells_named:prog.funcNamed Rows.unionTellsRow.func=some 3:=by kernel_rfl
theorem unionTells_wrap:f3.isWrapper prog Rows.unionTellsRow.wrapper Rows.unionTellsRow.mainSum:=by unfold Func.isWrapper; first | (rw [if_pos (by decide +kernel)]; kernel_rfl) | (rw [if_neg (by decide +kernel)]; exact ⟨rfl,rfl⟩)
theorem unionTells_proved:Rows.UnionTellsSaid:=
 OpenClaim.holds_of_wide 3 f3 rfl rfl rfl rfl rfl rfl rfl ⟨rfl,rfl,rfl,rfl,rfl⟩ rfl rfl rfl rfl rfl unionTells_named func3 unionTells_closed
  (of_decide_eq_true (by kernel_rfl)) unionTells_wrap
  (λos started H enc _=>unionTells_lifted os started H enc)
theorem unionTells_text:Rows.unionTellsRow.wfByText (OpenSpec.ofChange Rows.unionTellsSpec)=true:=by kernel_rfl
theorem unionTells_main:prog.mainIs=some (((true,"4eb84264ab377918e0d8c9e53665800ae11e3af38f4a816413dc66f2727d98e9"):Bool×String).1,((true,"4eb84264ab377918e0d8c9e53665800ae11e3af38f4a816413dc66f2727d98e9"):Bool×String).2.toList):=by kernel_rfl
theorem unionTells_looks:true=prog.looks []:=by kernel_rfl
theorem unionTells_goes:false=Rows.unionTellsRow.goesBy prog:=by kernel_rfl
theorem unionTells_card:Rows.UnionTellsCardSaid:=
 Claim7.holds_tied_plain_at .later [] [.data,.data,.data,.data] true (true,"4eb84264ab377918e0d8c9e53665800ae11e3af38f4a816413dc66f2727d98e9") true
  unionTells_proved (λ_ h=>by cases h) unionTells_text (λ_ h=>by cases h) unionTells_row_tie rfl ⟨rfl,rfl⟩ unionTells_main rfl
  (λf fn hf hfn=>by
   obtain rfl:f=3:=Option.some.inj ((show prog.funcNamed f3.name=some 3 by kernel_rfl).symm.trans hf) |>.symm
   obtain rfl:fn=f3:=(Option.some.inj (func3.symm.trans hfn)).symm
   exact ⟨unionTells_looks,λj t ht=>by
    rw [Tryz.params3] at ht
    have hm:t∈([22]:List TypeId):=by simpa using Array.mem_of_getElem? ht
    have hall:(([22]:List TypeId).all λu=>!prog.wantsStandIn u)=true:=by kernel_rfl
    exact (show prog.wantsStandIn t=false by simpa using List.all_eq_true.1 hall t hm)⟩)
  unionTells_goes
end Go.Proofs.YthaefcgpbccmbaaGreatDoor
