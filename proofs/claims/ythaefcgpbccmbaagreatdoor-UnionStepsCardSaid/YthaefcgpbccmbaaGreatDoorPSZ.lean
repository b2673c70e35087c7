/- UnionSteps: the law returns true for every input; no condition. -/
import Derived.Test.YthaefcgpbccmbaaGreatDoorPS19
import Derived.Test.YthaefcgpbccmbaaGreatDoorTie
import Derived.Test.YthaefcgpbccmbaaGreatDoorCards
set_option linter.unusedSimpArgs false
set_option linter.unusedVariables false
set_option maxRecDepth 100000
set_option maxHeartbeats 4000000
namespace Go.Proofs.YthaefcgpbccmbaaGreatDoor
open Go Go.Sh Go.ChangeShapes Go.WideShapes Go.ChangeAt Go.RowKit
open Go.Proofs.Tryz
theorem unionSteps_lifted (os : Os) (started : os.Started) (H : Type) (enc : TypeId × Value → H) :
    ReturnsInHanded {} Tryz.checked os 5 .any (fun w args => (Rows.unionStepsSpec.pre enc prog f5 [] false w args ∧ laidMetH prog laidG w) ∧ sizedMet enc prog f5 (OpenSpec.ofChange Rows.unionStepsSpec) false w args)
      (Rows.unionStepsSpec.post enc prog f5 false true false false) := by
  refine returnsInHanded_of_change_and (C := Tryz.checked) (X := fun w _ => laidMetH prog laidG w) (fun _ _ _ hh h => h.of_heap hh) own started (by kernel_rfl) func5
    (ChangeSpec.witness_shaped (enc := enc) (C := Tryz.checked) (os := os) (X := fun w _ => laidMetH prog laidG w) false (World.doorLaid prog 29 os) #[.slice none 0 0, .int .i64 0] 8 rfl (World.shaped_of_RefB (by kernel_rfl) (by kernel_rfl)) (by kernel_rfl) (by kernel_rfl) (by kernel_rfl) (door_met os _)) ?_
  intro W base args ds gs before hval0 hW _ hsz hL _
  have hval : ∀ (j : Nat) t v, f5.params[j]? = some t → args[j]? = some v → Value.okWide prog W .any base t v := hval0
  have hsz : (DataW.weightsEach prog (f5.params.toList ++ Rows.unionStepsSpec.plain.varTypes prog) (ds ++ gs)).all (· ≤ reachBytes) = true := hsz
  have hW' := hW
  obtain ⟨p, q, hA0, hV, rfl, hfz, hnd⟩ := hW
  have hA : DataW.TrodAll enc prog W 0 (fun _ => true) true f5.params.toList args.toList ds p := hA0
  rw [Tryz.params5] at hA hval hsz
  obtain ⟨v0, v1, d0, d1, p0, p1, rfl, rfl, rfl, h0, h1⟩ := trodAll_two hA
  obtain ⟨rfl, rfl⟩ := trodVars_none hV
  clear hA0 hval0
  obtain ⟨a0, len0, cap0, rfl⟩ := okWide_slice Tryz.underlying22 (hval 0 22 v0 rfl rfl)
  have k0 := h0
  have bl0 : ∀ x ∈ p0, x.block < W.heap.size := by obtain ⟨m, hm⟩ := k0; exact DataW.trod_lt m _ _ _ hm
  obtain ⟨fu0, hf0⟩ := h0
  obtain ⟨l0, rd0, hc0⟩ := recs_of hf0
  have le0 : len0 ≤ 1000000000000000 := slen_bound uRecs bytesRc (by omega) hsz (j := 0) rfl (by obtain ⟨_, q, _⟩ := rd0; exact q.2.1) rfl hc0
  have w1 := hval 1 3 v1 rfl rfl
  obtain ⟨n1, rfl⟩ := okWide_int Tryz.underlying3 w1
  have k1 := h1
  have bl1 : ∀ x ∈ p1, x.block < W.heap.size := by obtain ⟨m, hm⟩ := k1; exact DataW.trod_lt m _ _ _ hm
  have g : GlobS W := globS_of_laid hL
  refine (say_of (c_unionSteps (s := ⟨a0, len0, cap0⟩) (cut := n1) g rd0 (by show len0 ≤ _; omega))).mono fun e W' ⟨he, bel⟩ => ?_
  subst he
  exact ⟨_, rfl, _, _, _, [], _, [], hW', trodAll_mk1 (shut_bool Tryz.underlying4 _), trodAll_mk2 (Below.trod laidOut (by kernel_rfl) (of_decide_eq_true (by kernel_rfl)) k0 bel bl0) (Below.trod laidOut (by kernel_rfl) (of_decide_eq_true (by kernel_rfl)) k1 bel bl1), rfl, bel.frame _, fun h => by cases h⟩
theorem andT {a b : Bool} (h1 : a = true) (h2 : b = true) : (a && b) = true := by rw [h1, h2]; rfl
theorem unionSteps_k1 : (Rows.unionStepsRow.wf (OpenSpec.ofChange Rows.unionStepsSpec)) = true := by kernel_rfl
theorem unionSteps_k2 : (laidOutB prog) = true := by kernel_rfl
theorem unionSteps_k3 : (mapsRowed prog) = true := by kernel_rfl
theorem unionSteps_k4 : (f5.params.all (prog.readableRec ·)) = true := by kernel_rfl
theorem unionSteps_k5 : (namedTie prog Rows.unionStepsRow.named Rows.unionStepsSpec.vars) = true := by kernel_rfl
theorem unionSteps_k6 : ((Rows.unionStepsRow.stops == [])) = true := by kernel_rfl
theorem unionSteps_k7 : ((prog.stops == [])) = true := by kernel_rfl
theorem unionSteps_k8 : ((Rows.unionStepsRow.knobs == [])) = true := by kernel_rfl
theorem unionSteps_k9 : ((prog.stopKnobs == [])) = true := by kernel_rfl
theorem unionSteps_k10 : ((Rows.unionStepsRow.inPlace == prog.inPlace 5)) = true := by kernel_rfl
theorem unionSteps_k11 : ((Rows.unionStepsRow.unfollowed == prog.unfollowed 5)) = true := by kernel_rfl
theorem unionSteps_k12 : ((Rows.unionStepsRow.recurses == prog.recurses 5)) = true := by kernel_rfl
theorem unionSteps_k13 : ((Rows.unionStepsRow.named == prog.varsNamed 5)) = true := by kernel_rfl
theorem unionSteps_k14 : ((Rows.unionStepsRow.maps == (f5.params.toList ++ Rows.unionStepsSpec.plain.varTypes prog).any (prog.mapsRec ·))) = true := by kernel_rfl
theorem unionSteps_k15 : ((Rows.unionStepsRow.ifaces == (f5.params.toList ++ Rows.unionStepsSpec.plain.varTypes prog).any (prog.ifacesRec ·))) = true := by kernel_rfl
theorem unionSteps_k16 : ((Rows.unionStepsRow.mapsOut == prog.mapsAmong f5.resultTypes.toList)) = true := by kernel_rfl
theorem unionSteps_k17 : ((Rows.unionStepsRow.loops == (f5.params.toList ++ Rows.unionStepsSpec.plain.varTypes prog).any (prog.loopsFrom ·))) = true := by kernel_rfl
theorem unionSteps_k18 : ((Rows.unionStepsRow.wideKeys == (f5.params.toList ++ Rows.unionStepsSpec.plain.varTypes prog ++ f5.resultTypes.toList).any (prog.wideKeysFrom ·))) = true := by kernel_rfl
theorem unionSteps_k19 : (Rows.unionStepsSpec.vars.all (prog.varReadable ·)) = true := by kernel_rfl
theorem unionSteps_k20 : (f5.resultTypes.all (fun t => prog.readableRec t && decide (t < prog.types.size))) = true := by kernel_rfl
theorem unionSteps_k21 : ((Rows.unionStepsRow.ifacesOut == f5.resultTypes.toList.any (prog.ifacesRec ·))) = true := by kernel_rfl
theorem unionSteps_k22 : ((Rows.unionStepsRow.loopsOut == f5.resultTypes.toList.any (prog.loopsFrom ·))) = true := by kernel_rfl
theorem unionSteps_k23 : ((Rows.unionStepsRow.plainKeys == prog.plainKeys)) = true := by kernel_rfl
theorem unionSteps_k24 : (Rows.unionStepsRow.shortTexts.isNone) = true := by kernel_rfl
theorem unionSteps_k25 : (prog.stopsHeard) = true := by kernel_rfl
theorem unionSteps_k26 : (prog.mayEnter) = true := by kernel_rfl
theorem unionSteps_k27 : ((Rows.unionStepsRow.lifted == prog.liftsFinal)) = true := by kernel_rfl
theorem unionSteps_k28 : ((prog.make == some Rows.unionStepsRow.make)) = true := by kernel_rfl
theorem unionSteps_k29 : ((Rows.unionStepsRow.kinds == (if Rows.unionStepsRow.domain.isEmpty then [] else f5.params.toList.map fun t => match prog.underlying t with | some (.int k) => some k | _ => none))) = true := by kernel_rfl
theorem unionSteps_k30 : ((Rows.unionStepsRow.pinned == Rows.unionStepsRow.pinnedBy)) = true := by kernel_rfl
theorem unionSteps_k31 : ((Rows.unionStepsRow.veiled == (f5.params.toList ++ Rows.unionStepsSpec.plain.varTypes prog ++ f5.resultTypes.toList).any (prog.veiledRec ·))) = true := by kernel_rfl
theorem unionSteps_k32 : (Rows.unionStepsRow.veiledFits prog f5.params.toList (f5.params.toList ++ Rows.unionStepsSpec.plain.varTypes prog ++ f5.resultTypes.toList)) = true := by kernel_rfl
theorem unionSteps_closed : joinedFacts prog 5 f5 Rows.unionStepsSpec Rows.unionStepsRow = true := (andT (andT (andT (andT (andT (andT (andT (andT (andT (andT (andT (andT (andT (andT (andT (andT (andT (andT (andT (andT (andT (andT (andT (andT (andT (andT (andT (andT (andT (andT (andT unionSteps_k1 unionSteps_k2) unionSteps_k3) unionSteps_k4) unionSteps_k5) unionSteps_k6) unionSteps_k7) unionSteps_k8) unionSteps_k9) unionSteps_k10) unionSteps_k11) unionSteps_k12) unionSteps_k13) unionSteps_k14) unionSteps_k15) unionSteps_k16) unionSteps_k17) unionSteps_k18) unionSteps_k19) unionSteps_k20) unionSteps_k21) unionSteps_k22) unionSteps_k23) unionSteps_k24) unionSteps_k25) unionSteps_k26) unionSteps_k27) unionSteps_k28) unionSteps_k29) unionSteps_k30) unionSteps_k31) unionSteps_k32)
theorem unionSteps_named : prog.funcNamed Rows.unionStepsRow.func = some 5 := by kernel_rfl
theorem unionSteps_wrap : f5.isWrapper prog Rows.unionStepsRow.wrapper Rows.unionStepsRow.mainSum := by unfold Func.isWrapper; first | (rw [if_pos (by decide +kernel)]; kernel_rfl) | (rw [if_neg (by decide +kernel)]; exact ⟨rfl, rfl⟩)
theorem unionSteps_proved : Rows.UnionStepsSaid :=
  OpenClaim.holds_of_wide 5 f5 rfl rfl rfl rfl rfl rfl rfl ⟨rfl, rfl, rfl, rfl, rfl⟩ rfl rfl rfl rfl rfl unionSteps_named func5 unionSteps_closed
    (of_decide_eq_true (by kernel_rfl)) unionSteps_wrap
    (fun os started H enc _ => unionSteps_lifted os started H enc)
theorem unionSteps_text : Rows.unionStepsRow.wfByText (OpenSpec.ofChange Rows.unionStepsSpec) = true := by kernel_rfl
theorem unionSteps_main : prog.mainIs = some (((true, "4eb84264ab377918e0d8c9e53665800ae11e3af38f4a816413dc66f2727d98e9") : Bool × String).1, ((true, "4eb84264ab377918e0d8c9e53665800ae11e3af38f4a816413dc66f2727d98e9") : Bool × String).2.toList) := by kernel_rfl
theorem unionSteps_looks : true = prog.looks [] := by kernel_rfl
theorem unionSteps_goes : false = Rows.unionStepsRow.goesBy prog := by kernel_rfl
theorem unionSteps_card : Rows.UnionStepsCardSaid :=
  Claim7.holds_tied_plain_at .later [] [.data, .data, .data, .data] true (true, "4eb84264ab377918e0d8c9e53665800ae11e3af38f4a816413dc66f2727d98e9") true
    unionSteps_proved (fun _ h => by cases h) unionSteps_text (fun _ h => by cases h) unionSteps_row_tie rfl ⟨rfl, rfl⟩ unionSteps_main rfl
    (fun f fn hf hfn => by
      obtain rfl : f = 5 := Option.some.inj ((show prog.funcNamed f5.name = some 5 by kernel_rfl).symm.trans hf) |>.symm
      obtain rfl : fn = f5 := (Option.some.inj (func5.symm.trans hfn)).symm
      exact ⟨unionSteps_looks, fun j t ht => by
        rw [Tryz.params5] at ht
        have hm : t ∈ ([22, 3] : List TypeId) := by simpa using Array.mem_of_getElem? ht
        have hall : (([22, 3] : List TypeId).all fun u => !prog.wantsStandIn u) = true := by kernel_rfl
        exact (show prog.wantsStandIn t = false by simpa using List.all_eq_true.1 hall t hm)⟩)
    unionSteps_goes
end Go.Proofs.YthaefcgpbccmbaaGreatDoor
