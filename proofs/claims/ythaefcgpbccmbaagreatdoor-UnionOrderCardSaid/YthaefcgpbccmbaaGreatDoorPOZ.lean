/- UnionOrder: the law returns true for every input; no condition. -/
import Derived.Test.YthaefcgpbccmbaaGreatDoorPO20
import Derived.Test.YthaefcgpbccmbaaGreatDoorTie
import Derived.Test.YthaefcgpbccmbaaGreatDoorCards
set_option linter.unusedSimpArgs false
set_option linter.unusedVariables false
set_option maxRecDepth 100000
set_option maxHeartbeats 4000000
namespace Go.Proofs.YthaefcgpbccmbaaGreatDoor
open Go Go.Sh Go.ChangeShapes Go.WideShapes Go.ChangeAt Go.RowKit
theorem unionOrder_lifted (os : Os) (started : os.Started) (H : Type) (enc : TypeId × Value → H) :
    ReturnsInHanded {} Tryz.checked os 4 .any (fun w args => (Rows.unionOrderSpec.pre enc Tryz.prog Tryz.f4 [] false w args ∧ laidMetH Tryz.prog laidG w) ∧ sizedMet enc Tryz.prog Tryz.f4 (OpenSpec.ofChange Rows.unionOrderSpec) false w args)
      (Rows.unionOrderSpec.post enc Tryz.prog Tryz.f4 false true false false) := by
  refine returnsInHanded_of_change_and (C := Tryz.checked) (X := fun w _ => laidMetH Tryz.prog laidG w) (fun _ _ _ hh h => h.of_heap hh) own started (by kernel_rfl) Tryz.func4
    (ChangeSpec.witness_shaped (enc := enc) (C := Tryz.checked) (os := os) (X := fun w _ => laidMetH Tryz.prog laidG w) false (World.doorLaid Tryz.prog 29 os) #[.slice none 0 0, .slice none 0 0] 8 rfl (World.shaped_of_RefB (by kernel_rfl) (by kernel_rfl)) (by kernel_rfl) (by kernel_rfl) (by kernel_rfl) (door_met os _)) ?_
  intro W base args ds gs before hval0 hW _ hsz hL _
  have hval : ∀ (j : Nat) t v, Tryz.f4.params[j]? = some t → args[j]? = some v → Value.okWide Tryz.prog W .any base t v := hval0
  have hsz : (DataW.weightsEach Tryz.prog (Tryz.f4.params.toList ++ Rows.unionOrderSpec.plain.varTypes Tryz.prog) (ds ++ gs)).all (· ≤ reachBytes) = true := hsz
  have hW' := hW
  obtain ⟨p, q, hA0, hV, rfl, hfz, hnd⟩ := hW
  have hA : DataW.TrodAll enc Tryz.prog W 0 (fun _ => true) true Tryz.f4.params.toList args.toList ds p := hA0
  rw [Tryz.params4] at hA hval hsz
  obtain ⟨v0, v1, d0, d1, p0, p1, rfl, rfl, rfl, h0, h1⟩ := trodAll_two hA
  obtain ⟨rfl, rfl⟩ := trodVars_none hV
  clear hA0 hval0
  obtain ⟨a0, len0, cap0, rfl⟩ := okWide_slice Tryz.underlying22 (hval 0 22 v0 rfl rfl)
  have k0 := h0
  have bl0 : ∀ x ∈ p0, x.block < W.heap.size := by obtain ⟨m, hm⟩ := k0; exact DataW.trod_lt m _ _ _ hm
  obtain ⟨fu0, hf0⟩ := h0
  obtain ⟨l0, rd0, hc0⟩ := recs_of hf0
  have le0 : len0 ≤ 1000000000000000 := slen_bound uRecs bytesRc (by omega) hsz (j := 0) rfl (by obtain ⟨_, q, _⟩ := rd0; exact q.2.1) rfl hc0
  obtain ⟨a1, len1, cap1, rfl⟩ := okWide_slice Tryz.underlying36 (hval 1 36 v1 rfl rfl)
  have k1 := h1
  have bl1 : ∀ x ∈ p1, x.block < W.heap.size := by obtain ⟨m, hm⟩ := k1; exact DataW.trod_lt m _ _ _ hm
  obtain ⟨fu1, hf1⟩ := h1
  obtain ⟨l1, rd1, lt1, hc1⟩ := ints_of hf1
  have le1 : len1 ≤ 1000000000000000 := slen_bound uInts bytesI (by omega) hsz (j := 1) rfl rd1.2.1 rfl hc1
  have g : GlobS W := globS_of_laid hL
  refine (say_of (c_unionOrder (s := ⟨a0, len0, cap0⟩) (order := ⟨a1, len1, cap1⟩) g rd0 (by show len0 ≤ _; omega) rd1 (by show len1 ≤ _; omega))).mono fun e W' ⟨he, bel⟩ => ?_
  subst he
  exact ⟨_, rfl, _, _, _, [], _, [], hW', trodAll_mk1 (shut_bool Tryz.underlying4 _), trodAll_mk2 (Below.trod laidOut (by kernel_rfl) (of_decide_eq_true (by kernel_rfl)) k0 bel bl0) (Below.trod laidOut (by kernel_rfl) (of_decide_eq_true (by kernel_rfl)) k1 bel bl1), rfl, bel.frame _, fun h => by cases h⟩
theorem andT {a b : Bool} (h1 : a = true) (h2 : b = true) : (a && b) = true := by rw [h1, h2]; rfl
theorem unionOrder_k1 : (Rows.unionOrderRow.wf (OpenSpec.ofChange Rows.unionOrderSpec)) = true := by kernel_rfl
theorem unionOrder_k2 : (laidOutB Tryz.prog) = true := by kernel_rfl
theorem unionOrder_k3 : (mapsRowed Tryz.prog) = true := by kernel_rfl
theorem unionOrder_k4 : (Tryz.f4.params.all (Tryz.prog.readableRec ·)) = true := by kernel_rfl
theorem unionOrder_k5 : (namedTie Tryz.prog Rows.unionOrderRow.named Rows.unionOrderSpec.vars) = true := by kernel_rfl
theorem unionOrder_k6 : ((Rows.unionOrderRow.stops == [])) = true := by kernel_rfl
theorem unionOrder_k7 : ((Tryz.prog.stops == [])) = true := by kernel_rfl
theorem unionOrder_k8 : ((Rows.unionOrderRow.knobs == [])) = true := by kernel_rfl
theorem unionOrder_k9 : ((Tryz.prog.stopKnobs == [])) = true := by kernel_rfl
theorem unionOrder_k10 : ((Rows.unionOrderRow.inPlace == Tryz.prog.inPlace 4)) = true := by kernel_rfl
theorem unionOrder_k11 : ((Rows.unionOrderRow.unfollowed == Tryz.prog.unfollowed 4)) = true := by kernel_rfl
theorem unionOrder_k12 : ((Rows.unionOrderRow.recurses == Tryz.prog.recurses 4)) = true := by kernel_rfl
theorem unionOrder_k13 : ((Rows.unionOrderRow.named == Tryz.prog.varsNamed 4)) = true := by kernel_rfl
theorem unionOrder_k14 : ((Rows.unionOrderRow.maps == (Tryz.f4.params.toList ++ Rows.unionOrderSpec.plain.varTypes Tryz.prog).any (Tryz.prog.mapsRec ·))) = true := by kernel_rfl
theorem unionOrder_k15 : ((Rows.unionOrderRow.ifaces == (Tryz.f4.params.toList ++ Rows.unionOrderSpec.plain.varTypes Tryz.prog).any (Tryz.prog.ifacesRec ·))) = true := by kernel_rfl
theorem unionOrder_k16 : ((Rows.unionOrderRow.mapsOut == Tryz.prog.mapsAmong Tryz.f4.resultTypes.toList)) = true := by kernel_rfl
theorem unionOrder_k17 : ((Rows.unionOrderRow.loops == (Tryz.f4.params.toList ++ Rows.unionOrderSpec.plain.varTypes Tryz.prog).any (Tryz.prog.loopsFrom ·))) = true := by kernel_rfl
theorem unionOrder_k18 : ((Rows.unionOrderRow.wideKeys == (Tryz.f4.params.toList ++ Rows.unionOrderSpec.plain.varTypes Tryz.prog ++ Tryz.f4.resultTypes.toList).any (Tryz.prog.wideKeysFrom ·))) = true := by kernel_rfl
theorem unionOrder_k19 : (Rows.unionOrderSpec.vars.all (Tryz.prog.varReadable ·)) = true := by kernel_rfl
theorem unionOrder_k20 : (Tryz.f4.resultTypes.all (fun t => Tryz.prog.readableRec t && decide (t < Tryz.prog.types.size))) = true := by kernel_rfl
theorem unionOrder_k21 : ((Rows.unionOrderRow.ifacesOut == Tryz.f4.resultTypes.toList.any (Tryz.prog.ifacesRec ·))) = true := by kernel_rfl
theorem unionOrder_k22 : ((Rows.unionOrderRow.loopsOut == Tryz.f4.resultTypes.toList.any (Tryz.prog.loopsFrom ·))) = true := by kernel_rfl
theorem unionOrder_k23 : ((Rows.unionOrderRow.plainKeys == Tryz.prog.plainKeys)) = true := by kernel_rfl
theorem unionOrder_k24 : (Rows.unionOrderRow.shortTexts.isNone) = true := by kernel_rfl
theorem unionOrder_k25 : (Tryz.prog.stopsHeard) = true := by kernel_rfl
theorem unionOrder_k26 : (Tryz.prog.mayEnter) = true := by kernel_rfl
theorem unionOrder_k27 : ((Rows.unionOrderRow.lifted == Tryz.prog.liftsFinal)) = true := by kernel_rfl
theorem unionOrder_k28 : ((Tryz.prog.make == some Rows.unionOrderRow.make)) = true := by kernel_rfl
theorem unionOrder_k29 : ((Rows.unionOrderRow.kinds == (if Rows.unionOrderRow.domain.isEmpty then [] else Tryz.f4.params.toList.map fun t => match Tryz.prog.underlying t with | some (.int k) => some k | _ => none))) = true := by kernel_rfl
theorem unionOrder_k30 : ((Rows.unionOrderRow.pinned == Rows.unionOrderRow.pinnedBy)) = true := by kernel_rfl
theorem unionOrder_k31 : ((Rows.unionOrderRow.veiled == (Tryz.f4.params.toList ++ Rows.unionOrderSpec.plain.varTypes Tryz.prog ++ Tryz.f4.resultTypes.toList).any (Tryz.prog.veiledRec ·))) = true := by kernel_rfl
theorem unionOrder_k32 : (Rows.unionOrderRow.veiledFits Tryz.prog Tryz.f4.params.toList (Tryz.f4.params.toList ++ Rows.unionOrderSpec.plain.varTypes Tryz.prog ++ Tryz.f4.resultTypes.toList)) = true := by kernel_rfl
theorem unionOrder_closed : joinedFacts Tryz.prog 4 Tryz.f4 Rows.unionOrderSpec Rows.unionOrderRow = true := (andT (andT (andT (andT (andT (andT (andT (andT (andT (andT (andT (andT (andT (andT (andT (andT (andT (andT (andT (andT (andT (andT (andT (andT (andT (andT (andT (andT (andT (andT (andT unionOrder_k1 unionOrder_k2) unionOrder_k3) unionOrder_k4) unionOrder_k5) unionOrder_k6) unionOrder_k7) unionOrder_k8) unionOrder_k9) unionOrder_k10) unionOrder_k11) unionOrder_k12) unionOrder_k13) unionOrder_k14) unionOrder_k15) unionOrder_k16) unionOrder_k17) unionOrder_k18) unionOrder_k19) unionOrder_k20) unionOrder_k21) unionOrder_k22) unionOrder_k23) unionOrder_k24) unionOrder_k25) unionOrder_k26) unionOrder_k27) unionOrder_k28) unionOrder_k29) unionOrder_k30) unionOrder_k31) unionOrder_k32)
theorem unionOrder_named : Tryz.prog.funcNamed Rows.unionOrderRow.func = some 4 := by kernel_rfl
theorem unionOrder_wrap : Tryz.f4.isWrapper Tryz.prog Rows.unionOrderRow.wrapper Rows.unionOrderRow.mainSum := by unfold Func.isWrapper; first | (rw [if_pos (by decide +kernel)]; kernel_rfl) | (rw [if_neg (by decide +kernel)]; exact ⟨rfl, rfl⟩)
theorem unionOrder_proved : Rows.UnionOrderSaid :=
  OpenClaim.holds_of_wide 4 Tryz.f4 rfl rfl rfl rfl rfl rfl rfl ⟨rfl, rfl, rfl, rfl, rfl⟩ rfl rfl rfl rfl rfl unionOrder_named Tryz.func4 unionOrder_closed
    (of_decide_eq_true (by kernel_rfl)) unionOrder_wrap
    (fun os started H enc _ => unionOrder_lifted os started H enc)
theorem unionOrder_text : Rows.unionOrderRow.wfByText (OpenSpec.ofChange Rows.unionOrderSpec) = true := by kernel_rfl
theorem unionOrder_main : Tryz.prog.mainIs = some (((true, "4eb84264ab377918e0d8c9e53665800ae11e3af38f4a816413dc66f2727d98e9") : Bool × String).1, ((true, "4eb84264ab377918e0d8c9e53665800ae11e3af38f4a816413dc66f2727d98e9") : Bool × String).2.toList) := by kernel_rfl
theorem unionOrder_looks : true = Tryz.prog.looks [] := by kernel_rfl
theorem unionOrder_goes : false = Rows.unionOrderRow.goesBy Tryz.prog := by kernel_rfl
theorem unionOrder_card : Rows.UnionOrderCardSaid :=
  Claim7.holds_tied_plain_at .later [] [.data, .data, .data, .data] true (true, "4eb84264ab377918e0d8c9e53665800ae11e3af38f4a816413dc66f2727d98e9") true
    unionOrder_proved (fun _ h => by cases h) unionOrder_text (fun _ h => by cases h) unionOrder_row_tie rfl ⟨rfl, rfl⟩ unionOrder_main rfl
    (fun f fn hf hfn => by
      obtain rfl : f = 4 := Option.some.inj ((show Tryz.prog.funcNamed Tryz.f4.name = some 4 by kernel_rfl).symm.trans hf) |>.symm
      obtain rfl : fn = Tryz.f4 := (Option.some.inj (Tryz.func4.symm.trans hfn)).symm
      exact ⟨unionOrder_looks, fun j t ht => by
        rw [Tryz.params4] at ht
        have hm : t ∈ ([22, 36] : List TypeId) := by simpa using Array.mem_of_getElem? ht
        have hall : (([22, 36] : List TypeId).all fun u => !Tryz.prog.wantsStandIn u) = true := by kernel_rfl
        exact (show Tryz.prog.wantsStandIn t = false by simpa using List.all_eq_true.1 hall t hm)⟩)
    unionOrder_goes
end Go.Proofs.YthaefcgpbccmbaaGreatDoor
