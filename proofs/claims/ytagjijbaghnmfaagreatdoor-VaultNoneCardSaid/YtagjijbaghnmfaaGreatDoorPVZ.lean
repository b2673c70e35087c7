/- VaultNone: the law returns true for every input; no condition. -/
import Derived.Test.YtagjijbaghnmfaaGreatDoorPV19
import Derived.Test.YtagjijbaghnmfaaGreatDoorTie
import Derived.Test.YtagjijbaghnmfaaGreatDoorCards
set_option linter.unusedSimpArgs false
set_option linter.unusedVariables false
set_option maxRecDepth 1000000
set_option maxHeartbeats 8000000
namespace Go.Proofs.YtagjijbaghnmfaaGreatDoor
open Go Go.Sh Go.ChangeShapes Go.WideShapes Go.ChangeAt Go.RowKit
theorem vaultNone_lifted (os : Os) (started : os.Started) (H : Type) (enc : TypeId × Value → H) :
    ReturnsInHanded {} Tryz.checked os 3 .any (fun w args => (Rows.vaultNoneSpec.pre enc Tryz.prog Tryz.f3 [] false w args ∧ laidMetH Tryz.prog laidG w) ∧ sizedMet enc Tryz.prog Tryz.f3 (OpenSpec.ofChange Rows.vaultNoneSpec) false w args)
      (Rows.vaultNoneSpec.post enc Tryz.prog Tryz.f3 false true false false) := by
  refine returnsInHanded_of_change_and (C := Tryz.checked) (X := fun w _ => laidMetH Tryz.prog laidG w) (fun _ _ _ hh h => h.of_heap hh) own started (by kernel_rfl) Tryz.func3
    (ChangeSpec.witness_shaped (enc := enc) (C := Tryz.checked) (os := os) (X := fun w _ => laidMetH Tryz.prog laidG w) false (World.laidAll Tryz.prog os laidG) #[.agg #[.string ⟨#[]⟩, .int .i64 0, .int .i64 0, .slice none 0 0, .bool false, .slice none 0 0, .slice none 0 0], .int .i64 0, .int .i64 0] 8 (World.laidAll_os _ _ _) (World.shaped_of_ZipB (by kernel_rfl) (by kernel_rfl)) (by kernel_rfl) (by kernel_rfl) (by kernel_rfl) (door_met os _)) ?_
  intro W base args ds gs before hval0 hW _ hsz hL _
  have hval : ∀ (j : Nat) t v, Tryz.f3.params[j]? = some t → args[j]? = some v → Value.okWide Tryz.prog W .any base t v := hval0
  have hsz : (DataW.weightsEach Tryz.prog (Tryz.f3.params.toList ++ Rows.vaultNoneSpec.plain.varTypes Tryz.prog) (ds ++ gs)).all (· ≤ reachBytes) = true := hsz
  have hW' := hW
  obtain ⟨p, q, hA0, hV, rfl, hfz, hnd⟩ := hW
  have hA : DataW.TrodAll enc Tryz.prog W 0 (fun _ => true) true Tryz.f3.params.toList args.toList ds p := hA0
  rw [Tryz.params3] at hA hval hsz
  obtain ⟨v0, v1, v2, d0, d1, d2, p0, p1, p2, rfl, rfl, rfl, h0, h1, h2⟩ := trodAll_three hA
  obtain ⟨rfl, rfl⟩ := trodVars_none hV
  clear hA0 hval0
  obtain ⟨cs0, rfl, sz0⟩ := okWide_struct uRecG (hval 0 25 v0 rfl rfl)
  obtain ⟨⟨ka0, kb0, kc0, kd0, ke0, kf0, kg0⟩, ec0⟩ := (by obtain ⟨fu, hf⟩ := h0; exact rec7_of (by show cs0.toList.length = 7; rw [Array.length_toList, sz0]; exact cellsRc) hf : ∃ p : List UInt8 × Int × Int × Slc × Bool × Slc × Slc, cs0.toList = [.string ⟨p.1.toArray⟩, .int .i64 p.2.1, .int .i64 p.2.2.1, p.2.2.2.1.val, .bool p.2.2.2.2.1, p.2.2.2.2.2.1.val, p.2.2.2.2.2.2.val])
  obtain rfl : cs0 = #[.string ⟨ka0.toArray⟩, .int .i64 kb0, .int .i64 kc0, kd0.val, .bool ke0, kf0.val, kg0.val] := by rw [← Array.toArray_toList (xs := cs0), ec0]
  have k0 := h0
  have bl0 : ∀ x ∈ p0, x.block < W.heap.size := by obtain ⟨m, hm⟩ := k0; exact DataW.trod_lt m _ _ _ hm
  have w1 := hval 1 3 v1 rfl rfl
  obtain ⟨n1, rfl⟩ := okWide_int Tryz.underlying3 w1
  have k1 := h1
  have bl1 : ∀ x ∈ p1, x.block < W.heap.size := by obtain ⟨m, hm⟩ := k1; exact DataW.trod_lt m _ _ _ hm
  have w2 := hval 2 3 v2 rfl rfl
  obtain ⟨n2, rfl⟩ := okWide_int Tryz.underlying3 w2
  have k2 := h2
  have bl2 : ∀ x ∈ p2, x.block < W.heap.size := by obtain ⟨m, hm⟩ := k2; exact DataW.trod_lt m _ _ _ hm
  have g : GS W := gs_of_laid hL
  refine (say_of (c_vaultNone (s := kd0) (x := kf0) (y := kg0) g)).mono fun e W' ⟨he, bel⟩ => ?_
  subst he
  exact ⟨_, rfl, _, _, _, [], _, [], hW', trodAll_mk1 (shut_bool Tryz.underlying4 _), trodAll_mk3 (Below.trod laidOut (by kernel_rfl) (of_decide_eq_true (by kernel_rfl)) k0 bel bl0) (Below.trod laidOut (by kernel_rfl) (of_decide_eq_true (by kernel_rfl)) k1 bel bl1) (Below.trod laidOut (by kernel_rfl) (of_decide_eq_true (by kernel_rfl)) k2 bel bl2), rfl, bel.frame _, fun h => by cases h⟩
theorem andT {a b : Bool} (h1 : a = true) (h2 : b = true) : (a && b) = true := by rw [h1, h2]; rfl
theorem vaultNone_k1 : (Rows.vaultNoneRow.wf (OpenSpec.ofChange Rows.vaultNoneSpec)) = true := by kernel_rfl
theorem vaultNone_k2 : (laidOutB Tryz.prog) = true := by kernel_rfl
theorem vaultNone_k3 : (mapsRowed Tryz.prog) = true := by kernel_rfl
theorem vaultNone_k4 : (Tryz.f3.params.all (Tryz.prog.readableRec ·)) = true := by kernel_rfl
theorem vaultNone_k5 : (namedTie Tryz.prog Rows.vaultNoneRow.named Rows.vaultNoneSpec.vars) = true := by kernel_rfl
theorem vaultNone_k6 : ((Rows.vaultNoneRow.stops == [])) = true := by kernel_rfl
theorem vaultNone_k7 : ((Tryz.prog.stops == [])) = true := by kernel_rfl
theorem vaultNone_k8 : ((Rows.vaultNoneRow.knobs == [])) = true := by kernel_rfl
theorem vaultNone_k9 : ((Tryz.prog.stopKnobs == [])) = true := by kernel_rfl
theorem vaultNone_k10 : ((Rows.vaultNoneRow.inPlace == Tryz.prog.inPlace 3)) = true := by kernel_rfl
theorem vaultNone_k11 : ((Rows.vaultNoneRow.unfollowed == Tryz.prog.unfollowed 3)) = true := by kernel_rfl
theorem vaultNone_k12 : ((Rows.vaultNoneRow.recurses == Tryz.prog.recurses 3)) = true := by kernel_rfl
theorem vaultNone_k13 : ((Rows.vaultNoneRow.named == Tryz.prog.varsNamed 3)) = true := by kernel_rfl
theorem vaultNone_k14 : ((Rows.vaultNoneRow.maps == (Tryz.f3.params.toList ++ Rows.vaultNoneSpec.plain.varTypes Tryz.prog).any (Tryz.prog.mapsRec ·))) = true := by kernel_rfl
theorem vaultNone_k15 : ((Rows.vaultNoneRow.ifaces == (Tryz.f3.params.toList ++ Rows.vaultNoneSpec.plain.varTypes Tryz.prog).any (Tryz.prog.ifacesRec ·))) = true := by kernel_rfl
theorem vaultNone_k16 : ((Rows.vaultNoneRow.mapsOut == Tryz.prog.mapsAmong Tryz.f3.resultTypes.toList)) = true := by kernel_rfl
theorem vaultNone_k17 : ((Rows.vaultNoneRow.loops == (Tryz.f3.params.toList ++ Rows.vaultNoneSpec.plain.varTypes Tryz.prog).any (Tryz.prog.loopsFrom ·))) = true := by kernel_rfl
theorem vaultNone_k18 : ((Rows.vaultNoneRow.wideKeys == (Tryz.f3.params.toList ++ Rows.vaultNoneSpec.plain.varTypes Tryz.prog ++ Tryz.f3.resultTypes.toList).any (Tryz.prog.wideKeysFrom ·))) = true := by kernel_rfl
theorem vaultNone_k19 : (Rows.vaultNoneSpec.vars.all (Tryz.prog.varReadable ·)) = true := by kernel_rfl
theorem vaultNone_k20 : (Tryz.f3.resultTypes.all (fun t => Tryz.prog.readableRec t && decide (t < Tryz.prog.types.size))) = true := by kernel_rfl
theorem vaultNone_k21 : ((Rows.vaultNoneRow.ifacesOut == Tryz.f3.resultTypes.toList.any (Tryz.prog.ifacesRec ·))) = true := by kernel_rfl
theorem vaultNone_k22 : ((Rows.vaultNoneRow.loopsOut == Tryz.f3.resultTypes.toList.any (Tryz.prog.loopsFrom ·))) = true := by kernel_rfl
theorem vaultNone_k23 : ((Rows.vaultNoneRow.plainKeys == Tryz.prog.plainKeys)) = true := by kernel_rfl
theorem vaultNone_k24 : (Rows.vaultNoneRow.shortTexts.isNone) = true := by kernel_rfl
theorem vaultNone_k25 : (Tryz.prog.stopsHeard) = true := by kernel_rfl
theorem vaultNone_k26 : (Tryz.prog.mayEnter) = true := by kernel_rfl
theorem vaultNone_k27 : ((Rows.vaultNoneRow.lifted == Tryz.prog.liftsFinal)) = true := by kernel_rfl
theorem vaultNone_k28 : ((Tryz.prog.make == some Rows.vaultNoneRow.make)) = true := by kernel_rfl
theorem vaultNone_k29 : ((Rows.vaultNoneRow.kinds == (if Rows.vaultNoneRow.domain.isEmpty then [] else Tryz.f3.params.toList.map fun t => match Tryz.prog.underlying t with | some (.int k) => some k | _ => none))) = true := by kernel_rfl
theorem vaultNone_k30 : ((Rows.vaultNoneRow.pinned == Rows.vaultNoneRow.pinnedBy)) = true := by kernel_rfl
theorem vaultNone_k31 : ((Rows.vaultNoneRow.veiled == (Tryz.f3.params.toList ++ Rows.vaultNoneSpec.plain.varTypes Tryz.prog ++ Tryz.f3.resultTypes.toList).any (Tryz.prog.veiledRec ·))) = true := by kernel_rfl
theorem vaultNone_k32 : (Rows.vaultNoneRow.veiledFits Tryz.prog Tryz.f3.params.toList (Tryz.f3.params.toList ++ Rows.vaultNoneSpec.plain.varTypes Tryz.prog ++ Tryz.f3.resultTypes.toList)) = true := by kernel_rfl
theorem vaultNone_closed : joinedFacts Tryz.prog 3 Tryz.f3 Rows.vaultNoneSpec Rows.vaultNoneRow = true := (andT (andT (andT (andT (andT (andT (andT (andT (andT (andT (andT (andT (andT (andT (andT (andT (andT (andT (andT (andT (andT (andT (andT (andT (andT (andT (andT (andT (andT (andT (andT vaultNone_k1 vaultNone_k2) vaultNone_k3) vaultNone_k4) vaultNone_k5) vaultNone_k6) vaultNone_k7) vaultNone_k8) vaultNone_k9) vaultNone_k10) vaultNone_k11) vaultNone_k12) vaultNone_k13) vaultNone_k14) vaultNone_k15) vaultNone_k16) vaultNone_k17) vaultNone_k18) vaultNone_k19) vaultNone_k20) vaultNone_k21) vaultNone_k22) vaultNone_k23) vaultNone_k24) vaultNone_k25) vaultNone_k26) vaultNone_k27) vaultNone_k28) vaultNone_k29) vaultNone_k30) vaultNone_k31) vaultNone_k32)
theorem vaultNone_named : Tryz.prog.funcNamed Rows.vaultNoneRow.func = some 3 := by kernel_rfl
theorem vaultNone_wrap : Tryz.f3.isWrapper Tryz.prog Rows.vaultNoneRow.wrapper Rows.vaultNoneRow.mainSum := by unfold Func.isWrapper; first | (rw [if_pos (by decide +kernel)]; kernel_rfl) | (rw [if_neg (by decide +kernel)]; exact ⟨rfl, rfl⟩)
theorem vaultNone_proved : Rows.VaultNoneSaid :=
  OpenClaim.holds_of_wide 3 Tryz.f3 rfl rfl rfl rfl rfl rfl rfl ⟨rfl, rfl, rfl, rfl, rfl⟩ rfl rfl rfl rfl rfl vaultNone_named Tryz.func3 vaultNone_closed
    (of_decide_eq_true (by kernel_rfl)) vaultNone_wrap
    (fun os started H enc _ => vaultNone_lifted os started H enc)
theorem vaultNone_text : Rows.vaultNoneRow.wfByText (OpenSpec.ofChange Rows.vaultNoneSpec) = true := by kernel_rfl
theorem vaultNone_main : Tryz.prog.mainIs = some (((true, "6368fdf569b26bc5eca7d299e888ee3c41617229afa6ed23c3fd08756123c285") : Bool × String).1, ((true, "6368fdf569b26bc5eca7d299e888ee3c41617229afa6ed23c3fd08756123c285") : Bool × String).2.toList) := by kernel_rfl
theorem vaultNone_looks : true = Tryz.prog.looks [] := by kernel_rfl
theorem vaultNone_goes : false = Rows.vaultNoneRow.goesBy Tryz.prog := goesBy_prog _
theorem vaultNone_card : Rows.VaultNoneCardSaid :=
  Claim7.holds_tied_plain_at .later [] [.data, .data, .data, .data, .data, .data, .data, .data, .pinned] true (true, "6368fdf569b26bc5eca7d299e888ee3c41617229afa6ed23c3fd08756123c285") true
    vaultNone_proved (fun _ h => by cases h) vaultNone_text (fun _ h => by cases h) vaultNone_row_tie rfl ⟨rfl, rfl⟩ vaultNone_main rfl
    (fun f fn hf hfn => by
      obtain rfl : f = 3 := Option.some.inj ((show Tryz.prog.funcNamed Tryz.f3.name = some 3 by kernel_rfl).symm.trans hf) |>.symm
      obtain rfl : fn = Tryz.f3 := (Option.some.inj (Tryz.func3.symm.trans hfn)).symm
      exact ⟨vaultNone_looks, fun j t ht => by
        rw [Tryz.params3] at ht
        have hm : t ∈ ([25, 3, 3] : List TypeId) := by simpa using Array.mem_of_getElem? ht
        have hall : (([25, 3, 3] : List TypeId).all fun u => !Tryz.prog.wantsStandIn u) = true := by kernel_rfl
        exact (show Tryz.prog.wantsStandIn t = false by simpa using List.all_eq_true.1 hall t hm)⟩)
    vaultNone_goes
end Go.Proofs.YtagjijbaghnmfaaGreatDoor
