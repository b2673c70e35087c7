/- ClientNews: the law returns true for every input; no condition. -/
import Derived.Test.YtdjmobighhfogaaGreatDoorPN18
import Derived.Test.YtdjmobighhfogaaGreatDoorTie
import Derived.Test.YtdjmobighhfogaaGreatDoorCards
set_option linter.unusedSimpArgs false
set_option linter.unusedVariables false
set_option maxRecDepth 1000000
set_option maxHeartbeats 8000000
namespace Go.Proofs.YtdjmobighhfogaaGreatDoor
open Go Go.Sh Go.ChangeShapes Go.WideShapes Go.ChangeAt Go.RowKit
theorem clientNews_lifted (os : Os) (started : os.Started) (H : Type) (enc : TypeId × Value → H) :
    ReturnsInHanded {} Tryz.checked os 3 .any (fun w args => (Rows.clientNewsSpec.pre enc Tryz.prog Tryz.f3 [] false w args ∧ laidMetH Tryz.prog laidG w) ∧ sizedMet enc Tryz.prog Tryz.f3 (OpenSpec.ofChange Rows.clientNewsSpec) false w args)
      (Rows.clientNewsSpec.post enc Tryz.prog Tryz.f3 false true false false) := by
  refine returnsInHanded_of_change_and (C := Tryz.checked) (X := fun w _ => laidMetH Tryz.prog laidG w) (fun _ _ _ hh h => h.of_heap hh) own started (by kernel_rfl) Tryz.func3
    (ChangeSpec.witness_shaped (enc := enc) (C := Tryz.checked) (os := os) (X := fun w _ => laidMetH Tryz.prog laidG w) false (World.laidAll Tryz.prog os laidG) #[.int .i64 0, .slice none 0 0, .slice none 0 0, .slice none 0 0, .agg #[.int .i64 0, .int .i64 0, .slice none 0 0]] 8 (World.laidAll_os _ _ _) (World.shaped_of_ZipB (by kernel_rfl) (by kernel_rfl)) (by kernel_rfl) (by kernel_rfl) (by kernel_rfl) (door_met os _)) ?_
  intro W base args ds gs before hval0 hW _ hsz hL _
  have hval : ∀ (j : Nat) t v, Tryz.f3.params[j]? = some t → args[j]? = some v → Value.okWide Tryz.prog W .any base t v := hval0
  have hsz : (DataW.weightsEach Tryz.prog (Tryz.f3.params.toList ++ Rows.clientNewsSpec.plain.varTypes Tryz.prog) (ds ++ gs)).all (· ≤ reachBytes) = true := hsz
  have hW' := hW
  obtain ⟨p, q, hA0, hV, rfl, hfz, hnd⟩ := hW
  have hA : DataW.TrodAll enc Tryz.prog W 0 (fun _ => true) true Tryz.f3.params.toList args.toList ds p := hA0
  rw [Tryz.params3] at hA hval hsz
  obtain ⟨v0, v1, v2, v3, v4, d0, d1, d2, d3, d4, p0, p1, p2, p3, p4, rfl, rfl, rfl, h0, h1, h2, h3, h4⟩ := trodAll_five hA
  obtain ⟨rfl, rfl⟩ := trodVars_none hV
  clear hA0 hval0
  have w0 := hval 0 3 v0 rfl rfl
  obtain ⟨n0, rfl⟩ := okWide_int Tryz.underlying3 w0
  have k0 := h0
  have bl0 : ∀ x ∈ p0, x.block < W.heap.size := by obtain ⟨m, hm⟩ := k0; exact DataW.trod_lt m _ _ _ hm
  obtain ⟨a1, len1, cap1, rfl⟩ := okWide_slice Tryz.underlying22 (hval 1 22 v1 rfl rfl)
  have k1 := h1
  have bl1 : ∀ x ∈ p1, x.block < W.heap.size := by obtain ⟨m, hm⟩ := k1; exact DataW.trod_lt m _ _ _ hm
  obtain ⟨fu1, hf1⟩ := h1
  obtain ⟨l1, rd1, lt1, hc1⟩ := bytes_of hf1
  have le1 : len1 ≤ 1000000000000000 := len_bound hsz (j := 1) rfl rfl rd1 hc1
  obtain ⟨a2, len2, cap2, rfl⟩ := okWide_slice Tryz.underlying23 (hval 2 23 v2 rfl rfl)
  have k2 := h2
  have bl2 : ∀ x ∈ p2, x.block < W.heap.size := by obtain ⟨m, hm⟩ := k2; exact DataW.trod_lt m _ _ _ hm
  obtain ⟨fu2, hf2⟩ := h2
  obtain ⟨pl2, rd2⟩ := rows_of hf2
  obtain ⟨a3, len3, cap3, rfl⟩ := okWide_slice Tryz.underlying24 (hval 3 24 v3 rfl rfl)
  have k3 := h3
  have bl3 : ∀ x ∈ p3, x.block < W.heap.size := by obtain ⟨m, hm⟩ := k3; exact DataW.trod_lt m _ _ _ hm
  obtain ⟨fu3, hf3⟩ := h3
  obtain ⟨gr3, gk3, rd3⟩ := grants_of hf3
  obtain ⟨cs4, rfl, sz4⟩ := okWide_struct uPktG (hval 4 26 v4 rfl rfl)
  obtain ⟨⟨pa4, pb4, pc4⟩, ec4⟩ := (by obtain ⟨fu, hf⟩ := h4; exact packet_of (by show cs4.toList.length = 3; rw [Array.length_toList, sz4]; exact cellsPk) hf : ∃ p : Int × Int × Slc, cs4.toList = [.int .i64 p.1, .int .i64 p.2.1, p.2.2.val])
  obtain rfl : cs4 = #[.int .i64 pa4, .int .i64 pb4, pc4.val] := by rw [← Array.toArray_toList (xs := cs4), ec4]
  have k4 := h4
  have bl4 : ∀ x ∈ p4, x.block < W.heap.size := by obtain ⟨m, hm⟩ := k4; exact DataW.trod_lt m _ _ _ hm
  have g : GS W := gs_of_laid hL
  refine (say_of (c_clientNewsP (sd := ⟨a1, len1, cap1⟩) (ps := ⟨a2, len2, cap2⟩) (gs := ⟨a3, len3, cap3⟩) g rd1 lt1 rd2 rd3)).mono fun e W' ⟨he, bel⟩ => ?_
  subst he
  exact ⟨_, rfl, _, _, _, [], _, [], hW', trodAll_mk1 (shut_bool Tryz.underlying4 _), trodAll_mk5 (Below.trod laidOut (by kernel_rfl) (of_decide_eq_true (by kernel_rfl)) k0 bel bl0) (Below.trod laidOut (by kernel_rfl) (of_decide_eq_true (by kernel_rfl)) k1 bel bl1) (Below.trod laidOut (by kernel_rfl) (of_decide_eq_true (by kernel_rfl)) k2 bel bl2) (Below.trod laidOut (by kernel_rfl) (of_decide_eq_true (by kernel_rfl)) k3 bel bl3) (Below.trod laidOut (by kernel_rfl) (of_decide_eq_true (by kernel_rfl)) k4 bel bl4), rfl, bel.frame _, fun h => by cases h⟩
theorem andT {a b : Bool} (h1 : a = true) (h2 : b = true) : (a && b) = true := by rw [h1, h2]; rfl
theorem clientNews_k1 : (Rows.clientNewsRow.wf (OpenSpec.ofChange Rows.clientNewsSpec)) = true := by kernel_rfl
theorem clientNews_k2 : (laidOutB Tryz.prog) = true := by kernel_rfl
theorem clientNews_k3 : (mapsRowed Tryz.prog) = true := by kernel_rfl
theorem clientNews_k4 : (Tryz.f3.params.all (Tryz.prog.readableRec ·)) = true := by kernel_rfl
theorem clientNews_k5 : (namedTie Tryz.prog Rows.clientNewsRow.named Rows.clientNewsSpec.vars) = true := by kernel_rfl
theorem clientNews_k6 : ((Rows.clientNewsRow.stops == [])) = true := by kernel_rfl
theorem clientNews_k7 : ((Tryz.prog.stops == [])) = true := by kernel_rfl
theorem clientNews_k8 : ((Rows.clientNewsRow.knobs == [])) = true := by kernel_rfl
theorem clientNews_k9 : ((Tryz.prog.stopKnobs == [])) = true := by kernel_rfl
theorem clientNews_k10 : ((Rows.clientNewsRow.inPlace == Tryz.prog.inPlace 3)) = true := by kernel_rfl
theorem clientNews_k11 : ((Rows.clientNewsRow.unfollowed == Tryz.prog.unfollowed 3)) = true := by kernel_rfl
theorem clientNews_k12 : ((Rows.clientNewsRow.recurses == Tryz.prog.recurses 3)) = true := by kernel_rfl
theorem clientNews_k13 : ((Rows.clientNewsRow.named == Tryz.prog.varsNamed 3)) = true := by kernel_rfl
theorem clientNews_k14 : ((Rows.clientNewsRow.maps == (Tryz.f3.params.toList ++ Rows.clientNewsSpec.plain.varTypes Tryz.prog).any (Tryz.prog.mapsRec ·))) = true := by kernel_rfl
theorem clientNews_k15 : ((Rows.clientNewsRow.ifaces == (Tryz.f3.params.toList ++ Rows.clientNewsSpec.plain.varTypes Tryz.prog).any (Tryz.prog.ifacesRec ·))) = true := by kernel_rfl
theorem clientNews_k16 : ((Rows.clientNewsRow.mapsOut == Tryz.prog.mapsAmong Tryz.f3.resultTypes.toList)) = true := by kernel_rfl
theorem clientNews_k17 : ((Rows.clientNewsRow.loops == (Tryz.f3.params.toList ++ Rows.clientNewsSpec.plain.varTypes Tryz.prog).any (Tryz.prog.loopsFrom ·))) = true := by kernel_rfl
theorem clientNews_k18 : ((Rows.clientNewsRow.wideKeys == (Tryz.f3.params.toList ++ Rows.clientNewsSpec.plain.varTypes Tryz.prog ++ Tryz.f3.resultTypes.toList).any (Tryz.prog.wideKeysFrom ·))) = true := by kernel_rfl
theorem clientNews_k19 : (Rows.clientNewsSpec.vars.all (Tryz.prog.varReadable ·)) = true := by kernel_rfl
theorem clientNews_k20 : (Tryz.f3.resultTypes.all (fun t => Tryz.prog.readableRec t && decide (t < Tryz.prog.types.size))) = true := by kernel_rfl
theorem clientNews_k21 : ((Rows.clientNewsRow.ifacesOut == Tryz.f3.resultTypes.toList.any (Tryz.prog.ifacesRec ·))) = true := by kernel_rfl
theorem clientNews_k22 : ((Rows.clientNewsRow.loopsOut == Tryz.f3.resultTypes.toList.any (Tryz.prog.loopsFrom ·))) = true := by kernel_rfl
theorem clientNews_k23 : ((Rows.clientNewsRow.plainKeys == Tryz.prog.plainKeys)) = true := by kernel_rfl
theorem clientNews_k24 : (Rows.clientNewsRow.shortTexts.isNone) = true := by kernel_rfl
theorem clientNews_k25 : (Tryz.prog.stopsHeard) = true := by kernel_rfl
theorem clientNews_k26 : (Tryz.prog.mayEnter) = true := by kernel_rfl
theorem clientNews_k27 : ((Rows.clientNewsRow.lifted == Tryz.prog.liftsFinal)) = true := by kernel_rfl
theorem clientNews_k28 : ((Tryz.prog.make == some Rows.clientNewsRow.make)) = true := by kernel_rfl
theorem clientNews_k29 : ((Rows.clientNewsRow.kinds == (if Rows.clientNewsRow.domain.isEmpty then [] else Tryz.f3.params.toList.map fun t => match Tryz.prog.underlying t with | some (.int k) => some k | _ => none))) = true := by kernel_rfl
theorem clientNews_k30 : ((Rows.clientNewsRow.pinned == Rows.clientNewsRow.pinnedBy)) = true := by kernel_rfl
theorem clientNews_k31 : ((Rows.clientNewsRow.veiled == (Tryz.f3.params.toList ++ Rows.clientNewsSpec.plain.varTypes Tryz.prog ++ Tryz.f3.resultTypes.toList).any (Tryz.prog.veiledRec ·))) = true := by kernel_rfl
theorem clientNews_k32 : (Rows.clientNewsRow.veiledFits Tryz.prog Tryz.f3.params.toList (Tryz.f3.params.toList ++ Rows.clientNewsSpec.plain.varTypes Tryz.prog ++ Tryz.f3.resultTypes.toList)) = true := by kernel_rfl
theorem clientNews_closed : joinedFacts Tryz.prog 3 Tryz.f3 Rows.clientNewsSpec Rows.clientNewsRow = true := (andT (andT (andT (andT (andT (andT (andT (andT (andT (andT (andT (andT (andT (andT (andT (andT (andT (andT (andT (andT (andT (andT (andT (andT (andT (andT (andT (andT (andT (andT (andT clientNews_k1 clientNews_k2) clientNews_k3) clientNews_k4) clientNews_k5) clientNews_k6) clientNews_k7) clientNews_k8) clientNews_k9) clientNews_k10) clientNews_k11) clientNews_k12) clientNews_k13) clientNews_k14) clientNews_k15) clientNews_k16) clientNews_k17) clientNews_k18) clientNews_k19) clientNews_k20) clientNews_k21) clientNews_k22) clientNews_k23) clientNews_k24) clientNews_k25) clientNews_k26) clientNews_k27) clientNews_k28) clientNews_k29) clientNews_k30) clientNews_k31) clientNews_k32)
theorem clientNews_named : Tryz.prog.funcNamed Rows.clientNewsRow.func = some 3 := by kernel_rfl
theorem clientNews_wrap : Tryz.f3.isWrapper Tryz.prog Rows.clientNewsRow.wrapper Rows.clientNewsRow.mainSum := by unfold Func.isWrapper; first | (rw [if_pos (by decide +kernel)]; kernel_rfl) | (rw [if_neg (by decide +kernel)]; exact ⟨rfl, rfl⟩)
theorem clientNews_proved : Rows.ClientNewsSaid :=
  OpenClaim.holds_of_wide 3 Tryz.f3 rfl rfl rfl rfl rfl rfl rfl ⟨rfl, rfl, rfl, rfl, rfl⟩ rfl rfl rfl rfl rfl clientNews_named Tryz.func3 clientNews_closed
    (of_decide_eq_true (by kernel_rfl)) clientNews_wrap
    (fun os started H enc _ => clientNews_lifted os started H enc)
theorem clientNews_text : Rows.clientNewsRow.wfByText (OpenSpec.ofChange Rows.clientNewsSpec) = true := by kernel_rfl
theorem clientNews_main : Tryz.prog.mainIs = some (((true, "0cdc14a4659b9ac09541e84a132e15fa210d19ae28cea106261c88ed526bc7c1") : Bool × String).1, ((true, "0cdc14a4659b9ac09541e84a132e15fa210d19ae28cea106261c88ed526bc7c1") : Bool × String).2.toList) := by kernel_rfl
theorem clientNews_looks : true = Tryz.prog.looks [] := by kernel_rfl
theorem clientNews_goes : false = Rows.clientNewsRow.goesBy Tryz.prog := by kernel_rfl
theorem clientNews_card : Rows.ClientNewsCardSaid :=
  Claim7.holds_tied_plain_at .later [] [.data, .data, .data, .data, .data, .pinned] true (true, "0cdc14a4659b9ac09541e84a132e15fa210d19ae28cea106261c88ed526bc7c1") true
    clientNews_proved (fun _ h => by cases h) clientNews_text (fun _ h => by cases h) clientNews_row_tie rfl ⟨rfl, rfl⟩ clientNews_main rfl
    (fun f fn hf hfn => by
      obtain rfl : f = 3 := Option.some.inj ((show Tryz.prog.funcNamed Tryz.f3.name = some 3 by kernel_rfl).symm.trans hf) |>.symm
      obtain rfl : fn = Tryz.f3 := (Option.some.inj (Tryz.func3.symm.trans hfn)).symm
      exact ⟨clientNews_looks, fun j t ht => by
        rw [Tryz.params3] at ht
        have hm : t ∈ ([3, 22, 23, 24, 26] : List TypeId) := by simpa using Array.mem_of_getElem? ht
        have hall : (([3, 22, 23, 24, 26] : List TypeId).all fun u => !Tryz.prog.wantsStandIn u) = true := by kernel_rfl
        exact (show Tryz.prog.wantsStandIn t = false by simpa using List.all_eq_true.1 hall t hm)⟩)
    clientNews_goes
end Go.Proofs.YtdjmobighhfogaaGreatDoor
