/- The kit's flat functions, handed no lists. Printed by a program of mine. -/
import Derived.Test.YtbbfcamopdckmaaDoorD0
import Derived.Test.YtbbfcamopdckmaaDoorS8
set_option linter.unusedSimpArgs false
set_option linter.unusedVariables false
set_option maxRecDepth 100000
namespace Go.Proofs.YtbbfcamopdckmaaDoor
open Go Go.Sh

def annLoop0 : Ann := .block none (.unroll 1 (.seq none (.seq none .z (.cond .z .z)) .z))
def annFlat : Ann := .seq none .z (.seq none (.seq none .z annLoop0) (.seq none .z (.seq none (.seq none .z annLoop0) (.seq none (.seq none .z annLoop0) (.seq none (.seq none .z annLoop0) (.seq none (.seq none .z annLoop0) (.seq none .z .z)))))))
theorem sem_none {T e : TypeId} {w : World} {K : World → Prop} (ht : Tryd.prog.underlying T = some (.slice e)) (hi : ∃ i, Tryd.prog.info? e = some i ∧ i.zero = some (.slice none 0 0) ∧ i.size = 1 ∧ i.bytes = 24) (hK : ∀ w', Mod NoB w w' → K w') :
    semK Tryd.prog (Instr.makeSlice T (.int .i64 0) (.int .i64 0)) w fun v w1 => ∃ x : Slc, v = .slice x.a x.len x.cap ∧ K w1 := by
  obtain ⟨i, h1, h2, h3, h4⟩ := hi
  exact sem_makeSlice (l := 0) (c := 0) ht h1 h2 h3 rfl h4 rfl rfl (by omega) (by omega) (by omega) fun b w' hN hb ho => ⟨⟨_, _, _⟩, rfl, hK w' hN.mod⟩
def FlatNone (f : FuncId) : Prop := ∀ w : World, Calls Tryd.prog f #[.slice none 0 0] w (Ret fun v w' => v = .bool true ∧ Mod NoB w w')

theorem noneLimbs : FlatNone 56 := fun w => by
  have h := fun R => show semK Tryd.prog (Instr.makeSlice 60 (.int .i64 0) (.int .i64 0)) w (fun v w1 => ∃ x : Slc, v = .slice x.a x.len x.cap ∧ R (.returned (.bool true)) w1) = den Tryd.prog (Func.ntmps Tryd.f56) none annFlat (bodyOf Tryd.f56) (ktOf Tryd.prog Tryd.f56 R) [] (envOf 0 [.sl ⟨none, 0, 0⟩]) w by kernel_rfl
  exact calls_of_den annFlat Tryd.func56 (bodyOf_some (by kernel_rfl)) [.sl ⟨none, 0, 0⟩] (Nat.le_of_ble_eq_true (by kernel_rfl)) ((h _) ▸ sem_none (e := 131) (by kernel_rfl) (info_of (by kernel_rfl) (by kernel_rfl) (by kernel_rfl)) fun w' hm => ⟨rfl, hm⟩)
theorem noneWords : FlatNone 57 := fun w => by
  have h := fun R => show semK Tryd.prog (Instr.makeSlice 61 (.int .i64 0) (.int .i64 0)) w (fun v w1 => ∃ x : Slc, v = .slice x.a x.len x.cap ∧ R (.returned (.bool true)) w1) = den Tryd.prog (Func.ntmps Tryd.f57) none annFlat (bodyOf Tryd.f57) (ktOf Tryd.prog Tryd.f57 R) [] (envOf 0 [.sl ⟨none, 0, 0⟩]) w by kernel_rfl
  exact calls_of_den annFlat Tryd.func57 (bodyOf_some (by kernel_rfl)) [.sl ⟨none, 0, 0⟩] (Nat.le_of_ble_eq_true (by kernel_rfl)) ((h _) ▸ sem_none (e := 40) (by kernel_rfl) (info_of (by kernel_rfl) (by kernel_rfl) (by kernel_rfl)) fun w' hm => ⟨rfl, hm⟩)
theorem noneInts : FlatNone 58 := fun w => by
  have h := fun R => show semK Tryd.prog (Instr.makeSlice 62 (.int .i64 0) (.int .i64 0)) w (fun v w1 => ∃ x : Slc, v = .slice x.a x.len x.cap ∧ R (.returned (.bool true)) w1) = den Tryd.prog (Func.ntmps Tryd.f58) none annFlat (bodyOf Tryd.f58) (ktOf Tryd.prog Tryd.f58 R) [] (envOf 0 [.sl ⟨none, 0, 0⟩]) w by kernel_rfl
  exact calls_of_den annFlat Tryd.func58 (bodyOf_some (by kernel_rfl)) [.sl ⟨none, 0, 0⟩] (Nat.le_of_ble_eq_true (by kernel_rfl)) ((h _) ▸ sem_none (e := 51) (by kernel_rfl) (info_of (by kernel_rfl) (by kernel_rfl) (by kernel_rfl)) fun w' hm => ⟨rfl, hm⟩)
theorem noneLongs : FlatNone 59 := fun w => by
  have h := fun R => show semK Tryd.prog (Instr.makeSlice 63 (.int .i64 0) (.int .i64 0)) w (fun v w1 => ∃ x : Slc, v = .slice x.a x.len x.cap ∧ R (.returned (.bool true)) w1) = den Tryd.prog (Func.ntmps Tryd.f59) none annFlat (bodyOf Tryd.f59) (ktOf Tryd.prog Tryd.f59 R) [] (envOf 0 [.sl ⟨none, 0, 0⟩]) w by kernel_rfl
  exact calls_of_den annFlat Tryd.func59 (bodyOf_some (by kernel_rfl)) [.sl ⟨none, 0, 0⟩] (Nat.le_of_ble_eq_true (by kernel_rfl)) ((h _) ▸ sem_none (e := 143) (by kernel_rfl) (info_of (by kernel_rfl) (by kernel_rfl) (by kernel_rfl)) fun w' hm => ⟨rfl, hm⟩)
theorem noneTexts : FlatNone 60 := fun w => by
  have h := fun R => show semK Tryd.prog (Instr.makeSlice 64 (.int .i64 0) (.int .i64 0)) w (fun v w1 => ∃ x : Slc, v = .slice x.a x.len x.cap ∧ R (.returned (.bool true)) w1) = den Tryd.prog (Func.ntmps Tryd.f60) none annFlat (bodyOf Tryd.f60) (ktOf Tryd.prog Tryd.f60 R) [] (envOf 0 [.sl ⟨none, 0, 0⟩]) w by kernel_rfl
  exact calls_of_den annFlat Tryd.func60 (bodyOf_some (by kernel_rfl)) [.sl ⟨none, 0, 0⟩] (Nat.le_of_ble_eq_true (by kernel_rfl)) ((h _) ▸ sem_none (e := 144) (by kernel_rfl) (info_of (by kernel_rfl) (by kernel_rfl) (by kernel_rfl)) fun w' hm => ⟨rfl, hm⟩)
theorem noneTruths : FlatNone 62 := fun w => by
  have h := fun R => show semK Tryd.prog (Instr.makeSlice 65 (.int .i64 0) (.int .i64 0)) w (fun v w1 => ∃ x : Slc, v = .slice x.a x.len x.cap ∧ R (.returned (.bool true)) w1) = den Tryd.prog (Func.ntmps Tryd.f62) none annFlat (bodyOf Tryd.f62) (ktOf Tryd.prog Tryd.f62 R) [] (envOf 0 [.sl ⟨none, 0, 0⟩]) w by kernel_rfl
  exact calls_of_den annFlat Tryd.func62 (bodyOf_some (by kernel_rfl)) [.sl ⟨none, 0, 0⟩] (Nat.le_of_ble_eq_true (by kernel_rfl)) ((h _) ▸ sem_none (e := 32) (by kernel_rfl) (info_of (by kernel_rfl) (by kernel_rfl) (by kernel_rfl)) fun w' hm => ⟨rfl, hm⟩)
theorem noneRows : FlatNone 63 := fun w => by
  have h := fun R => show semK Tryd.prog (Instr.makeSlice 66 (.int .i64 0) (.int .i64 0)) w (fun v w1 => ∃ x : Slc, v = .slice x.a x.len x.cap ∧ R (.returned (.bool true)) w1) = den Tryd.prog (Func.ntmps Tryd.f63) none annFlat (bodyOf Tryd.f63) (ktOf Tryd.prog Tryd.f63 R) [] (envOf 0 [.sl ⟨none, 0, 0⟩]) w by kernel_rfl
  exact calls_of_den annFlat Tryd.func63 (bodyOf_some (by kernel_rfl)) [.sl ⟨none, 0, 0⟩] (Nat.le_of_ble_eq_true (by kernel_rfl)) ((h _) ▸ sem_none (e := 22) (by kernel_rfl) (info_of (by kernel_rfl) (by kernel_rfl) (by kernel_rfl)) fun w' hm => ⟨rfl, hm⟩)
theorem noneDots : FlatNone 64 := fun w => by
  have h := fun R => show semK Tryd.prog (Instr.makeSlice 67 (.int .i64 0) (.int .i64 0)) w (fun v w1 => ∃ x : Slc, v = .slice x.a x.len x.cap ∧ R (.returned (.bool true)) w1) = den Tryd.prog (Func.ntmps Tryd.f64) none annFlat (bodyOf Tryd.f64) (ktOf Tryd.prog Tryd.f64 R) [] (envOf 0 [.sl ⟨none, 0, 0⟩]) w by kernel_rfl
  exact calls_of_den annFlat Tryd.func64 (bodyOf_some (by kernel_rfl)) [.sl ⟨none, 0, 0⟩] (Nat.le_of_ble_eq_true (by kernel_rfl)) ((h _) ▸ sem_none (e := 145) (by kernel_rfl) (info_of (by kernel_rfl) (by kernel_rfl) (by kernel_rfl)) fun w' hm => ⟨rfl, hm⟩)
theorem noneRecords : FlatNone 65 := fun w => by
  have h := fun R => show semK Tryd.prog (Instr.makeSlice 68 (.int .i64 0) (.int .i64 0)) w (fun v w1 => ∃ x : Slc, v = .slice x.a x.len x.cap ∧ R (.returned (.bool true)) w1) = den Tryd.prog (Func.ntmps Tryd.f65) none annFlat (bodyOf Tryd.f65) (ktOf Tryd.prog Tryd.f65 R) [] (envOf 0 [.sl ⟨none, 0, 0⟩]) w by kernel_rfl
  exact calls_of_den annFlat Tryd.func65 (bodyOf_some (by kernel_rfl)) [.sl ⟨none, 0, 0⟩] (Nat.le_of_ble_eq_true (by kernel_rfl)) ((h _) ▸ sem_none (e := 149) (by kernel_rfl) (info_of (by kernel_rfl) (by kernel_rfl) (by kernel_rfl)) fun w' hm => ⟨rfl, hm⟩)
theorem noneLeaves : FlatNone 66 := fun w => by
  have h := fun R => show semK Tryd.prog (Instr.makeSlice 69 (.int .i64 0) (.int .i64 0)) w (fun v w1 => ∃ x : Slc, v = .slice x.a x.len x.cap ∧ R (.returned (.bool true)) w1) = den Tryd.prog (Func.ntmps Tryd.f66) none annFlat (bodyOf Tryd.f66) (ktOf Tryd.prog Tryd.f66 R) [] (envOf 0 [.sl ⟨none, 0, 0⟩]) w by kernel_rfl
  exact calls_of_den annFlat Tryd.func66 (bodyOf_some (by kernel_rfl)) [.sl ⟨none, 0, 0⟩] (Nat.le_of_ble_eq_true (by kernel_rfl)) ((h _) ▸ sem_none (e := 154) (by kernel_rfl) (info_of (by kernel_rfl) (by kernel_rfl) (by kernel_rfl)) fun w' hm => ⟨rfl, hm⟩)
theorem noneGrants : FlatNone 67 := fun w => by
  have h := fun R => show semK Tryd.prog (Instr.makeSlice 70 (.int .i64 0) (.int .i64 0)) w (fun v w1 => ∃ x : Slc, v = .slice x.a x.len x.cap ∧ R (.returned (.bool true)) w1) = den Tryd.prog (Func.ntmps Tryd.f67) none annFlat (bodyOf Tryd.f67) (ktOf Tryd.prog Tryd.f67 R) [] (envOf 0 [.sl ⟨none, 0, 0⟩]) w by kernel_rfl
  exact calls_of_den annFlat Tryd.func67 (bodyOf_some (by kernel_rfl)) [.sl ⟨none, 0, 0⟩] (Nat.le_of_ble_eq_true (by kernel_rfl)) ((h _) ▸ sem_none (e := 159) (by kernel_rfl) (info_of (by kernel_rfl) (by kernel_rfl) (by kernel_rfl)) fun w' hm => ⟨rfl, hm⟩)
theorem noneNodes : FlatNone 68 := fun w => by
  have h := fun R => show semK Tryd.prog (Instr.makeSlice 71 (.int .i64 0) (.int .i64 0)) w (fun v w1 => ∃ x : Slc, v = .slice x.a x.len x.cap ∧ R (.returned (.bool true)) w1) = den Tryd.prog (Func.ntmps Tryd.f68) none annFlat (bodyOf Tryd.f68) (ktOf Tryd.prog Tryd.f68 R) [] (envOf 0 [.sl ⟨none, 0, 0⟩]) w by kernel_rfl
  exact calls_of_den annFlat Tryd.func68 (bodyOf_some (by kernel_rfl)) [.sl ⟨none, 0, 0⟩] (Nat.le_of_ble_eq_true (by kernel_rfl)) ((h _) ▸ sem_none (e := 164) (by kernel_rfl) (info_of (by kernel_rfl) (by kernel_rfl) (by kernel_rfl)) fun w' hm => ⟨rfl, hm⟩)
theorem noneStubs : FlatNone 69 := fun w => by
  have h := fun R => show semK Tryd.prog (Instr.makeSlice 72 (.int .i64 0) (.int .i64 0)) w (fun v w1 => ∃ x : Slc, v = .slice x.a x.len x.cap ∧ R (.returned (.bool true)) w1) = den Tryd.prog (Func.ntmps Tryd.f69) none annFlat (bodyOf Tryd.f69) (ktOf Tryd.prog Tryd.f69 R) [] (envOf 0 [.sl ⟨none, 0, 0⟩]) w by kernel_rfl
  exact calls_of_den annFlat Tryd.func69 (bodyOf_some (by kernel_rfl)) [.sl ⟨none, 0, 0⟩] (Nat.le_of_ble_eq_true (by kernel_rfl)) ((h _) ▸ sem_none (e := 170) (by kernel_rfl) (info_of (by kernel_rfl) (by kernel_rfl) (by kernel_rfl)) fun w' hm => ⟨rfl, hm⟩)
theorem noneProofs : FlatNone 70 := fun w => by
  have h := fun R => show semK Tryd.prog (Instr.makeSlice 73 (.int .i64 0) (.int .i64 0)) w (fun v w1 => ∃ x : Slc, v = .slice x.a x.len x.cap ∧ R (.returned (.bool true)) w1) = den Tryd.prog (Func.ntmps Tryd.f70) none annFlat (bodyOf Tryd.f70) (ktOf Tryd.prog Tryd.f70 R) [] (envOf 0 [.sl ⟨none, 0, 0⟩]) w by kernel_rfl
  exact calls_of_den annFlat Tryd.func70 (bodyOf_some (by kernel_rfl)) [.sl ⟨none, 0, 0⟩] (Nat.le_of_ble_eq_true (by kernel_rfl)) ((h _) ▸ sem_none (e := 175) (by kernel_rfl) (info_of (by kernel_rfl) (by kernel_rfl) (by kernel_rfl)) fun w' hm => ⟨rfl, hm⟩)
theorem noneRoots : FlatNone 71 := fun w => by
  have h := fun R => show semK Tryd.prog (Instr.makeSlice 74 (.int .i64 0) (.int .i64 0)) w (fun v w1 => ∃ x : Slc, v = .slice x.a x.len x.cap ∧ R (.returned (.bool true)) w1) = den Tryd.prog (Func.ntmps Tryd.f71) none annFlat (bodyOf Tryd.f71) (ktOf Tryd.prog Tryd.f71 R) [] (envOf 0 [.sl ⟨none, 0, 0⟩]) w by kernel_rfl
  exact calls_of_den annFlat Tryd.func71 (bodyOf_some (by kernel_rfl)) [.sl ⟨none, 0, 0⟩] (Nat.le_of_ble_eq_true (by kernel_rfl)) ((h _) ▸ sem_none (e := 180) (by kernel_rfl) (info_of (by kernel_rfl) (by kernel_rfl) (by kernel_rfl)) fun w' hm => ⟨rfl, hm⟩)
theorem noneEvidenceRow : FlatNone 72 := fun w => by
  have h := fun R => show semK Tryd.prog (Instr.makeSlice 75 (.int .i64 0) (.int .i64 0)) w (fun v w1 => ∃ x : Slc, v = .slice x.a x.len x.cap ∧ R (.returned (.bool true)) w1) = den Tryd.prog (Func.ntmps Tryd.f72) none annFlat (bodyOf Tryd.f72) (ktOf Tryd.prog Tryd.f72 R) [] (envOf 0 [.sl ⟨none, 0, 0⟩]) w by kernel_rfl
  exact calls_of_den annFlat Tryd.func72 (bodyOf_some (by kernel_rfl)) [.sl ⟨none, 0, 0⟩] (Nat.le_of_ble_eq_true (by kernel_rfl)) ((h _) ▸ sem_none (e := 185) (by kernel_rfl) (info_of (by kernel_rfl) (by kernel_rfl) (by kernel_rfl)) fun w' hm => ⟨rfl, hm⟩)
theorem noneFrames : FlatNone 73 := fun w => by
  have h := fun R => show semK Tryd.prog (Instr.makeSlice 76 (.int .i64 0) (.int .i64 0)) w (fun v w1 => ∃ x : Slc, v = .slice x.a x.len x.cap ∧ R (.returned (.bool true)) w1) = den Tryd.prog (Func.ntmps Tryd.f73) none annFlat (bodyOf Tryd.f73) (ktOf Tryd.prog Tryd.f73 R) [] (envOf 0 [.sl ⟨none, 0, 0⟩]) w by kernel_rfl
  exact calls_of_den annFlat Tryd.func73 (bodyOf_some (by kernel_rfl)) [.sl ⟨none, 0, 0⟩] (Nat.le_of_ble_eq_true (by kernel_rfl)) ((h _) ▸ sem_none (e := 190) (by kernel_rfl) (info_of (by kernel_rfl) (by kernel_rfl) (by kernel_rfl)) fun w' hm => ⟨rfl, hm⟩)
theorem nonePackets : FlatNone 74 := fun w => by
  have h := fun R => show semK Tryd.prog (Instr.makeSlice 77 (.int .i64 0) (.int .i64 0)) w (fun v w1 => ∃ x : Slc, v = .slice x.a x.len x.cap ∧ R (.returned (.bool true)) w1) = den Tryd.prog (Func.ntmps Tryd.f74) none annFlat (bodyOf Tryd.f74) (ktOf Tryd.prog Tryd.f74 R) [] (envOf 0 [.sl ⟨none, 0, 0⟩]) w by kernel_rfl
  exact calls_of_den annFlat Tryd.func74 (bodyOf_some (by kernel_rfl)) [.sl ⟨none, 0, 0⟩] (Nat.le_of_ble_eq_true (by kernel_rfl)) ((h _) ▸ sem_none (e := 196) (by kernel_rfl) (info_of (by kernel_rfl) (by kernel_rfl) (by kernel_rfl)) fun w' hm => ⟨rfl, hm⟩)
theorem noneEntries : FlatNone 75 := fun w => by
  have h := fun R => show semK Tryd.prog (Instr.makeSlice 78 (.int .i64 0) (.int .i64 0)) w (fun v w1 => ∃ x : Slc, v = .slice x.a x.len x.cap ∧ R (.returned (.bool true)) w1) = den Tryd.prog (Func.ntmps Tryd.f75) none annFlat (bodyOf Tryd.f75) (ktOf Tryd.prog Tryd.f75 R) [] (envOf 0 [.sl ⟨none, 0, 0⟩]) w by kernel_rfl
  exact calls_of_den annFlat Tryd.func75 (bodyOf_some (by kernel_rfl)) [.sl ⟨none, 0, 0⟩] (Nat.le_of_ble_eq_true (by kernel_rfl)) ((h _) ▸ sem_none (e := 201) (by kernel_rfl) (info_of (by kernel_rfl) (by kernel_rfl) (by kernel_rfl)) fun w' hm => ⟨rfl, hm⟩)
theorem noneHeldRow : FlatNone 76 := fun w => by
  have h := fun R => show semK Tryd.prog (Instr.makeSlice 79 (.int .i64 0) (.int .i64 0)) w (fun v w1 => ∃ x : Slc, v = .slice x.a x.len x.cap ∧ R (.returned (.bool true)) w1) = den Tryd.prog (Func.ntmps Tryd.f76) none annFlat (bodyOf Tryd.f76) (ktOf Tryd.prog Tryd.f76 R) [] (envOf 0 [.sl ⟨none, 0, 0⟩]) w by kernel_rfl
  exact calls_of_den annFlat Tryd.func76 (bodyOf_some (by kernel_rfl)) [.sl ⟨none, 0, 0⟩] (Nat.le_of_ble_eq_true (by kernel_rfl)) ((h _) ▸ sem_none (e := 207) (by kernel_rfl) (info_of (by kernel_rfl) (by kernel_rfl) (by kernel_rfl)) fun w' hm => ⟨rfl, hm⟩)
theorem noneConfigs : FlatNone 77 := fun w => by
  have h := fun R => show semK Tryd.prog (Instr.makeSlice 80 (.int .i64 0) (.int .i64 0)) w (fun v w1 => ∃ x : Slc, v = .slice x.a x.len x.cap ∧ R (.returned (.bool true)) w1) = den Tryd.prog (Func.ntmps Tryd.f77) none annFlat (bodyOf Tryd.f77) (ktOf Tryd.prog Tryd.f77 R) [] (envOf 0 [.sl ⟨none, 0, 0⟩]) w by kernel_rfl
  exact calls_of_den annFlat Tryd.func77 (bodyOf_some (by kernel_rfl)) [.sl ⟨none, 0, 0⟩] (Nat.le_of_ble_eq_true (by kernel_rfl)) ((h _) ▸ sem_none (e := 212) (by kernel_rfl) (info_of (by kernel_rfl) (by kernel_rfl) (by kernel_rfl)) fun w' hm => ⟨rfl, hm⟩)
theorem noneSteps : FlatNone 78 := fun w => by
  have h := fun R => show semK Tryd.prog (Instr.makeSlice 81 (.int .i64 0) (.int .i64 0)) w (fun v w1 => ∃ x : Slc, v = .slice x.a x.len x.cap ∧ R (.returned (.bool true)) w1) = den Tryd.prog (Func.ntmps Tryd.f78) none annFlat (bodyOf Tryd.f78) (ktOf Tryd.prog Tryd.f78 R) [] (envOf 0 [.sl ⟨none, 0, 0⟩]) w by kernel_rfl
  exact calls_of_den annFlat Tryd.func78 (bodyOf_some (by kernel_rfl)) [.sl ⟨none, 0, 0⟩] (Nat.le_of_ble_eq_true (by kernel_rfl)) ((h _) ▸ sem_none (e := 217) (by kernel_rfl) (info_of (by kernel_rfl) (by kernel_rfl) (by kernel_rfl)) fun w' hm => ⟨rfl, hm⟩)
theorem noneTales : FlatNone 79 := fun w => by
  have h := fun R => show semK Tryd.prog (Instr.makeSlice 82 (.int .i64 0) (.int .i64 0)) w (fun v w1 => ∃ x : Slc, v = .slice x.a x.len x.cap ∧ R (.returned (.bool true)) w1) = den Tryd.prog (Func.ntmps Tryd.f79) none annFlat (bodyOf Tryd.f79) (ktOf Tryd.prog Tryd.f79 R) [] (envOf 0 [.sl ⟨none, 0, 0⟩]) w by kernel_rfl
  exact calls_of_den annFlat Tryd.func79 (bodyOf_some (by kernel_rfl)) [.sl ⟨none, 0, 0⟩] (Nat.le_of_ble_eq_true (by kernel_rfl)) ((h _) ▸ sem_none (e := 223) (by kernel_rfl) (info_of (by kernel_rfl) (by kernel_rfl) (by kernel_rfl)) fun w' hm => ⟨rfl, hm⟩)
end Go.Proofs.YtbbfcamopdckmaaDoor
