/- The kit's flat functions, handed no lists. Printed by a program of mine. -/
import Derived.Test.YtknbihogadcnpaaGreatG2
set_option linter.unusedSimpArgs false
set_option linter.unusedVariables false
set_option maxRecDepth 100000
namespace Go.Proofs.YtknbihogadcnpaaGreat
open Go Go.Sh

def annLoop0 : Ann := .block none (.unroll 1 (.seq none (.seq none .z (.cond .z .z)) .z))
def annFlat : Ann := .seq none .z (.seq none (.seq none .z annLoop0) (.seq none .z (.seq none (.seq none .z annLoop0) (.seq none (.seq none .z annLoop0) (.seq none (.seq none .z annLoop0) (.seq none (.seq none .z annLoop0) (.seq none .z .z)))))))
theorem sem_none {T e : TypeId} {w : World} {K : World → Prop} (ht : Tryz.prog.underlying T = some (.slice e)) (hi : ∃ i, Tryz.prog.info? e = some i ∧ i.zero = some (.slice none 0 0) ∧ i.size = 1 ∧ i.bytes = 24) (hK : ∀ w', Mod NoB w w' → K w') :
    semK Tryz.prog (Instr.makeSlice T (.int .i64 0) (.int .i64 0)) w fun v w1 => ∃ x : Slc, v = .slice x.a x.len x.cap ∧ K w1 := by
  obtain ⟨i, h1, h2, h3, h4⟩ := hi
  exact sem_makeSlice (l := 0) (c := 0) ht h1 h2 h3 rfl h4 rfl rfl (by omega) (by omega) (by omega) fun b w' hN hb ho => ⟨⟨_, _, _⟩, rfl, hK w' hN.mod⟩
def FlatNone (f : FuncId) : Prop := ∀ w : World, Calls Tryz.prog f #[.slice none 0 0] w (Ret fun v w' => v = .bool true ∧ Mod NoB w w')

theorem noneLimbs : FlatNone 42 := fun w => by
  have h := fun R => show semK Tryz.prog (Instr.makeSlice 47 (.int .i64 0) (.int .i64 0)) w (fun v w1 => ∃ x : Slc, v = .slice x.a x.len x.cap ∧ R (.returned (.bool true)) w1) = den Tryz.prog (Func.ntmps Tryz.f42) none annFlat (bodyOf Tryz.f42) (ktOf Tryz.prog Tryz.f42 R) [] (envOf 0 [.sl ⟨none, 0, 0⟩]) w by kernel_rfl
  exact calls_of_den annFlat Tryz.func42 (bodyOf_some (by kernel_rfl)) [.sl ⟨none, 0, 0⟩] (Nat.le_of_ble_eq_true (by kernel_rfl)) ((h _) ▸ sem_none (e := 116) (by kernel_rfl) (info_of (by kernel_rfl) (by kernel_rfl) (by kernel_rfl)) fun w' hm => ⟨rfl, hm⟩)
theorem noneWords : FlatNone 43 := fun w => by
  have h := fun R => show semK Tryz.prog (Instr.makeSlice 48 (.int .i64 0) (.int .i64 0)) w (fun v w1 => ∃ x : Slc, v = .slice x.a x.len x.cap ∧ R (.returned (.bool true)) w1) = den Tryz.prog (Func.ntmps Tryz.f43) none annFlat (bodyOf Tryz.f43) (ktOf Tryz.prog Tryz.f43 R) [] (envOf 0 [.sl ⟨none, 0, 0⟩]) w by kernel_rfl
  exact calls_of_den annFlat Tryz.func43 (bodyOf_some (by kernel_rfl)) [.sl ⟨none, 0, 0⟩] (Nat.le_of_ble_eq_true (by kernel_rfl)) ((h _) ▸ sem_none (e := 74) (by kernel_rfl) (info_of (by kernel_rfl) (by kernel_rfl) (by kernel_rfl)) fun w' hm => ⟨rfl, hm⟩)
theorem noneInts : FlatNone 44 := fun w => by
  have h := fun R => show semK Tryz.prog (Instr.makeSlice 49 (.int .i64 0) (.int .i64 0)) w (fun v w1 => ∃ x : Slc, v = .slice x.a x.len x.cap ∧ R (.returned (.bool true)) w1) = den Tryz.prog (Func.ntmps Tryz.f44) none annFlat (bodyOf Tryz.f44) (ktOf Tryz.prog Tryz.f44 R) [] (envOf 0 [.sl ⟨none, 0, 0⟩]) w by kernel_rfl
  exact calls_of_den annFlat Tryz.func44 (bodyOf_some (by kernel_rfl)) [.sl ⟨none, 0, 0⟩] (Nat.le_of_ble_eq_true (by kernel_rfl)) ((h _) ▸ sem_none (e := 76) (by kernel_rfl) (info_of (by kernel_rfl) (by kernel_rfl) (by kernel_rfl)) fun w' hm => ⟨rfl, hm⟩)
theorem noneLongs : FlatNone 45 := fun w => by
  have h := fun R => show semK Tryz.prog (Instr.makeSlice 50 (.int .i64 0) (.int .i64 0)) w (fun v w1 => ∃ x : Slc, v = .slice x.a x.len x.cap ∧ R (.returned (.bool true)) w1) = den Tryz.prog (Func.ntmps Tryz.f45) none annFlat (bodyOf Tryz.f45) (ktOf Tryz.prog Tryz.f45 R) [] (envOf 0 [.sl ⟨none, 0, 0⟩]) w by kernel_rfl
  exact calls_of_den annFlat Tryz.func45 (bodyOf_some (by kernel_rfl)) [.sl ⟨none, 0, 0⟩] (Nat.le_of_ble_eq_true (by kernel_rfl)) ((h _) ▸ sem_none (e := 118) (by kernel_rfl) (info_of (by kernel_rfl) (by kernel_rfl) (by kernel_rfl)) fun w' hm => ⟨rfl, hm⟩)
theorem noneTexts : FlatNone 46 := fun w => by
  have h := fun R => show semK Tryz.prog (Instr.makeSlice 51 (.int .i64 0) (.int .i64 0)) w (fun v w1 => ∃ x : Slc, v = .slice x.a x.len x.cap ∧ R (.returned (.bool true)) w1) = den Tryz.prog (Func.ntmps Tryz.f46) none annFlat (bodyOf Tryz.f46) (ktOf Tryz.prog Tryz.f46 R) [] (envOf 0 [.sl ⟨none, 0, 0⟩]) w by kernel_rfl
  exact calls_of_den annFlat Tryz.func46 (bodyOf_some (by kernel_rfl)) [.sl ⟨none, 0, 0⟩] (Nat.le_of_ble_eq_true (by kernel_rfl)) ((h _) ▸ sem_none (e := 119) (by kernel_rfl) (info_of (by kernel_rfl) (by kernel_rfl) (by kernel_rfl)) fun w' hm => ⟨rfl, hm⟩)
theorem noneTruths : FlatNone 48 := fun w => by
  have h := fun R => show semK Tryz.prog (Instr.makeSlice 33 (.int .i64 0) (.int .i64 0)) w (fun v w1 => ∃ x : Slc, v = .slice x.a x.len x.cap ∧ R (.returned (.bool true)) w1) = den Tryz.prog (Func.ntmps Tryz.f48) none annFlat (bodyOf Tryz.f48) (ktOf Tryz.prog Tryz.f48 R) [] (envOf 0 [.sl ⟨none, 0, 0⟩]) w by kernel_rfl
  exact calls_of_den annFlat Tryz.func48 (bodyOf_some (by kernel_rfl)) [.sl ⟨none, 0, 0⟩] (Nat.le_of_ble_eq_true (by kernel_rfl)) ((h _) ▸ sem_none (e := 25) (by kernel_rfl) (info_of (by kernel_rfl) (by kernel_rfl) (by kernel_rfl)) fun w' hm => ⟨rfl, hm⟩)
theorem noneRows : FlatNone 49 := fun w => by
  have h := fun R => show semK Tryz.prog (Instr.makeSlice 52 (.int .i64 0) (.int .i64 0)) w (fun v w1 => ∃ x : Slc, v = .slice x.a x.len x.cap ∧ R (.returned (.bool true)) w1) = den Tryz.prog (Func.ntmps Tryz.f49) none annFlat (bodyOf Tryz.f49) (ktOf Tryz.prog Tryz.f49 R) [] (envOf 0 [.sl ⟨none, 0, 0⟩]) w by kernel_rfl
  exact calls_of_den annFlat Tryz.func49 (bodyOf_some (by kernel_rfl)) [.sl ⟨none, 0, 0⟩] (Nat.le_of_ble_eq_true (by kernel_rfl)) ((h _) ▸ sem_none (e := 31) (by kernel_rfl) (info_of (by kernel_rfl) (by kernel_rfl) (by kernel_rfl)) fun w' hm => ⟨rfl, hm⟩)
theorem noneDots : FlatNone 50 := fun w => by
  have h := fun R => show semK Tryz.prog (Instr.makeSlice 53 (.int .i64 0) (.int .i64 0)) w (fun v w1 => ∃ x : Slc, v = .slice x.a x.len x.cap ∧ R (.returned (.bool true)) w1) = den Tryz.prog (Func.ntmps Tryz.f50) none annFlat (bodyOf Tryz.f50) (ktOf Tryz.prog Tryz.f50 R) [] (envOf 0 [.sl ⟨none, 0, 0⟩]) w by kernel_rfl
  exact calls_of_den annFlat Tryz.func50 (bodyOf_some (by kernel_rfl)) [.sl ⟨none, 0, 0⟩] (Nat.le_of_ble_eq_true (by kernel_rfl)) ((h _) ▸ sem_none (e := 122) (by kernel_rfl) (info_of (by kernel_rfl) (by kernel_rfl) (by kernel_rfl)) fun w' hm => ⟨rfl, hm⟩)
theorem noneRecords : FlatNone 51 := fun w => by
  have h := fun R => show semK Tryz.prog (Instr.makeSlice 54 (.int .i64 0) (.int .i64 0)) w (fun v w1 => ∃ x : Slc, v = .slice x.a x.len x.cap ∧ R (.returned (.bool true)) w1) = den Tryz.prog (Func.ntmps Tryz.f51) none annFlat (bodyOf Tryz.f51) (ktOf Tryz.prog Tryz.f51 R) [] (envOf 0 [.sl ⟨none, 0, 0⟩]) w by kernel_rfl
  exact calls_of_den annFlat Tryz.func51 (bodyOf_some (by kernel_rfl)) [.sl ⟨none, 0, 0⟩] (Nat.le_of_ble_eq_true (by kernel_rfl)) ((h _) ▸ sem_none (e := 126) (by kernel_rfl) (info_of (by kernel_rfl) (by kernel_rfl) (by kernel_rfl)) fun w' hm => ⟨rfl, hm⟩)
theorem noneLeaves : FlatNone 52 := fun w => by
  have h := fun R => show semK Tryz.prog (Instr.makeSlice 55 (.int .i64 0) (.int .i64 0)) w (fun v w1 => ∃ x : Slc, v = .slice x.a x.len x.cap ∧ R (.returned (.bool true)) w1) = den Tryz.prog (Func.ntmps Tryz.f52) none annFlat (bodyOf Tryz.f52) (ktOf Tryz.prog Tryz.f52 R) [] (envOf 0 [.sl ⟨none, 0, 0⟩]) w by kernel_rfl
  exact calls_of_den annFlat Tryz.func52 (bodyOf_some (by kernel_rfl)) [.sl ⟨none, 0, 0⟩] (Nat.le_of_ble_eq_true (by kernel_rfl)) ((h _) ▸ sem_none (e := 131) (by kernel_rfl) (info_of (by kernel_rfl) (by kernel_rfl) (by kernel_rfl)) fun w' hm => ⟨rfl, hm⟩)
theorem noneGrants : FlatNone 53 := fun w => by
  have h := fun R => show semK Tryz.prog (Instr.makeSlice 56 (.int .i64 0) (.int .i64 0)) w (fun v w1 => ∃ x : Slc, v = .slice x.a x.len x.cap ∧ R (.returned (.bool true)) w1) = den Tryz.prog (Func.ntmps Tryz.f53) none annFlat (bodyOf Tryz.f53) (ktOf Tryz.prog Tryz.f53 R) [] (envOf 0 [.sl ⟨none, 0, 0⟩]) w by kernel_rfl
  exact calls_of_den annFlat Tryz.func53 (bodyOf_some (by kernel_rfl)) [.sl ⟨none, 0, 0⟩] (Nat.le_of_ble_eq_true (by kernel_rfl)) ((h _) ▸ sem_none (e := 136) (by kernel_rfl) (info_of (by kernel_rfl) (by kernel_rfl) (by kernel_rfl)) fun w' hm => ⟨rfl, hm⟩)
theorem noneNodes : FlatNone 54 := fun w => by
  have h := fun R => show semK Tryz.prog (Instr.makeSlice 57 (.int .i64 0) (.int .i64 0)) w (fun v w1 => ∃ x : Slc, v = .slice x.a x.len x.cap ∧ R (.returned (.bool true)) w1) = den Tryz.prog (Func.ntmps Tryz.f54) none annFlat (bodyOf Tryz.f54) (ktOf Tryz.prog Tryz.f54 R) [] (envOf 0 [.sl ⟨none, 0, 0⟩]) w by kernel_rfl
  exact calls_of_den annFlat Tryz.func54 (bodyOf_some (by kernel_rfl)) [.sl ⟨none, 0, 0⟩] (Nat.le_of_ble_eq_true (by kernel_rfl)) ((h _) ▸ sem_none (e := 141) (by kernel_rfl) (info_of (by kernel_rfl) (by kernel_rfl) (by kernel_rfl)) fun w' hm => ⟨rfl, hm⟩)
theorem noneStubs : FlatNone 55 := fun w => by
  have h := fun R => show semK Tryz.prog (Instr.makeSlice 58 (.int .i64 0) (.int .i64 0)) w (fun v w1 => ∃ x : Slc, v = .slice x.a x.len x.cap ∧ R (.returned (.bool true)) w1) = den Tryz.prog (Func.ntmps Tryz.f55) none annFlat (bodyOf Tryz.f55) (ktOf Tryz.prog Tryz.f55 R) [] (envOf 0 [.sl ⟨none, 0, 0⟩]) w by kernel_rfl
  exact calls_of_den annFlat Tryz.func55 (bodyOf_some (by kernel_rfl)) [.sl ⟨none, 0, 0⟩] (Nat.le_of_ble_eq_true (by kernel_rfl)) ((h _) ▸ sem_none (e := 147) (by kernel_rfl) (info_of (by kernel_rfl) (by kernel_rfl) (by kernel_rfl)) fun w' hm => ⟨rfl, hm⟩)
theorem noneProofs : FlatNone 56 := fun w => by
  have h := fun R => show semK Tryz.prog (Instr.makeSlice 59 (.int .i64 0) (.int .i64 0)) w (fun v w1 => ∃ x : Slc, v = .slice x.a x.len x.cap ∧ R (.returned (.bool true)) w1) = den Tryz.prog (Func.ntmps Tryz.f56) none annFlat (bodyOf Tryz.f56) (ktOf Tryz.prog Tryz.f56 R) [] (envOf 0 [.sl ⟨none, 0, 0⟩]) w by kernel_rfl
  exact calls_of_den annFlat Tryz.func56 (bodyOf_some (by kernel_rfl)) [.sl ⟨none, 0, 0⟩] (Nat.le_of_ble_eq_true (by kernel_rfl)) ((h _) ▸ sem_none (e := 152) (by kernel_rfl) (info_of (by kernel_rfl) (by kernel_rfl) (by kernel_rfl)) fun w' hm => ⟨rfl, hm⟩)
theorem noneRoots : FlatNone 57 := fun w => by
  have h := fun R => show semK Tryz.prog (Instr.makeSlice 60 (.int .i64 0) (.int .i64 0)) w (fun v w1 => ∃ x : Slc, v = .slice x.a x.len x.cap ∧ R (.returned (.bool true)) w1) = den Tryz.prog (Func.ntmps Tryz.f57) none annFlat (bodyOf Tryz.f57) (ktOf Tryz.prog Tryz.f57 R) [] (envOf 0 [.sl ⟨none, 0, 0⟩]) w by kernel_rfl
  exact calls_of_den annFlat Tryz.func57 (bodyOf_some (by kernel_rfl)) [.sl ⟨none, 0, 0⟩] (Nat.le_of_ble_eq_true (by kernel_rfl)) ((h _) ▸ sem_none (e := 157) (by kernel_rfl) (info_of (by kernel_rfl) (by kernel_rfl) (by kernel_rfl)) fun w' hm => ⟨rfl, hm⟩)
theorem noneEvidenceRow : FlatNone 58 := fun w => by
  have h := fun R => show semK Tryz.prog (Instr.makeSlice 61 (.int .i64 0) (.int .i64 0)) w (fun v w1 => ∃ x : Slc, v = .slice x.a x.len x.cap ∧ R (.returned (.bool true)) w1) = den Tryz.prog (Func.ntmps Tryz.f58) none annFlat (bodyOf Tryz.f58) (ktOf Tryz.prog Tryz.f58 R) [] (envOf 0 [.sl ⟨none, 0, 0⟩]) w by kernel_rfl
  exact calls_of_den annFlat Tryz.func58 (bodyOf_some (by kernel_rfl)) [.sl ⟨none, 0, 0⟩] (Nat.le_of_ble_eq_true (by kernel_rfl)) ((h _) ▸ sem_none (e := 162) (by kernel_rfl) (info_of (by kernel_rfl) (by kernel_rfl) (by kernel_rfl)) fun w' hm => ⟨rfl, hm⟩)
theorem noneFrames : FlatNone 59 := fun w => by
  have h := fun R => show semK Tryz.prog (Instr.makeSlice 62 (.int .i64 0) (.int .i64 0)) w (fun v w1 => ∃ x : Slc, v = .slice x.a x.len x.cap ∧ R (.returned (.bool true)) w1) = den Tryz.prog (Func.ntmps Tryz.f59) none annFlat (bodyOf Tryz.f59) (ktOf Tryz.prog Tryz.f59 R) [] (envOf 0 [.sl ⟨none, 0, 0⟩]) w by kernel_rfl
  exact calls_of_den annFlat Tryz.func59 (bodyOf_some (by kernel_rfl)) [.sl ⟨none, 0, 0⟩] (Nat.le_of_ble_eq_true (by kernel_rfl)) ((h _) ▸ sem_none (e := 167) (by kernel_rfl) (info_of (by kernel_rfl) (by kernel_rfl) (by kernel_rfl)) fun w' hm => ⟨rfl, hm⟩)
theorem nonePackets : FlatNone 60 := fun w => by
  have h := fun R => show semK Tryz.prog (Instr.makeSlice 63 (.int .i64 0) (.int .i64 0)) w (fun v w1 => ∃ x : Slc, v = .slice x.a x.len x.cap ∧ R (.returned (.bool true)) w1) = den Tryz.prog (Func.ntmps Tryz.f60) none annFlat (bodyOf Tryz.f60) (ktOf Tryz.prog Tryz.f60 R) [] (envOf 0 [.sl ⟨none, 0, 0⟩]) w by kernel_rfl
  exact calls_of_den annFlat Tryz.func60 (bodyOf_some (by kernel_rfl)) [.sl ⟨none, 0, 0⟩] (Nat.le_of_ble_eq_true (by kernel_rfl)) ((h _) ▸ sem_none (e := 174) (by kernel_rfl) (info_of (by kernel_rfl) (by kernel_rfl) (by kernel_rfl)) fun w' hm => ⟨rfl, hm⟩)
theorem noneEntries : FlatNone 61 := fun w => by
  have h := fun R => show semK Tryz.prog (Instr.makeSlice 64 (.int .i64 0) (.int .i64 0)) w (fun v w1 => ∃ x : Slc, v = .slice x.a x.len x.cap ∧ R (.returned (.bool true)) w1) = den Tryz.prog (Func.ntmps Tryz.f61) none annFlat (bodyOf Tryz.f61) (ktOf Tryz.prog Tryz.f61 R) [] (envOf 0 [.sl ⟨none, 0, 0⟩]) w by kernel_rfl
  exact calls_of_den annFlat Tryz.func61 (bodyOf_some (by kernel_rfl)) [.sl ⟨none, 0, 0⟩] (Nat.le_of_ble_eq_true (by kernel_rfl)) ((h _) ▸ sem_none (e := 179) (by kernel_rfl) (info_of (by kernel_rfl) (by kernel_rfl) (by kernel_rfl)) fun w' hm => ⟨rfl, hm⟩)
theorem noneHeldRow : FlatNone 62 := fun w => by
  have h := fun R => show semK Tryz.prog (Instr.makeSlice 65 (.int .i64 0) (.int .i64 0)) w (fun v w1 => ∃ x : Slc, v = .slice x.a x.len x.cap ∧ R (.returned (.bool true)) w1) = den Tryz.prog (Func.ntmps Tryz.f62) none annFlat (bodyOf Tryz.f62) (ktOf Tryz.prog Tryz.f62 R) [] (envOf 0 [.sl ⟨none, 0, 0⟩]) w by kernel_rfl
  exact calls_of_den annFlat Tryz.func62 (bodyOf_some (by kernel_rfl)) [.sl ⟨none, 0, 0⟩] (Nat.le_of_ble_eq_true (by kernel_rfl)) ((h _) ▸ sem_none (e := 185) (by kernel_rfl) (info_of (by kernel_rfl) (by kernel_rfl) (by kernel_rfl)) fun w' hm => ⟨rfl, hm⟩)
theorem noneConfigs : FlatNone 63 := fun w => by
  have h := fun R => show semK Tryz.prog (Instr.makeSlice 66 (.int .i64 0) (.int .i64 0)) w (fun v w1 => ∃ x : Slc, v = .slice x.a x.len x.cap ∧ R (.returned (.bool true)) w1) = den Tryz.prog (Func.ntmps Tryz.f63) none annFlat (bodyOf Tryz.f63) (ktOf Tryz.prog Tryz.f63 R) [] (envOf 0 [.sl ⟨none, 0, 0⟩]) w by kernel_rfl
  exact calls_of_den annFlat Tryz.func63 (bodyOf_some (by kernel_rfl)) [.sl ⟨none, 0, 0⟩] (Nat.le_of_ble_eq_true (by kernel_rfl)) ((h _) ▸ sem_none (e := 190) (by kernel_rfl) (info_of (by kernel_rfl) (by kernel_rfl) (by kernel_rfl)) fun w' hm => ⟨rfl, hm⟩)
theorem noneSteps : FlatNone 64 := fun w => by
  have h := fun R => show semK Tryz.prog (Instr.makeSlice 67 (.int .i64 0) (.int .i64 0)) w (fun v w1 => ∃ x : Slc, v = .slice x.a x.len x.cap ∧ R (.returned (.bool true)) w1) = den Tryz.prog (Func.ntmps Tryz.f64) none annFlat (bodyOf Tryz.f64) (ktOf Tryz.prog Tryz.f64 R) [] (envOf 0 [.sl ⟨none, 0, 0⟩]) w by kernel_rfl
  exact calls_of_den annFlat Tryz.func64 (bodyOf_some (by kernel_rfl)) [.sl ⟨none, 0, 0⟩] (Nat.le_of_ble_eq_true (by kernel_rfl)) ((h _) ▸ sem_none (e := 195) (by kernel_rfl) (info_of (by kernel_rfl) (by kernel_rfl) (by kernel_rfl)) fun w' hm => ⟨rfl, hm⟩)
theorem noneTales : FlatNone 65 := fun w => by
  have h := fun R => show semK Tryz.prog (Instr.makeSlice 68 (.int .i64 0) (.int .i64 0)) w (fun v w1 => ∃ x : Slc, v = .slice x.a x.len x.cap ∧ R (.returned (.bool true)) w1) = den Tryz.prog (Func.ntmps Tryz.f65) none annFlat (bodyOf Tryz.f65) (ktOf Tryz.prog Tryz.f65 R) [] (envOf 0 [.sl ⟨none, 0, 0⟩]) w by kernel_rfl
  exact calls_of_den annFlat Tryz.func65 (bodyOf_some (by kernel_rfl)) [.sl ⟨none, 0, 0⟩] (Nat.le_of_ble_eq_true (by kernel_rfl)) ((h _) ▸ sem_none (e := 201) (by kernel_rfl) (info_of (by kernel_rfl) (by kernel_rfl) (by kernel_rfl)) fun w' hm => ⟨rfl, hm⟩)
end Go.Proofs.YtknbihogadcnpaaGreat
