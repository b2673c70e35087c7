/- The forms of the translated functions, their contracts and the plain laws behind them, put together by a program. -/
import Derived.Test.YtagjijbaghnmfaaGreatDoorPV18
import Derived.Test.YtagjijbaghnmfaaGreatDoorRows
import Derived.Deep.Slices
import Derived.Deep.Strs
import Derived.Lib.LaidTab
import Derived.Stop.LaidErr
import Derived.LaidHandle
import Derived.MakeChecks
import Derived.SizedLaws
import Derived.WalkKit
import Derived.ProofKit
import Derived.OpenShut
import Derived.ShutString
import Derived.ChangeOld
import Derived.Below
import Derived.LaidMore
import Derived.Lay
import Derived.Stop.Joined
import Derived.SevenTiedAt
set_option linter.unusedSimpArgs false
set_option linter.unusedVariables false
set_option maxRecDepth 1000000
set_option maxHeartbeats 8000000
section
namespace Go.Proofs.YtagjijbaghnmfaaGreatDoor
open Go Go.Sh Go.ChangeShapes Go.WideShapes Go.ChangeAt Go.RowKit
def laidG : List (String × DataW Unit) := [("math/bits.deBruijn32tab", Rows.laid_math_bits_deBruijn32tab), ("math/bits.deBruijn64tab", Rows.laid_math_bits_deBruijn64tab), ("internal/strconv.uint64pow10", Rows.laid_internal_strconv_uint64pow10), ("unicode/utf8.acceptRanges", Rows.laid_unicode_utf8_acceptRanges), ("buttress/edwards.curve", Rows.laid_buttress_edwards_curve), ("buttress/edwards.twice", Rows.laid_buttress_edwards_twice), ("buttress/sha.begin", Rows.laid_buttress_sha_begin), ("buttress/sha.rest", Rows.laid_buttress_sha_rest), ("unicode/utf8.first", Rows.laid_unicode_utf8_first)]
theorem door_met (os : Os) (args : Array Value) : laidMetH Tryz.prog laidG ((World.laidAll Tryz.prog os laidG).forCall (fun _ _ => 0) ⟨#[], args, []⟩).memory := by
  rw [MakeChecks.laidMetH_plain _ _ _ (by kernel_rfl)]
  exact laidMet_laidAll _ (by kernel_rfl) (by kernel_rfl)
theorem rd_tab {W : World} {name : String} {l : List UInt64} {g : Nat} (h : Lib.TabIs Tryz.prog W name .u64 (l.map fun x => (x.toNat : Int))) (hg : Tryz.prog.globalNamed name = some g) : Rd W ⟨g, 0, none⟩ (us l) := by
  intro j v hj
  have hj' : j < l.length := by
    rcases Nat.lt_or_ge j l.length with h | h
    · exact h
    · rw [List.getElem?_eq_none (by simpa using h)] at hj; cases hj
  rw [addl, Nat.zero_add, h.cell hg j (by simpa using hj')]
  rw [us_at hj'] at hj
  rw [← hj]
  simp [List.getD, hj']
theorem gs_of_laid {W : World} (h : laidMetH Tryz.prog laidG W) : GS W := by
  unfold laidG at h
  rw [MakeChecks.laidMetH_plain _ _ _ (by kernel_rfl)] at h
  have e1 : (Rows.laid_buttress_sha_begin : DataW Unit) = Lib.tabData .u64 (H0.map fun x => (x.toNat : Int)) := by kernel_rfl
  have e2 : (Rows.laid_buttress_sha_rest : DataW Unit) = Lib.tabData .u64 (KS.map fun x => (x.toNat : Int)) := by kernel_rfl
  have e3 : (Rows.laid_buttress_edwards_curve : DataW Unit) = Lib.tabData .u64 (([929955233495203, 466365720129213, 1662059464998953, 2033849074728123, 1442794654840575] : List UInt64).map fun x => (x.toNat : Int)) := by kernel_rfl
  have e4 : (Rows.laid_buttress_edwards_twice : DataW Unit) = Lib.tabData .u64 (([1859910466990425, 932731440258426, 1072319116312658, 1815898335770999, 633789495995903] : List UInt64).map fun x => (x.toNat : Int)) := by kernel_rfl
  rw [e1, e2, e3, e4] at h
  refine ⟨⟨rd_tab (Lib.tabIs_of_head (g := 0) (t := 367) (e := 182) (n := 8) (by kernel_rfl) (by kernel_rfl) (by kernel_rfl) (by kernel_rfl) (by kernel_rfl) (by kernel_rfl) h.tail.tail.tail.tail.tail.tail) (by kernel_rfl),
    rd_tab (Lib.tabIs_of_head (g := 4) (t := 453) (e := 182) (n := 80) (by kernel_rfl) (by kernel_rfl) (by kernel_rfl) (by kernel_rfl) (by kernel_rfl) (by kernel_rfl) h.tail.tail.tail.tail.tail.tail.tail) (by kernel_rfl)⟩,
    ⟨rd_tab (Lib.tabIs_of_head (g := 1) (t := 190) (e := 182) (n := 5) (by kernel_rfl) (by kernel_rfl) (by kernel_rfl) (by kernel_rfl) (by kernel_rfl) (by kernel_rfl) h.tail.tail.tail.tail.tail) (by kernel_rfl),
    rd_tab (Lib.tabIs_of_head (g := 2) (t := 190) (e := 182) (n := 5) (by kernel_rfl) (by kernel_rfl) (by kernel_rfl) (by kernel_rfl) (by kernel_rfl) (by kernel_rfl) h.tail.tail.tail.tail) (by kernel_rfl)⟩⟩
end Go.Proofs.YtagjijbaghnmfaaGreatDoor
end
