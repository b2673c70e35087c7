/- The forms of the translated functions, their contracts and the plain laws behind them, put together by a program. -/
import Derived.Test.YtgemgaofamloeaaGreatDoorPW17
import Derived.Test.YtgemgaofamloeaaGreatDoorProg
import GoSem.ClaimGoes
import GoSem.ClaimJoined
import Derived.KernelRfl
set_option linter.unusedSimpArgs false
set_option linter.unusedVariables false
set_option maxRecDepth 1000000
set_option maxHeartbeats 8000000
section
namespace Go.Proofs.YtgemgaofamloeaaGreatDoor
open Go
theorem any_get {α : Type} {p : α → Bool} (a : Array α) (h : a.any p = false) (i : Nat) : (a[i]?).any p = false := by
  cases e : a[i]? with
  | none => rfl
  | some x =>
    rw [Option.any_some]
    have hm : x ∈ a := Array.mem_of_getElem? e
    rw [Array.any_eq_false] at h
    obtain ⟨j, hj, rfl⟩ := Array.mem_iff_getElem.1 hm
    simpa using h j hj
theorem goes_f {P : Program} (h : P.funcs.any Func.goes = false) (f : FuncId) : P.goes f = false := by
  unfold Program.goes
  rw [h, Bool.and_false, Bool.or_false]
  have key : ∀ g, (P.funcs[g]?).any Func.goes = false := fun g => any_get _ h g
  first
    | (rw [List.any_eq_false]; intro g _; rw [key g]; simp)
    | (rw [Array.any_eq_false]; intro g _; rw [key]; simp)
theorem opt_any {α : Type} {p : α → Bool} (hp : ∀ x, p x = false) (o : Option α) : o.any p = false := by
  cases o with
  | none => rfl
  | some x => exact hp x
theorem goesBy_none {P : Program} (h : P.funcs.any Func.goes = false) (c : OpenClaim) : c.goesBy P = false := by
  unfold OpenClaim.goesBy Program.goesAt Program.goesFrom
  rw [opt_any (goes_f h), Bool.false_or]
  cases c.start <;> first | rfl | (rw [List.any_eq_false]; intro g _; rw [goes_f h]; simp)
theorem none_goes : Tryz.prog.funcs.any Func.goes = false := by kernel_rfl
theorem goesBy_prog (c : OpenClaim) : false = c.goesBy Tryz.prog := (goesBy_none none_goes c).symm
end Go.Proofs.YtgemgaofamloeaaGreatDoor
end
