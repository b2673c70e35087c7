/- Small words for the shallow forms. -/
import Derived.Test.YtknbihogadcnpaaGreatT1i
import Derived.KernelRfl
set_option linter.unusedSimpArgs false
set_option linter.unusedVariables false
namespace Go.Sh
open Go
def panR (R : Ending → World → Prop) : List PanicEntry → World → Prop := fun c w => R (.panicked c) w
def bodyOf (f : Func) : Code := match f.body with | some c => c | none => .skip
theorem bodyOf_some {f : Func} (h : f.body.isSome = true) : f.body = some (bodyOf f) := by
  unfold bodyOf
  cases hb : f.body with
  | none => simp [hb] at h
  | some c => rfl
end Go.Sh
