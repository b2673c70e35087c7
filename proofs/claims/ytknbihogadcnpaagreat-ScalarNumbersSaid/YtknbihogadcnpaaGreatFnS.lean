/- The shallow forms of translated functions, printed by a program of mine from the translation. -/
import Derived.Test.YtknbihogadcnpaaGreatH9
import Derived.Test.YtknbihogadcnpaaGreatRows
set_option linter.unusedVariables false
set_option maxRecDepth 100000
namespace Go.Proofs.YtknbihogadcnpaaGreat
open Go Go.Sh
/-- buttress/buttresskit.SameBytes -/
def sh10 (a : Slc) (b : Slc) (w : World) (R : Ending → World → Prop) : Prop :=
  condK ((a.len : Int) != (b.len : Int)) (R (.returned (.bool false)) w) (∃ (inv : List TV → World → Prop) (mu : List TV → World → Nat), inv [.i .i64 (0 : Int)] w ∧ (∀ i : Int, ∀ w1 : World, inv [.i .i64 i] w1 → condK (decide (i < (a.len : Int))) (((0 ≤ i ∧ i < (a.len : Nat)) ∧ onSome a.a fun a1 => ((0 ≤ i ∧ i < (b.len : Nat)) ∧ onSome b.a fun a2 => ∃ x : UInt8, Rd w1.drew (a1.add ((i).toNat * 1)) [(.int .u8 (x).toNat)] ∧ ∃ x1 : UInt8, Rd w1.drew (a2.add ((i).toNat * 1)) [(.int .u8 (x1).toNat)] ∧ condK (x != x1) (R (.returned (.bool false)) w1.drew) ((inv [.i .i64 (IntKind.i64.wrap (i + (1 : Int)))] w1.drew ∧ mu [.i .i64 (IntKind.i64.wrap (i + (1 : Int)))] w1.drew < mu [.i .i64 i] w1))))) (R (.returned (.bool true)) w1)))
def ann10 : Ann := (.seq none .z (.seq none (.seq none .z (.cond (.seq none .z .z) .z)) (.seq none (.seq none .z (.block none (.loop [(5, (.i .i64))] (.seq none (.seq none .z (.cond .z .z)) (.seq none (.block none (.seq none (.draw 2 (.take 0 (.take 1 (.take 2 (.take 4 (.take 5 (.take 6 (.take 3 (.take 7 (.take 8 .done)))))))))) (.cond (.seq none .z .z) .z))) .z))))) (.seq none .z .z))))
theorem sh10_eq (a : Slc) (b : Slc) (w : World) (R : Ending → World → Prop) : sh10 a b w R = den Tryz.prog (Func.ntmps Tryz.f10) none ann10 (bodyOf Tryz.f10) (ktOf Tryz.prog Tryz.f10 R) [] (envOf 0 [.sl a, .sl b]) w := by kernel_rfl
theorem call10 (a : Slc) (b : Slc) {w : World} {R : Ending → World → Prop} (hden : sh10 a b w R) : Calls Tryz.prog 10 #[(.slice a.a a.len a.cap), (.slice b.a b.len b.cap)] w R :=
  calls_of_den ann10 Tryz.func10 (bodyOf_some (by kernel_rfl)) [.sl a, .sl b] (Nat.le_of_ble_eq_true (by kernel_rfl)) ((sh10_eq a b w R) ▸ hden)

end Go.Proofs.YtknbihogadcnpaaGreat
