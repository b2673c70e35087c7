/- The shallow forms of translated functions, printed by a program of mine from the translation. -/
import Derived.Test.YtknbihogadcnpaaH9
import Derived.Test.YtknbihogadcnpaaRows
set_option linter.unusedVariables false
set_option maxRecDepth 100000
namespace Go.Proofs.Ytknbihogadcnpaa
open Go Go.Sh
/-- buttress/buttresskit.SameBytes -/
def sh12 (a : Slc) (b : Slc) (w : World) (R : Ending → World → Prop) : Prop :=
  condK ((a.len : Int) != (b.len : Int)) (R (.returned (.bool false)) w) (∃ (inv : List TV → World → Prop) (mu : List TV → World → Nat), inv [.i .i64 (0 : Int)] w ∧ (∀ i : Int, ∀ w1 : World, inv [.i .i64 i] w1 → condK (decide (i < (a.len : Int))) (((0 ≤ i ∧ i < (a.len : Nat)) ∧ onSome a.a fun a1 => ((0 ≤ i ∧ i < (b.len : Nat)) ∧ onSome b.a fun a2 => ∃ x : UInt8, Rd w1.drew (a1.add ((i).toNat * 1)) [(.int .u8 (x).toNat)] ∧ ∃ x1 : UInt8, Rd w1.drew (a2.add ((i).toNat * 1)) [(.int .u8 (x1).toNat)] ∧ condK (x != x1) (R (.returned (.bool false)) w1.drew) ((inv [.i .i64 (IntKind.i64.wrap (i + (1 : Int)))] w1.drew ∧ mu [.i .i64 (IntKind.i64.wrap (i + (1 : Int)))] w1.drew < mu [.i .i64 i] w1))))) (R (.returned (.bool true)) w1)))
def ann12 : Ann := (.seq none .z (.seq none (.seq none .z (.cond (.seq none .z .z) .z)) (.seq none (.seq none .z (.block none (.loop [(5, (.i .i64))] (.seq none (.seq none .z (.cond .z .z)) (.seq none (.block none (.seq none (.draw 2 (.take 0 (.take 1 (.take 2 (.take 4 (.take 5 (.take 6 (.take 3 (.take 7 (.take 8 .done)))))))))) (.cond (.seq none .z .z) .z))) .z))))) (.seq none .z .z))))
theorem sh12_eq (a : Slc) (b : Slc) (w : World) (R : Ending → World → Prop) : sh12 a b w R = den Try.prog (Func.ntmps Try.f12) none ann12 (bodyOf Try.f12) (ktOf Try.prog Try.f12 R) [] (envOf 0 [.sl a, .sl b]) w := by kernel_rfl
theorem call12 (a : Slc) (b : Slc) {w : World} {R : Ending → World → Prop} (hden : sh12 a b w R) : Calls Try.prog 12 #[(.slice a.a a.len a.cap), (.slice b.a b.len b.cap)] w R :=
  calls_of_den ann12 Try.func12 (bodyOf_some (by kernel_rfl)) [.sl a, .sl b] (Nat.le_of_ble_eq_true (by kernel_rfl)) ((sh12_eq a b w R) ▸ hden)

/-- buttress/buttresskit.Pick -/
def sh16 (x : Int) (n : Int) (w : World) (R : Ending → World → Prop) : Prop :=
  condK (decide (n < (1 : Int))) (R (.returned (.int .i64 (0 : Int))) w) ((n ≠ 0 ∧ condK (decide ((Int.tmod x n) < (0 : Int))) (R (.returned (.int .i64 (IntKind.i64.wrap ((Int.tmod x n) + n)))) w) (R (.returned (.int .i64 (Int.tmod x n))) w)))
def ann16 : Ann := (.seq none .z (.seq none (.seq none .z (.cond (.seq none .z .z) .z)) (.seq none .z (.seq none (.seq none .z (.cond .z .z)) (.seq none .z .z)))))
theorem sh16_eq (x : Int) (n : Int) (w : World) (R : Ending → World → Prop) : sh16 x n w R = den Try.prog (Func.ntmps Try.f16) none ann16 (bodyOf Try.f16) (ktOf Try.prog Try.f16 R) [] (envOf 0 [.i .i64 x, .i .i64 n]) w := by kernel_rfl
theorem call16 (x : Int) (n : Int) {w : World} {R : Ending → World → Prop} (hden : sh16 x n w R) : Calls Try.prog 16 #[(.int .i64 x), (.int .i64 n)] w R :=
  calls_of_den ann16 Try.func16 (bodyOf_some (by kernel_rfl)) [.i .i64 x, .i .i64 n] (Nat.le_of_ble_eq_true (by kernel_rfl)) ((sh16_eq x n w R) ▸ hden)

end Go.Proofs.Ytknbihogadcnpaa
