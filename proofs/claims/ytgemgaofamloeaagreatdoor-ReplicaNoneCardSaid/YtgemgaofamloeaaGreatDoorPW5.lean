/- The forms of the translated functions, their contracts and the plain laws behind them, put together by a program. -/
import Derived.Test.YtgemgaofamloeaaGreatDoorPW4
import Derived.KernelRfl
set_option linter.unusedSimpArgs false
set_option linter.unusedVariables false
set_option maxRecDepth 1000000
set_option maxHeartbeats 8000000
section
namespace Go.Sh
open Go
def panR (R : Ending → World → Prop) : List PanicEntry → World → Prop := fun c w => R (.panicked c) w
def bodyOf (f : Func) : Code := match f.body with | some c => c | none => .skip
theorem bodyOf_some {f : Func} (h : f.body.isSome = true) : f.body = some (bodyOf f) := by
  unfold bodyOf
  cases hb : f.body with
  | none => simp [hb] at h
  | some c => rfl
theorem calls_of_form {S : Prop} {P : Program} {f : FuncId} {fn : Func} (ann : Ann) (hf : P.funcs[f]? = some fn) (hb : fn.body.isSome = true) (args : List TV) (hl : Nat.ble args.length fn.ntmps = true) {w : World} {R : Ending → World → Prop}
    (he : S = den P fn.ntmps none ann (bodyOf fn) (ktOf P fn R) [] (envOf 0 args) w) (h : S) : Calls P f (encL args).toArray w R :=
  calls_of_den ann hf (bodyOf_some hb) args (Nat.le_of_ble_eq_true hl) (he ▸ h)
abbrev e5 (a b c d e : UInt64) : Value := .agg #[.int .u64 a.toNat, .int .u64 b.toNat, .int .u64 c.toNat, .int .u64 d.toNat, .int .u64 e.toNat]
abbrev l5 (a b c d e : UInt64) : List Value := [.int .u64 a.toNat, .int .u64 b.toNat, .int .u64 c.toNat, .int .u64 d.toNat, .int .u64 e.toNat]
abbrev e20 (a b c d e f g h i j k l m n o p q r s t : UInt64) : Value := .agg #[.int .u64 a.toNat, .int .u64 b.toNat, .int .u64 c.toNat, .int .u64 d.toNat, .int .u64 e.toNat, .int .u64 f.toNat, .int .u64 g.toNat, .int .u64 h.toNat, .int .u64 i.toNat, .int .u64 j.toNat, .int .u64 k.toNat, .int .u64 l.toNat, .int .u64 m.toNat, .int .u64 n.toNat, .int .u64 o.toNat, .int .u64 p.toNat, .int .u64 q.toNat, .int .u64 r.toNat, .int .u64 s.toNat, .int .u64 t.toNat]
abbrev l20 (a b c d e f g h i j k l m n o p q r s t : UInt64) : List Value := [.int .u64 a.toNat, .int .u64 b.toNat, .int .u64 c.toNat, .int .u64 d.toNat, .int .u64 e.toNat, .int .u64 f.toNat, .int .u64 g.toNat, .int .u64 h.toNat, .int .u64 i.toNat, .int .u64 j.toNat, .int .u64 k.toNat, .int .u64 l.toNat, .int .u64 m.toNat, .int .u64 n.toNat, .int .u64 o.toNat, .int .u64 p.toNat, .int .u64 q.toNat, .int .u64 r.toNat, .int .u64 s.toNat, .int .u64 t.toNat]
end Go.Sh
end
