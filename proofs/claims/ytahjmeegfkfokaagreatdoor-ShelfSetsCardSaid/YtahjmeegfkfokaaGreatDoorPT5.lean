/- The forms of the translated functions,their contracts and the plain laws behind them,put together by a program. -/
import Derived.Test.YtahjmeegfkfokaaGreatDoorPT4
import Derived.KernelRfl
set_option linter.unusedSimpArgs false
set_option linter.unusedVariables false
set_option maxRecDepth 100000
set_option maxHeartbeats 4000000
section
namespace Go.Sh
open Go
abbrev q0:=Ann.seq none
abbrev zS (x:Slc):Value:=.slice x.a x.len x.cap
abbrev zR (a:List UInt8) (b c:Int) (d:Slc) (e:Bool) (f g:Slc):Value:=.agg #[.string ⟨a.toArray⟩,.int .i64 b,.int .i64 c,zS d,.bool e,zS f,zS g]
abbrev yR (a:List UInt8) (b c:Int) (d:Slc) (e:Bool) (f g:Slc):List Value:=[.string ⟨a.toArray⟩,.int .i64 b,.int .i64 c,zS d,.bool e,zS f,zS g]
def aG (R:Ending→World→Prop):List PanicEntry→World→Prop:=fun c w=>R (.panicked c) w
def kK (f:Func):Code:=match f.body with | some c=>c | none=>.skip
theorem eU {f:Func} (h:f.body.isSome=true):f.body=some (kK f):=by
 unfold kK
 cases hb:f.body with
 | none=>simp [hb] at h
 | some c=>rfl
theorem aB {S:Prop} {P:Program} {f:FuncId} {fn:Func} (ann:Ann) (hf:P.funcs[f]? = some fn) (hb:fn.body.isSome=true) (args:List TV) (hl:Nat.ble args.length fn.ntmps=true) {w:World} {R:Ending→World→Prop}
 (he:S=den P fn.ntmps none ann (kK fn) (qZP P fn R) [] (gY 0 args) w) (h:S):Calls P f (dQ args).toArray w R:=
 tT ann hf (eU hb) args (Nat.le_of_ble_eq_true hl) (he ▸ h)
abbrev e5 (a b c d e:UInt64):Value:=.agg #[.int .u64 a.toNat,.int .u64 b.toNat,.int .u64 c.toNat,.int .u64 d.toNat,.int .u64 e.toNat]
abbrev l5 (a b c d e:UInt64):List Value:=[.int .u64 a.toNat,.int .u64 b.toNat,.int .u64 c.toNat,.int .u64 d.toNat,.int .u64 e.toNat]
abbrev e20 (a b c d e f g h i j k l m n o p q r s t:UInt64):Value:=.agg #[.int .u64 a.toNat,.int .u64 b.toNat,.int .u64 c.toNat,.int .u64 d.toNat,.int .u64 e.toNat,.int .u64 f.toNat,.int .u64 g.toNat,.int .u64 h.toNat,.int .u64 i.toNat,.int .u64 j.toNat,.int .u64 k.toNat,.int .u64 l.toNat,.int .u64 m.toNat,.int .u64 n.toNat,.int .u64 o.toNat,.int .u64 p.toNat,.int .u64 q.toNat,.int .u64 r.toNat,.int .u64 s.toNat,.int .u64 t.toNat]
abbrev l20 (a b c d e f g h i j k l m n o p q r s t:UInt64):List Value:=[.int .u64 a.toNat,.int .u64 b.toNat,.int .u64 c.toNat,.int .u64 d.toNat,.int .u64 e.toNat,.int .u64 f.toNat,.int .u64 g.toNat,.int .u64 h.toNat,.int .u64 i.toNat,.int .u64 j.toNat,.int .u64 k.toNat,.int .u64 l.toNat,.int .u64 m.toNat,.int .u64 n.toNat,.int .u64 o.toNat,.int .u64 p.toNat,.int .u64 q.toNat,.int .u64 r.toNat,.int .u64 s.toNat,.int .u64 t.toNat]
end Go.Sh
end
