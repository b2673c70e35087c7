/- The forms of the translated functions,their contracts and the plain laws behind them,put together by a program. -/
import Derived.Test.YthaefcgpbccmbaaGreatDoorPE4
import Derived.KernelRfl
set_option linter.unusedSimpArgs false
set_option linter.unusedVariables false
set_option maxRecDepth 100000
set_option maxHeartbeats 4000000
section
namespace Go.Sh
open Go
abbrev q0:=Ann.seq none
abbrev zS (x:Slc):Value:=.slice x.a x.len x.cap
abbrev zR (a:List UInt8) (b c:Int) (d:Slc) (e:Bool) (f g:Slc):Value:=.agg #[.string ⟨a.toArray⟩,.int .i64 b,.int .i64 c,zS d,.bool e,zS f,zS g]
abbrev yR (a:List UInt8) (b c:Int) (d:Slc) (e:Bool) (f g:Slc):List Value:=[.string ⟨a.toArray⟩,.int .i64 b,.int .i64 c,zS d,.bool e,zS f,zS g]
def aG (R:Ending->World->Prop):List PanicEntry->World->Prop:=λc w=>R (.panicked c) w
def jZ (f:Func):Code:=match f.body with | some c=>c | none=>.skip
theorem gG {f:Func} (h:f.body.isSome=true):f.body=some (jZ f):=by
 unfold jZ
 cases hb:f.body with
 | none=>simp [hb] at h
 | some c=>rfl
theorem dE {S:Prop} {P:Program} {f:FuncId} {fn:Func} (ann:Ann) (hf:P.funcs[f]? = some fn) (hb:fn.body.isSome=true) (args:List TV) (hl:Nat.ble args.length fn.ntmps=true) {w:World} {R:Ending->World->Prop}
 (he:S=den P fn.ntmps none ann (jZ fn) (qSB P fn R) [] (gK 0 args) w) (h:S):Calls P f (dQ args).toArray w R:=
 wM ann hf (gG hb) args (Nat.le_of_ble_eq_true hl) (he ▸ h)
abbrev e5 (a b c d e:UInt64):Value:=.agg #[.int .u64 a.toNat,.int .u64 b.toNat,.int .u64 c.toNat,.int .u64 d.toNat,.int .u64 e.toNat]
abbrev l5 (a b c d e:UInt64):List Value:=[.int .u64 a.toNat,.int .u64 b.toNat,.int .u64 c.toNat,.int .u64 d.toNat,.int .u64 e.toNat]
abbrev e20 (a b c d e f g h i j k l m n o p q r s t:UInt64):Value:=.agg #[.int .u64 a.toNat,.int .u64 b.toNat,.int .u64 c.toNat,.int .u64 d.toNat,.int .u64 e.toNat,.int .u64 f.toNat,.int .u64 g.toNat,.int .u64 h.toNat,.int .u64 i.toNat,.int .u64 j.toNat,.int .u64 k.toNat,.int .u64 l.toNat,.int .u64 m.toNat,.int .u64 n.toNat,.int .u64 o.toNat,.int .u64 p.toNat,.int .u64 q.toNat,.int .u64 r.toNat,.int .u64 s.toNat,.int .u64 t.toNat]
abbrev l20 (a b c d e f g h i j k l m n o p q r s t:UInt64):List Value:=[.int .u64 a.toNat,.int .u64 b.toNat,.int .u64 c.toNat,.int .u64 d.toNat,.int .u64 e.toNat,.int .u64 f.toNat,.int .u64 g.toNat,.int .u64 h.toNat,.int .u64 i.toNat,.int .u64 j.toNat,.int .u64 k.toNat,.int .u64 l.toNat,.int .u64 m.toNat,.int .u64 n.toNat,.int .u64 o.toNat,.int .u64 p.toNat,.int .u64 q.toNat,.int .u64 r.toNat,.int .u64 s.toNat,.int .u64 t.toNat]
abbrev zT:=List TV->World->Prop
abbrev zU:=List TV->World->Nat
abbrev zP:=World->Prop
abbrev zY:=List UInt8
abbrev zO:=Option Addr
abbrev zB (i:Int) (n:Nat):Prop:=0<=i/\i<n
abbrev zF (R:Ending->World->Prop) (b:Bool):World->Prop:=R (.returned (.bool b))
theorem zC {S:Prop} {P:Program} {f:FuncId} {fn:Func} (ann:Ann) (hf:P.funcs[f]? = some fn) (args:List TV) {w:World} {R:Ending->World->Prop} (h:S) (hb:fn.body.isSome=true:=by kernel_rfl) (hl:Nat.ble args.length fn.ntmps=true:=by kernel_rfl) (he:S=den P fn.ntmps none ann (jZ fn) (qSB P fn R) [] (gK 0 args) w:=by kernel_rfl):Calls P f (dQ args).toArray w R:=dE ann hf hb args hl he h
end Go.Sh
end
