/- The forms of the translated functions,their contracts and the plain laws behind them,put together by a program. -/
import Derived.Test.YtmgcoepbccgjfaaGreatDoorPB20
import Derived.Test.YtmgcoepbccgjfaaGreatDoorProg
set_option linter.unusedSimpArgs false
set_option linter.unusedVariables false
set_option maxRecDepth 1000000
set_option maxHeartbeats 8000000
section
namespace Go.Proofs.YtmgcoepbccgjfaaGreatDoor
open Go Go.Sh
def sh94 (parts:Slc) (w:World) (R:Ending->World->Prop):Prop:=
 callK Tryz.prog 157 [] w (panR R) λv w1=>∃ x:Option Addr,v=(.pointer x)/\callK Tryz.prog 158 [.pointer x,.slice parts.a parts.len parts.cap] w1 (panR R) λv1 w2=>∃ x1:Int,v1=(.int .i64 x1)/\callK Tryz.prog 159 [.pointer x] w2 (panR R) λv2 w3=>∃ x2:Slc,v2=(.slice x2.a x2.len x2.cap)/\R (.returned (.slice x2.a x2.len x2.cap)) w3
theorem call94 (parts:Slc) {w:World} {R:Ending->World->Prop} (hden:sh94 parts w R):Calls Tryz.prog 94 #[.slice parts.a parts.len parts.cap] w R:=
 calls_of_form (.seq none .z (.seq none .z (.seq none .z (.seq none .z .z)))) Tryz.func94 (by kernel_rfl) [.sl parts] (by kernel_rfl) (by kernel_rfl) hden
def sh157 (w:World) (R:Ending->World->Prop):Prop:=
 ∃ xa xb xc xd xe xf xg xh:UInt64,Rd w (⟨1,0,none⟩:Addr) [.int .u64 xa.toNat,.int .u64 xb.toNat,.int .u64 xc.toNat,.int .u64 xd.toNat,.int .u64 xe.toNat,.int .u64 xf.toNat,.int .u64 xg.toNat,.int .u64 xh.toNat]/\semK Tryz.prog (Instr.box 391 (.agg #[.int .u64 xa.toNat,.int .u64 xb.toNat,.int .u64 xc.toNat,.int .u64 xd.toNat,.int .u64 xe.toNat,.int .u64 xf.toNat,.int .u64 xg.toNat,.int .u64 xh.toNat,.slice none 0 0,.int .u64 ((0:UInt64)).toNat,.bool true])) w λv w1=>∃ x:Option Addr,v=(.pointer x)/\R (.returned (.pointer x)) w1
theorem call157 {w:World} {R:Ending->World->Prop} (hden:sh157 w R):Calls Tryz.prog 157 #[] w R:=
 calls_of_form (.seq none .z (.seq none .z .z)) Tryz.func157 (by kernel_rfl) [] (by kernel_rfl) (by kernel_rfl) hden
def sh158 (h:Option Addr) (parts:Slc) (w:World) (R:Ending->World->Prop):Prop:=
 callK Tryz.prog 244 [.pointer h] w (panR R) λv w1=>∃ x:Bool,v=(.bool x)/\condK (!x) (R (.returned (.int .i64 (1:Int))) w1) (∃ (inv:List TV->World->Prop) (mu:List TV->World->Nat),inv [.i .i64 (0:Int)] w1/\(∀ x1:Int,∀ w2:World,inv [.i .i64 x1] w2->condK (decide (x1<(parts.len:Int))) (((0<=x1/\x1<(parts.len:Nat))/\onSome parts.a λa=>∃ x2:Slc,Rd w2 (a.add (x1.toNat*1)) [.slice x2.a x2.len x2.cap]/\onSome h λa1=>∃ x3:UInt64,Rd w2 (a1.add 9) [.int .u64 x3.toNat]/\onSome h λa2=>semU Tryz.prog (storeVar 304 (a2.add 9) (.int .u64 ((x3+(u64OfInt (x2.len:Int)))).toNat)) w2 λw3=>∃ j:List TV->World->Prop,(onSome h λa3=>∃ x4:Slc,Rd w3 (a3.add 8) [.slice x4.a x4.len x4.cap]/\onSome h λa4=>∃ x5:Slc,Rd w3 (a4.add 8) [.slice x5.a x5.len x5.cap]/\condK (decide ((x5.len:Int) > (0:Int))) (∃ sx:World->Prop,sx w3.drew/\onSome h λa5=>((0<=(if (x2.len:Int)<(IntKind.i64.wrap ((128:Int) - (x4.len:Int))) then (x2.len:Int) else (IntKind.i64.wrap ((128:Int) - (x4.len:Int))))/\(if (x2.len:Int)<(IntKind.i64.wrap ((128:Int) - (x4.len:Int))) then (x2.len:Int) else (IntKind.i64.wrap ((128:Int) - (x4.len:Int))))<=(x2.cap:Nat))/\((0<=(if (x2.len:Int)<(IntKind.i64.wrap ((128:Int) - (x4.len:Int))) then (x2.len:Int) else (IntKind.i64.wrap ((128:Int) - (x4.len:Int))))/\(if (x2.len:Int)<(IntKind.i64.wrap ((128:Int) - (x4.len:Int))) then (x2.len:Int) else (IntKind.i64.wrap ((128:Int) - (x4.len:Int))))<=(x2.len:Nat))/\∃ x6:Slc,(∀ w',sx w'->Rd w' (a5.add 8) [.slice x6.a x6.len x6.cap])/\((semK Tryz.prog (Builtin.append_ #[23,23] 23 #[.slice x6.a x6.len x6.cap,.slice (cutSl x2 1 0 (((if (x2.len:Int)<(IntKind.i64.wrap ((128:Int) - (x4.len:Int))) then (x2.len:Int) else (IntKind.i64.wrap ((128:Int) - (x4.len:Int))))).toNat) x2.cap).a (cutSl x2 1 0 (((if (x2.len:Int)<(IntKind.i64.wrap ((128:Int) - (x4.len:Int))) then (x2.len:Int) else (IntKind.i64.wrap ((128:Int) - (x4.len:Int))))).toNat) x2.cap).len (cutSl x2 1 0 (((if (x2.len:Int)<(IntKind.i64.wrap ((128:Int) - (x4.len:Int))) then (x2.len:Int) else (IntKind.i64.wrap ((128:Int) - (x4.len:Int))))).toNat) x2.cap).cap]) w3.drew λv1 w4=>∃ x7:Slc,v1=(.slice x7.a x7.len x7.cap)/\onSome h λa6=>((semU Tryz.prog (storeVar 23 (a6.add 8) (.slice x7.a x7.len x7.cap)) w4 λw5=>onSome h λa7=>∃ x8:Slc,Rd w5 (a7.add 8) [.slice x8.a x8.len x8.cap]/\condK (decide ((x8.len:Int)<(128:Int))) ((inv [.i .i64 (IntKind.i64.wrap (x1+(1:Int)))] w5/\mu [.i .i64 (IntKind.i64.wrap (x1+(1:Int)))] w5<mu [.i .i64 x1] w2)) (∃ sx1:World->Prop,sx1 w5.drew/\onSome h λa8=>onSome h λa9=>∃ x9:Slc,(∀ w',sx1 w'->Rd w' (a9.add 8) [.slice x9.a x9.len x9.cap])/\((callK Tryz.prog 245 [.pointer (some (a8.add 0)),.slice x9.a x9.len x9.cap] w5.drew (panR R) λv2 w6=>v2=(.tuple #[])/\onSome h λa10=>∃ x10:Slc,Rd w6 (a10.add 8) [.slice x10.a x10.len x10.cap]/\((0<=(0:Int)/\(0:Int)<=(x10.cap:Nat))/\onSome h λa11=>semU Tryz.prog (storeVar 23 (a11.add 8) (.slice (cutSl x10 1 0 (((0:Int)).toNat) x10.cap).a (cutSl x10 1 0 (((0:Int)).toNat) x10.cap).len (cutSl x10 1 0 (((0:Int)).toNat) x10.cap).cap)) w6 λw7=>j [.sl (cutSl x2 1 (((if (x2.len:Int)<(IntKind.i64.wrap ((128:Int) - (x4.len:Int))) then (x2.len:Int) else (IntKind.i64.wrap ((128:Int) - (x4.len:Int))))).toNat) x2.len x2.cap)] w7))/\True)))/\True))/\True)))) (j [.sl x2] w3))/\(∀ p:Slc,∀ w8:World,j [.sl p] w8->∃ (inv1:List TV->World->Prop) (mu1:List TV->World->Nat),inv1 [.sl p] w8/\(∀ p1:Slc,∀ w9:World,inv1 [.sl p1] w9->condK (decide ((p1.len:Int)>=(128:Int))) (onSome h λa12=>((0<=(128:Int)/\(128:Int)<=(p1.cap:Nat))/\((callK Tryz.prog 245 [.pointer (some (a12.add 0)),.slice (cutSl p1 1 0 (((128:Int)).toNat) p1.cap).a (cutSl p1 1 0 (((128:Int)).toNat) p1.cap).len (cutSl p1 1 0 (((128:Int)).toNat) p1.cap).cap] w9.drew (panR R) λv3 w10=>v3=(.tuple #[])/\((0<=(128:Int)/\(128:Int)<=(p1.len:Nat))/\(inv1 [.sl (cutSl p1 1 (((128:Int)).toNat) p1.len p1.cap)] w10/\mu1 [.sl (cutSl p1 1 (((128:Int)).toNat) p1.len p1.cap)] w10<mu1 [.sl p1] w9)))/\True))) (onSome h λa13=>∃ x11:Slc,Rd w9 (a13.add 8) [.slice x11.a x11.len x11.cap]/\semK Tryz.prog (Builtin.append_ #[23,23] 23 #[.slice x11.a x11.len x11.cap,.slice p1.a p1.len p1.cap]) w9 λv4 w11=>∃ x12:Slc,v4=(.slice x12.a x12.len x12.cap)/\onSome h λa14=>semU Tryz.prog (storeVar 23 (a14.add 8) (.slice x12.a x12.len x12.cap)) w11 λw12=>(inv [.i .i64 (IntKind.i64.wrap (x1+(1:Int)))] w12/\mu [.i .i64 (IntKind.i64.wrap (x1+(1:Int)))] w12<mu [.i .i64 x1] w2)))))) (R (.returned (.int .i64 (0:Int))) w2)))
theorem call158 (h:Option Addr) (parts:Slc) {w:World} {R:Ending->World->Prop} (hden:sh158 h parts w R):Calls Tryz.prog 158 #[.pointer h,.slice parts.a parts.len parts.cap] w R:=
 calls_of_form (.seq none .z (.seq none (.seq none .z (.cond (.seq none .z .z) .z)) (.seq none (.seq none .z (.block none (.loop [(13,(.i .i64))] (.seq none .z (.seq none (.cond .z .z) (.seq none (.block none (.seq none .z (.seq none .z (.seq (some [(6,.sl)]) (.seq none .z (.seq none .z (.cond (.seq none (.draw 1 (.take 0 (.take 1 (.take 2 (.take 3 (.take 5 (.take 6 (.take 7 (.take 9 (.take 10 (.take 11 (.take 4 (.all [(8,(.take 12 (.take 13 (.all [(14,(.take 15 .done))]))))]))))))))))))) (.seq none (.seq none .z (.cond .z .z)) (.seq none (.draw 1 (.take 0 (.take 1 (.take 2 (.take 3 (.take 4 (.take 5 (.take 6 (.all [(7,.done)]))))))))) .z))) .z))) (.seq none (.block none (.loop [(6,.sl)] (.seq none (.seq none .z (.cond .z .z)) (.seq none (.block none (.draw 0 (.take 0 (.take 1 (.take 2 (.take 3 (.take 4 (.all [(5,.done)])))))))) .z)))) .z))))) .z)))))) (.seq none .z .z)))) Tryz.func158 (by kernel_rfl) [.p h,.sl parts] (by kernel_rfl) (by kernel_rfl) hden
def sh159 (h:Option Addr) (w:World) (R:Ending->World->Prop):Prop:=
 callK Tryz.prog 246 [.pointer h] w (panR R) λv w1=>∃ x:Option Addr,v=(.pointer x)/\pureSem Tryz.prog (do eqGuard .eql 290 (.tmp 13) (.const (.pointer none)) (.pointer x) (.pointer none); binOp .eql 290 (.pointer x) (.pointer none)) λv1=>∃ x1:Bool,v1=(.bool x1)/\condK x1 (R (.returned (.slice none 0 0)) w1) (onSome x λa=>∃ x2:UInt64,Rd w1 (a.add 9) [.int .u64 x2.toNat]/\semK Tryz.prog (Instr.makeSlice 23 (.int .i64 (0:Int)) (.int .i64 (256:Int))) w1 λv2 w2=>∃ x3:Slc,v2=(.slice x3.a x3.len x3.cap)/\semK Tryz.prog (Instr.buildSlice 23 1 #[(0,(.int .u8 ((128:UInt8)).toNat))]) w2 λv3 w3=>∃ x4:Slc,v3=(.slice x4.a x4.len x4.cap)/\semK Tryz.prog (Builtin.append_ #[23,23] 23 #[.slice x3.a x3.len x3.cap,.slice x4.a x4.len x4.cap]) w3 λv4 w4=>∃ x5:Slc,v4=(.slice x5.a x5.len x5.cap)/\∃ (inv:List TV->World->Prop) (mu:List TV->World->Nat),inv [.sl x5] w4/\(∀ end0:Slc,∀ w5:World,inv [.sl end0] w5->onSome x λa1=>∃ x6:Slc,Rd w5 (a1.add 8) [.slice x6.a x6.len x6.cap]/\((128:Int)≠0/\condK ((Int.tmod (IntKind.i64.wrap ((x6.len:Int)+(end0.len:Int))) (128:Int)) != (112:Int)) (semK Tryz.prog (Instr.buildSlice 23 1 #[(0,(.int .u8 ((0:UInt8)).toNat))]) w5 λv5 w6=>∃ x7:Slc,v5=(.slice x7.a x7.len x7.cap)/\semK Tryz.prog (Builtin.append_ #[23,23] 23 #[.slice end0.a end0.len end0.cap,.slice x7.a x7.len x7.cap]) w6 λv6 w7=>∃ x8:Slc,v6=(.slice x8.a x8.len x8.cap)/\(inv [.sl x8] w7/\mu [.sl x8] w7<mu [.sl end0] w5)) (semK Tryz.prog (Builtin.append_ #[23,3] 23 #[.slice end0.a end0.len end0.cap,.int .i64 (8:Int)]) w5 λv7 w8=>∃ x9:Slc,v7=(.slice x9.a x9.len x9.cap)/\∃ (inv1:List TV->World->Prop) (mu1:List TV->World->Nat),inv1 [.sl x9,.i .i64 (56:Int)] w8/\(∀ end1:Slc,∀ s:Int,∀ w9:World,inv1 [.sl end1,.i .i64 s] w9->condK (decide (s>=(0:Int))) ((0<=s/\semK Tryz.prog (Instr.buildSlice 23 1 #[(0,(.int .u8 (((shrU64 ((8:UInt64)*x2) s.toNat)).toUInt8).toNat))]) w9 λv8 w10=>∃ x10:Slc,v8=(.slice x10.a x10.len x10.cap)/\semK Tryz.prog (Builtin.append_ #[23,23] 23 #[.slice end1.a end1.len end1.cap,.slice x10.a x10.len x10.cap]) w10 λv9 w11=>∃ x11:Slc,v9=(.slice x11.a x11.len x11.cap)/\(inv1 [.sl x11,.i .i64 (IntKind.i64.wrap (s - (8:Int)))] w11/\mu1 [.sl x11,.i .i64 (IntKind.i64.wrap (s - (8:Int)))] w11<mu1 [.sl end1,.i .i64 s] w9))) (semK Tryz.prog (Instr.buildSlice 55 1 #[(0,(.slice end1.a end1.len end1.cap))]) w9 λv10 w12=>∃ x12:Slc,v10=(.slice x12.a x12.len x12.cap)/\callK Tryz.prog 158 [.pointer x,.slice x12.a x12.len x12.cap] w12 (panR R) λv11 w13=>∃ x13:Int,v11=(.int .i64 x13)/\onSome x λa2=>∃ xa xb xc xd xe xf xg xh:UInt64,Rd w13 (a2.add 0) [.int .u64 xa.toNat,.int .u64 xb.toNat,.int .u64 xc.toNat,.int .u64 xd.toNat,.int .u64 xe.toNat,.int .u64 xf.toNat,.int .u64 xg.toNat,.int .u64 xh.toNat]/\∃ (inv2:List TV->World->Prop) (mu2:List TV->World->Nat),inv2 [.sl ⟨none,0,0⟩,.i .i64 (0:Int)] w13/\(∀ out:Slc,∀ x14:Int,∀ w14:World,inv2 [.sl out,.i .i64 x14] w14->condK (decide (x14<(8:Int))) (((0<=x14/\x14<(8:Nat))/\(∀ z∈([.u64 xa,.u64 xb,.u64 xc,.u64 xd,.u64 xe,.u64 xf,.u64 xg,.u64 xh]:List TV),z.cells.length=1)/\∃ x15:UInt64,([.u64 xa,.u64 xb,.u64 xc,.u64 xd,.u64 xe,.u64 xf,.u64 xg,.u64 xh]:List TV)[x14.toNat]? = some (.u64 x15)/\∃ (inv3:List TV->World->Prop) (mu3:List TV->World->Nat),inv3 [.sl out,.i .i64 (56:Int)] w14/\(∀ out1:Slc,∀ s1:Int,∀ w15:World,inv3 [.sl out1,.i .i64 s1] w15->condK (decide (s1>=(0:Int))) ((0<=s1/\semK Tryz.prog (Instr.buildSlice 23 1 #[(0,(.int .u8 (((shrU64 x15 s1.toNat)).toUInt8).toNat))]) w15 λv12 w16=>∃ x16:Slc,v12=(.slice x16.a x16.len x16.cap)/\semK Tryz.prog (Builtin.append_ #[23,23] 23 #[.slice out1.a out1.len out1.cap,.slice x16.a x16.len x16.cap]) w16 λv13 w17=>∃ x17:Slc,v13=(.slice x17.a x17.len x17.cap)/\(inv3 [.sl x17,.i .i64 (IntKind.i64.wrap (s1 - (8:Int)))] w17/\mu3 [.sl x17,.i .i64 (IntKind.i64.wrap (s1 - (8:Int)))] w17<mu3 [.sl out1,.i .i64 s1] w15))) ((inv2 [.sl out1,.i .i64 (IntKind.i64.wrap (x14+(1:Int)))] w15/\mu2 [.sl out1,.i .i64 (IntKind.i64.wrap (x14+(1:Int)))] w15<mu2 [.sl out,.i .i64 x14] w14))))) (R (.returned (.slice out.a out.len out.cap)) w14))))))))
theorem call159 (h:Option Addr) {w:World} {R:Ending->World->Prop} (hden:sh159 h w R):Calls Tryz.prog 159 #[.pointer h] w R:=
 calls_of_form (.seq none .z (.seq none .z (.seq none (.seq none .z (.cond (.seq none .z .z) .z)) (.seq none .z (.seq none .z (.seq none (.block none (.loop [(5,.sl)] (.seq none (.seq none .z (.cond .z .z)) (.block none .z)))) (.seq none .z (.seq none (.seq none .z (.block none (.loop [(5,.sl),(6,(.i .i64))] (.seq none (.seq none .z (.cond .z .z)) (.seq none (.block none .z) .z))))) (.seq none .z (.seq none .z (.seq none (.seq none .z (.block none (.loop [(7,.sl),(57,(.i .i64))] (.seq none .z (.seq none (.cond .z .z) (.seq none (.block none (.seq none .z (.seq none .z (.block none (.loop [(7,.sl),(10,(.i .i64))] (.seq none (.seq none .z (.cond .z .z)) (.seq none (.block none .z) .z))))))) .z)))))) (.seq none .z .z)))))))))))) Tryz.func159 (by kernel_rfl) [.p h] (by kernel_rfl) (by kernel_rfl) hden
def sh244 (h:Option Addr) (w:World) (R:Ending->World->Prop):Prop:=
 pureSem Tryz.prog (do eqGuard .neq 290 (.tmp 3) (.const (.pointer none)) (.pointer h) (.pointer none); binOp .neq 290 (.pointer h) (.pointer none)) λv=>∃ x:Bool,v=(.bool x)/\condK x (onSome h λa=>∃ x1:Bool,Rd w (a.add 10) [.bool x1]/\R (.returned (.bool x1)) w) (R (.returned (.bool false)) w)
theorem call244 (h:Option Addr) {w:World} {R:Ending->World->Prop} (hden:sh244 h w R):Calls Tryz.prog 244 #[.pointer h] w R:=
 calls_of_form (.seq none .z (.seq none .z .z)) Tryz.func244 (by kernel_rfl) [.p h] (by kernel_rfl) (by kernel_rfl) hden
def sh245 (wv:Option Addr) (b:Slc) (w:World) (R:Ending->World->Prop):Prop:=
 semK Tryz.prog (Instr.alloc 518 true (.tuple #[])) w λv w1=>∃ m:Option Addr,v=(.pointer m)/\∃ (inv:List TV->World->Prop) (mu:List TV->World->Nat),inv [.i .i64 (0:Int)] w1/\(∀ x:Int,∀ w2:World,inv [.i .i64 x] w2->condK (decide (x<(80:Int))) (condK (decide (x<(16:Int))) (((0<=(IntKind.i64.wrap ((8:Int)*x))/\(IntKind.i64.wrap ((8:Int)*x))<=(IntKind.i64.wrap ((IntKind.i64.wrap ((8:Int)*x))+(8:Int)))/\(IntKind.i64.wrap ((IntKind.i64.wrap ((8:Int)*x))+(8:Int)))<=(b.cap:Nat))/\∃ (inv1:List TV->World->Prop) (mu1:List TV->World->Nat),inv1 [.i .i64 (0:Int)] w2/\(∀ x1:Int,∀ w3:World,inv1 [.i .i64 x1] w3->condK (decide (x1<((cutSl b 1 (((IntKind.i64.wrap ((8:Int)*x))).toNat) (((IntKind.i64.wrap ((IntKind.i64.wrap ((8:Int)*x))+(8:Int)))).toNat) b.cap).len:Int))) (((0<=x1/\x1<((cutSl b 1 (((IntKind.i64.wrap ((8:Int)*x))).toNat) (((IntKind.i64.wrap ((IntKind.i64.wrap ((8:Int)*x))+(8:Int)))).toNat) b.cap).len:Nat))/\onSome (cutSl b 1 (((IntKind.i64.wrap ((8:Int)*x))).toNat) (((IntKind.i64.wrap ((IntKind.i64.wrap ((8:Int)*x))+(8:Int)))).toNat) b.cap).a λa=>∃ x2:UInt8,Rd w3 (a.add (x1.toNat*1)) [.int .u8 x2.toNat]/\((0<=x/\x<(80:Nat))/\onSome m λa1=>∃ x3:UInt64,Rd w3 (a1.add (x.toNat*1)) [.int .u64 x3.toNat]/\(0<=(((8:UInt64)).toNat:Int)/\((0<=x/\x<(80:Nat))/\onSome m λa2=>semU Tryz.prog (storeVar 304 (a2.add (x.toNat*1)) (.int .u64 (((shlU64 x3 ((((8:UInt64)).toNat:Int)).toNat) ||| (x2).toUInt64)).toNat)) w3 λw4=>(inv1 [.i .i64 (IntKind.i64.wrap (x1+(1:Int)))] w4/\mu1 [.i .i64 (IntKind.i64.wrap (x1+(1:Int)))] w4<mu1 [.i .i64 x1] w3)))))) ((inv [.i .i64 (IntKind.i64.wrap (x+(1:Int)))] w3/\mu [.i .i64 (IntKind.i64.wrap (x+(1:Int)))] w3<mu [.i .i64 x] w2))))) (∃ sx:World->Prop,sx w2.drew/\((0<=(IntKind.i64.wrap (x - (2:Int)))/\(IntKind.i64.wrap (x - (2:Int)))<(80:Nat))/\onSome m λa3=>((0<=(IntKind.i64.wrap (x - (7:Int)))/\(IntKind.i64.wrap (x - (7:Int)))<(80:Nat))/\onSome m λa4=>((0<=(IntKind.i64.wrap (x - (15:Int)))/\(IntKind.i64.wrap (x - (15:Int)))<(80:Nat))/\onSome m λa5=>((0<=(IntKind.i64.wrap (x - (16:Int)))/\(IntKind.i64.wrap (x - (16:Int)))<(80:Nat))/\onSome m λa6=>∃ x4:UInt64,(∀ w',sx w'->Rd w' (a3.add (((IntKind.i64.wrap (x - (2:Int)))).toNat*1)) [.int .u64 x4.toNat])/\∃ x5:UInt64,(∀ w',sx w'->Rd w' (a4.add (((IntKind.i64.wrap (x - (7:Int)))).toNat*1)) [.int .u64 x5.toNat])/\∃ x6:UInt64,(∀ w',sx w'->Rd w' (a5.add (((IntKind.i64.wrap (x - (15:Int)))).toNat*1)) [.int .u64 x6.toNat])/\∃ x7:UInt64,(∀ w',sx w'->Rd w' (a6.add (((IntKind.i64.wrap (x - (16:Int)))).toNat*1)) [.int .u64 x7.toNat])/\((callK Tryz.prog 357 [.int .u64 x4.toNat,.int .i64 (19:Int),.int .i64 (61:Int),.int .i64 (6:Int)] w2.drew (panR R) λv1 w5=>∃ x8:UInt64,v1=(.int .u64 x8.toNat)/\(sx w5/\((callK Tryz.prog 357 [.int .u64 x6.toNat,.int .i64 (1:Int),.int .i64 (8:Int),.int .i64 (7:Int)] w5 (panR R) λv2 w6=>∃ x9:UInt64,v2=(.int .u64 x9.toNat)/\(sx w6/\((0<=x/\x<(80:Nat))/\onSome m λa7=>((semU Tryz.prog (storeVar 304 (a7.add (x.toNat*1)) (.int .u64 ((((x8+x5)+x9)+x7)).toNat)) w6 λw7=>(inv [.i .i64 (IntKind.i64.wrap (x+(1:Int)))] w7/\mu [.i .i64 (IntKind.i64.wrap (x+(1:Int)))] w7<mu [.i .i64 x] w2))/\True))))/\True)))/\True))))))) (onSome wv λa8=>∃ xa xb xc xd xe xf xg xh:UInt64,Rd w2 a8 [.int .u64 xa.toNat,.int .u64 xb.toNat,.int .u64 xc.toNat,.int .u64 xd.toNat,.int .u64 xe.toNat,.int .u64 xf.toNat,.int .u64 xg.toNat,.int .u64 xh.toNat]/\semK Tryz.prog (Instr.alloc 389 true (.tuple #[])) w2 λv3 w8=>∃ v4:Option Addr,v3=(.pointer v4)/\onSome v4 λa9=>semU Tryz.prog (storeVar 389 a9 (.agg #[.int .u64 xa.toNat,.int .u64 xb.toNat,.int .u64 xc.toNat,.int .u64 xd.toNat,.int .u64 xe.toNat,.int .u64 xf.toNat,.int .u64 xg.toNat,.int .u64 xh.toNat])) w8 λw9=>onSome m λa10=>∃ x10:List UInt64,x10.length=80/\Rd w9 a10 (cellsL ((x10).map TV.u64))/\∃ (inv2:List TV->World->Prop) (mu2:List TV->World->Nat),inv2 [.i .i64 (0:Int)] w9/\(∀ x11:Int,∀ w10:World,inv2 [.i .i64 x11] w10->condK (decide (x11<(80:Int))) (((0<=x11/\x11<(80:Nat))/\(∀ z∈(((x10).map TV.u64):List TV),z.cells.length=1)/\∃ x12:UInt64,(((x10).map TV.u64):List TV)[x11.toNat]? = some (.u64 x12)/\((0<=(0:Int)/\(0:Int)<(8:Nat))/\onSome v4 λa11=>((0<=(4:Int)/\(4:Int)<(8:Nat))/\onSome v4 λa12=>∃ x13:UInt64,Rd w10.drew (a11.add (((0:Int)).toNat*1)) [.int .u64 x13.toNat]/\∃ x14:UInt64,Rd w10.drew (a12.add (((4:Int)).toNat*1)) [.int .u64 x14.toNat]/\∃ sx1:World->Prop,sx1 w10.drew.drew/\((0<=(7:Int)/\(7:Int)<(8:Nat))/\onSome v4 λa13=>((0<=(5:Int)/\(5:Int)<(8:Nat))/\onSome v4 λa14=>((0<=(6:Int)/\(6:Int)<(8:Nat))/\onSome v4 λa15=>((0<=x11/\x11<(80:Nat))/\∃ x15:UInt64,(∀ w',sx1 w'->Rd w' (a13.add (((7:Int)).toNat*1)) [.int .u64 x15.toNat])/\∃ x16:UInt64,(∀ w',sx1 w'->Rd w' (a14.add (((5:Int)).toNat*1)) [.int .u64 x16.toNat])/\∃ x17:UInt64,(∀ w',sx1 w'->Rd w' (a15.add (((6:Int)).toNat*1)) [.int .u64 x17.toNat])/\∃ x18:UInt64,(∀ w',sx1 w'->Rd w' ((⟨2,0,none⟩:Addr).add (x11.toNat*1)) [.int .u64 x18.toNat])/\((callK Tryz.prog 358 [.int .u64 x14.toNat,.int .i64 (14:Int),.int .i64 (18:Int),.int .i64 (41:Int)] w10.drew.drew (panR R) λv5 w11=>∃ x19:UInt64,v5=(.int .u64 x19.toNat)/\(sx1 w11/\∃ sx2:World->Prop,sx2 w11.drew/\((0<=(1:Int)/\(1:Int)<(8:Nat))/\onSome v4 λa16=>((0<=(2:Int)/\(2:Int)<(8:Nat))/\onSome v4 λa17=>((0<=(1:Int)/\(1:Int)<(8:Nat))/\onSome v4 λa18=>((0<=(2:Int)/\(2:Int)<(8:Nat))/\onSome v4 λa19=>∃ x20:UInt64,(∀ w',sx2 w'->Rd w' (a16.add (((1:Int)).toNat*1)) [.int .u64 x20.toNat])/\∃ x21:UInt64,(∀ w',sx2 w'->Rd w' (a17.add (((2:Int)).toNat*1)) [.int .u64 x21.toNat])/\∃ x22:UInt64,(∀ w',sx2 w'->Rd w' (a18.add (((1:Int)).toNat*1)) [.int .u64 x22.toNat])/\∃ x23:UInt64,(∀ w',sx2 w'->Rd w' (a19.add (((2:Int)).toNat*1)) [.int .u64 x23.toNat])/\((callK Tryz.prog 358 [.int .u64 x13.toNat,.int .i64 (28:Int),.int .i64 (34:Int),.int .i64 (39:Int)] w11.drew (panR R) λv6 w12=>∃ x24:UInt64,v6=(.int .u64 x24.toNat)/\(sx2 w12/\onSome v4 λa20=>((0<=(1:Int)/\(1:Int)<=(8:Nat))/\onSome v4 λa21=>((0<=(7:Int)/\(7:Int)<=(8:Nat))/\((semK Tryz.prog (Builtin.copy_ #[520,520] 3 #[.slice (cutSl ⟨some a20,8,8⟩ 1 (((1:Int)).toNat) 8 8).a (cutSl ⟨some a20,8,8⟩ 1 (((1:Int)).toNat) 8 8).len (cutSl ⟨some a20,8,8⟩ 1 (((1:Int)).toNat) 8 8).cap,.slice (cutSl ⟨some a21,8,8⟩ 1 0 (((7:Int)).toNat) 8).a (cutSl ⟨some a21,8,8⟩ 1 0 (((7:Int)).toNat) 8).len (cutSl ⟨some a21,8,8⟩ 1 0 (((7:Int)).toNat) 8).cap]) w12.drew λv7 w13=>∃ x25:Int,v7=(.int .i64 x25)/\((0<=(4:Int)/\(4:Int)<(8:Nat))/\onSome v4 λa22=>∃ x26:UInt64,Rd w13 (a22.add (((4:Int)).toNat*1)) [.int .u64 x26.toNat]/\((0<=(0:Int)/\(0:Int)<(8:Nat))/\onSome v4 λa23=>semU Tryz.prog (storeVar 304 (a23.add (((0:Int)).toNat*1)) (.int .u64 ((((((x15+x19)+((x14 &&& x16) ^^^ ((~~~x14) &&& x17)))+x18)+x12)+(x24+(((x13 &&& x20) ^^^ (x13 &&& x21)) ^^^ (x22 &&& x23))))).toNat)) w13 λw14=>((0<=(4:Int)/\(4:Int)<(8:Nat))/\onSome v4 λa24=>semU Tryz.prog (storeVar 304 (a24.add (((4:Int)).toNat*1)) (.int .u64 ((x26+((((x15+x19)+((x14 &&& x16) ^^^ ((~~~x14) &&& x17)))+x18)+x12))).toNat)) w14 λw15=>(inv2 [.i .i64 (IntKind.i64.wrap (x11+(1:Int)))] w15/\mu2 [.i .i64 (IntKind.i64.wrap (x11+(1:Int)))] w15<mu2 [.i .i64 x11] w10)))))/\True)))))/\True)))))))/\True))))))))) (∃ (inv3:List TV->World->Prop) (mu3:List TV->World->Nat),inv3 [.i .i64 (0:Int)] w10/\(∀ x27:Int,∀ w16:World,inv3 [.i .i64 x27] w16->condK (decide (x27<(8:Int))) (∃ sx3:World->Prop,sx3 w16.drew/\onSome wv λa25=>((0<=x27/\x27<(8:Nat))/\((0<=x27/\x27<(8:Nat))/\onSome v4 λa26=>onSome wv λa27=>∃ x28:UInt64,(∀ w',sx3 w'->Rd w' (a25.add (x27.toNat*1)) [.int .u64 x28.toNat])/\∃ x29:UInt64,(∀ w',sx3 w'->Rd w' (a26.add (x27.toNat*1)) [.int .u64 x29.toNat])/\((0<=x27/\x27<(8:Nat))/\((semU Tryz.prog (storeVar 304 (a27.add (x27.toNat*1)) (.int .u64 ((x28+x29)).toNat)) w16.drew λw17=>(inv3 [.i .i64 (IntKind.i64.wrap (x27+(1:Int)))] w17/\mu3 [.i .i64 (IntKind.i64.wrap (x27+(1:Int)))] w17<mu3 [.i .i64 x27] w16))/\True))))) (R (.returned (.tuple #[])) w16))))))
theorem call245 (wv:Option Addr) (b:Slc) {w:World} {R:Ending->World->Prop} (hden:sh245 wv b w R):Calls Tryz.prog 245 #[.pointer wv,.slice b.a b.len b.cap] w R:=
 calls_of_form (.seq none .z (.seq none (.seq none .z (.block none (.loop [(16,(.i .i64))] (.seq none .z (.seq none (.cond .z .z) (.seq none (.block none (.seq none .z (.seq none (.seq none .z (.cond (.seq none (.seq none .z (.block none (.loop [(29,(.i .i64))] (.seq none .z (.seq none (.cond .z .z) (.seq none (.block none (.seq none .z .z)) .z)))))) .z) .z)) (.draw 1 (.take 0 (.take 1 (.take 2 (.take 3 (.take 6 (.take 7 (.take 8 (.take 11 (.take 12 (.take 13 (.take 17 (.take 18 (.take 19 (.take 4 (.take 9 (.take 14 (.take 20 (.all [(5,(.take 10 (.all [(15,(.take 16 (.take 21 (.take 22 (.all [(23,.done)])))))])))])))))))))))))))))))))) .z)))))) (.seq none .z (.seq none (.seq none .z (.block none (.loop [(71,(.i .i64))] (.seq none .z (.seq none (.cond .z .z) (.seq none (.block none (.seq none .z (.seq none (.draw 2 (.take 0 (.take 2 (.take 1 (.take 4 (.take 3 (.take 5 .done))))))) (.seq none (.draw 1 (.take 0 (.take 2 (.take 5 (.take 6 (.take 9 (.take 10 (.take 11 (.take 16 (.take 17 (.take 20 (.take 1 (.take 7 (.take 8 (.take 12 (.take 13 (.take 14 (.take 18 (.all [(3,(.take 4 (.take 15 (.take 19 (.take 21 (.take 22 .done))))))]))))))))))))))))))) (.seq none (.draw 1 (.take 0 (.take 2 (.take 3 (.take 6 (.take 7 (.take 11 (.take 13 (.take 4 (.take 5 (.take 8 (.take 9 (.take 10 (.take 12 (.take 14 (.take 15 (.take 16 (.all [(1,(.take 17 (.take 18 .done)))])))))))))))))))))) (.seq none (.draw 0 (.take 0 (.take 1 (.all [(2,.done)])))) .z)))))) .z)))))) (.seq none .z (.block none (.loop [(132,(.i .i64))] (.seq none .z (.seq none (.cond .z .z) (.seq none (.block none (.seq none .z (.draw 1 (.take 0 (.take 1 (.take 2 (.take 3 (.take 5 (.take 6 (.take 9 (.take 4 (.take 7 (.take 8 (.take 10 (.all [(11,.done)]))))))))))))))) .z)))))))))) Tryz.func245 (by kernel_rfl) [.p wv,.sl b] (by kernel_rfl) (by kernel_rfl) hden
def sh246 (h:Option Addr) (w:World) (R:Ending->World->Prop):Prop:=
 callK Tryz.prog 244 [.pointer h] w (panR R) λv w1=>∃ x:Bool,v=(.bool x)/\condK (!x) (R (.returned (.pointer none)) w1) (onSome h λa=>∃ xaa xab xac xad xae xaf xag xah:UInt64,∃ xb:Slc,∃ xc:UInt64,∃ xd:Bool,Rd w1 a [.int .u64 xaa.toNat,.int .u64 xab.toNat,.int .u64 xac.toNat,.int .u64 xad.toNat,.int .u64 xae.toNat,.int .u64 xaf.toNat,.int .u64 xag.toNat,.int .u64 xah.toNat,.slice xb.a xb.len xb.cap,.int .u64 xc.toNat,.bool xd]/\semK Tryz.prog (Instr.alloc 391 true (.tuple #[])) w1 λv1 w2=>∃ c:Option Addr,v1=(.pointer c)/\onSome c λa1=>semU Tryz.prog (storeVar 391 a1 (.agg #[.int .u64 xaa.toNat,.int .u64 xab.toNat,.int .u64 xac.toNat,.int .u64 xad.toNat,.int .u64 xae.toNat,.int .u64 xaf.toNat,.int .u64 xag.toNat,.int .u64 xah.toNat,.slice xb.a xb.len xb.cap,.int .u64 xc.toNat,.bool xd])) w2 λw3=>onSome h λa2=>∃ x1:Slc,Rd w3 (a2.add 8) [.slice x1.a x1.len x1.cap]/\callK Tryz.prog 29 [.slice x1.a x1.len x1.cap] w3 (panR R) λv2 w4=>∃ x2:Slc,v2=(.slice x2.a x2.len x2.cap)/\onSome c λa3=>semU Tryz.prog (storeVar 23 (a3.add 8) (.slice x2.a x2.len x2.cap)) w4 λw5=>R (.returned (.pointer c)) w5)
theorem call246 (h:Option Addr) {w:World} {R:Ending->World->Prop} (hden:sh246 h w R):Calls Tryz.prog 246 #[.pointer h] w R:=
 calls_of_form (.seq none .z (.seq none (.seq none .z (.cond (.seq none .z .z) .z)) (.seq none .z (.seq none .z (.seq none .z .z))))) Tryz.func246 (by kernel_rfl) [.p h] (by kernel_rfl) (by kernel_rfl) hden
def sh29 (s:Slc) (w:World) (R:Ending->World->Prop):Prop:=
 pureSem Tryz.prog (do eqGuard .eql 23 (.tmp 3) (.const (.slice none 0 0)) (.slice s.a s.len s.cap) (.slice none 0 0); binOp .eql 23 (.slice s.a s.len s.cap) (.slice none 0 0)) λv=>∃ x:Bool,v=(.bool x)/\condK x (R (.returned (.slice none 0 0)) w) (semK Tryz.prog (Instr.buildSlice 23 0 #[]) w λv1 w1=>∃ x1:Slc,v1=(.slice x1.a x1.len x1.cap)/\semK Tryz.prog (Builtin.append_ #[23,23] 23 #[.slice x1.a x1.len x1.cap,.slice s.a s.len s.cap]) w1 λv2 w2=>∃ x2:Slc,v2=(.slice x2.a x2.len x2.cap)/\R (.returned (.slice x2.a x2.len x2.cap)) w2)
theorem call29 (s:Slc) {w:World} {R:Ending->World->Prop} (hden:sh29 s w R):Calls Tryz.prog 29 #[.slice s.a s.len s.cap] w R:=
 calls_of_form (.seq none .z (.seq none (.seq none .z (.cond (.seq none .z .z) .z)) (.seq none .z .z))) Tryz.func29 (by kernel_rfl) [.sl s] (by kernel_rfl) (by kernel_rfl) hden
def sh357 (x:UInt64) (a b shift:Int) (w:World) (R:Ending->World->Prop):Prop:=
 (0<=shift/\((callK Tryz.prog 519 [.int .u64 x.toNat,.int .i64 (IntKind.i64.wrap (0 - a))] w.drew (panR R) λv w1=>∃ x1:UInt64,v=(.int .u64 x1.toNat)/\((callK Tryz.prog 519 [.int .u64 x.toNat,.int .i64 (IntKind.i64.wrap (0 - b))] w1 (panR R) λv1 w2=>∃ x2:UInt64,v1=(.int .u64 x2.toNat)/\R (.returned (.int .u64 (((x1 ^^^ x2) ^^^ (shrU64 x shift.toNat))).toNat)) w2)/\True))/\True))
theorem call357 (x:UInt64) (a b shift:Int) {w:World} {R:Ending->World->Prop} (hden:sh357 x a b shift w R):Calls Tryz.prog 357 #[.int .u64 x.toNat,.int .i64 a,.int .i64 b,.int .i64 shift] w R:=
 calls_of_form (.seq none .z (.seq none (.draw 0 (.take 0 (.take 1 (.take 2 (.take 4 (.take 5 (.take 6 (.take 9 (.take 10 (.take 11 (.all [(3,(.all [(7,(.take 8 (.take 12 (.take 13 .done))))]))]))))))))))) .z)) Tryz.func357 (by kernel_rfl) [.u64 x,.i .i64 a,.i .i64 b,.i .i64 shift] (by kernel_rfl) (by kernel_rfl) hden
def sh358 (x:UInt64) (a b c:Int) (w:World) (R:Ending->World->Prop):Prop:=
 callK Tryz.prog 519 [.int .u64 x.toNat,.int .i64 (IntKind.i64.wrap (0 - a))] w (panR R) λv w1=>∃ x1:UInt64,v=(.int .u64 x1.toNat)/\callK Tryz.prog 519 [.int .u64 x.toNat,.int .i64 (IntKind.i64.wrap (0 - b))] w1 (panR R) λv1 w2=>∃ x2:UInt64,v1=(.int .u64 x2.toNat)/\callK Tryz.prog 519 [.int .u64 x.toNat,.int .i64 (IntKind.i64.wrap (0 - c))] w2 (panR R) λv2 w3=>∃ x3:UInt64,v2=(.int .u64 x3.toNat)/\R (.returned (.int .u64 (((x1 ^^^ x2) ^^^ x3)).toNat)) w3
theorem call358 (x:UInt64) (a b c:Int) {w:World} {R:Ending->World->Prop} (hden:sh358 x a b c w R):Calls Tryz.prog 358 #[.int .u64 x.toNat,.int .i64 a,.int .i64 b,.int .i64 c] w R:=
 calls_of_form (.seq none .z (.seq none .z .z)) Tryz.func358 (by kernel_rfl) [.u64 x,.i .i64 a,.i .i64 b,.i .i64 c] (by kernel_rfl) (by kernel_rfl) hden
def sh519 (x:UInt64) (k:Int) (w:World) (R:Ending->World->Prop):Prop:=
 (0<=((((u64OfInt k) &&& (63:UInt64))).toNat:Int)/\(0<=((((64:UInt64) - ((u64OfInt k) &&& (63:UInt64)))).toNat:Int)/\R (.returned (.int .u64 (((shlU64 x (((((u64OfInt k) &&& (63:UInt64))).toNat:Int)).toNat) ||| (shrU64 x (((((64:UInt64) - ((u64OfInt k) &&& (63:UInt64)))).toNat:Int)).toNat))).toNat)) w))
theorem call519 (x:UInt64) (k:Int) {w:World} {R:Ending->World->Prop} (hden:sh519 x k w R):Calls Tryz.prog 519 #[.int .u64 x.toNat,.int .i64 k] w R:=
 calls_of_form (.seq none .z (.seq none .z (.seq none .z .z))) Tryz.func519 (by kernel_rfl) [.u64 x,.i .i64 k] (by kernel_rfl) (by kernel_rfl) hden
end Go.Proofs.YtmgcoepbccgjfaaGreatDoor
end
section
namespace Go.Sh
open Go
def rr (x:UInt64) (n:Nat):UInt64:=shrU64 x n ||| shlU64 x (64 - n)
def bsg1 (e:UInt64):UInt64:=(rr e 14 ^^^ rr e 18) ^^^ rr e 41
def bsg0 (a:UInt64):UInt64:=(rr a 28 ^^^ rr a 34) ^^^ rr a 39
def ssg1 (x:UInt64):UInt64:=(rr x 19 ^^^ rr x 61) ^^^ shrU64 x 6
def ssg0 (x:UInt64):UInt64:=(rr x 1 ^^^ rr x 8) ^^^ shrU64 x 7
def be64 (l:List UInt8):UInt64:=l.foldl (λx c=>shlU64 x 8 ||| c.toUInt64) 0
def word (b:List UInt8) (t:Nat):UInt64:=be64 ((b.drop (8*t)).take 8)
def wnext (b:List UInt8) (l:List UInt64) (t:Nat):UInt64:=
 if t<16 then word b t else ((ssg1 (l.getD (t - 2) 0)+l.getD (t - 7) 0)+ssg0 (l.getD (t - 15) 0))+l.getD (t - 16) 0
def sched (b:List UInt8):Nat->List UInt64
 | 0=>[]
 | t+1=>let l:=sched b t; l++[wnext b l t]
def rnd (v:List UInt64) (k x:UInt64):List UInt64:=
 match v with
 | [a,b,c,d,e,f,g,h]=>
   let t1:=(((h+bsg1 e)+((e &&& f) ^^^ ((~~~e) &&& g)))+k)+x
   let t2:=bsg0 a+(((a &&& b) ^^^ (a &&& c)) ^^^ (b &&& c))
   [t1+t2,a,b,c,d+t1,e,f,g]
 | v=>v
def rounds (ks ws v:List UInt64):Nat->List UInt64
 | 0=>v
 | t+1=>rnd (rounds ks ws v t) (ks.getD t 0) (ws.getD t 0)
def comp (ks h:List UInt64) (b:List UInt8):List UInt64:=List.zipWith (λx y=>x+y) h (rounds ks (sched b 80) h 80)
def absorb (ks h:List UInt64) (b:List UInt8):Nat->List UInt64
 | 0=>h
 | n+1=>comp ks (absorb ks h b n) ((b.drop (128*n)).take 128)
def be8 (x:UInt64):List UInt8:=[(shrU64 x 56).toUInt8,(shrU64 x 48).toUInt8,(shrU64 x 40).toUInt8,(shrU64 x 32).toUInt8,(shrU64 x 24).toUInt8,(shrU64 x 16).toUInt8,(shrU64 x 8).toUInt8,(shrU64 x 0).toUInt8]
def digest (h:List UInt64):List UInt8:=h.flatMap be8
def padZ (n:Nat):Nat:=(239 - n % 128) % 128
def padEnd (n:Nat):List UInt8:=[128]++List.replicate (padZ n) 0++List.replicate 8 0++be8 (8*UInt64.ofNat n)
def pad (b:List UInt8):List UInt8:=b++padEnd b.length
def shaBy (h ks:List UInt64) (b:List UInt8):List UInt8:=digest (absorb ks h (pad b) ((pad b).length / 128))
theorem sched_len (b:List UInt8) : ∀ t,(sched b t).length=t
 | 0=>rfl
 | t+1=>by simp [sched,sched_len b t]
theorem rnd_len {v:List UInt64} {k x:UInt64} (h:v.length=8):(rnd v k x).length=8:=by
 unfold rnd
 split
 ·rfl
 ·exact h
theorem rounds_len {ks ws v:List UInt64} (h:v.length=8) : ∀ t,(rounds ks ws v t).length=8
 | 0=>h
 | t+1=>rnd_len (rounds_len h t)
theorem comp_len {ks h:List UInt64} {b:List UInt8} (hh:h.length=8):(comp ks h b).length=8:=by simp [comp,hh,rounds_len hh]
theorem absorb_len {ks h:List UInt64} {b:List UInt8} (hh:h.length=8) : ∀ n,(absorb ks h b n).length=8
 | 0=>hh
 | n+1=>comp_len (absorb_len hh n)
@[simp] theorem be8_len (x:UInt64):(be8 x).length=8:=rfl
theorem digest_len {h:List UInt64} (hh:h.length=8):(digest h).length=64:=by
 match h,hh with
 | [a,b,c,d,e,f,g,k],_=>rfl
theorem absorb_eq {ks h:List UInt64} {a b:List UInt8} : ∀ n,128*n<=a.length->absorb ks h (a++b) n=absorb ks h a n
 | 0,_=>rfl
 | n+1,hn=>by
   simp only [absorb]
   rw [absorb_eq n (by omega),List.drop_append_of_le_length (by omega),List.take_append_of_le_length (by rw [List.length_drop]; omega)]
theorem absorb_add {ks h:List UInt64} {a b:List UInt8} {m:Nat} (ha:a.length=128*m) : ∀ n,absorb ks h (a++b) (m+n)=absorb ks (absorb ks h a m) b n
 | 0=>absorb_eq m (by omega)
 | n+1=>by
   rw [show m+(n+1)=(m+n)+1 from rfl]
   simp only [absorb]
   rw [absorb_add ha n,List.drop_append,List.drop_eq_nil_of_le (by omega),List.nil_append]
   congr 3
   omega
def rest (b:List UInt8):List UInt8:=b.drop (128*(b.length / 128))
def state (ks h:List UInt64) (b:List UInt8):List UInt64:=absorb ks h b (b.length / 128)
theorem rest_len (b:List UInt8):(rest b).length=b.length % 128:=by simp [rest]; omega
theorem state_len {ks h:List UInt64} {b:List UInt8} (hh:h.length=8):(state ks h b).length=8:=absorb_len hh _
theorem state_app {ks h:List UInt64} {b c:List UInt8} : state ks h (b++c)=absorb ks (state ks h b) (rest b++c) ((rest b++c).length / 128):=by
 have e:b++c=b.take (128*(b.length / 128))++(rest b++c):=by
  rw [<-List.append_assoc]; simp [rest]
 have hl:(b.take (128*(b.length / 128))).length=128*(b.length / 128):=by rw [List.length_take]; omega
 have hn:(b++c).length / 128=b.length / 128+(rest b++c).length / 128:=by
  rw [List.length_append,List.length_append,rest_len]; omega
 unfold state
 rw [hn]
 conv=>lhs; rw [e]
 rw [absorb_add hl]
 congr 1
 have:=absorb_eq (ks:=ks) (h:=h) (a:=b.take (128*(b.length / 128))) (b:=b.drop (128*(b.length / 128))) (b.length / 128) (by omega)
 rw [List.take_append_drop] at this
 exact this.symm
theorem rest_app {b c:List UInt8} : rest (b++c)=(rest b++c).drop (128*((rest b++c).length / 128)):=by
 have e:b++c=b.take (128*(b.length / 128))++(rest b++c):=by
  rw [<-List.append_assoc]; simp [rest]
 have hl:(b.take (128*(b.length / 128))).length=128*(b.length / 128):=by rw [List.length_take]; omega
 have hn:(b++c).length / 128=b.length / 128+(rest b++c).length / 128:=by
  rw [List.length_append,List.length_append,rest_len]; omega
 show (b++c).drop (128*((b++c).length / 128))=_
 rw [hn]
 conv=>lhs; rw [e]
 rw [List.drop_append,List.drop_eq_nil_of_le (by omega),List.nil_append]
 congr 1
 omega
theorem pad_len (b:List UInt8):(pad b).length % 128=0/\(padEnd b.length).length<=256:=by
 simp [pad,padEnd,padZ]; omega
theorem shaBy_eq (h ks:List UInt64) (b:List UInt8):shaBy h ks b=digest (state ks h (pad b)):=rfl
end Go.Sh
end
section
namespace Go.Proofs.YtmgcoepbccgjfaaGreatDoor
open Go Go.Sh
theorem turn_count : ∀ a:Fin 64,a.val≠0->(u64OfInt (IntKind.i64.wrap (0 - (a.val:Int)))) &&& 63=UInt64.ofNat (64 - a.val):=by decide
theorem c_rot {w:World} {x:UInt64} {a:Nat} (h0:0<a) (h1:a<64) {k:Int} (hk:k=IntKind.i64.wrap (0 - (a:Int))) :
 Calls Tryz.prog 519 #[.int .u64 x.toNat,.int .i64 k] w (Ret λv w'=>v = .int .u64 (rr x a).toNat/\w'=w):=by
 subst hk
 refine call519 _ _ ?_
 unfold sh519
 rw [turn_count ⟨a,h1⟩ (by simp only; omega)]
 have e1:(UInt64.ofNat (64 - a)).toNat=64 - a:=by simp [UInt64.toNat_ofNat']; omega
 have e2:((64:UInt64) - UInt64.ofNat (64 - a)).toNat=a:=by
  rw [UInt64.toNat_sub,e1]
  simp; omega
 simp only [e1,e2,Int.toNat_natCast]
 refine ⟨by omega,by omega,?_,rfl⟩
 show Value.int .u64 _=Value.int .u64 _
 rw [UInt64.or_comm]
 rfl
theorem c_mix {w:World} {x:UInt64} {a b c:Nat} (ha:0<a/\a<64) (hb:0<b/\b<64) (hc:0<c/\c<64) :
 Calls Tryz.prog 358 #[.int .u64 x.toNat,.int .i64 a,.int .i64 b,.int .i64 c] w (Ret λv w'=>v = .int .u64 ((rr x a ^^^ rr x b) ^^^ rr x c).toNat/\w'=w):=by
 refine call358 _ _ _ _ ?_
 unfold sh358
 refine callK_ret (c_rot ha.1 ha.2 rfl) ?_
 rintro v w1 ⟨rfl,rfl⟩
 refine ⟨_,rfl,callK_ret (c_rot hb.1 hb.2 rfl) ?_⟩
 rintro v w1 ⟨rfl,rfl⟩
 refine ⟨_,rfl,callK_ret (c_rot hc.1 hc.2 rfl) ?_⟩
 rintro v w1 ⟨rfl,rfl⟩
 exact ⟨_,rfl,rfl,rfl⟩
theorem c_small {w:World} {x:UInt64} {a b c:Nat} (ha:0<a/\a<64) (hb:0<b/\b<64) :
 Calls Tryz.prog 357 #[.int .u64 x.toNat,.int .i64 a,.int .i64 b,.int .i64 c] w (Ret λv w'=>v = .int .u64 ((rr x a ^^^ rr x b) ^^^ shrU64 x c).toNat/\w'=w.drew):=by
 refine call357 _ _ _ _ ?_
 unfold sh357
 refine ⟨by omega,callK_ret (c_rot ha.1 ha.2 rfl) ?_,trivial⟩
 rintro v w1 ⟨rfl,rfl⟩
 refine ⟨_,rfl,callK_ret (c_rot hb.1 hb.2 rfl) ?_,trivial⟩
 rintro v w1 ⟨rfl,rfl⟩
 exact ⟨_,rfl,rfl,rfl⟩
def H0:List UInt64:=[0x6a09e667f3bcc908,0xbb67ae8584caa73b,0x3c6ef372fe94f82b,0xa54ff53a5f1d36f1,0x510e527fade682d1,0x9b05688c2b3e6c1f,0x1f83d9abfb41bd6b,0x5be0cd19137e2179]
def KS:List UInt64:=[
 0x428a2f98d728ae22,0x7137449123ef65cd,0xb5c0fbcfec4d3b2f,0xe9b5dba58189dbbc,
 0x3956c25bf348b538,0x59f111f1b605d019,0x923f82a4af194f9b,0xab1c5ed5da6d8118,
 0xd807aa98a3030242,0x12835b0145706fbe,0x243185be4ee4b28c,0x550c7dc3d5ffb4e2,
 0x72be5d74f27b896f,0x80deb1fe3b1696b1,0x9bdc06a725c71235,0xc19bf174cf692694,
 0xe49b69c19ef14ad2,0xefbe4786384f25e3,0x0fc19dc68b8cd5b5,0x240ca1cc77ac9c65,
 0x2de92c6f592b0275,0x4a7484aa6ea6e483,0x5cb0a9dcbd41fbd4,0x76f988da831153b5,
 0x983e5152ee66dfab,0xa831c66d2db43210,0xb00327c898fb213f,0xbf597fc7beef0ee4,
 0xc6e00bf33da88fc2,0xd5a79147930aa725,0x06ca6351e003826f,0x142929670a0e6e70,
 0x27b70a8546d22ffc,0x2e1b21385c26c926,0x4d2c6dfc5ac42aed,0x53380d139d95b3df,
 0x650a73548baf63de,0x766a0abb3c77b2a8,0x81c2c92e47edaee6,0x92722c851482353b,
 0xa2bfe8a14cf10364,0xa81a664bbc423001,0xc24b8b70d0f89791,0xc76c51a30654be30,
 0xd192e819d6ef5218,0xd69906245565a910,0xf40e35855771202a,0x106aa07032bbd1b8,
 0x19a4c116b8d2d0c8,0x1e376c085141ab53,0x2748774cdf8eeb99,0x34b0bcb5e19b48a8,
 0x391c0cb3c5c95a63,0x4ed8aa4ae3418acb,0x5b9cca4f7763e373,0x682e6ff3d6b2b8a3,
 0x748f82ee5defb2fc,0x78a5636f43172f60,0x84c87814a1f0ab72,0x8cc702081a6439ec,
 0x90befffa23631e28,0xa4506cebde82bde9,0xbef9a3f7b2c67915,0xc67178f2e372532b,
 0xca273eceea26619c,0xd186b8c721c0c207,0xeada7dd6cde0eb1e,0xf57d4f7fee6ed178,
 0x06f067aa72176fba,0x0a637dc5a2c898a6,0x113f9804bef90dae,0x1b710b35131c471b,
 0x28db77f523047d84,0x32caab7b40c72493,0x3c9ebe0a15c9bebc,0x431d67c49c100d4c,
 0x4cc5d4becb3e42b6,0x597f299cfc657e2a,0x5fcb6fab3ad6faec,0x6c44198c4a475817]
def sha (b:List UInt8):List UInt8:=shaBy H0 KS b
theorem H0_len:H0.length=8:=rfl
theorem KS_len:KS.length=80:=rfl
def isG (x:Nat):Prop:=x=1\/x=2
structure Glob (w:World):Prop where
 begin0:Rd w ⟨1,0,none⟩ (us H0)
 rest0:Rd w ⟨2,0,none⟩ (us KS)
theorem Glob.lt {w:World} (h:Glob w) {x:Nat} (hx:isG x):x<w.heap.size:=by
 rcases hx with rfl | rfl
 ·exact rd_lt h.begin0 (by simp [H0_len])
 ·exact rd_lt h.rest0 (by simp [KS_len])
theorem Glob.mod {w w':World} {S:Nat->Prop} (h:Glob w) (hm:Mod S w w') (hs : ∀ x,isG x->¬ S x):Glob w':=
 ⟨h.begin0.mod hm (hs _ (.inl rfl)),h.rest0.mod hm (hs _ (.inr rfl))⟩
theorem Glob.no {w w':World} (h:Glob w) (hm:Mod NoB w w'):Glob w':=h.mod hm λ_ _ h=>h
theorem Glob.drew {w:World} (h:Glob w):Glob w.drew:=⟨h.begin0,h.rest0⟩
theorem Glob.fresh {w:World} (h:Glob w) {x:Nat} (hx:w.heap.size<=x) : ¬ isG x:=λe=>by have:=h.lt e; omega
theorem i640 : ∃ i,Tryz.prog.info? 518=some i/\i.zero=some (.agg (List.replicate 80 z64).toArray)/\i.size=80/\i.bytes=640:=info_of (by kernel_rfl) (by kernel_rfl) (by kernel_rfl)
theorem iwords : ∃ i,Tryz.prog.info? 389=some i/\i.zero=some (.agg (List.replicate 8 z64).toArray)/\i.size=8/\i.bytes=64:=info_of (by kernel_rfl) (by kernel_rfl) (by kernel_rfl)
theorem be64_snoc (l:List UInt8) (c:UInt8):be64 (l++[c])=shlU64 (be64 l) 8 ||| c.toUInt64:=by simp [be64]
def fill (ws:List UInt64):List Value:=us ws++List.replicate (80 - ws.length) z64
theorem fill_at {ws:List UInt64} {i:Nat} (h:i<ws.length):(fill ws)[i]? = some (.int .u64 (ws.getD i 0).toNat):=by
 unfold fill
 rw [List.getElem?_append_left (by simpa using h),us_getD h]
theorem fill_next {ws:List UInt64} {x:UInt64} (h:ws.length<80):(fill ws).set ws.length (.int .u64 x.toNat)=fill (ws++[x]):=by
 unfold fill
 rw [rep_succ (by omega),set_mid (by simp),us_app]
 simp only [List.length_append,List.length_cons,List.length_nil,List.append_assoc]
 congr 1
@[simp] theorem fill_len {ws:List UInt64} (h:ws.length<=80):(fill ws).length=80:=by unfold fill; simp; omega
theorem c_block1 {w:World} {b:Slc} {bs:List UInt8} (hb:SlRd w b 1 (bys bs)) (hl:bs.length=128) {m t:Nat} (ht:t<16) {w2:World} (hm:Mod NoB w w2) (hbm : ∀ x,b.blk=some x->x≠m) (hmw:w.heap.size<=m) (hM:Blk w2 m (fill (sched bs t)) 518) {R:Prop}
 {K:World->Prop} (hk : ∀ w3,Mod NoB w w3->Blk w3 m (fill (sched bs (t+1))) 518->K w3) :
 ∃ (inv1:List TV->World->Prop) (mu1:List TV->World->Nat),inv1 [.i .i64 (0:Int)] w2/\(∀ x1:Int,∀ w3:World,inv1 [.i .i64 x1] w3->condK (decide (x1<((cutSl b 1 (8*t) (8*t+8) b.cap).len:Int))) (((0<=x1/\x1<((cutSl b 1 (8*t) (8*t+8) b.cap).len:Nat))/\onSome (cutSl b 1 (8*t) (8*t+8) b.cap).a λa=>∃ x2:UInt8,Rd w3 (a.add ((x1).toNat*1)) [(.int .u8 (x2).toNat)]/\((0<=(t:Int)/\(t:Int)<(80:Nat))/\∃ x3:UInt64,Rd w3 ((⟨m,0,none⟩:Addr).add (t*1)) [(.int .u64 (x3).toNat)]/\(0<=(((8:UInt64)).toNat:Int)/\((0<=(t:Int)/\(t:Int)<(80:Nat))/\semU Tryz.prog (storeVar 304 ((⟨m,0,none⟩:Addr).add (t*1)) (.int .u64 (((shlU64 x3 ((((8:UInt64)).toNat:Int)).toNat) ||| (x2).toUInt64)).toNat)) w3 λw4=>(inv1 [.i .i64 (IntKind.i64.wrap (x1+(1:Int)))] w4/\mu1 [.i .i64 (IntKind.i64.wrap (x1+(1:Int)))] w4<mu1 [.i .i64 x1] w3)))))) (K w3)):=by
 have hbl:=rd_len8 hb
 have hcut:=hb.cut (l:=8*t) (n:=8*t+8) (m:=b.cap) (by omega) (by omega) (by have:=hb.2.1; omega) (Nat.le_refl _)
 have hwl:((bs.drop (8*t)).take 8).length=8:=by rw [List.length_take,List.length_drop]; omega
 rw [show 8*t+8 - 8*t=8 by omega,bys_cut] at hcut
 have hcl:(cutSl b 1 (8*t) (8*t+8) b.cap).len=8:=by simp [cutSl]
 have hsl:=sched_len bs t
 refine ⟨λl w'=>match l with | [.i _ x]=>∃ j:Nat,x=j/\j<=8/\Blk w' m ((fill (sched bs t)).set t (.int .u64 (be64 (((bs.drop (8*t)).take 8).take j)).toNat)) 518/\Mod NoB w w' | _=>False,λl _=>match l with | [.i _ x]=>(8 - x).toNat | _=>0,⟨0,rfl,by omega,?_,hm⟩,?_⟩
 ·have:(fill (sched bs t)).set t (.int .u64 (be64 (((bs.drop (8*t)).take 8).take 0)).toNat)=fill (sched bs t):=by
   apply List.ext_getElem?
   intro i
   rw [List.getElem?_set]
   split
   ·next h=>
    subst h
    rw [if_pos (by rw [fill_len (by omega)]; omega)]
    unfold fill
    rw [List.getElem?_append_right (by simp [hsl]),us_len,hsl,Nat.sub_self,rep_succ (by omega)]
    rfl
   ·rfl
  rw [this]; exact hM
 rintro x1 w3 ⟨j,rfl,hj,hB,hm3⟩
 rw [hcl]
 have hfl:((fill (sched bs t)).set t (Value.int .u64 (be64 (((bs.drop (8*t)).take 8).take j)).toNat)).length=80:=by rw [List.length_set,fill_len (by omega)]
 refine condK_i (λh=>?_) (λh=>?_)
 ·have hj8:j<8:=by simp at h; omega
  obtain ⟨a,ha,hrd⟩:=rd_u8 hcut (i:=j) (by omega)
  rw [ha]
  refine ⟨⟨by omega,by omega⟩,_,(hrd.mod hm3 λh=>h),⟨by omega,by omega⟩,be64 (((bs.drop (8*t)).take 8).take j),?_,by decide,⟨by omega,by omega⟩,?_⟩
  ·rw [addl]
   exact hB.rd1 (by rw [Nat.zero_add,Nat.mul_one,List.getElem?_set_self (by rw [fill_len (by omega)]; omega)])
  ·rw [addl]
   refine semU_store1 (by kernel_rfl) (by kernel_rfl) rfl hB (by rw [hfl]; omega) λw4 ht4 hB4=>⟨?_,?_⟩
   ·rw [wrap_nat (by omega)]
    refine ⟨j+1,rfl,by omega,?_,hm3.fresh ht4.mod λx e=>by omega⟩
    rw [Nat.zero_add,Nat.mul_one,List.set_set] at hB4
    rw [take_snoc (by omega),be64_snoc]
    exact hB4
   ·rw [wrap_nat (by omega)]
    simp only []
    omega
 ·have hj8:j=8:=by simp at h; omega
  subst hj8
  refine hk w3 hm3 ?_
  rw [List.take_of_length_le (by omega)] at hB
  have e:sched bs (t+1)=sched bs t++[be64 ((bs.drop (8*t)).take 8)]:=by
   show (let l:=sched bs t; l++[wnext bs l t])=_
   simp only [wnext,if_pos ht,word]
  rw [e,<-fill_next (by omega),hsl]
  exact hB
theorem Glob.k {w:World} (h:Glob w) {t:Nat} (ht:t<80):Rd w ((⟨2,0,none⟩:Addr).add (t*1)) [.int .u64 (KS.getD t 0).toNat]:=by
 intro j v hj
 cases j with
 | zero=>
   simp only [List.length_cons,List.length_nil,Nat.zero_add,Nat.lt_add_one,List.getElem?_cons_zero,Option.some.injEq] at hj
   subst hj
   have:=h.rest0 t _ (us_getD (l:=KS) (i:=t) (by rw [KS_len]; exact ht))
   simpa using this
 | succ j=>simp at hj
theorem zip_step {h v:List UInt64} {i:Nat} (hh:h.length=8) (hv:v.length=8) (hi:i<8) :
 (us (List.zipWith (λx y=>x+y) (h.take i) (v.take i)++h.drop i)).set i (.int .u64 (h[i]+v[i]).toNat)=us (List.zipWith (λx y=>x+y) (h.take (i+1)) (v.take (i+1))++h.drop (i+1)):=by
 have e1:h.drop i=h[i] :: h.drop (i+1):=List.drop_eq_getElem_cons (by omega)
 have hl:(List.zipWith (λx y=>x+y) (h.take i) (v.take i)).length=i:=by simp; omega
 have e2:List.zipWith (λx y=>x+y) (h.take (i+1)) (v.take (i+1))=List.zipWith (λx y=>x+y) (h.take i) (v.take i)++[h[i]+v[i]]:=by
  rw [take_snoc (by omega),take_snoc (by omega),List.zipWith_append (by simp; omega)]
  rfl
 rw [e1,e2,us_app,us_app,us_app]
 have:us (h[i] :: h.drop (i+1)) = .int .u64 h[i].toNat :: us (h.drop (i+1)):=rfl
 rw [this,set_mid (by simpa using hl.symm),List.append_assoc]
 rfl
theorem c_block {w:World} {p:Nat} {h:List UInt64} {r:List Value} {T:TypeId} {b:Slc} {bs:List UInt8} (hp:Blk w p (us h++r) T) (hh:h.length=8) (hb:SlRd w b 1 (bys bs)) (hl:bs.length=128)
 (hg:Glob w) (hpg : ¬ isG p) :
 Calls Tryz.prog 245 #[.pointer (some ⟨p,0,none⟩),.slice b.a b.len b.cap] w (Ret λv w'=>v = .tuple #[]/\Blk w' p (us (comp KS h bs)++r) T/\Mod (λx=>x=p) w w'):=by
 refine call245 _ _ ?_
 unfold sh245
 obtain ⟨i0,hi1,hi2,-,-⟩:=i640
 obtain ⟨i1,hj1,hj2,-,-⟩:=iwords
 have hbl:=rd_len8 hb
 have hpl:=hp.lt
 refine sem_alloc (l:=List.replicate 80 z64) hi1 hi2 rfl λm w1 hN hM0=>⟨_,rfl,?_⟩
 have hmat:=hN.at_
 have hbm : ∀ x,b.blk=some x->x≠m:=λx hx=>by
  rcases hb.2.2 with h0 | ⟨bb,e1,e2⟩
  ·have:=congrArg List.length h0; simp [hl] at this
  ·have h1:=rd_lt e2 (by simp [hl])
   unfold Slc.blk at hx
   split at hx
   ·cases hx
   ·simp [e1] at hx; subst hx; omega
 refine ⟨λl w'=>match l with | [.i _ x]=>∃ t:Nat,x=t/\t<=80/\Blk w' m (fill (sched bs t)) 518/\Mod NoB w w' | _=>False,λl _=>match l with | [.i _ x]=>(80 - x).toNat | _=>0,⟨0,rfl,by omega,hM0,hN.mod⟩,?_⟩
 rintro x w2 ⟨t,rfl,ht,hM,hm2⟩
 refine condK_i (λh80=>?_) (λh80=>?_)
 ·have ht80:t<80:=by simp at h80; omega
  refine condK_i (λh16=>?_) (λh16=>?_)
  ·have ht16:t<16:=by simp at h16; omega
   have e1:IntKind.i64.wrap ((8:Int)*(t:Int))=((8*t:Nat):Int):=by rw [wrap_i64 (by omega)]; omega
   have e2:IntKind.i64.wrap (((8*t:Nat):Int)+(8:Int))=((8*t+8:Nat):Int):=by rw [wrap_i64 (by omega)]; omega
   simp only [e1,e2,Int.toNat_natCast]
   refine ⟨⟨by omega,by omega,by have:=hb.2.1; omega⟩,?_⟩
   refine c_block1 (R:=True) hb hl ht16 hm2 hbm (by omega) hM λw3 hm3 hM3=>⟨?_,?_⟩
   ·rw [wrap_nat (by omega)]
    exact ⟨t+1,rfl,by omega,hM3,hm3⟩
   ·rw [wrap_nat (by omega)]
    (try simp only []); omega
  ·have ht16:16<=t:=by simp at h16; omega
   have hsl:=sched_len bs t
   have f2:IntKind.i64.wrap ((t:Int) - (2:Int))=((t - 2:Nat):Int):=by rw [wrap_i64 (by omega)]; omega
   have f7:IntKind.i64.wrap ((t:Int) - (7:Int))=((t - 7:Nat):Int):=by rw [wrap_i64 (by omega)]; omega
   have f15:IntKind.i64.wrap ((t:Int) - (15:Int))=((t - 15:Nat):Int):=by rw [wrap_i64 (by omega)]; omega
   have f16:IntKind.i64.wrap ((t:Int) - (16:Int))=((t - 16:Nat):Int):=by rw [wrap_i64 (by omega)]; omega
   simp only [f2,f7,f15,f16,Int.toNat_natCast]
   refine ⟨λw'=>Blk w' m (fill (sched bs t)) 518,hM,⟨by omega,by omega⟩,⟨by omega,by omega⟩,⟨by omega,by omega⟩,⟨by omega,by omega⟩,
    (sched bs t).getD (t - 2) 0,λw' h=>rda h (fill_at (by omega)),(sched bs t).getD (t - 7) 0,λw' h=>rda h (fill_at (by omega)),(sched bs t).getD (t - 15) 0,λw' h=>rda h (fill_at (by omega)),(sched bs t).getD (t - 16) 0,λw' h=>rda h (fill_at (by omega)),?_,trivial⟩
   refine callK_ret (c_small (a:=19) (b:=61) (c:=6) (by omega) (by omega)) ?_
   rintro v w5 ⟨rfl,rfl⟩
   refine ⟨_,rfl,hM,?_,trivial⟩
   refine callK_ret (c_small (a:=1) (b:=8) (c:=7) (by omega) (by omega)) ?_
   rintro v w5 ⟨rfl,rfl⟩
   refine ⟨_,rfl,hM,⟨by omega,by omega⟩,?_,trivial⟩
   rw [addl]
   refine semU_store1 (l:=fill (sched bs t)) (by kernel_rfl) (by kernel_rfl) rfl (w:=w2.drew.drew.drew) (E:=518) hM (by rw [fill_len (by omega)]; omega) λw7 ht7 hM7=>⟨?_,?_⟩
   ·rw [wrap_nat (by omega)]
    refine ⟨t+1,rfl,by omega,?_,(Mod.dr (Mod.dr (Mod.dr hm2))).fresh ht7.mod λx e=>by omega⟩
    rw [Nat.zero_add,Nat.mul_one] at hM7
    have e:sched bs (t+1)=sched bs t++[wnext bs (sched bs t) t]:=rfl
    rw [e,<-fill_next (by omega),hsl]
    unfold wnext
    rw [if_neg (by omega)]
    exact hM7
   ·rw [wrap_nat (by omega)]
    (try simp only []); omega
 ·have ht80:t=80:=by simp at h80; omega
  subst ht80
  obtain ⟨k0,k1,k2,k3,k4,k5,k6,k7,rfl⟩:=list8 hh
  have hp2:=hp.no hm2
  have hMf:fill (sched bs 80)=us (sched bs 80):=by unfold fill; rw [sched_len]; simp
  rw [hMf] at hM
  refine ⟨k0,k1,k2,k3,k4,k5,k6,k7,(hp2.rd (o:=0) (vs:=us [k0,k1,k2,k3,k4,k5,k6,k7]) λj v hj=>by
   rw [Nat.zero_add,List.getElem?_append_left (List.getElem?_eq_some_iff.1 hj).1,hj]),?_⟩
  refine sem_alloc (l:=List.replicate 8 z64) hj1 hj2 rfl λvB w8 hN8 hV8=>⟨_,rfl,?_⟩
  have hvat:=hN8.at_
  refine semU_store (vs:=us [k0,k1,k2,k3,k4,k5,k6,k7]) (by kernel_rfl) (by kernel_rfl) rfl hV8 (by simp) (us_one _) λw9 ht9 hV9=>?_
  have hM9:Blk w9 m (us (sched bs 80)) 518:=(hM.no hN8.mod).mod ht9.mod (by have:=hM.lt; omega)
  have hm9:Mod NoB w w9:=(hm2.tr hN8.mod).fresh ht9.mod λx e=>by have:=hm2.size; omega
  refine ⟨sched bs 80,sched_len bs 80,by rw [cellsL_us]; exact hM9.rd (o:=0) λj v hj=>by rw [Nat.zero_add]; exact hj,?_⟩
  have hvg:w.heap.size<=vB:=by have:=hm2.size; omega
  refine ⟨λl w'=>match l with | [.i _ x]=>∃ t:Nat,x=t/\t<=80/\Blk w' vB (us (rounds KS (sched bs 80) [k0,k1,k2,k3,k4,k5,k6,k7] t)) 389/\Mod NoB w w' | _=>False,λl _=>match l with | [.i _ x]=>(80 - x).toNat | _=>0,⟨0,rfl,by omega,hV9,hm9⟩,?_⟩
  rintro x w10 ⟨t,rfl,ht,hV,hm10⟩
  have hg10:=hg.no hm10
  refine condK_i (λh8=>?_) (λh8=>?_)
  ·have ht80:t<80:=by simp at h8; omega
   obtain ⟨a,b',c,d,e,f,g,k,hr⟩:=list8 (rounds_len (ks:=KS) (ws:=sched bs 80) (v:=[k0,k1,k2,k3,k4,k5,k6,k7]) rfl t)
   have hnext:rounds KS (sched bs 80) [k0,k1,k2,k3,k4,k5,k6,k7] (t+1)=rnd [a,b',c,d,e,f,g,k] (KS.getD t 0) ((sched bs 80).getD t 0):=by
    show rnd (rounds KS (sched bs 80) _ t) _ _=_
    rw [hr]
   rw [hr] at hV
   refine ⟨⟨by omega,by omega⟩,?_,(sched bs 80).getD t 0,?_,⟨by omega,by omega⟩,⟨by omega,by omega⟩,a,rda (w:=w10.drew) hV rfl,e,rda (w:=w10.drew) hV rfl,?_⟩
   ·intro z hz
    obtain ⟨y,_,rfl⟩:=List.mem_map.1 hz
    rfl
   ·rw [Int.toNat_natCast]
    have hlt:t<(sched bs 80).length:=by rw [sched_len]; omega
    rw [List.getElem?_map,List.getElem?_eq_getElem hlt,List.getD_eq_getElem?_getD,List.getElem?_eq_getElem hlt]
    rfl
   refine ⟨λw'=>Blk w' vB (us [a,b',c,d,e,f,g,k]) 389/\Glob w',⟨hV,hg10.drew.drew⟩,⟨by omega,by omega⟩,⟨by omega,by omega⟩,⟨by omega,by omega⟩,⟨by omega,by omega⟩,
    k,λw' h=>rda h.1 rfl,f,λw' h=>rda h.1 rfl,g,λw' h=>rda h.1 rfl,KS.getD t 0,λw' h=>Glob.k h.2 ht80,?_,trivial⟩
   refine callK_ret (c_mix (a:=14) (b:=18) (c:=41) (by omega) (by omega) (by omega)) ?_
   rintro v w5 ⟨rfl,rfl⟩
   refine ⟨_,rfl,⟨hV,hg10.drew.drew⟩,λw'=>Blk w' vB (us [a,b',c,d,e,f,g,k]) 389,hV,⟨by omega,by omega⟩,⟨by omega,by omega⟩,⟨by omega,by omega⟩,⟨by omega,by omega⟩,
    b',λw' h=>rda h rfl,c,λw' h=>rda h rfl,b',λw' h=>rda h rfl,c,λw' h=>rda h rfl,?_,trivial⟩
   refine callK_ret (c_mix (a:=28) (b:=34) (c:=39) (by omega) (by omega) (by omega)) ?_
   rintro v w5 ⟨rfl,rfl⟩
   refine ⟨_,rfl,hV,⟨by omega,by omega⟩,⟨by omega,by omega⟩,?_,trivial⟩
   obtain ⟨i4,h41,h42,h43,h44⟩:=i44
   have hVo:Sh.Own w10.drew.drew.drew.drew ⟨some ⟨vB,0,none⟩,8,8⟩ 1 (us [a,b',c,d,e,f,g,k]):=own_whole (n:=8) (k:=1) (T:=389) hV rfl
   have hsrc:SlRd w10.drew.drew.drew.drew (cutSl ⟨some ⟨vB,0,none⟩,8,8⟩ 1 0 7 8) 1 (us [a,b',c,d,e,f,g]):=hVo.rd.cut (l:=0) (n:=7) (m:=8) (by omega) (by simp only []; omega) (by omega) (by simp only []; omega)
   refine sem_copy (d:=cutSl ⟨some ⟨vB,0,none⟩,8,8⟩ 1 1 8 8) (x:=cutSl ⟨some ⟨vB,0,none⟩,8,8⟩ 1 0 7 8) (b:=vB) (o:=1) (T:=389) (l:=us [a,b',c,d,e,f,g,k]) u40 h41 h43 rfl hV (by simp [cutSl]) hsrc (us_one _) λw13 hV13 hm13 hs13=>⟨_,rfl,?_⟩
   have hV13':Blk w13 vB (us [a,a,b',c,d,e,f,g]) 389:=hV13
   refine ⟨⟨by omega,by omega⟩,d,rda hV13' rfl,⟨by omega,by omega⟩,?_⟩
   refine semU_store1 (b:=vB) (o:=0) (by kernel_rfl) (by kernel_rfl) rfl hV13' (by simp) λw14 ht14 hV14=>⟨⟨by omega,by omega⟩,?_⟩
   refine semU_store1 (b:=vB) (o:=4) (by kernel_rfl) (by kernel_rfl) rfl hV14 (by simp) λw15 ht15 hV15=>⟨?_,?_⟩
   ·rw [wrap_nat (by omega)]
    refine ⟨t+1,rfl,by omega,?_,?_⟩
    ·rw [hnext]
     exact hV15
    ·exact (((Mod.dr (Mod.dr (Mod.dr (Mod.dr hm10)))).fresh hm13 λx e=>by omega).fresh ht14.mod λx e=>by omega).fresh ht15.mod λx e=>by omega
   ·rw [wrap_nat (by omega)]
    (try simp only []); omega
  ·have ht80:t=80:=by simp at h8; omega
   subst ht80
   obtain ⟨hv,hvl⟩ : ∃ hv,hv=rounds KS (sched bs 80) [k0,k1,k2,k3,k4,k5,k6,k7] 80:=⟨_,rfl⟩
   have hvlen:hv.length=8:=by rw [hvl]; exact rounds_len rfl 80
   rw [<-hvl] at hV
   have hcomp:comp KS [k0,k1,k2,k3,k4,k5,k6,k7] bs=List.zipWith (λx y=>x+y) [k0,k1,k2,k3,k4,k5,k6,k7] hv:=by rw [hvl]; rfl
   rw [hcomp]
   clear hcomp hvl
   obtain ⟨hk,hkl⟩ : ∃ hk,hk=[k0,k1,k2,k3,k4,k5,k6,k7]:=⟨_,rfl⟩
   rw [<-hkl] at hp ⊢
   have hkn:hk.length=8:=by rw [hkl]; rfl
   clear hkl
   have hpv:p≠vB:=by omega
   refine ⟨λl w'=>match l with | [.i _ x]=>∃ i:Nat,x=i/\i<=8/\Blk w' p (us (List.zipWith (λx y=>x+y) (hk.take i) (hv.take i)++hk.drop i)++r) T/\Blk w' vB (us hv) 389/\Mod (λx=>x=p) w w' | _=>False,λl _=>match l with | [.i _ x]=>(8 - x).toNat | _=>0,
    ⟨0,rfl,by omega,by simpa using hp.no hm10,hV,hm10.mono λ_ _ e=>e.elim⟩,?_⟩
   rintro x w16 ⟨i,rfl,hi,hP,hV,hm16⟩
   refine condK_i (λh8=>?_) (λh8=>?_)
   ·have hi8:i<8:=by simp at h8; omega
    have hzl:(List.zipWith (λx y=>x+y) (hk.take i) (hv.take i)).length=i:=by simp; omega
    have hget:(us (List.zipWith (λx y=>x+y) (hk.take i) (hv.take i)++hk.drop i)++r)[i]? = some (.int .u64 hk[i].toNat):=by
     rw [List.getElem?_append_left (by simp; omega),us_app,List.getElem?_append_right (by simp; omega)]
     simp only [us_len,hzl,Nat.sub_self]
     rw [us_at (by simp; omega)]
     simp
    refine ⟨λw'=>Blk w' p (us (List.zipWith (λx y=>x+y) (hk.take i) (hv.take i)++hk.drop i)++r) T/\Blk w' vB (us hv) 389,⟨hP,hV⟩,⟨by omega,by omega⟩,⟨by omega,by omega⟩,
     hk[i],λw' h=>rda h.1 hget,hv[i],λw' h=>rda h.2 (us_at (by omega)),⟨by omega,by omega⟩,?_,trivial⟩
    rw [addl]
    refine semU_store1 (l:=us (List.zipWith (λx y=>x+y) (hk.take i) (hv.take i)++hk.drop i)++r) (w:=w16.drew) (E:=T) (by kernel_rfl) (by kernel_rfl) rfl hP (by simp; omega) λw17 ht17 hP17=>⟨?_,?_⟩
    ·rw [wrap_nat (by omega)]
     refine ⟨i+1,rfl,by omega,?_,Blk.mod (w:=w16.drew) hV ht17.mod (λe=>hpv e.symm),(Mod.dr hm16).tr ht17.mod⟩
     rw [Nat.zero_add,Int.toNat_natCast,Nat.mul_one,List.set_append_left _ _ (by simp; omega),zip_step hkn hvlen hi8] at hP17
     exact hP17
    ·rw [wrap_nat (by omega)]
     (try simp only []); omega
   ·have hi8:i=8:=by simp at h8; omega
    subst hi8
    refine ⟨rfl,?_,hm16⟩
    rw [List.take_of_length_le (by omega),List.take_of_length_le (by omega),List.drop_eq_nil_of_le (by omega),List.append_nil] at hP
    exact hP
def HW (st:List UInt64) (s:Slc) (n:UInt64):List Value:=us st++[s.val,.int .u64 n.toNat,.bool true]
section
variable {st:List UInt64} {s:Slc} {n:UInt64}
theorem hw8 (h:st.length=8):(HW st s n)[8]? = some s.val:=by unfold HW; rw [List.getElem?_append_right (by simp [h])]; simp [h]
theorem hw9 (h:st.length=8):(HW st s n)[9]? = some (.int .u64 n.toNat):=by unfold HW; rw [List.getElem?_append_right (by simp [h])]; simp [h]
theorem hw10 (h:st.length=8):(HW st s n)[10]? = some (.bool true):=by unfold HW; rw [List.getElem?_append_right (by simp [h])]; simp [h]
theorem hw_len (h:st.length=8):(HW st s n).length=11:=by simp [HW,h]
theorem hw_set8 (h:st.length=8) (s':Slc):(HW st s n).set 8 s'.val=HW st s' n:=by
 unfold HW; rw [List.set_append_right _ _ (by simp [h])]; simp [h]
theorem hw_set9 (h:st.length=8) (n':UInt64):(HW st s n).set 9 (.int .u64 n'.toNat)=HW st s n':=by
 unfold HW; rw [List.set_append_right _ _ (by simp [h])]; simp [h]
end
abbrev THash:TypeId:=391
structure HashAt (w:World) (p:Nat) (s:Slc) (b:List UInt8):Prop where
 blk:Blk w p (HW (state KS H0 b) s (UInt64.ofNat b.length)) THash
 own:Sh.Own w s 1 (bys (rest b))
 ne:s.blk≠some p
 pg : ¬ isG p
 sg : ∀ x,s.blk=some x->¬ isG x
theorem HashAt.mod {w w':World} {p:Nat} {s:Slc} {b:List UInt8} {S:Nat->Prop} (h:HashAt w p s b) (hm:Mod S w w') (hp : ¬ S p) (hs : ∀ x,s.blk=some x->¬ S x):HashAt w' p s b:=
 ⟨h.blk.mod hm hp,h.own.mod hm hs,h.ne,h.pg,h.sg⟩
theorem HashAt.no {w w':World} {p:Nat} {s:Slc} {b:List UInt8} (h:HashAt w p s b) (hm:Mod NoB w w'):HashAt w' p s b:=h.mod hm (λh=>h) λ_ _ h=>h
theorem st_len (b:List UInt8):(state KS H0 b).length=8:=state_len H0_len
theorem c_there {w:World} {p:Nat} {st:List UInt64} {s:Slc} {n:UInt64} (h:Blk w p (HW st s n) THash) (hst:st.length=8) :
 Calls Tryz.prog 244 #[.pointer (some ⟨p,0,none⟩)] w (Ret λv w'=>v = .bool true/\w'=w):=by
 refine call244 _ ?_
 unfold sh244
 refine ps_neq_ptr (e:=THash) (by kernel_rfl) ⟨_,rfl,true,?_,rfl,rfl⟩
 exact h.rd1 (o:=10) (hw10 hst)
structure Mid (w0 w':World) (p:Nat) (s0:Slc) (X:Nat->Prop) (b' c:List UInt8) (n':UInt64) (q:Slc):Prop where
 ex : ∃ (s3:Slc) (c1 c2:List UInt8),c=c1++c2/\(rest b'++c1).length % 128=0/\SlRd w' q 1 (bys c2)/\(∀ x,q.blk=some x->X x)/\
  Blk w' p (HW (absorb KS (state KS H0 b') (rest b'++c1) ((rest b'++c1).length / 128)) s3 n') THash/\Sh.Own w' s3 1 (bys [])/\BO w0 s0 s3
 mod:Mod (λx=>x=p\/s0.blk=some x) w0 w'
set_option maxRecDepth 10000 in
theorem c_write {w:World} {p:Nat} {s:Slc} {b:List UInt8} {parts:Slc} {pl:List (List UInt8)} {X:Nat->Prop} (h:HashAt w p s b) (hg:Glob w) (hp:PartsAt w parts pl X)
 (hXp : ¬ X p) (hXs : ∀ x,s.blk=some x->¬ X x) (hXl : ∀ x,X x->x<w.heap.size) (hn:b.length+(pl.flatten).length<=1000000000) (hm:pl.length<=1000000000) :
 Calls Tryz.prog 158 #[.pointer (some ⟨p,0,none⟩),.slice parts.a parts.len parts.cap] w (Ret λv w'=>v = .int .i64 0/\∃ s',HashAt w' p s' (b++pl.flatten)/\BO w s s'/\Mod (λx=>x=p\/s.blk=some x) w w'):=by
 refine call158 _ _ ?_
 unfold sh158
 refine callK_ret (c_there h.blk (st_len b)) ?_
 rintro v w1 ⟨rfl,rfl⟩
 refine ⟨true,rfl,?_⟩
 show condK false _ _
 refine condK_i (λe=>by cases e) λ_=>?_
 obtain ⟨i5',h51,h52,h53,h54⟩:=i5
 have hpl:=h.blk.lt
 have hY : ∀ x,s.blk=some x->¬ (x=p\/isG x\/X x):=λx hx e=>e.elim (λe=>h.ne (by rw [hx,e])) λe=>e.elim (h.sg x hx) (hXs x hx)
 have hYl : ∀ x,(x=p\/isG x\/X x)->x<w1.heap.size:=λx e=>e.elim (λe=>by omega) λe=>e.elim hg.lt (hXl x)
 have hBs : ∀ x,s.blk=some x->(x=p\/s.blk=some x):=λx hx=>.inr hx
 have hXn : ∀ x,X x->¬ (x=p\/s.blk=some x):=λx hx e=>e.elim (λe=>hXp (by rw [<-e]; exact hx)) λe=>hXs x e hx
 have hGn : ∀ x,isG x->¬ (x=p\/s.blk=some x):=λx hx e=>e.elim (λe=>h.pg (by rw [<-e]; exact hx)) λe=>h.sg x e hx
 obtain ⟨ss,hr10,hr2,hr3,hr4⟩:=hp
 refine ⟨λl w'=>match l with | [.i _ x]=>∃ i:Nat,x=i/\i<=pl.length/\(∃ s',HashAt w' p s' (b++(pl.take i).flatten)/\BO w1 s s')/\Mod (λx=>x=p\/s.blk=some x) w1 w' | _=>False,
  λl _=>match l with | [.i _ x]=>(pl.length - x).toNat | _=>0,⟨0,rfl,by omega,⟨s,by simpa using h,BO.refl _ _⟩,Mod.refl _ _⟩,?_⟩
 rintro x w2 ⟨i,rfl,hi,⟨s2,h2,hb2⟩,hm2⟩
 have hr1:=hr10.mod hm2 λx hx=>hXn x (hr2 x hx)
 have hpn:parts.len=pl.length:=by have:=hr1.1; simp at this; omega
 refine condK_i (λhc=>?_) (λhc=>?_)
 ·have hi':i<pl.length:=by simp at hc; omega
  obtain ⟨a,ha,hrd⟩:=rd_slc hr1 (i:=i) (by omega)
  obtain ⟨hrs0,hrx⟩:=hr4 i (by omega) hi'
  have hrs:=hrs0.mod hm2 λx hx=>hXn x (hrx x hx)
  obtain ⟨q,hq⟩ : ∃ q,q=ss[i]'(by omega):=⟨_,rfl⟩
  rw [<-hq] at hrd hrs hrx hrs0
  obtain ⟨c,hcd⟩ : ∃ c,c=pl[i]:=⟨_,rfl⟩
  rw [<-hcd] at hrs hrs0
  obtain ⟨b',hbd⟩ : ∃ b',b'=b++(pl.take i).flatten:=⟨_,rfl⟩
  rw [<-hbd] at h2
  have hb'n:b'.length+c.length<=1000000000:=by
   have e1:pl.flatten=(pl.take i).flatten++c++(pl.drop (i+1)).flatten:=by
    conv=>lhs; rw [<-List.take_append_drop (i+1) pl]
    rw [List.flatten_append,take_snoc hi',List.flatten_append,hcd]
    simp
   have:=congrArg List.length e1
   simp only [List.length_append] at this
   rw [hbd,List.length_append]; omega
  have hnx:b++(pl.take (i+1)).flatten=b'++c:=by rw [take_snoc hi',List.flatten_append,hbd,hcd]; simp
  have hcl:=rd_len8 hrs
  have hqc:=hrs.2.1
  rw [ha]
  have hst:=st_len b'
  have hrl:=rest_len b'
  refine ⟨⟨by omega,by omega⟩,q,hrd,UInt64.ofNat b'.length,h2.blk.rd1 (o:=9) (hw9 hst),?_⟩
  have hmany:UInt64.ofNat b'.length+u64OfInt (q.len:Int)=UInt64.ofNat (b'++c).length:=by
   rw [List.length_append,hcl]
   apply UInt64.toNat_inj.1
   have hu:(u64OfInt (q.len:Int)).toNat=q.len:=by unfold u64OfInt; simp [UInt64.toNat_ofNat']; omega
   rw [UInt64.toNat_add,hu]
   simp [UInt64.toNat_ofNat']
  rw [hmany]
  refine semU_store1 (b:=p) (o:=9) (by kernel_rfl) (by kernel_rfl) rfl h2.blk (by rw [hw_len hst]; omega) λw3 ht3 hB3=>?_
  rw [hw_set9 hst] at hB3
  have hm3:Mod (λx=>x=p\/s.blk=some x) w1 w3:=hm2.tr (ht3.mod.mono λ_ _ e=>.inl e)
  have ho3:Sh.Own w3 s2 1 (bys (rest b')):=h2.own.mod ht3.mod λx hx e=>h2.ne (by rw [hx,e])
  have hrs3:SlRd w3 q 1 (bys c):=hrs.mod ht3.mod λx hx e=>hXp (by rw [<-e]; exact hrx x hx)
  have hol:(rest b').length=s2.len:=by have:=ho3.1; simpa using this
  have hend : ∀ (w':World) (s':Slc),HashAt w' p s' (b'++c)->BO w1 s s'->Mod (λx=>x=p\/s.blk=some x) w1 w'->
   ∃ i':Nat,IntKind.i64.wrap ((i:Int)+(1:Int))=i'/\i'<=pl.length/\(∃ s',HashAt w' p s' (b++(pl.take i').flatten)/\BO w1 s s')/\Mod (λx=>x=p\/s.blk=some x) w1 w':=λw' s' ha hb hm=>
   ⟨i+1,wrap_nat (by omega),by omega,⟨s',by rw [hnx]; exact ha,hb⟩,hm⟩
  have hmu:(pl.length - IntKind.i64.wrap ((i:Int)+(1:Int))).toNat<((pl.length:Int) - i).toNat:=by rw [wrap_nat (by omega)]; omega
  refine ⟨λl w'=>match l with | [.sl q']=>Mid w1 w' p s X b' c (UInt64.ofNat (b'++c).length) q' | _=>False,⟨s2,hB3.rd1 (o:=8) (hw8 hst),s2,hB3.rd1 (o:=8) (hw8 hst),?_⟩,?_⟩
  ·refine condK_i (λhl=>?_) (λhl=>?_)
   ·have hs2:0<s2.len:=by simpa using hl
    have e1:IntKind.i64.wrap ((128:Int) - (s2.len:Int))=((128 - s2.len:Nat):Int):=by rw [wrap_i64 (by omega)]; omega
    rw [e1]
    obtain ⟨n0,hn0⟩ : ∃ n0,n0=min (128 - s2.len) q.len:=⟨_,rfl⟩
    have e2:(if (q.len:Int)<((128 - s2.len:Nat):Int) then (q.len:Int) else ((128 - s2.len:Nat):Int))=(n0:Int):=by split <;> omega
    rw [e2]
    simp only [Int.toNat_natCast]
    have hcut:=SlRd.cut (SlRd.drew hrs3) (l:=0) (n:=n0) (m:=q.cap) (by omega) (by omega) (by omega) (Nat.le_refl _)
    rw [Nat.sub_zero,bys_cut,List.drop_zero] at hcut
    refine ⟨λw'=>Blk w' p (HW (state KS H0 b') s2 (UInt64.ofNat (b'++c).length)) THash,hB3,⟨by omega,by omega⟩,⟨by omega,by omega⟩,s2,λw' h=>h.rd1 (o:=8) (hw8 hst),?_,trivial⟩
    refine sem_append u26 h51 h52 h53 rfl h54 (w:=w3.drew) ho3 hcut (bys_one _) (by simp only [cutSl]; omega) (by simp only [cutSl]; omega) λs4 w4 ho4 hlen4 hblk4 hm4=>⟨s4,rfl,?_⟩
    rw [<-bys_app] at ho4
    have hlen4':s4.len=s2.len+n0:=by simpa [cutSl] using hlen4
    have hm3d:Mod (λx=>x=p\/s.blk=some x) w1 w3.drew:=Mod.dr hm3
    have hm4':=hb2.mod hm3d hBs hm4
    have hb4:BO w1 s s4:=hb2.step hm3d.size hblk4
    have hB4:Blk w4 p (HW (state KS H0 b') s2 (UInt64.ofNat (b'++c).length)) THash:=Blk.mod (w:=w3.drew) hB3 hm4 h2.ne
    have hno4:=hb4.not hY hYl
    refine ⟨semU_store1 (b:=p) (o:=8) (by kernel_rfl) (by kernel_rfl) rfl hB4 (by rw [hw_len hst]; omega) λw5 ht5 hB5=>?_,trivial⟩
    have hB5:Blk w5 p (HW (state KS H0 b') s4 (UInt64.ofNat (b'++c).length)) THash:=by rw [<-hw_set8 hst s4]; exact hB5
    have ho5:Sh.Own w5 s4 1 (bys (rest b'++c.take n0)):=ho4.mod ht5.mod λx hx e=>hno4 x hx (.inl e)
    have hm5:=hm4'.tr (ht5.mod.mono λ_ _ e=>.inl e)
    refine ⟨s4,hB5.rd1 (o:=8) (hw8 hst),condK_i (λh128=>?_) (λh128=>?_)⟩
    ·have h128':s4.len<128:=by simp at h128; omega
     have hn0c:n0=c.length:=by omega
     rw [hn0c,List.take_length] at ho5
     have hdiv:(rest b'++c).length / 128=0:=by rw [List.length_append]; omega
     have hs5:state KS H0 (b'++c)=state KS H0 b':=by rw [state_app,hdiv]; rfl
     have hr5:rest (b'++c)=rest b'++c:=by rw [rest_app,hdiv]; simp
     exact ⟨hend w5 s4 ⟨by rw [hs5]; exact hB5,by rw [hr5]; exact ho5,λe=>hno4 p e (.inl rfl),h.pg,λx hx e=>hno4 x hx (.inr (.inl e))⟩ hb4 hm5,hmu⟩
    ·have h128':s4.len=128:=by simp at h128; omega
     have hlb:(rest b'++c.take n0).length=128:=by have:=ho5.1; simp at this ⊢; omega
     have hg5:Glob w5:=hg.mod hm5 hGn
     refine ⟨λw'=>Blk w' p (HW (state KS H0 b') s4 (UInt64.ofNat (b'++c).length)) THash,hB5,s4,λw' h=>h.rd1 (o:=8) (hw8 hst),?_,trivial⟩
     have hcb:=c_block (w:=w5.drew) (p:=p) (h:=state KS H0 b') (T:=THash) (r:=[s4.val,.int .u64 (UInt64.ofNat (b'++c).length).toNat,.bool true]) hB5 hst (SlRd.drew ho5.rd) hlb hg5.drew h.pg
     refine callK_ret hcb ?_
     rintro v w6 ⟨rfl,hB6,hm6⟩
     have hB6:Blk w6 p (HW (comp KS (state KS H0 b') (rest b'++c.take n0)) s4 (UInt64.ofNat (b'++c).length)) THash:=hB6
     have hcl8:(comp KS (state KS H0 b') (rest b'++c.take n0)).length=8:=comp_len hst
     refine ⟨rfl,s4,hB6.rd1 (o:=8) (hw8 hcl8),⟨by omega,by omega⟩,?_⟩
     have ho6:Sh.Own w6 s4 1 (bys (rest b'++c.take n0)):=Own.mod (w:=w5.drew) ho5 hm6 λx hx e=>hno4 x hx (.inl e)
     have ho6c:=ho6.cut (l:=0) (n:=0) (m:=s4.cap) (by omega) (by omega) (by omega) (Nat.le_refl _)
     refine semU_store1 (b:=p) (o:=8) (by kernel_rfl) (by kernel_rfl) rfl hB6 (by rw [hw_len hcl8]; omega) λw7 ht7 hB7=>?_
     have hB7:Blk w7 p (HW (comp KS (state KS H0 b') (rest b'++c.take n0)) (cutSl s4 1 0 0 s4.cap) (UInt64.ofNat (b'++c).length)) THash:=by rw [<-hw_set8 hcl8 (cutSl s4 1 0 0 s4.cap)]; exact hB7
     have hno5:=(hb4.cut (k:=1) (l:=0) (n:=0) (m:=s4.cap) (Nat.le_refl _)).not hY hYl
     have hm7:=((Mod.dr hm5).tr (hm6.mono λ_ _ e=>.inl e)).tr (ht7.mod.mono λ_ _ e=>.inl e)
     have hrs5:SlRd w7 q 1 (bys c):=hrs0.mod hm7 λx hx=>hXn x (hrx x hx)
     ·have hcut7:=hrs5.cut (l:=n0) (n:=q.len) (m:=q.cap) (by omega) (Nat.le_refl _) (by omega) (Nat.le_refl _)
      rw [bys_cut] at hcut7
      refine ⟨⟨cutSl s4 1 0 0 s4.cap,c.take n0,c.drop n0,(List.take_append_drop n0 c).symm,by omega,?_,λx hx=>hrx x (blk_cut hx (Nat.le_refl _)),?_,?_,hb4.cut (Nat.le_refl _)⟩,hm7⟩
      ·rw [List.take_of_length_le (by rw [List.length_drop]; omega)] at hcut7
       exact hcut7
      ·have:(rest b'++c.take n0).length / 128=1:=by omega
       rw [this]
       have ha1:absorb KS (state KS H0 b') (rest b'++c.take n0) 1=comp KS (state KS H0 b') (rest b'++c.take n0):=by
        show comp KS (absorb KS (state KS H0 b') (rest b'++c.take n0) 0) _=_
        simp only [absorb,Nat.mul_zero,List.drop_zero]
        rw [List.take_of_length_le (by omega)]
       rw [ha1]
       exact hB7
      ·have:=ho6c.mod ht7.mod λx hx e=>hno5 x hx (.inl e)
       simpa [bys] using this
   ·have hs2:s2.len=0:=by simp at hl; omega
    have hr0:rest b'=[]:=List.eq_nil_of_length_eq_zero (by omega)
    rw [hr0] at ho3
    refine ⟨⟨s2,[],c,rfl,by rw [hr0]; rfl,hrs3,hrx,?_,ho3,hb2⟩,hm3⟩
    rw [hr0]
    exact hB3
  ·rintro q1 w8 hmid
   refine ⟨λl w'=>match l with | [.sl q']=>Mid w1 w' p s X b' c (UInt64.ofNat (b'++c).length) q' | _=>False,λl _=>match l with | [.sl q']=>q'.len | _=>0,hmid,?_⟩
   rintro q2 w9 ⟨⟨s3,c1,c2,hcc,hmod,hrq,hqx,hB9,ho9,hb9⟩,hm9⟩
   have hal:(absorb KS (state KS H0 b') (rest b'++c1) ((rest b'++c1).length / 128)).length=8:=absorb_len hst _
   have hc2:=rd_len8 hrq
   have hno9:=hb9.not hY hYl
   refine condK_i (λhl=>?_) (λhl=>?_)
   ·have hq128:128<=q2.len:=by simp at hl; omega
    have hqc2:=hrq.2.1
    have hcut:=SlRd.cut (SlRd.drew hrq) (l:=0) (n:=128) (m:=q2.cap) (by omega) (by omega) (by omega) (Nat.le_refl _)
    rw [Nat.sub_zero,bys_cut,List.drop_zero] at hcut
    have hg9:Glob w9:=hg.mod hm9 hGn
    refine ⟨⟨by omega,by omega⟩,?_,trivial⟩
    refine callK_ret (c_block (w:=w9.drew) (p:=p) (h:=absorb KS (state KS H0 b') (rest b'++c1) ((rest b'++c1).length / 128)) (T:=THash) (r:=[s3.val,.int .u64 (UInt64.ofNat (b'++c).length).toNat,.bool true]) hB9 hal hcut (by rw [List.length_take]; omega) hg9.drew h.pg) ?_
    rintro v w10 ⟨rfl,hB10,hm10⟩
    have hrq10:SlRd w10 q2 1 (bys c2):=SlRd.mod (w:=w9.drew) hrq hm10 λx hx e=>hXp (by rw [<-e]; exact hqx x hx)
    have hcut2:=hrq10.cut (l:=128) (n:=q2.len) (m:=q2.cap) (by omega) (Nat.le_refl _) (by omega) (Nat.le_refl _)
    rw [bys_cut,List.take_of_length_le (by rw [List.length_drop]; omega)] at hcut2
    refine ⟨rfl,⟨by omega,by omega⟩,⟨⟨s3,c1++c2.take 128,c2.drop 128,by rw [hcc,List.append_assoc,List.take_append_drop],?_,hcut2,λx hx=>hqx x (blk_cut hx (Nat.le_refl _)),?_,Own.mod (w:=w9.drew) ho9 hm10 λx hx e=>hno9 x hx (.inl e),hb9⟩,(Mod.dr hm9).tr (hm10.mono λ_ _ e=>.inl e)⟩,by simp only [cutSl]; omega⟩
    ·rw [<-List.append_assoc,List.length_append,List.length_take]; omega
    ·have hl2:(rest b'++(c1++c2.take 128)).length / 128=(rest b'++c1).length / 128+1:=by rw [<-List.append_assoc,List.length_append,List.length_take]; omega
     rw [hl2,<-List.append_assoc]
     have e3:=absorb_add (ks:=KS) (h:=state KS H0 b') (a:=rest b'++c1) (b:=c2.take 128) (m:=(rest b'++c1).length / 128) (by omega) 1
     rw [e3]
     have ha1 : ∀ st,absorb KS st (c2.take 128) 1=comp KS st (c2.take 128):=λst=>by
      show comp KS (absorb KS st (c2.take 128) 0) _=_
      simp only [absorb,Nat.mul_zero,List.drop_zero,List.take_take,Nat.min_self]
     rw [ha1]
     exact hB10
   ·have hq128:q2.len<128:=by simp at hl; omega
    refine ⟨s3,hB9.rd1 (o:=8) (hw8 hal),?_⟩
    have hs3:s3.len=0:=by have:=ho9.1; simp [bys] at this; omega
    refine sem_append u26 h51 h52 h53 rfl h54 ho9 hrq (bys_one _) (by omega) (by omega) λs4 w10 ho10 hlen10 hblk10 hm10=>⟨s4,rfl,?_⟩
    rw [<-bys_app,List.nil_append] at ho10
    have hm10':=hb9.mod hm9 hBs hm10
    have hb10:BO w1 s s4:=hb9.step hm9.size hblk10
    have hno10:=hb10.not hY hYl
    have hB10:=hB9.mod hm10 λe=>hno9 p e (.inl rfl)
    refine semU_store1 (b:=p) (o:=8) (by kernel_rfl) (by kernel_rfl) rfl hB10 (by rw [hw_len hal]; omega) λw11 ht11 hB11=>⟨hend w11 s4 ⟨?_,?_,λe=>hno10 p e (.inl rfl),h.pg,λx hx e=>hno10 x hx (.inr (.inl e))⟩ hb10 (hm10'.tr (ht11.mod.mono λ_ _ e=>.inl e)),hmu⟩
    ·have hdiv:(rest b'++c).length / 128=(rest b'++c1).length / 128:=by rw [hcc,<-List.append_assoc,List.length_append]; omega
     have:state KS H0 (b'++c)=absorb KS (state KS H0 b') (rest b'++c1) ((rest b'++c1).length / 128):=by
      rw [state_app,hdiv]
      conv=>lhs; rw [hcc,<-List.append_assoc]
      exact absorb_eq _ (by omega)
     rw [this,<-hw_set8 hal s4]
     exact hB11
    ·have hdiv:(rest b'++c).length / 128=(rest b'++c1).length / 128:=by rw [hcc,<-List.append_assoc,List.length_append]; omega
     have:rest (b'++c)=c2:=by
      rw [rest_app,hdiv,hcc,<-List.append_assoc,List.drop_append,List.drop_eq_nil_of_le (by omega),List.nil_append]
      have:128*((rest b'++c1).length / 128) - (rest b'++c1).length=0:=by omega
      rw [this,List.drop_zero]
     rw [this]
     exact ho10.mod ht11.mod λx hx e=>hno10 x hx (.inl e)
 ·have hi':i=pl.length:=by simp at hc; omega
  subst hi'
  rw [List.take_length] at h2
  exact ⟨rfl,s2,h2,hb2,hm2⟩
theorem c_new {w:World} (hg:Glob w):Calls Tryz.prog 157 #[] w (Ret λv w'=>∃ p,v = .pointer (some ⟨p,0,none⟩)/\HashAt w' p ⟨none,0,0⟩ []/\p=w.heap.size/\w'.heap.size=p+1/\Mod NoB w w'):=by
 refine call157 ?_
 unfold sh157
 refine ⟨_,_,_,_,_,_,_,_,hg.begin0,?_⟩
 refine sem_box (l:=HW H0 ⟨none,0,0⟩ 0) rfl λp w1 hN hb=>⟨_,rfl,p,rfl,⟨hb,own_nil _ _,by simp,hg.fresh (by rw [hN.at_]; exact Nat.le_refl _),by simp⟩,hN.at_,hN.size,hN.mod⟩
theorem c_clone {w:World} {s:Slc} {l:List UInt8} (hs:SlRd w s 1 (bys l)) (hn:l.length<=1000000000) :
 Calls Tryz.prog 29 #[.slice s.a s.len s.cap] w (Ret λv w'=>∃ s',v=s'.val/\Sh.Own w' s' 1 (bys l)/\(s'.blk=none\/∃ x,s'.blk=some x/\w.heap.size<=x)/\Mod NoB w w'):=by
 obtain ⟨i5',h51,h52,h53,h54⟩:=i5
 have hl:=rd_len8 hs
 refine call29 _ ?_
 unfold sh29
 refine ps_eql_slc (e:=5) u26 ⟨_,rfl,condK_i (λh=>?_) (λh=>?_)⟩
 ·have:l=[]:=by
   rcases hs.2.2 with h0 | ⟨b,e1,_⟩
   ·exact bys_inj (b:=[]) h0
   ·rw [e1] at h; simp at h
  subst this
  exact ⟨⟨none,0,0⟩,rfl,own_nil _ _,.inl rfl,Mod.refl _ _⟩
 ·refine sem_lit0 u26 h51 λb w1 hN=>⟨⟨some ⟨b,0,none⟩,0,0⟩,rfl,?_⟩
  refine sem_append (s:=⟨some ⟨b,0,none⟩,0,0⟩) u26 h51 h52 h53 rfl h54 (own_zero _ _ _) (hs.no hN.mod) (bys_one _) (by simp only []; omega) (by simp only []; omega) λs' w2 ho hlen hblk hm=>⟨s',rfl,s',rfl,by simpa using ho,?_,?_⟩
  ·rcases hblk with h | h
   ·exact .inl (by rw [h]; simp)
   ·exact .inr ⟨_,h,hN.mod.size⟩
  ·exact hN.mod.fresh hm λx e=>by simp at e
theorem c_copy {w:World} {p:Nat} {s:Slc} {b:List UInt8} (h:HashAt w p s b) (hg:Glob w) (hn:b.length<=1000000000) :
 Calls Tryz.prog 246 #[.pointer (some ⟨p,0,none⟩)] w (Ret λv w'=>∃ p' s',v = .pointer (some ⟨p',0,none⟩)/\HashAt w' p' s' b/\w.heap.size<=p'/\(s'.blk=none\/∃ x,s'.blk=some x/\w.heap.size<=x)/\Mod NoB w w'):=by
 refine call246 _ ?_
 unfold sh246
 refine callK_ret (c_there h.blk (st_len b)) ?_
 rintro v w1 ⟨rfl,rfl⟩
 refine ⟨true,rfl,?_⟩
 show condK false _ _
 refine condK_i (λe=>by cases e) λ_=>?_
 obtain ⟨ih,hi1,hi2,-,-⟩:=(info_of (by kernel_rfl) (by kernel_rfl) (by kernel_rfl) : ∃ i,Tryz.prog.info? 391=some i/\i.zero=some (.agg (List.replicate 8 z64++[.slice none 0 0,z64,.bool false]).toArray)/\i.size=11/\i.bytes=104)
 obtain ⟨k0,k1,k2,k3,k4,k5,k6,k7,hk⟩:=list8 (st_len b)
 have hB:=h.blk
 rw [hk] at hB
 have hpl:=h.blk.lt
 refine ⟨k0,k1,k2,k3,k4,k5,k6,k7,s,UInt64.ofNat b.length,true,hB.rd (o:=0) (vs:=HW [k0,k1,k2,k3,k4,k5,k6,k7] s (UInt64.ofNat b.length)) (λj v hj=>by rw [Nat.zero_add]; exact hj),?_⟩
 refine sem_alloc (l:=List.replicate 8 z64++[.slice none 0 0,z64,.bool false]) hi1 hi2 rfl λp' w2 hN hb2=>⟨_,rfl,?_⟩
 have hat:=hN.at_; have hsz:=hN.size
 refine semU_store (b:=p') (o:=0) (vs:=HW [k0,k1,k2,k3,k4,k5,k6,k7] s (UInt64.ofNat b.length)) (by kernel_rfl) (by kernel_rfl) rfl hb2 (by simp [HW]) (by
  intro u hu
  rcases List.mem_append.1 hu with hu | hu
  ·exact us_one _ u hu
  ·simp at hu; rcases hu with rfl | rfl | rfl <;> rfl) λw3 ht3 hb3=>?_
 have hb3:Blk w3 p' (HW [k0,k1,k2,k3,k4,k5,k6,k7] s (UInt64.ofNat b.length)) THash:=hb3
 have hm3:Mod NoB w1 w3:=hN.mod.fresh ht3.mod λx e=>by omega
 have hB3:=h.blk.no hm3
 refine ⟨s,hB3.rd1 (o:=8) (hw8 (st_len b)),?_⟩
 have ho3:=h.own.no hm3
 refine callK_ret (c_clone ho3.rd (by rw [rest_len]; omega)) ?_
 rintro v w4 ⟨s',rfl,ho4,hblk4,hm4⟩
 refine ⟨s',rfl,?_⟩
 have hb4:=hb3.no hm4
 have hsz3:=ht3.size
 have hno : ∀ x,s'.blk=some x->w3.heap.size<=x:=λx hx=>by
  rcases hblk4 with e | ⟨y,e,hy⟩
  ·rw [e] at hx; cases hx
  ·rw [e] at hx; cases hx; exact hy
 refine semU_store1 (b:=p') (o:=8) (by kernel_rfl) (by kernel_rfl) rfl hb4 (by simp [HW]) λw5 ht5 hb5=>⟨p',s',rfl,⟨?_,?_,?_,hg.fresh (by omega),λx hx=>hg.fresh (by have:=hno x hx; omega)⟩,by omega,?_,?_⟩
 ·have:(HW [k0,k1,k2,k3,k4,k5,k6,k7] s (UInt64.ofNat b.length)).set 8 s'.val=HW [k0,k1,k2,k3,k4,k5,k6,k7] s' (UInt64.ofNat b.length):=rfl
  rw [hk,<-this]; exact hb5
 ·exact ho4.mod ht5.mod λx hx e=>by have:=hno x hx; omega
 ·intro e; have:=hno p' e; omega
 ·rcases hblk4 with e | ⟨y,e,hy⟩
  ·exact .inl e
  ·exact .inr ⟨y,e,by omega⟩
 ·exact (hm3.tr hm4).fresh ht5.mod λx e=>by omega
end Go.Proofs.YtmgcoepbccgjfaaGreatDoor
end
