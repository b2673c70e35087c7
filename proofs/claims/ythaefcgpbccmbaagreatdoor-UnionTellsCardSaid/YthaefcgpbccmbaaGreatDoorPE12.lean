/- The forms of the translated functions,their contracts and the plain laws behind them,put together by a program. -/
import Derived.Test.YthaefcgpbccmbaaGreatDoorPE11
import Derived.Test.YthaefcgpbccmbaaGreatDoorProg
set_option linter.unusedSimpArgs false
set_option linter.unusedVariables false
set_option maxRecDepth 100000
set_option maxHeartbeats 4000000
section
namespace Go.Proofs.YthaefcgpbccmbaaGreatDoor
open Go Go.Sh
open Go.Proofs.Tryz
def qXP (a b c:Slc) (w:World) (R:RW):Prop:=
 aH prog (Instr.buildSlice 77 3 #[(0,(zS a)),(1,(zS b)),(2,(zS c))]) w λv w1=>∃ x:Slc,v=(zS x)/\aD prog 257 [zS x] w1 (aG R) λv1 w2=>∃ x1:Bool,v1=(.bool x1)/\aE (!x1) (R (.returned (.slice none 0 0)) w2) (aH prog (Instr.makeSlice 187 (.int .i64 66) (.int .i64 66)) w2 λv2 w3=>∃ x2:Slc,v2=(zS x2)/\∃ (inv:zT) (mu:zU),inv [.i .i64 0] w3/\(∀ x3:Int,∀ w4:World,inv [.i .i64 x3] w4->aE (decide (x3<32)) (∃ sx:zP,sx w4.drew/\(zB x3 x2.len/\aA x2.a λa1=>(zB x3 c.len/\aA c.a λa2=>∃ x4:UInt64,(∀ w',sx w'->Rd w' (a1.add (x3.toNat*1)) [.int .u64 x4.toNat])/\∃ x5:UInt8,(∀ w',sx w'->Rd w' (a2.add (x3.toNat*1)) [.int .u8 x5.toNat])/\(zB x3 x2.len/\aA x2.a λa3=>((aJ prog (storeVar 188 (a3.add (x3.toNat*1)) (.int .u64 ((x4+(x5).toUInt64)).toNat)) w4.drew λw5=>∃ (inv1:zT) (mu1:zU),inv1 [.i .i64 0] w5/\(∀ x6:Int,∀ w6:World,inv1 [.i .i64 x6] w6->aE (decide (x6<32)) (∃ sx1:zP,sx1 w6.drew/\((0<=(zW (x3+x6))/\(zW (x3+x6))<(x2.len:Nat))/\aA x2.a λa4=>(zB x3 a.len/\aA a.a λa5=>(zB x6 b.len/\aA b.a λa6=>∃ x7:UInt64,(∀ w',sx1 w'->Rd w' (a4.add (((zW (x3+x6))).toNat*1)) [.int .u64 x7.toNat])/\∃ x8:UInt8,(∀ w',sx1 w'->Rd w' (a5.add (x3.toNat*1)) [.int .u8 x8.toNat])/\∃ x9:UInt8,(∀ w',sx1 w'->Rd w' (a6.add (x6.toNat*1)) [.int .u8 x9.toNat])/\((0<=(zW (x3+x6))/\(zW (x3+x6))<(x2.len:Nat))/\aA x2.a λa7=>((aJ prog (storeVar 188 (a7.add (((zW (x3+x6))).toNat*1)) (.int .u64 ((x7+((x8).toUInt64*(x9).toUInt64))).toNat)) w6.drew λw7=>(inv1 [.i .i64 (zW (x6+1))] w7/\mu1 [.i .i64 (zW (x6+1))] w7<mu1 [.i .i64 x6] w6))/\True)))))) ((inv [.i .i64 (zW (x3+1))] w6/\mu [.i .i64 (zW (x3+1))] w6<mu [.i .i64 x3] w4))))/\True))))) (aH prog (Instr.makeSlice 38 (.int .i64 x2.len) (.int .i64 x2.len)) w4 λv3 w8=>∃ x10:Slc,v3=(zS x10)/\∃ (inv2:zT) (mu2:zU),inv2 [.u64 (0:UInt64),.i .i64 0] w8/\(∀ carry:UInt64,∀ x11:Int,∀ w9:World,inv2 [.u64 carry,.i .i64 x11] w9->aE (decide (x11<x2.len)) ((zB x11 x2.len/\aA x2.a λa8=>∃ x12:UInt64,Rd w9 (a8.add (x11.toNat*1)) [.int .u64 x12.toNat]/\(zB x11 x10.len/\aA x10.a λa9=>aJ prog (storeVar 5 (a9.add (x11.toNat*1)) (.int .u8 (((carry+x12)).toUInt8).toNat)) w9 λw10=>(0<=(((8:UInt64)).toNat:Int)/\(inv2 [.u64 (aM (carry+x12) ((((8:UInt64)).toNat:Int)).toNat),.i .i64 (zW (x11+1))] w10/\mu2 [.u64 (aM (carry+x12) ((((8:UInt64)).toNat:Int)).toNat),.i .i64 (zW (x11+1))] w10<mu2 [.u64 carry,.i .i64 x11] w9))))) (aD prog 258 [zS x10] w9 (aG R) λv4 w11=>∃ x13:Slc,v4=(zS x13)/\R (.returned (zS x13)) w11)))))
theorem qMA (a b c:Slc) {w:World} {R:RW} (h9:qXP a b c w R):Calls prog 192 #[zS a,zS b,zS c] w R:=
 zC (q0 .z (q0 (q0 .z (.cond (q0 .z .z) .z)) (q0 .z (q0 (q0 .z (.block none (.loop [(21,(.i .i64))] (q0 .z (q0 (.cond .z .z) (q0 (.block none (q0 .z (q0 (.draw 1 (.take 0 (.take 1 (.take 2 (.take 4 (.take 5 (.take 6 (.take 3 (.take 7 (.take 8 (.take 9 (.take 10 (.all [(11,.done)]))))))))))))) (q0 .z (.block none (.loop [(35,(.i .i64))] (q0 .z (q0 (.cond .z .z) (q0 (.block none (q0 .z (.draw 1 (.take 0 (.take 1 (.take 2 (.take 3 (.take 4 (.take 6 (.take 7 (.take 8 (.take 11 (.take 12 (.take 13 (.take 5 (.take 9 (.take 10 (.take 14 (.take 15 (.take 16 (.take 17 (.take 18 (.all [(19,.done)]))))))))))))))))))))))) .z))))))))) .z)))))) (q0 .z (q0 .z (q0 (q0 .z (.block none (.loop [(11,.u64),(64,(.i .i64))] (q0 .z (q0 (.cond .z .z) (q0 (.block none (q0 .z (q0 .z (q0 .z .z)))) .z)))))) (q0 .z .z)))))))) func192 [.sl a,.sl b,.sl c] h9
def qXB (b:Slc) (w:World) (R:RW):Prop:=
 aE (decide ((b.len:Int) > (64:Int))) (R (.returned (.slice none 0 0)) w) (aD prog 258 [zS b] w (aG R) λv w1=>∃ x:Slc,v=(zS x)/\R (.returned (zS x)) w1)
theorem qLH (b:Slc) {w:World} {R:RW} (h9:qXB b w R):Calls prog 242 #[zS b] w R:=
 zC (q0 .z (q0 (q0 .z (.cond (q0 .z .z) .z)) (q0 .z .z))) func242 [.sl b] h9
def qUV (b:Slc) (w:World) (R:RW):Prop:=
 aE ((b.len:Int) != (32:Int)) (R (.returned (.slice none 0 0)) w) (aD prog 307 [zS b] w (aG R) λv w1=>∃ x:Value,v=x/\aD prog 306 [x] w1 (aG R) λv1 w2=>∃ x1:Slc,v1=(zS x1)/\R (.returned (zS x1)) w2)
theorem qMT (b:Slc) {w:World} {R:RW} (h9:qUV b w R):Calls prog 251 #[zS b] w R:=
 zC (q0 .z (q0 (q0 .z (.cond (q0 .z .z) .z)) (q0 .z .z))) func251 [.sl b] h9
def qVH (l:Slc) (w:World) (R:RW):Prop:=
 aD prog 317 [zS l,.func (.func 318) #[] #[]] w (aG R) λv w1=>∃ x:Bool,v=(.bool x)/\R (.returned (.bool (!x))) w1
theorem qQT (l:Slc) {w:World} {R:RW} (h9:qVH l w R):Calls prog 257 #[zS l] w R:=
 zC (q0 .z (q0 .z .z)) func257 [.sl l] h9
def qUQ (l:Slc) (w:World) (R:RW):Prop:=
 aH prog (Instr.alloc 426 true (.tuple #[])) w λv w1=>∃ r:zO,v=(.pointer r)/\aD prog 319 [zS l] w1 (aG R) λv1 w2=>∃ x:Value,v1=x/\∃ (fn:FuncId) (first cap:Array Value),x = .func (.func fn) first cap/\enters prog fn=true/\∀ (rec:LoopState->Option Code->Obj) (dd ll:Nat) (w3:World),dd=w2.heap.size->ll=dd+1->w3=(w2.alloc (.deferred (some []))).alloc (rec .ready none)->(∀ x1:Int,∀ x2:UInt8,∀ (w4:World) (kk:Value->zP),w4.heap[ll]? = some (rec .ready none)->((w4.heap[ll]? = some (rec .ready none)/\aD prog 320 [.pointer r,.int .u8 x2.toNat] (w4.putObj ll (rec .busy none)) (λ_ _=>False) λv2 w5=>v2=(.tuple #[])/\(w5.heap[ll]? = some (rec .busy none)/\kk (.bool true) (w5.putObj ll (rec .ready none)))))->eZ prog ll [.int .i64 x1,.int .u8 x2.toNat] w4 kk)->aD prog fn (first.toList++[.func (.yield ll) #[] #[]]++cap.toList) w3 (qDQ R [(mkD dd)]) λ_ w6=>(w6.heap[ll]? = some (rec .ready none)/\aH prog (Instr.makeSlice 38 (.int .i64 32) (.int .i64 32)) (w6.putObj ll (rec .exhausted none)) λv3 w7=>∃ x3:Slc,v3=(zS x3)/\∃ (inv:zT) (mu:zU),inv [.i .i64 0] w7/\(∀ x4:Int,∀ w8:World,inv [.i .i64 x4] w8->aE (decide (x4<x3.len)) (((8:Int)≠0/\aA r λa=>((0<=(zW (Int.tdiv x4 (8:Int)))/\(zW (Int.tdiv x4 (8:Int)))<(5:Nat))/\∃ x5:UInt64,Rd w8 ((a.add 0).add (((zW (Int.tdiv x4 (8:Int)))).toNat*1)) [.int .u64 x5.toNat]/\((8:Int)≠0/\(0<=(zW ((8:Int)*(Int.tmod x4 (8:Int))))/\(zB x4 x3.len/\aA x3.a λa1=>aJ prog (storeVar 5 (a1.add (x4.toNat*1)) (.int .u8 (((aM x5 ((zW ((8:Int)*(Int.tmod x4 (8:Int))))).toNat)).toUInt8).toNat)) w8 λw9=>(inv [.i .i64 (zW (x4+1))] w9/\mu [.i .i64 (zW (x4+1))] w9<mu [.i .i64 x4] w8))))))) ((w8.heap[dd]? = some (.deferred (some []))/\R (.returned (zS x3)) (w8.putObj dd (.deferred none))))))\/False\/False
theorem qRZ (l:Slc) {w:World} {R:RW} (h9:qUQ l w R):Calls prog 258 #[zS l] w R:=
 zC (q0 .z (q0 .z (q0 (q0 .z (.block none (.rf false [] [(.i .i64),.u8] .z (.block none .z)))) (q0 .z (q0 (q0 .z (.block none (.loop [(17,(.i .i64))] (q0 .z (q0 (.cond .z .z) (q0 (.block none (q0 .z .z)) .z)))))) (q0 .z .z)))))) func258 [.sl l] h9
def qUR (seq:Value) (w:World) (R:RW):Prop:=
 aD prog 354 [.slice none 0 0,seq] w (aG R) λv w1=>∃ x:Slc,v=(zS x)/\R (.returned (zS x)) w1
theorem qRR (seq:Value) {w:World} {R:RW} (h9:qUR seq w R):Calls prog 306 #[seq] w R:=
 zC (q0 .z (q0 .z .z)) func306 [.v seq] h9
def qTM (b:Slc) (w:World) (R:RW):Prop:=
 aH prog (Instr.box 38 (zS b)) w λv w1=>∃ b1:zO,v=(.pointer b1)/\R (.returned (.func (.func 355) #[] #[.pointer b1])) w1
theorem qQS (b:Slc) {w:World} {R:RW} (h9:qTM b w R):Calls prog 307 #[zS b] w R:=
 zC (q0 .z (q0 .z .z)) func307 [.sl b] h9
def qVU (s:Slc) (f:Value) (w:World) (R:RW):Prop:=
 aD prog 358 [zS s,f] w (aG R) λv w1=>∃ x:Int,v=(.int .i64 x)/\R (.returned (.bool (decide (x>=0)))) w1
theorem qMG (s:Slc) (f:Value) {w:World} {R:RW} (h9:qVU s f w R):Calls prog 317 #[zS s,f] w R:=
 zC (q0 .z (q0 .z .z)) func317 [.sl s,.v f] h9
def jEJ (b:Slc) (w:World) (R:RW):Prop:=
 R (.returned (.bool ((b.len:Int) != (32:Int)))) w
theorem qLJ (b:Slc) {w:World} {R:RW} (h9:jEJ b w R):Calls prog 318 #[zS b] w R:=
 zC (q0 .z (q0 .z .z)) func318 [.sl b] h9
def qTD (s:Slc) (w:World) (R:RW):Prop:=
 aH prog (Instr.box 38 (zS s)) w λv w1=>∃ s1:zO,v=(.pointer s1)/\R (.returned (.func (.func 359) #[] #[.pointer s1])) w1
theorem qOF (s:Slc) {w:World} {R:RW} (h9:qTD s w R):Calls prog 319 #[zS s] w R:=
 zC (q0 .z (q0 .z .z)) func319 [.sl s] h9
def qSW (r:zO) (b:UInt8) (w:World) (R:RW):Prop:=
 ∃ (inv:zT) (mu:zU),inv [.i .i64 4] w/\(∀ i:Int,∀ w1:World,inv [.i .i64 i] w1->aE (decide (i > 0)) (∃ sx:zP,sx w1.drew/\aA r λa=>((0<=i/\i<(5:Nat))/\aA r λa1=>((0<=(zW (i - 1))/\(zW (i - 1))<(5:Nat))/\aA r λa2=>∃ x:UInt64,(∀ w',sx w'->Rd w' ((a.add 0).add (i.toNat*1)) [.int .u64 x.toNat])/\(0<=(((8:UInt64)).toNat:Int)/\∃ x1:UInt64,(∀ w',sx w'->Rd w' ((a1.add 0).add (((zW (i - 1))).toNat*1)) [.int .u64 x1.toNat])/\(0<=(((56:UInt64)).toNat:Int)/\((0<=i/\i<(5:Nat))/\((aJ prog (storeVar 188 ((a2.add 0).add (i.toNat*1)) (.int .u64 (((dS x ((((8:UInt64)).toNat:Int)).toNat) ||| (aM x1 ((((56:UInt64)).toNat:Int)).toNat))).toNat)) w1.drew λw2=>(inv [.i .i64 (zW (i - 1))] w2/\mu [.i .i64 (zW (i - 1))] w2<mu [.i .i64 i] w1))/\True))))))) (∃ sx1:zP,sx1 w1.drew/\aA r λa3=>((0<=(0:Int)/\(0:Int)<(5:Nat))/\aA r λa4=>∃ x2:UInt64,(∀ w',sx1 w'->Rd w' ((a3.add 0).add (((0:Int)).toNat*1)) [.int .u64 x2.toNat])/\(0<=(((8:UInt64)).toNat:Int)/\((0<=(0:Int)/\(0:Int)<(5:Nat))/\((aJ prog (storeVar 188 ((a4.add 0).add (((0:Int)).toNat*1)) (.int .u64 (((dS x2 ((((8:UInt64)).toNat:Int)).toNat) ||| (b).toUInt64)).toNat)) w1.drew λw3=>∃ (inv1:zT) (mu1:zU),inv1 [.i .i64 8] w3/\(∀ by0:Int,∀ w4:World,inv1 [.i .i64 by0] w4->aE (decide (by0>=0)) (aD prog 360 [.pointer r,.int .u64 ((aP by0)).toNat] w4 (aG R) λv w5=>v=(.tuple #[])/\(inv1 [.i .i64 (zW (by0 - 1))] w5/\mu1 [.i .i64 (zW (by0 - 1))] w5<mu1 [.i .i64 by0] w4)) (R (.returned (.tuple #[])) w4)))/\True))))))
theorem qPB (r:zO) (b:UInt8) {w:World} {R:RW} (h9:qSW r b w R):Calls prog 320 #[.pointer r,.int .u8 b.toNat] w R:=
 zC (q0 (q0 .z (.block none (.loop [(4,(.i .i64))] (q0 (q0 .z (.cond .z .z)) (q0 (.block none (.draw 1 (.take 0 (.take 1 (.take 2 (.take 3 (.take 4 (.take 5 (.take 6 (.take 9 (.take 10 (.take 11 (.take 12 (.take 13 (.take 14 (.take 18 (.take 19 (.take 7 (.take 8 (.take 15 (.take 16 (.take 17 (.take 20 (.all [(21,.done)])))))))))))))))))))))))) .z))))) (q0 (.draw 1 (.take 0 (.take 1 (.take 2 (.take 3 (.take 4 (.take 7 (.take 8 (.take 10 (.take 11 (.take 5 (.take 6 (.take 9 (.take 12 (.all [(13,.done)]))))))))))))))) (q0 .z (.block none (.loop [(5,(.i .i64))] (q0 (q0 .z (.cond .z .z)) (q0 (.block none .z) .z))))))) func320 [.p r,.u8 b] h9
def qYH (s:Slc) (seq:Value) (w:World) (R:RW):Prop:=
 aH prog (Instr.box 191 (zS s)) w λv w1=>∃ s1:zO,v=(.pointer s1)/\∃ (fn:FuncId) (first cap:Array Value),seq = .func (.func fn) first cap/\enters prog fn=true/\∀ (rec:LoopState->Option Code->Obj) (dd ll:Nat) (w2:World),dd=w1.heap.size->ll=dd+1->w2=(w1.alloc (.deferred (some []))).alloc (rec .ready none)->(∀ x:Bool,∀ (w3:World) (kk:Value->zP),w3.heap[ll]? = some (rec .ready none)->((w3.heap[ll]? = some (rec .ready none)/\aA s1 λa=>∃ x1:Slc,Rd (w3.putObj ll (rec .busy none)) a [zS x1]/\aH prog (Instr.buildSlice 191 1 #[(0,(.bool x))]) (w3.putObj ll (rec .busy none)) λv1 w4=>∃ x2:Slc,v1=(zS x2)/\aH prog (Builtin.append_ #[191,191] 191 #[zS x1,zS x2]) w4 λv2 w5=>∃ x3:Slc,v2=(zS x3)/\aA s1 λa1=>aJ prog (storeVar 191 a1 (zS x3)) w5 λw6=>(w6.heap[ll]? = some (rec .busy none)/\kk (.bool true) (w6.putObj ll (rec .ready none)))))->eZ prog ll [.bool x] w3 kk)->aD prog fn (first.toList++[.func (.yield ll) #[] #[]]++cap.toList) w2 (qDQ R [(mkD dd)]) λ_ w7=>(w7.heap[ll]? = some (rec .ready none)/\aA s1 λa2=>∃ x4:Slc,Rd (w7.putObj ll (rec .exhausted none)) a2 [zS x4]/\((w7.putObj ll (rec .exhausted none)).heap[dd]? = some (.deferred (some []))/\R (.returned (zS x4)) ((w7.putObj ll (rec .exhausted none)).putObj dd (.deferred none))))\/False\/False
theorem qOP (s:Slc) (seq:Value) {w:World} {R:RW} (h9:qYH s seq w R):Calls prog 354 #[zS s,seq] w R:=
 zC (q0 .z (q0 (q0 .z (.block none (.rf false [] [.b] .z (.block none .z)))) (q0 .z .z))) func354 [.sl s,.v seq] h9
def qSZ (yield:Value) (c:zO) (w:World) (R:RW):Prop:=
 aA c λa=>∃ x:Slc,Rd w a [zS x]/\∃ (inv:zT) (mu:zU),inv [.i .i64 0] w/\(∀ x1:Int,∀ w1:World,inv [.i .i64 x1] w1->aE (decide (x1<(zW ((8:Int)*(x.len:Int))))) (aA c λa1=>∃ x2:Slc,Rd w1 a1 [zS x2]/\((8:Int)≠0/\((0<=(zW (Int.tdiv x1 (8:Int)))/\(zW (Int.tdiv x1 (8:Int)))<(x2.len:Nat))/\aA x2.a λa2=>∃ x3:UInt8,Rd w1 (a2.add (((zW (Int.tdiv x1 (8:Int)))).toNat*1)) [.int .u8 x3.toNat]/\((8:Int)≠0/\(0<=(Int.tmod x1 (8:Int))/\dY prog yield [.bool (((qE x3 ((Int.tmod x1 (8:Int))).toNat) &&& (1:UInt8))==(1:UInt8))] w1 (aG R) λv w2=>∃ x4:Bool,v=(.bool x4)/\aE (!x4) (R (.returned (.tuple #[])) w2) ((inv [.i .i64 (zW (x1+1))] w2/\mu [.i .i64 (zW (x1+1))] w2<mu [.i .i64 x1] w1))))))) (R (.returned (.tuple #[])) w1))
theorem qQX (yield:Value) (c:zO) {w:World} {R:RW} (h9:qSZ yield c w R):Calls prog 355 #[yield,.pointer c] w R:=
 zC (q0 .z (.block none (.loop [(7,(.i .i64))] (q0 .z (q0 (.cond .z .z) (q0 (.block none (q0 .z (q0 .z (.cond .z .z)))) .z)))))) func355 [.v yield,.p c] h9
def qUL (s:Slc) (f:Value) (w:World) (R:RW):Prop:=
 ∃ (inv:zT) (mu:zU),inv [.i .i64 0] w/\(∀ x:Int,∀ w1:World,inv [.i .i64 x] w1->aE (decide (x<s.len)) ((zB x s.len/\aA s.a λa=>∃ x1:Slc,Rd w1 (a.add (x.toNat*1)) [zS x1]/\dY prog f [zS x1] w1 (aG R) λv w2=>∃ x2:Bool,v=(.bool x2)/\aE x2 (R (.returned (.int .i64 x)) w2) ((inv [.i .i64 (zW (x+1))] w2/\mu [.i .i64 (zW (x+1))] w2<mu [.i .i64 x] w1)))) (R (.returned (.int .i64 (-1:Int))) w1))
theorem qOS (s:Slc) (f:Value) {w:World} {R:RW} (h9:qUL s f w R):Calls prog 358 #[zS s,f] w R:=
 zC (q0 .z (q0 (q0 .z (.block none (.loop [(8,(.i .i64))] (q0 .z (q0 (.cond .z .z) (q0 (.block none (q0 .z (q0 .z (.cond (q0 .z .z) .z)))) .z)))))) (q0 .z .z))) func358 [.sl s,.v f] h9
def qSS (yield:Value) (c:zO) (w:World) (R:RW):Prop:=
 aA c λa=>∃ x:Slc,Rd w a [zS x]/\∃ (inv:zT) (mu:zU),inv [.i .i64 (zW ((x.len:Int) - 1))] w/\(∀ i:Int,∀ w1:World,inv [.i .i64 i] w1->aE (decide (i>=0)) (aA c λa1=>∃ x1:Slc,Rd w1 a1 [zS x1]/\(zB i x1.len/\aA x1.a λa2=>∃ x2:UInt8,Rd w1 (a2.add (i.toNat*1)) [.int .u8 x2.toNat]/\dY prog yield [.int .i64 i,.int .u8 x2.toNat] w1 (aG R) λv w2=>∃ x3:Bool,v=(.bool x3)/\aE (!x3) (R (.returned (.tuple #[])) w2) ((inv [.i .i64 (zW (i - 1))] w2/\mu [.i .i64 (zW (i - 1))] w2<mu [.i .i64 i] w1)))) (R (.returned (.tuple #[])) w1))
theorem qOW (yield:Value) (c:zO) {w:World} {R:RW} (h9:qSS yield c w R):Calls prog 359 #[yield,.pointer c] w R:=
 zC (q0 .z (.block none (.loop [(3,(.i .i64))] (q0 (q0 .z (.cond .z .z)) (q0 (.block none (q0 .z (.cond .z .z))) .z))))) func359 [.v yield,.p c] h9
def qWH (r:zO) (by0:UInt64) (w:World) (R:RW):Prop:=
 aH prog (Instr.alloc 424 true (.tuple #[])) w λv w1=>∃ m:zO,v=(.pointer m)/\aD prog 376 [] w1 (aG R) λv1 w2=>∃ xa xb xc xd xe:UInt64,v1=(e5 xa xb xc xd xe)/\aH prog (Instr.alloc 424 true (.tuple #[])) w2 λv2 w3=>∃ l:zO,v2=(.pointer l)/\aA l λa=>aJ prog (storeVar 424 a (e5 xa xb xc xd xe)) w3 λw4=>∃ (inv:zT) (mu:zU),inv [.i .i64 0] w4/\(∀ x:Int,∀ w5:World,inv [.i .i64 x] w5->aE (decide (x<5)) (((0<=x/\x<(5:Nat))/\aA l λa1=>∃ x1:UInt64,Rd w5 (a1.add (x.toNat*1)) [.int .u64 x1.toNat]/\(0<=(by0.toNat:Int)/\((0<=x/\x<(5:Nat))/\aA m λa2=>aJ prog (storeVar 188 (a2.add (x.toNat*1)) (.int .u64 ((dS x1 ((by0.toNat:Int)).toNat)).toNat)) w5 λw6=>∃ j:zT,(aE (decide (x > 0)) (j [.b (decide ((0:UInt64)<by0))] w6) (j [.b false] w6))/\(∀ x2:Bool,∀ w7:World,j [.b x2] w7->aE x2 (∃ sx:zP,sx w7.drew/\((0<=x/\x<(5:Nat))/\aA m λa3=>((0<=(zW (x - 1))/\(zW (x - 1))<(5:Nat))/\aA l λa4=>∃ x3:UInt64,(∀ w',sx w'->Rd w' (a3.add (x.toNat*1)) [.int .u64 x3.toNat])/\∃ x4:UInt64,(∀ w',sx w'->Rd w' (a4.add (((zW (x - 1))).toNat*1)) [.int .u64 x4.toNat])/\(0<=((((64:UInt64) - by0)).toNat:Int)/\((0<=x/\x<(5:Nat))/\aA m λa5=>((aJ prog (storeVar 188 (a5.add (x.toNat*1)) (.int .u64 ((x3 ||| (aM x4 (((((64:UInt64) - by0)).toNat:Int)).toNat))).toNat)) w7.drew λw8=>(inv [.i .i64 (zW (x+1))] w8/\mu [.i .i64 (zW (x+1))] w8<mu [.i .i64 x] w5))/\True)))))) ((inv [.i .i64 (zW (x+1))] w7/\mu [.i .i64 (zW (x+1))] w7<mu [.i .i64 x] w5))))))) (∃ sx1:zP,sx1 w5.drew/\aA r λa6=>∃ xa1 xb1 xc1 xd1 xe1:UInt64,(∀ w',sx1 w'->Rd w' (a6.add 0) (l5 xa1 xb1 xc1 xd1 xe1))/\aA m λa7=>∃ xa2 xb2 xc2 xd2 xe2:UInt64,(∀ w',sx1 w'->Rd w' a7 (l5 xa2 xb2 xc2 xd2 xe2))/\((aD prog 377 [e5 xa1 xb1 xc1 xd1 xe1,e5 xa2 xb2 xc2 xd2 xe2] w5.drew (aG R) λv3 w9=>∃ x5:Bool,v3=(.bool x5)/\aE x5 (R (.returned (.tuple #[])) w9) (∃ (inv1:zT) (mu1:zU),inv1 [.u64 (0:UInt64),.i .i64 0] w9/\(∀ borrow:UInt64,∀ x6:Int,∀ w10:World,inv1 [.u64 borrow,.i .i64 x6] w10->aE (decide (x6<5)) (∃ sx2:zP,sx2 w10.drew/\aA r λa8=>((0<=x6/\x6<(5:Nat))/\((0<=x6/\x6<(5:Nat))/\aA m λa9=>aA r λa10=>∃ x7:UInt64,(∀ w',sx2 w'->Rd w' ((a8.add 0).add (x6.toNat*1)) [.int .u64 x7.toNat])/\∃ x8:UInt64,(∀ w',sx2 w'->Rd w' (a9.add (x6.toNat*1)) [.int .u64 x8.toNat])/\((∃ v4 w11,(callFunc 378 #[.int .u64 x7.toNat,.int .u64 x8.toNat,.int .u64 borrow.toNat]).run prog w10.drew = .ok (.value v4) w11/\∃ xa3 xb3:UInt64,v4=(.tuple #[.int .u64 xa3.toNat,.int .u64 xb3.toNat])/\((0<=x6/\x6<(5:Nat))/\((aJ prog (storeVar 188 ((a10.add 0).add (x6.toNat*1)) (.int .u64 xa3.toNat)) w11 λw12=>(inv1 [.u64 xb3,.i .i64 (zW (x6+1))] w12/\mu1 [.u64 xb3,.i .i64 (zW (x6+1))] w12<mu1 [.u64 borrow,.i .i64 x6] w10))/\True)))/\True)))) (R (.returned (.tuple #[])) w10))))/\True)))
theorem qOY (r:zO) (h9:UInt64) {w:World} {R:RW} (k3:qWH r h9 w R):Calls prog 360 #[.pointer r,.int .u64 h9.toNat] w R:=
 zC (q0 .z (q0 .z (q0 (q0 .z (.block none (.loop [(10,(.i .i64))] (q0 .z (q0 (.cond .z .z) (q0 (.block none (q0 .z (q0 .z (.seq (some [(25,.b)]) .z (.cond (.draw 1 (.take 0 (.take 1 (.take 3 (.take 4 (.take 5 (.take 7 (.take 8 (.take 2 (.take 6 (.take 9 (.take 10 (.take 11 (.all [(12,.done)])))))))))))))) .z))))) .z)))))) (q0 (q0 (.draw 1 (.take 0 (.take 1 (.take 2 (.take 3 (.take 4 (.all [(5,.done)]))))))) (.cond .z .z)) (q0 .z (q0 .z (.block none (.loop [(7,.u64),(45,(.i .i64))] (q0 .z (q0 (.cond .z .z) (q0 (.block none (q0 .z (.draw 1 (.take 0 (.take 1 (.take 2 (.take 3 (.take 4 (.take 5 (.take 6 (.take 8 (.take 9 (.take 11 (.take 16 (.take 17 (.take 7 (.take 10 (.all [(12,(.take 13 (.take 14 (.take 15 (.take 18 (.all [(19,(.take 20 .done))]))))))])))))))))))))))))) .z))))))))))) func360 [.p r,.u64 h9] k3
def qXV (w:World) (R:RW):Prop:=
 aH prog (Instr.alloc 424 true (.tuple #[])) w λv w1=>∃ x:zO,v=(.pointer x)/\aA x λa=>aJ prog (storeVar 424 a (.agg #[.int .u64 ((6346243789798364141:UInt64)).toNat,.int .u64 ((1503914060200516822:UInt64)).toNat,.int .u64 ((0:UInt64)).toNat,.int .u64 ((1152921504606846976:UInt64)).toNat,.int .u64 ((0:UInt64)).toNat])) w1 λw2=>aA x λa1=>∃ xa xb xc xd xe:UInt64,Rd w2 a1 (l5 xa xb xc xd xe)/\R (.returned (e5 xa xb xc xd xe)) w2
theorem qRG {w:World} {R:RW} (h9:qXV w R):Calls prog 376 #[] w R:=
 zC (q0 .z (q0 .z .z)) func376 [] h9
def qSU (na nb nc nd ne ma mb mc md me:UInt64) (w:World) (R:RW):Prop:=
 aH prog (Instr.box 424 (e5 na nb nc nd ne)) w λv w1=>∃ n:zO,v=(.pointer n)/\aH prog (Instr.box 424 (e5 ma mb mc md me)) w1 λv1 w2=>∃ m:zO,v1=(.pointer m)/\aA n λa=>∃ xa xb xc xd xe:UInt64,Rd w2 a (l5 xa xb xc xd xe)/\aA m λa1=>∃ xa1 xb1 xc1 xd1 xe1:UInt64,Rd w2 a1 (l5 xa1 xb1 xc1 xd1 xe1)/\bB prog (do eqGuard .eql 424 (.tmp 6) (.tmp 7) (e5 xa xb xc xd xe) (e5 xa1 xb1 xc1 xd1 xe1); binOp .eql 424 (e5 xa xb xc xd xe) (e5 xa1 xb1 xc1 xd1 xe1)) λv2=>∃ x:Bool,v2=(.bool x)/\aE x (zF R false w2) (∃ (inv:zT) (mu:zU),inv [.i .i64 4] w2/\(∀ i:Int,∀ w3:World,inv [.i .i64 i] w3->aE (decide (i>=0)) (((0<=i/\i<(5:Nat))/\aA n λa2=>((0<=i/\i<(5:Nat))/\aA m λa3=>∃ x1:UInt64,Rd w3.drew (a2.add (i.toNat*1)) [.int .u64 x1.toNat]/\∃ x2:UInt64,Rd w3.drew (a3.add (i.toNat*1)) [.int .u64 x2.toNat]/\aE (x1 != x2) (((0<=i/\i<(5:Nat))/\aA n λa4=>((0<=i/\i<(5:Nat))/\aA m λa5=>∃ x3:UInt64,Rd w3.drew.drew (a4.add (i.toNat*1)) [.int .u64 x3.toNat]/\∃ x4:UInt64,Rd w3.drew.drew (a5.add (i.toNat*1)) [.int .u64 x4.toNat]/\R (.returned (.bool (decide (x3<x4)))) w3.drew.drew))) ((inv [.i .i64 (zW (i - 1))] w3.drew/\mu [.i .i64 (zW (i - 1))] w3.drew<mu [.i .i64 i] w3))))) (zF R false w3)))
theorem qQJ (na nb nc nd ne ma mb mc md me:UInt64) {w:World} {R:RW} (h9:qSU na nb nc nd ne ma mb mc md me w R):Calls prog 377 #[e5 na nb nc nd ne,e5 ma mb mc md me] w R:=
 zC (q0 .z (q0 (q0 .z (.cond (q0 .z .z) .z)) (q0 (q0 .z (.block none (.loop [(5,(.i .i64))] (q0 (q0 .z (.cond .z .z)) (q0 (.block none (q0 (.draw 2 (.take 0 (.take 1 (.take 3 (.take 4 (.take 2 (.take 5 (.take 6 .done)))))))) (.cond (q0 (.draw 2 (.take 0 (.take 1 (.take 3 (.take 4 (.take 2 (.take 5 (.take 6 (.take 7 .done))))))))) .z) .z))) .z))))) (q0 .z .z)))) func377 [.agg [.u64 na,.u64 nb,.u64 nc,.u64 nd,.u64 ne],.agg [.u64 ma,.u64 mb,.u64 mc,.u64 md,.u64 me]] h9
theorem zn5:ZI prog 424 5:=by
 obtain ⟨i,h1,h2,_,_⟩:=bC (P:=prog) (T:=424) (z:=.agg #[.int .u64 0,.int .u64 0,.int .u64 0,.int .u64 0,.int .u64 0]) (n:=5) (m:=40) (by kernel_rfl) (by kernel_rfl) (by kernel_rfl)
 exact ⟨i,_,h1,h2,rfl⟩
section
variable {w:World} {a b c d e a' b' c' d' e':UInt64}
theorem qJG:Calls prog 376 #[] w (Ret (RE w)):=by
 refine qRG ?_
 unfold qXV
 refine cF zn5 (J.start w) λp w1 h1 _=>?_
 refine jH h1 rfl (.head _) (by kernel_rfl) (by kernel_rfl) (by omega) λw2 h2 _=>?_
 refine iZ h2 rfl (.head _) (by omega) λa b c d e=>?_
 exact ⟨_,_,_,_,_,rfl,h2.m⟩
theorem qNH:Calls prog 377 #[e5 a b c d e,e5 a' b' c' d' e'] w (Ret λv w'=>∃ t,v = .bool t/\Mod NoB w w'):=by
 refine qQJ _ _ _ _ _ _ _ _ _ _ ?_
 unfold qSU
 obtain ⟨i,g1,g2,g3,g4⟩:=(bC (by kernel_rfl) (by kernel_rfl) (by kernel_rfl) : ∃ i,prog.info? 188=some i/\i.zero=some (.int .u64 0)/\i.size=1/\i.bytes=8)
 let n:=[a,b,c,d,e]
 let m:=[a',b',c',d',e']
 refine aQ (l:=us n) rfl λp w1 hN1 hb1=>⟨_,rfl,?_⟩
 refine aQ (l:=us m) rfl λq w2 k3 hb2=>⟨_,rfl,?_⟩
 have k4:Mod NoB w w2:=hN1.mod.tr k3.mod
 have hp2:=hb1.no k3.mod
 refine ⟨a,b,c,d,e,hp2.rd (o:=0) (λj v hv=>by simp only [Nat.zero_add]; exact hv),a',b',c',d',e',hb2.rd (o:=0) (λj v hv=>by simp only [Nat.zero_add]; exact hv),?_⟩
 refine qGZ (k:=.u64) (.inl rfl) (by kernel_rfl:prog.underlying 424=some (.array 5 188)) (by kernel_rfl) (by kernel_rfl) g1 (by kernel_rfl) (by kernel_rfl) (l:=n.map λx=>(x.toNat:Int)) (l':=m.map λx=>(x.toNat:Int)) rfl rfl rfl rfl ⟨_,rfl,?_⟩
 refine aC (λ_=>⟨_,rfl,k4⟩) λhe=>?_
 have hne:n≠m:=λe=>by rw [e] at he; simp at he
 refine ⟨λl' w'=>match l' with | [.i _ x]=>∃ k:Nat,x=(k:Int) - 1/\k<=5/\n.drop k=m.drop k/\Mod NoB w2 w' | _=>False,λl' _=>match l' with | [.i _ x]=>(x+1).toNat | _=>0,⟨5,rfl,by omega,rfl,Mod.refl _ _⟩,?_⟩
 rintro x w3 ⟨k,rfl,hk,hd,h9⟩
 have l1:n.length=5:=rfl
 have l2:m.length=5:=rfl
 refine aC (λhge=>?_) λhlt=>?_
 ·have hk1:0<k:=by simp at hge; omega
  have e1:((k:Int) - 1).toNat=k - 1:=by omega
  rw [e1]
  have k5:=(hp2.no h9).drew; have k6:=(hb2.no h9).drew
  refine ⟨⟨by omega,by omega⟩,⟨by omega,by omega⟩,n[k - 1]'(by omega),rda k5 (pU (by omega)),m[k - 1]'(by omega),rda k6 (pU (by omega)),?_⟩
  refine aC (λhx=>?_) λhx=>?_
  ·exact ⟨⟨by omega,by omega⟩,⟨by omega,by omega⟩,n[k - 1]'(by omega),rda k5.drew (pU (by omega)),m[k - 1]'(by omega),rda k6.drew (pU (by omega)),⟨_,rfl,Mod.dr (Mod.dr (k4.tr h9))⟩⟩
  ·refine ⟨⟨k - 1,by rw [wrap_i64 (by omega)]; omega,by omega,?_,Mod.dr h9⟩,?_⟩
   ·have h':n[k - 1]'(by omega)=m[k - 1]'(by omega):=by simpa using hx
    rw [List.drop_eq_getElem_cons (by omega:k - 1<n.length),List.drop_eq_getElem_cons (by omega:k - 1<m.length),h',Nat.sub_add_cancel hk1,hd]
   ·rw [wrap_i64 (by omega)]; (try simp only []); omega
 ·have:k=0:=by simp at hlt; omega
  subst this
  exact absurd (by simpa using hd) hne
theorem qGE {p:Nat} {x:UInt8} {Z:Nat->Prop} {w0:World} {L:List (Nat×Nat×Bool)} (h:J Z w0 L w) (hp:(p,5,true)∈L)
 (hmin : ∀ {w1:World} {k:UInt64},J Z w0 L w1->Calls prog 360 #[.pointer (some ⟨p,0,none⟩),.int .u64 k.toNat] w1 (Ret λv w'=>v = .tuple #[]/\J Z w0 L w')) :
 Calls prog 320 #[.pointer (some ⟨p,0,none⟩),.int .u8 x.toNat] w (Ret λv w'=>v = .tuple #[]/\J Z w0 L w'):=by
 refine qPB _ _ ?_
 unfold qSW
 refine ⟨λl' w'=>match l' with | [.i _ y]=>(0<=y/\y<=4)/\J Z w0 L w' | _=>False,λl' _=>match l' with | [.i _ y]=>y.toNat | _=>0,⟨by omega,h⟩,?_⟩
 rintro y w1 ⟨hy,h1⟩
 refine aC (λh9=>?_) λ_=>?_
 ·have h9:0<y:=by simpa using h9
  rw [wrap_i64 (by omega)]
  refine dT h1 λh1=>⟨by omega,by omega,?_⟩
  refine iH h1 hp (by omega) λ_=>⟨by omega,iH h1 hp (by omega) λ_=>⟨by omega,by omega,?_,trivial⟩⟩
  exact pN h1 hp (by omega) (by kernel_rfl) (by kernel_rfl) λw2 h2 _=>⟨⟨by omega,h2⟩,by (try simp only []); omega⟩
 ·refine dT h1 λh1=>⟨by omega,iH (x:=0) h1 hp (by omega) λ_=>⟨by omega,by omega,?_,trivial⟩⟩
  refine pN (x:=0) h1 hp (by omega) (by kernel_rfl) (by kernel_rfl) λw2 h2 _=>?_
  refine ⟨λl' w'=>match l' with | [.i _ y]=>(-1<=y/\y<=8)/\J Z w0 L w' | _=>False,λl' _=>match l' with | [.i _ y]=>(y+1).toNat | _=>0,⟨by omega,h2⟩,?_⟩
  rintro y w3 ⟨hy,h3⟩
  refine aC (λhge=>?_) λ_=>⟨rfl,h3⟩
  have hge:0<=y:=by simpa using hge
  refine aB (hmin h3) ?_
  rintro v w4 ⟨rfl,h4⟩
  rw [wrap_i64 (by omega)]
  exact ⟨rfl,⟨by omega,h4⟩,by (try simp only []); omega⟩
end
def jCB:Array Value->Sem Value:=(Extern.MathBitsCarry.rows.getD 1 ("",λ_=>pure .nilFunc)).2
theorem qAW {x y b:UInt64} (hb:b.toNat<=1) (w:World) : ∃ d b':UInt64,(callFunc 378 #[.int .u64 x.toNat,.int .u64 y.toNat,.int .u64 b.toNat]).run prog w = .ok (.value (.tuple #[.int .u64 d.toNat,.int .u64 b'.toNat])) w/\b'.toNat<=1:=by
 have hx:=x.toNat_lt; have hy:=y.toNat_lt
 refine ⟨UInt64.ofNat ((x.toNat+18446744073709551616 - y.toNat - b.toNat) % 18446744073709551616),UInt64.ofNat (if x.toNat<y.toNat+b.toNat then 1 else 0),?_,?_⟩
 ·rw [run_callFunc_extern func378 (by kernel_rfl) (by kernel_rfl) (by kernel_rfl) (e:=jCB) (by kernel_rfl)]
  have e1:(UInt64.ofNat ((x.toNat+18446744073709551616 - y.toNat - b.toNat) % 18446744073709551616)).toNat=(x.toNat+18446744073709551616 - y.toNat - b.toNat) % 18446744073709551616:=by
   rw [UInt64.toNat_ofNat']; omega
  have e2:(UInt64.ofNat (if x.toNat<y.toNat+b.toNat then 1 else 0)).toNat=if x.toNat<y.toNat+b.toNat then 1 else 0:=by
   split <;> rfl
  rw [e1,e2]
  have:b.toNat=0\/b.toNat=1:=by omega
  rcases this with h | h <;> rw [h] <;> rfl
 ·split <;> decide
section
variable {w w0:World} {Z:Nat->Prop} {L:List (Nat×Nat×Bool)}
theorem qJW {p:Nat} {x:UInt64} (h:J Z w0 L w) (hp:(p,5,true)∈L):Calls prog 360 #[.pointer (some ⟨p,0,none⟩),.int .u64 x.toNat] w (Ret λv w'=>v = .tuple #[]/\J Z w0 L w'):=by
 refine qOY _ _ ?_
 unfold qWH
 refine cF zn5 h λm w1 h1 _=>?_
 refine aB qJG ?_
 rintro v w2 ⟨a,b,c,d,e,rfl,k3⟩
 refine ⟨a,b,c,d,e,rfl,?_⟩
 refine cF zn5 (h1.mod k3) λl w3 h3 _=>?_
 refine jH h3 rfl (.head _) (by kernel_rfl) (by kernel_rfl) (by omega) λw4 h4 _=>?_
 have hl:(l,5,true)∈(l,5,true) :: (m,5,true) :: L:=.head _
 have hm:(m,5,true)∈(l,5,true) :: (m,5,true) :: L:=.tail _ (.head _)
 have hr:(p,5,true)∈(l,5,true) :: (m,5,true) :: L:=.tail _ (.tail _ hp)
 refine ⟨λl' w'=>match l' with | [.i _ y]=>(0<=y/\y<=5)/\J Z w0 ((l,5,true) :: (m,5,true) :: L) w' | _=>False,λl' _=>match l' with | [.i _ y]=>(5 - y).toNat | _=>0,⟨by omega,h4⟩,?_⟩
 rintro y w5 ⟨hy,h5⟩
 refine aC (λhlt=>?_) λ_=>?_
 ·have hlt:y<5:=by simpa using hlt
  refine ⟨by omega,qFJ h5 hl (by omega) λ_=>⟨by omega,by omega,pN h5 hm (by omega) (by kernel_rfl) (by kernel_rfl) λw6 h6 _=>?_⟩⟩
  refine ⟨λl' w'=>match l' with | [.b t]=>(t=true->0<y)/\w'=w6 | _=>False,aC (λh=>⟨λ_=>by simpa using h,rfl⟩) (λ_=>⟨λh=>(by cases h),rfl⟩),?_⟩
  rintro t w7 ⟨ht,rfl⟩
  have ew:zW (y+1)=y+1:=wrap_i64 (by omega)
  refine aC (λhc=>?_) λ_=>?_
  ·have h0:=ht hc
   have k4:zW (y - 1)=y - 1:=wrap_i64 (by omega)
   rw [k4]
   refine dT h6 λh6=>⟨by omega,by omega,iH h6 hm (by omega) λ_=>iH h6 hl (by omega) λ_=>⟨by omega,by omega,?_,trivial⟩⟩
   refine pN h6 hm (by omega) (by kernel_rfl) (by kernel_rfl) λw8 h8 _=>?_
   rw [ew]
   exact ⟨⟨by omega,h8⟩,by (try simp only []); omega⟩
  ·rw [ew]
   exact ⟨⟨by omega,h6⟩,by (try simp only []); omega⟩
 ·refine dT h5 λh5=>oG h5 rfl hr (by omega) λ_ _ _ _ _=>oG h5 rfl hm (by omega) λ_ _ _ _ _=>⟨?_,trivial⟩
  refine aB qNH ?_
  rintro v w9 ⟨t,rfl,k5⟩
  have h9:=h5.mod k5
  refine ⟨t,rfl,aC (λ_=>⟨rfl,h9.sub λq hq=>.tail _ (.tail _ hq)⟩) λ_=>?_⟩
  refine ⟨λl' w'=>match l' with | [.u64 b,.i _ y]=>b.toNat<=1/\(0<=y/\y<=5)/\J Z w0 ((l,5,true) :: (m,5,true) :: L) w' | _=>False,λl' _=>match l' with | [.u64 _,.i _ y]=>(5 - y).toNat | _=>0,⟨by decide,by omega,h9⟩,?_⟩
  rintro b y k6 ⟨hb,hy,h10⟩
  refine aC (λhlt=>?_) λ_=>⟨rfl,h10.sub λq hq=>.tail _ (.tail _ hq)⟩
  have hlt:y<5:=by simpa using hlt
  refine dT h10 λh10=>⟨by omega,by omega,iH h10 hr (by omega) λx7=>iH h10 hm (by omega) λx8=>⟨?_,trivial⟩⟩
  obtain ⟨d,b',hrun,p8⟩:=qAW (x:=x7) (y:=x8) hb k6.drew
  refine ⟨_,_,hrun,d,b',rfl,by omega,?_,trivial⟩
  refine pN h10 hr (by omega) (by kernel_rfl) (by kernel_rfl) λq8 p9 _=>?_
  rw [wrap_i64 (show -9223372036854775808<=y+1/\y+1<=9223372036854775807 by omega)]
  exact ⟨⟨p8,by omega,p9⟩,by (try simp only []); omega⟩
theorem qBC {p:Nat} {x:UInt8} (h:J Z w0 L w) (hp:(p,5,true)∈L):Calls prog 320 #[.pointer (some ⟨p,0,none⟩),.int .u8 x.toNat] w (Ret λv w'=>v = .tuple #[]/\J Z w0 L w'):=
 qGE h hp λh1=>qJW h1 hp
end
theorem jGP : ∃ i,prog.info? 426=some i/\i.zero=some (.agg (us [0,0,0,0,0]).toArray)/\i.size=5/\i.bytes=40:=bC (by kernel_rfl) (by kernel_rfl) (by kernel_rfl)
theorem qHB {w:World} {s:Slc} : Calls prog 319 #[.slice s.a s.len s.cap] w (Ret λv w'=>∃ p,v = .func (.func 359) #[] #[.pointer (some ⟨p,0,none⟩)]/\(∃ T,Blk w' p [s.val] T)/\w.heap.size<=p/\Mod NoB w w'):=by
 refine qOF _ ?_
 unfold qTD
 refine aQ (l:=[s.val]) rfl λp w1 hN1 hb1=>⟨_,rfl,?_⟩
 have h1:=hN1.at_
 exact ⟨p,rfl,⟨_,hb1⟩,by omega,hN1.mod⟩
theorem qZN {w:World} {ll p:Nat} {s:Slc} {l:zY} {I:Nat->zP} (hl:l.length=s.len) (hn:l.length<=1000000000000000) (hp : ∃ T,Blk w p [s.val] T) (h0:I l.length w)
 (hI : ∀ k w1,k<l.length->I (k+1) w1->Rd w1 ⟨p,0,none⟩ [s.val]/\aK w1 s 1 (bys l)/\∀ h:k<l.length,eZ prog ll [.int .i64 k,.int .u8 l[k].toNat] w1 λv w2=>v = .bool true/\I k w2) :
 Calls prog 359 #[.func (.yield ll) #[] #[],.pointer (some ⟨p,0,none⟩)] w (Ret λv w'=>v = .tuple #[]/\I 0 w'):=by
 refine qOW _ _ ?_
 unfold qSS
 obtain ⟨T,hp⟩:=hp
 refine ⟨s,hp.rd1 rfl,?_⟩
 refine ⟨λl' w'=>match l' with | [.i _ x]=>∃ k:Nat,x=(k:Int) - 1/\k<=l.length/\I k w' | _=>False,λl' _=>match l' with | [.i _ x]=>(x+1).toNat | _=>0,⟨l.length,by rw [wrap_i64 (by omega),hl],by omega,h0⟩,?_⟩
 rintro i w1 ⟨k,rfl,hk,hI1⟩
 refine aC (λhge=>?_) λhlt=>?_
 ·have hk0:0<k:=by simp at hge; omega
  obtain ⟨hr1,hr2,hy⟩:=hI (k - 1) w1 (by omega) (by rw [Nat.sub_add_cancel hk0]; exact hI1)
  obtain ⟨a,ea,hra⟩:=gL hr2 (i:=k - 1) (by omega)
  have e1:((k:Int) - 1)=((k - 1:Nat):Int):=by omega
  rw [e1]
  refine ⟨s,hr1,⟨by omega,by omega⟩,?_⟩
  rw [ea]
  refine ⟨_,hra,?_⟩
  show eZ _ _ _ _ _
  obtain ⟨f,tmps,assign,body,g1,g2⟩:=hy (by omega)
  refine ⟨f,tmps,assign,body,g1,RoundIn.mono g2 λe w2 he=>?_⟩
  obtain ⟨v,rfl,rfl,hI2⟩:=he
  refine ⟨_,rfl,true,rfl,?_⟩
  refine aC (λe=>by cases e) λ_=>⟨⟨k - 1,by rw [wrap_i64 (by omega)],by omega,hI2⟩,?_⟩
  rw [wrap_i64 (by omega)]; (try simp only []); omega
 ·have:k=0:=by simp at hlt; omega
  subst this
  exact ⟨rfl,hI1⟩
theorem rE {w:World} {s:Slc} {l:zY} (hs:aK w s 1 (bys l)) (hsl : ∀ x,s.blk=some x->x<w.heap.size) (hn:l.length<=1000000000000000) :
 Calls prog 258 #[.slice s.a s.len s.cap] w (Ret λv w'=>∃ x:Slc,v=x.val/\(∃ m:zY,Sh.Own w' x 1 (bys m))/\x.len=32/\x.cap=32/\FB w x/\Mod NoB w w'):=by
 refine qRZ _ ?_
 unfold qUQ
 obtain ⟨ir,hr1,hr2,a6,a7⟩:=jGP
 obtain ⟨a8,z6,z7,z8,j2⟩:=i5
 have hlen:=aV hs
 refine aN (l:=us [0,0,0,0,0]) hr1 hr2 (by simp [Value.cells]) λrb w1 hN1 hb1=>⟨_,rfl,?_⟩
 have a1:=hN1.at_; have a2:=hN1.size
 refine aB qHB ?_
 rintro v w2 ⟨p,rfl,⟨T,hp⟩,hps,u0⟩
 refine ⟨_,rfl,359,#[],#[.pointer (some ⟨p,0,none⟩)],rfl,by kernel_rfl,?_⟩
 rintro rec dd ll w3 u9 hll p9 hY
 have q8:Mod NoB w2 w3:=by rw [p9]; exact (cS _ _).tr (cS _ _)
 have j3:w3.heap.size=ll+1:=by rw [p9]; simp; omega
 have u1:w3.heap[ll]? = some (rec .ready none):=by
  rw [p9,hll,u9]
  have:=heap_alloc_new (w2.alloc (.deferred (some []))) (rec .ready none)
  simpa using this
 have u2:w3.heap[dd]? = some (.deferred (some [])):=by
  rw [p9,u9,heap_alloc_old _ _ (by simp)]
  exact heap_alloc_new _ _
 have hpl:=hp.lt; have s2:=u0.size
 have k5:Mod NoB w w3:=(hN1.mod.tr u0).tr q8
 have u3:Blk w3 rb (us [0,0,0,0,0]) 426:=(hb1.no u0).no q8
 let I:Nat->zP:=λk w'=>w'.heap[ll]? = some (rec .ready none)/\∃ n T,Blk w' rb (us n) T/\n.length=5/\Mod (λx=>x=rb\/x=ll) w3 w'
 have u4:=qZN (w:=w3) (ll:=ll) (p:=p) (s:=s) (l:=l) (I:=I) hlen hn ⟨T,hp.no q8⟩
  ⟨u1,[0,0,0,0,0],_,u3,rfl,Mod.refl _ _⟩ (by
   rintro k w4 hk ⟨hl4,n,T4,hb4,v1,k3⟩
   refine ⟨((hp.no q8).mod k3 (by omega)).rd1 rfl,(hs.no k5).mod k3 (λx hx e=>by have:=hsl x hx; omega),λq9=>?_⟩
   refine hY _ _ w4 _ hl4 ⟨hl4,?_⟩
   have h9:=aT hl4
   obtain ⟨k4,v6,hsp⟩:=eO (o:=rec .busy none) h9
   have hrl:=hb4.lt
   have hbp:=hb4.mod k4 (show ¬ rb=ll by omega)
   have v7:TB (w4.putObj ll (rec .busy none)) (rb,5):=⟨n,_,v1,hbp⟩
   have hJ:J (λz=>z=rb) (w4.putObj ll (rec .busy none)) [(rb,5,true)] (w4.putObj ll (rec .busy none)):=⟨Mod.refl _ _,λq hq=>by
    obtain rfl:q=(rb,5,true):=by simpa using hq
    exact ⟨λ_=>⟨.inl rfl,v7⟩,v7.r⟩⟩
   refine aB (qBC (x:=l[k]) hJ (.head _)) ?_
   rintro v w5 ⟨rfl,v8⟩
   have y0:=v8.m
   obtain ⟨n5,T5,j4,t6⟩:=v8.tb (.head _)
   have y1:w5.heap[ll]? = some (rec .busy none):=by rw [y0.block ll (by omega) (by omega)]; exact v6
   refine ⟨rfl,y1,rfl,?_⟩
   have u5:=aT y1
   obtain ⟨y2,j5,i6⟩:=eO (o:=rec .ready none) u5
   refine ⟨j5,n5,T5,t6.mod y2 (by show ¬ rb=ll; omega),j4,?_⟩
   exact ((k3.tr (k4.mono λx _ e=>.inr e)).tr (y0.mono λx _ e=>.inl e)).tr (y2.mono λx _ e=>.inr e))
 refine oS u4 ?_ (λ_ _ h=>h.elim) (λ_ h=>h)
 rintro v w4 ⟨rfl,hl4,n,T4,hb4,v1,k3⟩
 left
 refine ⟨hl4,?_⟩
 have h9:=aT hl4
 obtain ⟨k4,v6,hsp⟩:=eO (o:=rec .exhausted none) h9
 have t6:=hb4.mod k4 (show ¬ rb=ll by omega)
 have y5:Mod NoB w (w4.putObj ll (rec .exhausted none)):=(k5.fresh k3 λx e=>by omega).fresh k4 λx e=>by omega
 refine bW (l:=32) (c:=32) u26 z6 z7 z8 rfl j2 rfl rfl (by omega) (by omega) (by omega) λe w7 k6 hbe y7=>⟨⟨_,_,_⟩,rfl,?_⟩
 have b1:=k6.at_; have b2:=k6.size; have b3:=y5.size
 have b4:dd<(w4.putObj ll (rec .exhausted none)).heap.size:=by omega
 have u6:(w4.putObj ll (rec .exhausted none)).heap[dd]? = some (.deferred (some [])):=by
  rw [k4.block dd (by omega) (by omega),k3.block dd (by omega) (by omega)]; exact u2
 rw [kI] at y7
 refine ⟨λl' w'=>match l' with | [.i _ x]=>∃ (k:Nat) (m:zY),x=k/\k<=32/\Sh.Own w' ⟨some ⟨e,0,none⟩,32,32⟩ 1 (bys m)/\Mod (λy=>y=e) w7 w' | _=>False,λl' _=>match l' with | [.i _ x]=>(32 - x).toNat | _=>0,
  ⟨0,_,rfl,by omega,y7,Mod.refl _ _⟩,?_⟩
 rintro x w8 ⟨k,m,rfl,hk,y8,t7⟩
 have j6:Blk w8 rb (us n) T4:=(t6.no k6.mod).mod t7 (by have:=t6.lt; omega)
 refine aC (λhlt=>?_) λhge=>?_
 ·have q9:k<32:=by simp at hlt; omega
  have e1:zW (Int.tdiv (k:Int) 8)=((k / 8:Nat):Int):=by
   rw [show Int.tdiv (k:Int) 8=((k / 8:Nat):Int) from rfl,wrap_i64 (by omega)]
  have e2:zW (8*Int.tmod (k:Int) 8)=((8*(k % 8):Nat):Int):=by
   rw [show Int.tmod (k:Int) 8=((k % 8:Nat):Int) from rfl,wrap_i64 (by omega)]; omega
  rw [e1,e2]
  refine ⟨by omega,⟨by omega,by omega⟩,n.getD (k / 8) 0,rda0 j6 (mC (by omega)),by omega,by omega,⟨by omega,by show (k:Int)<((32:Nat):Int); omega⟩,?_⟩
  simp only [Int.toNat_natCast]
  refine iC (by kernel_rfl) (by kernel_rfl) rfl y8 rfl q9 λw9 y9 b5 i7=>⟨⟨k+1,m.set k ((aM (n.getD (k / 8) 0) (8*(k % 8))).toUInt8),aI (by omega),by omega,?_,t7.tr (b5.mono λx _ hx=>by rw [Slc.blk_mk,if_neg (by omega)] at hx; cases hx; rfl)⟩,?_⟩
  ·rw [fU] at y9
   exact y9
  ·rw [aI (by omega)]; (try simp only []); omega
 ·have q9:k=32:=by simp at hge; omega
  subst q9
  have p8:w8.heap[dd]? = some (.deferred (some [])):=by rw [t7.block dd (by omega) (by omega),k6.mod.block dd b4 (λh=>h)]; exact u6
  have u7:=aT p8
  obtain ⟨z1,-,-⟩:=eO (w:=w8) (o:=.deferred none) u7
  have b6:Mod NoB w w8:=(y5.tr k6.mod).fresh t7 λx hx=>by omega
  refine ⟨p8,⟨some ⟨e,0,none⟩,32,32⟩,rfl,⟨m,y8.mod z1 (λx hx=>by rw [Slc.blk_mk,if_neg (by omega)] at hx; cases hx; omega)⟩,rfl,rfl,FB.new (by omega),b6.fresh z1 λx hx=>by omega⟩
theorem qFN {w:World} {s:Slc} {l:zY} (hs:aK w s 1 (bys l)) (hsl : ∀ x,s.blk=some x->x<w.heap.size) :
 Calls prog 242 #[.slice s.a s.len s.cap] w (Ret λv w'=>∃ x:Slc,v=x.val/\(∃ m:zY,Sh.Own w' x 1 (bys m)/\(l.length<=64->m.length=32))/\x.cap=x.len/\FB w x/\Mod NoB w w'):=by
 refine qLH _ ?_
 unfold qXB
 have hlen:=aV hs
 refine aC (λh=>?_) λh=>?_
 ·have:l.length > 64:=by simp at h; omega
  exact ⟨⟨none,0,0⟩,rfl,⟨[],bK _ _,λh=>by omega⟩,rfl,FB.nil _,Mod.refl _ _⟩
 ·have h' : ¬ l.length > 64:=by simp at h; omega
  refine aB (rE hs hsl (by omega)) ?_
  rintro v w1 ⟨x,rfl,⟨m,ho⟩,hl,hc,hf,hm⟩
  exact ⟨x,rfl,x,rfl,⟨m,ho,λ_=>by have:=aV ho.rd; omega⟩,by omega,hf,hm⟩
theorem getD_at {α:Type} {l:List α} {i:Nat} {d:α} (h:i<l.length):l[i]=l.getD i d:=by rw [List.getD,List.getElem?_eq_getElem h]; rfl
def xI (l:zY) (i:Nat):Bool:=(qE (l.getD (i / 8) 0) (i % 8) &&& 1)==1
def oP (l:zY):List Bool:=if l.length=32 then (List.range 256).map (xI l) else []
theorem qEN {w:World} {x:Slc} {ss:List Slc} (hx:aK w x 1 (ss.map Slc.val)) (hn:ss.length<=1000000000) :
 Calls prog 257 #[.slice x.a x.len x.cap] w (Ret λv w'=>v = .bool (ss.all λs=>s.len==32)/\w'=w):=by
 have hlen:ss.length=x.len:=by have:=hx.1; simp at this; omega
 refine qQT _ ?_
 unfold qVH
 have idx:Calls prog 358 #[.slice x.a x.len x.cap,.func (.func 318) #[] #[]] w (Ret λv w'=>∃ n:Int,v = .int .i64 n/\decide (n>=0) = !(ss.all λs=>s.len==32)/\w'=w):=by
  refine qOS _ _ ?_
  unfold qUL
  refine ⟨λl' w'=>match l' with | [.i _ y]=>∃ k:Nat,y=k/\k<=ss.length/\(ss.take k).all (λs=>s.len==32)=true/\w'=w | _=>False,λl' _=>match l' with | [.i _ y]=>(ss.length - y).toNat | _=>0,⟨0,rfl,by omega,rfl,rfl⟩,?_⟩
  rintro y w1 ⟨k,rfl,hk,hall,rfl⟩
  refine aC (λhlt=>?_) λhge=>?_
  ·have h9:k<ss.length:=by simp at hlt; omega
   obtain ⟨a,ea,hra⟩:=pA hx h9
   rw [ea]
   refine ⟨⟨by omega,by omega⟩,_,hra,?_⟩
   refine dX (by kernel_rfl) ?_
   refine aB (Q:=λv w'=>v = .bool ((ss[k].len:Int) != 32)/\w'=w1) (qLJ _ ⟨rfl,rfl⟩) ?_
   rintro v w2 ⟨rfl,rfl⟩
   refine ⟨_,rfl,aC (λh=>⟨_,rfl,?_,rfl⟩) λh=>⟨⟨k+1,aI (by omega),by omega,?_,rfl⟩,?_⟩⟩
   ·have hne : ¬ ss[k].len=32:=by simp at h; omega
    have:ss.all (λs=>s.len==32)=false:=by
     rw [List.all_eq_false]
     exact ⟨ss[k],List.getElem_mem h9,by simpa using hne⟩
    rw [this]; simp
   ·rw [aL h9,List.all_append,hall]
    have:ss[k].len=32:=by simp at h; omega
    simp [this]
   ·rw [aI (by omega)]; (try simp only []); omega
  ·have:k=ss.length:=by simp at hge; omega
   subst this
   rw [List.take_length] at hall
   exact ⟨-1,rfl,by rw [hall]; rfl,rfl⟩
 refine aB (Q:=λv w'=>v = .bool (!(ss.all λs=>s.len==32))/\w'=w) ?_ ?_
 ·refine qMG _ _ ?_
  unfold qVU
  refine aB idx ?_
  rintro v w1 ⟨n,rfl,h,rfl⟩
  exact ⟨_,rfl,by rw [h],rfl⟩
 ·rintro v w1 ⟨rfl,rfl⟩
  exact ⟨_,rfl,by simp,rfl⟩
theorem qER {w:World} {a b c:Slc} {la lb lc:zY} (ha:aK w a 1 (bys la)) (hal : ∀ x,a.blk=some x->x<w.heap.size) (hb:aK w b 1 (bys lb)) (hbl : ∀ x,b.blk=some x->x<w.heap.size) (hc:aK w c 1 (bys lc)) (hcl : ∀ x,c.blk=some x->x<w.heap.size) (y9:la.length=32) (z1:lb.length=32) (z6:lc.length=32) :
 Calls prog 192 #[.slice a.a a.len a.cap,.slice b.a b.len b.cap,.slice c.a c.len c.cap] w (Ret λv w'=>∃ x:Slc,v=x.val/\(∃ m:zY,Sh.Own w' x 1 (bys m)/\m.length=32)/\x.cap=x.len/\FB w x/\Mod NoB w w'):=by
 refine qMA _ _ _ ?_
 unfold qXP
 obtain ⟨i8,z7,z8,j2,j3⟩:=i5
 obtain ⟨j4,q8,q9,t6,t7⟩:=i44
 have hna:=aV ha; have hnb:=aV hb; have o0:=aV hc
 refine iL [a,b,c] (by rfl) rfl (by decide) (by decide) λx e w1 hN1 hx hbx j5=>⟨x,rfl,?_⟩
 refine aB (qEN j5.rd (by simp)) ?_
 rintro v w2 ⟨rfl,rfl⟩
 refine ⟨_,rfl,aC (λh=>?_) λh=>?_⟩
 ·have e1:a.len=32:=by omega
  have e2:b.len=32:=by omega
  have e3:c.len=32:=by omega
  simp [e1,e2,e3] at h
 have hM1:=hN1.mod
 refine bW (l:=66) (c:=66) u40 q8 q9 t6 rfl t7 rfl rfl (by omega) (by omega) (by omega) λt w3 u0 v8 o1=>⟨⟨_,_,_⟩,rfl,?_⟩
 have a1:=hN1.at_; have a2:=hN1.size; have a3:=u0.at_; have a4:=u0.size
 have k5:=hM1.tr u0.mod
 have h9:List.replicate 66 z64=us (List.replicate 66 0):=by simp [us,z64]
 rw [h9] at v8
 have hra : ∀ w',Mod (λy=>y=t) w3 w'->aK w' a 1 (bys la):=λw' hm=>(ha.no k5).mod hm λx hx e=>by have:=hal x hx; omega
 have j6 : ∀ w',Mod (λy=>y=t) w3 w'->aK w' b 1 (bys lb):=λw' hm=>(hb.no k5).mod hm λx hx e=>by have:=hbl x hx; omega
 have b5 : ∀ w',Mod (λy=>y=t) w3 w'->aK w' c 1 (bys lc):=λw' hm=>(hc.no k5).mod hm λx hx e=>by have:=hcl x hx; omega
 refine ⟨λl' w'=>match l' with | [.i _ x]=>∃ (i:Nat) (tl:List UInt64),x=i/\i<=32/\Blk w' t (us tl) 188/\tl.length=66/\Mod (λy=>y=t) w3 w' | _=>False,λl' _=>match l' with | [.i _ x]=>(32 - x).toNat | _=>0,
  ⟨0,_,rfl,by omega,v8,by simp,Mod.refl _ _⟩,?_⟩
 rintro x1 w4 ⟨i,tl,rfl,hi,hb4,htl,k6⟩
 refine aC (λhlt=>?_) λhge=>?_
 ·have y0:i<32:=by simp at hlt; omega
  simp only [Int.toNat_natCast]
  obtain ⟨ac,eac,u1⟩:=gL ((b5 w4 k6).drew) (i:=i) (by omega)
  rw [eac]
  refine ⟨λw'=>w'=w4.drew,rfl,⟨by omega,by show (i:Int)<((66:Nat):Int); omega⟩,⟨by omega,by omega⟩,tl.getD i 0,λw' hw=>by rw [hw]; exact rda hb4.drew (mC (by omega)),_,λw' hw=>by rw [hw]; exact u1,⟨by omega,by show (i:Int)<((66:Nat):Int); omega⟩,?_,trivial⟩
  refine iX (b:=t) (n:=i) (by kernel_rfl) (by kernel_rfl) rfl hb4.drew (by simp; omega) λw5 b6 y1=>?_
  rw [qHA] at y1
  have a6:=k6.dr.tr b6.mod
  refine ⟨λl' w'=>match l' with | [.i _ x]=>∃ (k:Nat) (tl:List UInt64),x=k/\k<=32/\Blk w' t (us tl) 188/\tl.length=66/\Mod (λy=>y=t) w3 w' | _=>False,λl' _=>match l' with | [.i _ x]=>(32 - x).toNat | _=>0,
   ⟨0,_,rfl,by omega,y1,by simp [htl],a6⟩,?_⟩
  rintro x2 w6 ⟨k,tk,rfl,hk,u2,htk,p8⟩
  refine aC (λu3=>?_) λu4=>?_
  ·have k3:k<32:=by simp at u3; omega
   have e1:zW ((i:Int)+(k:Int))=((i+k:Nat):Int):=by rw [wrap_i64 (by omega)]; omega
   rw [e1]
   simp only [Int.toNat_natCast]
   obtain ⟨aa,eaa,u5⟩:=gL ((hra w6 p8).drew) (i:=i) (by omega)
   obtain ⟨ab,eab,u6⟩:=gL ((j6 w6 p8).drew) (i:=k) (by omega)
   rw [eaa,eab]
   refine ⟨λw'=>w'=w6.drew,rfl,⟨by omega,by show ((i+k:Nat):Int)<((66:Nat):Int); omega⟩,⟨by omega,by omega⟩,⟨by omega,by omega⟩,tk.getD (i+k) 0,λw' hw=>by rw [hw]; exact rda u2.drew (mC (by omega)),_,λw' hw=>by rw [hw]; exact u5,_,λw' hw=>by rw [hw]; exact u6,⟨by omega,by show ((i+k:Nat):Int)<((66:Nat):Int); omega⟩,?_,trivial⟩
   refine iX (b:=t) (n:=i+k) (by kernel_rfl) (by kernel_rfl) rfl u2.drew (by simp; omega) λw7 a7 y2=>?_
   rw [qHA] at y2
   refine ⟨⟨k+1,_,aI (by omega),by omega,y2,by simp [htk],p8.dr.tr a7.mod⟩,?_⟩
   rw [aI (by omega)]; (try simp only []); omega
  ·have k3:k=32:=by simp at u4; omega
   subst k3
   refine ⟨⟨i+1,tk,aI (by omega),by omega,u2,htk,p8⟩,?_⟩
   rw [aI (by omega)]; (try simp only []); omega
 ·have y0:i=32:=by simp at hge; omega
  subst y0
  have a8:Mod NoB w w4:=k5.fresh k6 λx hx=>by omega
  have hs4:=k6.size
  refine bW (l:=66) (c:=66) u26 z7 z8 j2 rfl j3 rfl rfl (by omega) (by omega) (by omega) λo w8 p9 y5 o2=>⟨⟨_,_,_⟩,rfl,?_⟩
  have b1:=p9.at_; have b2:=p9.size
  have i6:=hb4.no p9.mod
  rw [kI] at y5
  refine ⟨λl' w'=>match l' with | [.u64 cy,.i _ x]=>∃ (k:Nat) (ob:zY),x=k/\k<=66/\ob.length=66/\Blk w' o (bys ob) 5/\Mod (λy=>y=o) w8 w' | _=>False,λl' _=>match l' with | [.u64 _,.i _ x]=>(66 - x).toNat | _=>0,
   ⟨0,_,rfl,by omega,by simp,y5,Mod.refl _ _⟩,?_⟩
  rintro cy x3 w9 ⟨k,ob,rfl,hk,u7,u9,v1⟩
  have hb9t:Blk w9 t (us tl) 188:=i6.mod v1 (by have:=hb4.lt; omega)
  refine aC (λhlt=>?_) λhge=>?_
  ·have k3:k<66:=by have h:(k:Int)<((66:Nat):Int):=by simpa using hlt
                    omega
   simp only [Int.toNat_natCast]
   refine ⟨⟨by omega,by show (k:Int)<((66:Nat):Int); omega⟩,tl.getD k 0,rda hb9t (mC (by omega)),⟨by omega,by show (k:Int)<((66:Nat):Int); omega⟩,?_⟩
   refine iX (b:=o) (n:=k) (by kernel_rfl) (by kernel_rfl) rfl u9 (by simp [u7]; omega) λo3 v6 k4=>?_
   rw [fU] at k4
   refine ⟨by omega,⟨k+1,_,aI (by omega),by omega,by simp [u7],k4,v1.tr v6.mod⟩,?_⟩
   rw [aI (by omega)]; (try simp only []); omega
  ·have k3:k=66:=by have h : ¬ (k:Int)<((66:Nat):Int):=by simpa using hge
                    omega
   subst k3
   have y7:Mod NoB w w9:=(a8.tr p9.mod).fresh v1 λx hx=>by omega
   have hro:aK w9 ⟨some ⟨o,0,none⟩,66,66⟩ 1 (bys ob):=(aY (n:=66) (k:=1) u9 (by simp [u7])).rd
   refine aB (rE hro (λx hx=>by rw [Slc.blk_mk,if_neg (by omega)] at hx; cases hx; exact u9.lt) (by omega)) ?_
   rintro v o4 ⟨y,rfl,⟨m,y8⟩,hyl,o5,i7,v7⟩
   exact ⟨y,rfl,y,rfl,⟨m,y8,by have:=aV y8.rd; omega⟩,by omega,i7.le y7.size,y7.tr v7⟩
def bls (l:List Bool):List Value:=l.map .bool
@[simp] theorem jHQ (l:List Bool):(bls l).length=l.length:=by simp [bls]
theorem qMU (l:List Bool) : ∀ y∈bls l,y.oneCell'=true:=by
 intro y hy; obtain ⟨x,_,rfl⟩:=List.mem_map.1 hy; rfl
theorem qOG (a b:List Bool):bls (a++b)=bls a++bls b:=by simp [bls]
theorem qSJ {w:World} {s:Slc} {l:List Bool} (h:aK w s 1 (bls l)) {i:Nat} (hi:i<l.length) : ∃ a,s.a=some a/\Rd w (a.add (i*1)) [.bool l[i]]:=
 h.at (by have:=h.1; simp at this; omega) (by omega) λj u hu=>by
  cases j with
  | zero=>simp at hu; subst hu; simp [bls,hi]
  | succ j=>simp at hu
theorem qCO {w:World} {s:Slc} {l:List Bool} (h:aK w s 1 (bls l)):l.length=s.len:=by have:=h.1; simpa using this
theorem qHT:prog.underlying 191=some (.slice 4):=by kernel_rfl
theorem jEY : ∃ i,prog.info? 4=some i/\i.zero=some (.bool false)/\i.size=1/\i.bytes=1:=bC (by kernel_rfl) (by kernel_rfl) (by kernel_rfl)
section
variable {K:Slc->zP} {w:World}
theorem qFE {s:Slc} {l:List Bool} {c:Bool} (hs:Sh.Own w s 1 (bls l)) (hn:l.length<=2000000000)
 (hK : ∀ (s':Slc) w',Sh.Own w' s' 1 (bls (l++[c]))->s'.len=s.len+1->Mod (λx=>s.blk=some x) w w'->(s'.blk=s.blk\/∃ x,s'.blk=some x/\w.heap.size<=x)->K s' w') :
 aH prog (Instr.buildSlice 191 1 #[(0,(.bool c))]) w λv w2=>∃ x1:Slc,v=(.slice x1.a x1.len x1.cap)/\aH prog (Builtin.append_ #[191,191] 191 #[(.slice s.a s.len s.cap),(.slice x1.a x1.len x1.cap)]) w2 λv1 w3=>∃ x2:Slc,v1=(.slice x2.a x2.len x2.cap)/\K x2 w3:=by
 obtain ⟨p8,h9,k3,k4,k5⟩:=jEY
 have hl:=qCO hs.rd
 refine bZ (l:=[.bool c]) [.bool c] qHT h9 k3 k4 (by decide) rfl (by decide) (by decide) rfl (by simp [Value.cells]) rfl λb w1 hN hb=>⟨⟨_,_,_⟩,rfl,?_⟩
 have a1:=hN.at_; have a2:=hN.size
 refine aS qHT h9 k3 k4 rfl k5 (hs.no hN.mod) (aY (n:=1) (k:=1) hb rfl).rd (qMU [c]) (by simp only []; omega) (by simp only []; omega) λs' w2 ho hlen hblk k6=>⟨s',rfl,hK s' w2 ?_ hlen ((hN.mod.mono λ_ _ h=>h.elim).tr k6) ?_⟩
 ·rw [qOG]; exact ho
 ·rcases hblk with h | h
  ·exact .inl h
  ·exact .inr ⟨_,h,by omega⟩
end
theorem qQQ {w:World} {b:Slc} {l:zY} (hb:aK w b 1 (bys l)) (hbl : ∀ x,b.blk=some x->x<w.heap.size) :
 Calls prog 251 #[.slice b.a b.len b.cap] w (Ret λv w'=>∃ x:Slc,v=x.val/\Sh.Own w' x 1 (bls (oP l))/\FB w x/\Mod NoB w w'):=by
 refine qMT _ ?_
 unfold qUV
 have hn:=aV hb
 refine aC (λh=>?_) λh=>?_
 ·have : ¬ l.length=32:=by simp at h; omega
  exact ⟨⟨none,0,0⟩,rfl,by rw [oP,if_neg this]; exact bK _ _,FB.nil _,Mod.refl _ _⟩
 have h32:l.length=32:=by simp at h; omega
 refine aB (Q:=λv w'=>∃ p,v = .func (.func 355) #[] #[.pointer (some ⟨p,0,none⟩)]/\(∃ T,Blk w' p [b.val] T)/\w.heap.size<=p/\Mod NoB w w') ?_ ?_
 ·refine qQS _ ?_
  unfold qTM
  refine aQ (l:=[b.val]) rfl λp w1 hN1 hb1=>⟨_,rfl,?_⟩
  have h1:=hN1.at_
  exact ⟨p,rfl,⟨_,hb1⟩,by omega,hN1.mod⟩
 rintro v w1 ⟨p,rfl,⟨T,hp⟩,hps,q8⟩
 refine ⟨_,rfl,?_⟩
 suffices hc:Calls prog 354 #[.slice none 0 0,.func (.func 355) #[] #[.pointer (some ⟨p,0,none⟩)]] w1 (Ret λv w'=>∃ x:Slc,v=x.val/\Sh.Own w' x 1 (bls (oP l))/\FB w1 x/\Mod NoB w1 w') by
  refine aB (Q:=λv w'=>∃ x:Slc,v=x.val/\Sh.Own w' x 1 (bls (oP l))/\FB w1 x/\Mod NoB w1 w') ?_ ?_
  ·refine qRR _ ?_
   unfold qUR
   refine aB hc ?_
   rintro v w2 ⟨x,rfl,h⟩
   exact ⟨x,rfl,x,rfl,h⟩
  ·rintro v w2 ⟨x,rfl,ho,hf,y9⟩
   exact ⟨x,rfl,x,rfl,ho,hf.le q8.size,q8.tr y9⟩
 refine qOP ⟨none,0,0⟩ _ ?_
 unfold qYH
 refine aQ (l:=[.slice none 0 0]) rfl λq w2 u1 hq2=>⟨_,rfl,355,#[],#[.pointer (some ⟨p,0,none⟩)],rfl,by kernel_rfl,?_⟩
 rintro rec dd ll w3 y0 hll q9 hY
 have a1:=u1.at_; have a2:=u1.size
 have y1:Mod NoB w2 w3:=by rw [q9]; exact (cS _ _).tr (cS _ _)
 have z1:w3.heap.size=ll+1:=by rw [q9]; simp; omega
 have u2:w3.heap[ll]? = some (rec .ready none):=by
  rw [q9,hll,y0]
  have:=heap_alloc_new (w2.alloc (.deferred (some []))) (rec .ready none)
  simpa using this
 have u3:w3.heap[dd]? = some (.deferred (some [])):=by
  rw [q9,y0,heap_alloc_old _ _ (by simp)]
  exact heap_alloc_new _ _
 have hpl:=hp.lt
 have h9:Mod NoB w1 w3:=u1.mod.tr y1
 have hb3:aK w3 b 1 (bys l):=(hb.no q8).no h9
 have hm1s:=q8.size
 let I:Nat->zP:=λk w'=>w'.heap[ll]? = some (rec .ready none)/\∃ s,Blk w' q [s.val] 191/\Sh.Own w' s 1 (bls ((List.range k).map (xI l)))/\FB w3 s/\Mod (λx=>x=q\/x=ll) w3 w'
 have u4:Calls prog 355 #[.func (.yield ll) #[] #[],.pointer (some ⟨p,0,none⟩)] w3 (Ret λv w'=>I 256 w'):=by
  refine qQX _ _ ?_
  unfold qSZ
  have e0:zW (8*(b.len:Int))=256:=by rw [wrap_i64 (by omega)]; omega
  refine ⟨b,(hp.no h9).rd1 rfl,?_⟩
  rw [e0]
  refine ⟨λl' w'=>match l' with | [.i _ x]=>∃ k:Nat,x=k/\k<=256/\I k w' | _=>False,λl' _=>match l' with | [.i _ x]=>(256 - x).toNat | _=>0,⟨0,rfl,by omega,u2,⟨none,0,0⟩,hq2.no y1,bK _ _,FB.nil _,Mod.refl _ _⟩,?_⟩
  rintro x w4 ⟨k,rfl,hk,u5⟩
  refine aC (λhlt=>?_) λhge=>?_
  ·have a7:k<256:=by simp at hlt; omega
   have z6:=u5
   obtain ⟨hl4,s,p8,u6,k3,k5⟩:=u5
   have hne : ∀ x,x<w2.heap.size->x≠q->¬ (x=q\/x=ll):=λx hx a8 e=>by omega
   have z7:Blk w4 p [b.val] T:=(hp.no h9).mod k5 (hne p (by omega) (by omega))
   have hb4:aK w4 b 1 (bys l):=hb3.mod k5 λx hx e=>by have:=hbl x hx; omega
   have e1:zW (Int.tdiv (k:Int) 8)=((k / 8:Nat):Int):=by
    rw [show Int.tdiv (k:Int) 8=((k / 8:Nat):Int) from rfl,wrap_i64 (by omega)]
   have e2:Int.tmod (k:Int) 8=((k % 8:Nat):Int):=rfl
   obtain ⟨ab,eab,z8⟩:=gL hb4 (i:=k / 8) (by omega)
   rw [e1,e2]
   refine ⟨b,z7.rd1 rfl,by omega,⟨by omega,by omega⟩,?_⟩
   rw [eab]
   refine ⟨_,z8,by omega,by omega,?_⟩
   show eZ _ _ _ _ _
   simp only [Int.toNat_natCast]
   have e3:((qE l[k / 8] (k % 8) &&& 1)==1)=xI l k:=by
    unfold xI
    rw [<-getD_at (d:=0) (by omega:k / 8<l.length)]
   rw [e3]
   refine hY _ w4 _ hl4 ⟨hl4,?_⟩
   have k6:=aT hl4
   obtain ⟨k4,y2,hsp⟩:=eO (o:=rec .busy none) k6
   have j2:=p8.lt
   have hsl : ∀ x,s.blk=some x->x≠ll:=λx hx e=>by have:=k3 x hx; omega
   have t6:=p8.mod k4 (show ¬ q=ll by omega)
   have t7:=u6.mod k4 hsl
   refine ⟨s,t6.rd1 rfl,?_⟩
   refine qFE (s:=s) t7 (by simp; omega) λs' w5 j3 y5 u0 u7=>?_
   have j4 : ∀ x,s.blk=some x->x≠q:=λx hx e=>by have:=k3 x hx; omega
   have j5:Blk w5 q [s.val] 191:=t6.mod u0 λe=>j4 q e rfl
   refine aX (b:=q) (o:=0) (l:=[s.val]) (by kernel_rfl) (by kernel_rfl) rfl j5 (by simp) λw6 u9 j6=>?_
   have v1:FB w3 s':=λx hx=>by
    rcases u7 with h | ⟨y,h,hy⟩
    ·exact k3 x (by rw [<-h]; exact hx)
    ·rw [h] at hx; cases hx; omega
   have y7:w6.heap[ll]? = some (rec .busy none):=by
    rw [u9.mod.block ll (by have:=u0.size; omega) (by omega),u0.block ll (by omega) (λe=>hsl ll e rfl)]; exact y2
   refine ⟨y7,?_⟩
   have v6:=aT y7
   obtain ⟨v7,b5,i6⟩:=eO (o:=rec .ready none) v6
   refine ⟨true,rfl,?_⟩
   show aE false _ _
   refine aC (λe=>by cases e) λ_=>⟨⟨k+1,aI (by omega),by omega,b5,s',?_,?_,v1,?_⟩,?_⟩
   ·have h7:Blk w6 q [s'.val] 191:=j6
    exact h7.mod v7 (by omega)
   ·have h8:=(j3.mod u9.mod λx hx e=>by have:=v1 x hx; omega).mod v7 λx hx e=>by have:=v1 x hx; omega
    rw [List.range_succ,List.map_append]
    exact h8
   ·have m1:Mod (λx=>x=q\/x=ll) w3 (w4.putObj ll (rec .busy none)):=k5.tr (k4.mono λx _ e=>.inr e)
    have m2:Mod (λx=>x=q\/x=ll) w3 w5:=m1.trans u0 (λ_ _ h=>h) λx hx e=>by have:=k3 x e; omega
    exact (m2.tr (u9.mod.mono λx _ e=>.inl e)).tr (v7.mono λx _ e=>.inr e)
   ·rw [aI (by omega)]; (try simp only []); omega
  ·have:k=256:=by simp at hge; omega
   subst this
   exact u5
 refine oS u4 ?_ (λ_ _ h=>h.elim) (λ_ h=>h)
 rintro v w4 ⟨hl4,s,p8,u6,k3,k5⟩
 left
 refine ⟨hl4,?_⟩
 have k6:=aT hl4
 obtain ⟨k4,y2,hsp⟩:=eO (o:=rec .exhausted none) k6
 have j2:=p8.lt
 have t6:=p8.mod k4 (show ¬ q=ll by omega)
 have t7:=u6.mod k4 λx hx e=>by have:=k3 x hx; omega
 have hm4s:=k5.size
 have p9:(w4.putObj ll (rec .exhausted none)).heap[dd]? = some (.deferred (some [])):=by
  rw [k4.block dd (by omega) (by omega),k5.block dd (by omega) (by omega)]; exact u3
 refine ⟨s,t6.rd1 rfl,p9,?_⟩
 have v8:=aT p9
 obtain ⟨y8,-,-⟩:=eO (w:=w4.putObj ll (rec .exhausted none)) (o:=.deferred none) v8
 have b6:(List.range 256).map (xI l)=oP l:=by rw [oP,if_pos h32]
 rw [b6] at t7
 have a6:=(h9.fresh k5 λx e=>by omega).fresh k4 λx e=>by omega
 exact ⟨s,rfl,t7.mod y8 (λx hx e=>by have:=k3 x hx; omega),λx hx=>by have:=k3 x hx; have:=h9.size; omega,a6.fresh y8 λx e=>by omega⟩
def jFI (K:Nat) (T:TypeId) (f g:FuncId) (s:Slc) (i:Int) (v:Slc) (w:World) (R:RW):Prop:=
 ((0<=i/\i<=(s.len:Nat))/\aE ((v.len:Int)==(0:Int)) (R (.returned (.slice s.a s.len s.cap)) w) (aE (i==(s.len:Int)) (aH prog (Builtin.append_ #[T,T] T #[.slice s.a s.len s.cap,.slice v.a v.len v.cap]) w λv1 w1=>∃ x:Slc,v1=(.slice x.a x.len x.cap)/\R (.returned (.slice x.a x.len x.cap)) w1) (aE (decide ((zW ((s.len:Int)+(v.len:Int))) > (s.cap:Int))) (((0<=i/\i<=(s.cap:Nat))/\aH prog (Builtin.append_ #[T,3] T #[.slice (aF s K 0 (i.toNat) s.cap).a (aF s K 0 (i.toNat) s.cap).len (aF s K 0 (i.toNat) s.cap).cap,.int .i64 (zW ((zW ((s.len:Int)+(v.len:Int))) - i))]) w λv2 w2=>∃ x1:Slc,v2=(.slice x1.a x1.len x1.cap)/\((0<=i/\i<=(x1.len:Nat))/\aH prog (Builtin.copy_ #[T,T] 3 #[.slice (aF x1 K (i.toNat) x1.len x1.cap).a (aF x1 K (i.toNat) x1.len x1.cap).len (aF x1 K (i.toNat) x1.len x1.cap).cap,.slice v.a v.len v.cap]) w2 λv3 w3=>∃ x2:Int,v3=(.int .i64 x2)/\((0<=(zW (i+(v.len:Int)))/\(zW (i+(v.len:Int)))<=(x1.len:Nat))/\((0<=i/\i<=(s.len:Nat))/\((aH prog (Builtin.copy_ #[T,T] 3 #[.slice (aF x1 K (((zW (i+(v.len:Int)))).toNat) x1.len x1.cap).a (aF x1 K (((zW (i+(v.len:Int)))).toNat) x1.len x1.cap).len (aF x1 K (((zW (i+(v.len:Int)))).toNat) x1.len x1.cap).cap,.slice (aF s K (i.toNat) s.len s.cap).a (aF s K (i.toNat) s.len s.cap).len (aF s K (i.toNat) s.len s.cap).cap]) w3.drew λv4 w4=>∃ x3:Int,v4=(.int .i64 x3)/\R (.returned (.slice x1.a x1.len x1.cap)) w4)/\True)))))) (((0<=(zW ((s.len:Int)+(v.len:Int)))/\(zW ((s.len:Int)+(v.len:Int)))<=(s.cap:Nat))/\((0<=(zW (i+(v.len:Int)))/\(zW (i+(v.len:Int)))<=((aF s K 0 (((zW ((s.len:Int)+(v.len:Int)))).toNat) s.cap).len:Nat))/\∃ v5 w5,(callFunc f #[.slice v.a v.len v.cap,.slice (aF (aF s K 0 (((zW ((s.len:Int)+(v.len:Int)))).toNat) s.cap) K (((zW (i+(v.len:Int)))).toNat) ((aF s K 0 (((zW ((s.len:Int)+(v.len:Int)))).toNat) s.cap).len) ((aF s K 0 (((zW ((s.len:Int)+(v.len:Int)))).toNat) s.cap).cap)).a (aF (aF s K 0 (((zW ((s.len:Int)+(v.len:Int)))).toNat) s.cap) K (((zW (i+(v.len:Int)))).toNat) ((aF s K 0 (((zW ((s.len:Int)+(v.len:Int)))).toNat) s.cap).len) ((aF s K 0 (((zW ((s.len:Int)+(v.len:Int)))).toNat) s.cap).cap)).len (aF (aF s K 0 (((zW ((s.len:Int)+(v.len:Int)))).toNat) s.cap) K (((zW (i+(v.len:Int)))).toNat) ((aF s K 0 (((zW ((s.len:Int)+(v.len:Int)))).toNat) s.cap).len) ((aF s K 0 (((zW ((s.len:Int)+(v.len:Int)))).toNat) s.cap).cap)).cap]).run prog w = .ok (.value v5) w5/\∃ x4:Bool,v5=(.bool x4)/\aE (!x4) (((0<=(zW (i+(v.len:Int)))/\(zW (i+(v.len:Int)))<=((aF s K 0 (((zW ((s.len:Int)+(v.len:Int)))).toNat) s.cap).len:Nat))/\((0<=i/\i<=((aF s K 0 (((zW ((s.len:Int)+(v.len:Int)))).toNat) s.cap).len:Nat))/\((aH prog (Builtin.copy_ #[T,T] 3 #[.slice (aF (aF s K 0 (((zW ((s.len:Int)+(v.len:Int)))).toNat) s.cap) K (((zW (i+(v.len:Int)))).toNat) ((aF s K 0 (((zW ((s.len:Int)+(v.len:Int)))).toNat) s.cap).len) ((aF s K 0 (((zW ((s.len:Int)+(v.len:Int)))).toNat) s.cap).cap)).a (aF (aF s K 0 (((zW ((s.len:Int)+(v.len:Int)))).toNat) s.cap) K (((zW (i+(v.len:Int)))).toNat) ((aF s K 0 (((zW ((s.len:Int)+(v.len:Int)))).toNat) s.cap).len) ((aF s K 0 (((zW ((s.len:Int)+(v.len:Int)))).toNat) s.cap).cap)).len (aF (aF s K 0 (((zW ((s.len:Int)+(v.len:Int)))).toNat) s.cap) K (((zW (i+(v.len:Int)))).toNat) ((aF s K 0 (((zW ((s.len:Int)+(v.len:Int)))).toNat) s.cap).len) ((aF s K 0 (((zW ((s.len:Int)+(v.len:Int)))).toNat) s.cap).cap)).cap,.slice (aF (aF s K 0 (((zW ((s.len:Int)+(v.len:Int)))).toNat) s.cap) K (i.toNat) ((aF s K 0 (((zW ((s.len:Int)+(v.len:Int)))).toNat) s.cap).len) ((aF s K 0 (((zW ((s.len:Int)+(v.len:Int)))).toNat) s.cap).cap)).a (aF (aF s K 0 (((zW ((s.len:Int)+(v.len:Int)))).toNat) s.cap) K (i.toNat) ((aF s K 0 (((zW ((s.len:Int)+(v.len:Int)))).toNat) s.cap).len) ((aF s K 0 (((zW ((s.len:Int)+(v.len:Int)))).toNat) s.cap).cap)).len (aF (aF s K 0 (((zW ((s.len:Int)+(v.len:Int)))).toNat) s.cap) K (i.toNat) ((aF s K 0 (((zW ((s.len:Int)+(v.len:Int)))).toNat) s.cap).len) ((aF s K 0 (((zW ((s.len:Int)+(v.len:Int)))).toNat) s.cap).cap)).cap]) w5.drew λv6 w6=>∃ x5:Int,v6=(.int .i64 x5)/\((0<=i/\i<=((aF s K 0 (((zW ((s.len:Int)+(v.len:Int)))).toNat) s.cap).len:Nat))/\aH prog (Builtin.copy_ #[T,T] 3 #[.slice (aF (aF s K 0 (((zW ((s.len:Int)+(v.len:Int)))).toNat) s.cap) K (i.toNat) ((aF s K 0 (((zW ((s.len:Int)+(v.len:Int)))).toNat) s.cap).len) ((aF s K 0 (((zW ((s.len:Int)+(v.len:Int)))).toNat) s.cap).cap)).a (aF (aF s K 0 (((zW ((s.len:Int)+(v.len:Int)))).toNat) s.cap) K (i.toNat) ((aF s K 0 (((zW ((s.len:Int)+(v.len:Int)))).toNat) s.cap).len) ((aF s K 0 (((zW ((s.len:Int)+(v.len:Int)))).toNat) s.cap).cap)).len (aF (aF s K 0 (((zW ((s.len:Int)+(v.len:Int)))).toNat) s.cap) K (i.toNat) ((aF s K 0 (((zW ((s.len:Int)+(v.len:Int)))).toNat) s.cap).len) ((aF s K 0 (((zW ((s.len:Int)+(v.len:Int)))).toNat) s.cap).cap)).cap,.slice v.a v.len v.cap]) w6 λv7 w7=>∃ x6:Int,v7=(.int .i64 x6)/\R (.returned (.slice (aF s K 0 (((zW ((s.len:Int)+(v.len:Int)))).toNat) s.cap).a (aF s K 0 (((zW ((s.len:Int)+(v.len:Int)))).toNat) s.cap).len (aF s K 0 (((zW ((s.len:Int)+(v.len:Int)))).toNat) s.cap).cap)) w7))/\True)))) (((0<=(s.len:Int)/\(s.len:Int)<=((aF s K 0 (((zW ((s.len:Int)+(v.len:Int)))).toNat) s.cap).len:Nat))/\aH prog (Builtin.copy_ #[T,T] 3 #[.slice (aF (aF s K 0 (((zW ((s.len:Int)+(v.len:Int)))).toNat) s.cap) K (((s.len:Int)).toNat) ((aF s K 0 (((zW ((s.len:Int)+(v.len:Int)))).toNat) s.cap).len) ((aF s K 0 (((zW ((s.len:Int)+(v.len:Int)))).toNat) s.cap).cap)).a (aF (aF s K 0 (((zW ((s.len:Int)+(v.len:Int)))).toNat) s.cap) K (((s.len:Int)).toNat) ((aF s K 0 (((zW ((s.len:Int)+(v.len:Int)))).toNat) s.cap).len) ((aF s K 0 (((zW ((s.len:Int)+(v.len:Int)))).toNat) s.cap).cap)).len (aF (aF s K 0 (((zW ((s.len:Int)+(v.len:Int)))).toNat) s.cap) K (((s.len:Int)).toNat) ((aF s K 0 (((zW ((s.len:Int)+(v.len:Int)))).toNat) s.cap).len) ((aF s K 0 (((zW ((s.len:Int)+(v.len:Int)))).toNat) s.cap).cap)).cap,.slice v.a v.len v.cap]) w5 λv8 w8=>∃ x7:Int,v8=(.int .i64 x7)/\((0<=i/\i<=((aF s K 0 (((zW ((s.len:Int)+(v.len:Int)))).toNat) s.cap).len:Nat))/\aD prog g [.slice (aF (aF s K 0 (((zW ((s.len:Int)+(v.len:Int)))).toNat) s.cap) K (i.toNat) ((aF s K 0 (((zW ((s.len:Int)+(v.len:Int)))).toNat) s.cap).len) ((aF s K 0 (((zW ((s.len:Int)+(v.len:Int)))).toNat) s.cap).cap)).a (aF (aF s K 0 (((zW ((s.len:Int)+(v.len:Int)))).toNat) s.cap) K (i.toNat) ((aF s K 0 (((zW ((s.len:Int)+(v.len:Int)))).toNat) s.cap).len) ((aF s K 0 (((zW ((s.len:Int)+(v.len:Int)))).toNat) s.cap).cap)).len (aF (aF s K 0 (((zW ((s.len:Int)+(v.len:Int)))).toNat) s.cap) K (i.toNat) ((aF s K 0 (((zW ((s.len:Int)+(v.len:Int)))).toNat) s.cap).len) ((aF s K 0 (((zW ((s.len:Int)+(v.len:Int)))).toNat) s.cap).cap)).cap,.int .i64 (v.len:Int)] w8 (aG R) λv9 w9=>v9=(.tuple #[])/\R (.returned (.slice (aF s K 0 (((zW ((s.len:Int)+(v.len:Int)))).toNat) s.cap).a (aF s K 0 (((zW ((s.len:Int)+(v.len:Int)))).toNat) s.cap).len (aF s K 0 (((zW ((s.len:Int)+(v.len:Int)))).toNat) s.cap).cap)) w9)))))))))
def qTW (b:Slc) (w:World) (R:RW):Prop:=
 aH prog (Instr.alloc 287 true (.tuple #[])) w λv w1=>∃ x:zO,v=(.pointer x)/\aE ((b.len:Int) != (32:Int)) (aA x λa=>aJ prog (storeVar 287 a (.agg #[.int .u64 ((0:UInt64)).toNat,.int .u64 ((0:UInt64)).toNat,.int .u64 ((0:UInt64)).toNat,.int .u64 ((0:UInt64)).toNat,.int .u64 ((0:UInt64)).toNat,.int .u64 ((0:UInt64)).toNat,.int .u64 ((0:UInt64)).toNat,.int .u64 ((0:UInt64)).toNat,.int .u64 ((0:UInt64)).toNat,.int .u64 ((0:UInt64)).toNat,.int .u64 ((0:UInt64)).toNat,.int .u64 ((0:UInt64)).toNat,.int .u64 ((0:UInt64)).toNat,.int .u64 ((0:UInt64)).toNat,.int .u64 ((0:UInt64)).toNat,.int .u64 ((0:UInt64)).toNat,.int .u64 ((0:UInt64)).toNat,.int .u64 ((0:UInt64)).toNat,.int .u64 ((0:UInt64)).toNat,.int .u64 ((0:UInt64)).toNat])) w1 λw2=>aA x λa1=>∃ xaa xab xac xad xae xba xbb xbc xbd xbe xca xcb xcc xcd xce xda xdb xdc xdd xde:UInt64,Rd w2 a1 (l20 xaa xab xac xad xae xba xbb xbc xbd xbe xca xcb xcc xcd xce xda xdb xdc xdd xde)/\R (.returned (.tuple #[e20 xaa xab xac xad xae xba xbb xbc xbd xbe xca xcb xcc xcd xce xda xdb xdc xdd xde,.bool false])) w2) (aD prog 186 [zS b] w1 (aG R) λv1 w3=>∃ x1:Slc,v1=(zS x1)/\((0<=(31:Int)/\(31:Int)<(x1.len:Nat))/\aA x1.a λa2=>∃ x2:UInt8,Rd w3 (a2.add (((31:Int)).toNat*1)) [.int .u8 x2.toNat]/\((0<=(31:Int)/\(31:Int)<(x1.len:Nat))/\aA x1.a λa3=>∃ x3:UInt8,Rd w3 (a3.add (((31:Int)).toNat*1)) [.int .u8 x3.toNat]/\((0<=(31:Int)/\(31:Int)<(x1.len:Nat))/\aA x1.a λa4=>aJ prog (storeVar 5 (a4.add (((31:Int)).toNat*1)) (.int .u8 ((x3 &&& ~~~(128:UInt8))).toNat)) w3 λw4=>aD prog 314 [zS x1] w4 (aG R) λv2 w5=>∃ xaa1 xab1 xac1 xad1 xae1:UInt64,∃ xb:Bool,v2=(.tuple #[e5 xaa1 xab1 xac1 xad1 xae1,.bool xb])/\aH prog (Instr.alloc 285 true (.tuple #[])) w5 λv3 w6=>∃ y:zO,v3=(.pointer y)/\aA y λa5=>aJ prog (storeVar 285 a5 (e5 xaa1 xab1 xac1 xad1 xae1)) w6 λw7=>aA y λa6=>∃ xa xb1 xc xd xe:UInt64,Rd w7 a6 (l5 xa xb1 xc xd xe)/\aD prog 308 [e5 xa xb1 xc xd xe] w7 (aG R) λv4 w8=>∃ xa1 xb2 xc1 xd1 xe1:UInt64,v4=(e5 xa1 xb2 xc1 xd1 xe1)/\aH prog (Instr.alloc 285 true (.tuple #[])) w8 λv5 w9=>∃ yy:zO,v5=(.pointer yy)/\aA yy λa7=>aJ prog (storeVar 285 a7 (e5 xa1 xb2 xc1 xd1 xe1)) w9 λw10=>∃ j:zT,(∃ sx:zP,sx w10.drew/\aA yy λa8=>∃ xa2 xb3 xc2 xd2 xe2:UInt64,(∀ w',sx w'->Rd w' a8 (l5 xa2 xb3 xc2 xd2 xe2))/\∃ xa3 xb4 xc3 xd3 xe3:UInt64,(∀ w',sx w'->Rd w' (⟨2,0,none⟩:Addr) (l5 xa3 xb4 xc3 xd3 xe3))/\aA yy λa9=>∃ xa4 xb5 xc4 xd4 xe4:UInt64,(∀ w',sx w'->Rd w' a9 (l5 xa4 xb5 xc4 xd4 xe4))/\((aD prog 304 [] w10.drew (aG R) λv6 w11=>∃ xa5 xb6 xc5 xd5 xe5:UInt64,v6=(e5 xa5 xb6 xc5 xd5 xe5)/\(sx w11/\((aD prog 310 [e5 xa2 xb3 xc2 xd2 xe2,e5 xa5 xb6 xc5 xd5 xe5] w11 (aG R) λv7 w12=>∃ xa6 xb7 xc6 xd6 xe6:UInt64,v7=(e5 xa6 xb7 xc6 xd6 xe6)/\(sx w12/\((aD prog 247 [e5 xa3 xb4 xc3 xd3 xe3,e5 xa4 xb5 xc4 xd4 xe4] w12 (aG R) λv8 w13=>∃ xa7 xb8 xc7 xd7 xe7:UInt64,v8=(e5 xa7 xb8 xc7 xd7 xe7)/\(sx w13/\((aD prog 304 [] w13 (aG R) λv9 w14=>∃ xa8 xb9 xc8 xd8 xe8:UInt64,v9=(e5 xa8 xb9 xc8 xd8 xe8)/\(sx w14/\((aD prog 309 [e5 xa7 xb8 xc7 xd7 xe7,e5 xa8 xb9 xc8 xd8 xe8] w14 (aG R) λv10 w15=>∃ xa9 xb10 xc9 xd9 xe9:UInt64,v10=(e5 xa9 xb10 xc9 xd9 xe9)/\(sx w15/\((aD prog 315 [e5 xa6 xb7 xc6 xd6 xe6,e5 xa9 xb10 xc9 xd9 xe9] w15 (aG R) λv11 w16=>∃ xaa2 xab2 xac2 xad2 xae2:UInt64,∃ xb11:Bool,v11=(.tuple #[e5 xaa2 xab2 xac2 xad2 xae2,.bool xb11])/\(sx w16/\((aH prog (Instr.alloc 285 true (.tuple #[])) w16 λv12 w17=>∃ x4:zO,v12=(.pointer x4)/\(sx w17/\((aA x4 λa10=>aJ prog (storeVar 285 a10 (e5 xaa2 xab2 xac2 xad2 xae2)) w17 λw18=>j [.p x4,.b xb11] w18)/\True)))/\True)))/\(aH prog (Instr.alloc 285 true (.tuple #[])) w15 λv13 w19=>∃ x5:zO,v13=(.pointer x5)/\(sx w19/\((aD prog 315 [e5 xa6 xb7 xc6 xd6 xe6,e5 xa9 xb10 xc9 xd9 xe9] w19 (aG R) λv14 w20=>∃ xaa3 xab3 xac3 xad3 xae3:UInt64,∃ xb12:Bool,v14=(.tuple #[e5 xaa3 xab3 xac3 xad3 xae3,.bool xb12])/\(sx w20/\((aA x5 λa11=>aJ prog (storeVar 285 a11 (e5 xaa3 xab3 xac3 xad3 xae3)) w20 λw21=>j [.p x5,.b xb12] w21)/\True)))/\True)))/\True)))/\(aH prog (Instr.alloc 285 true (.tuple #[])) w14 λv15 w22=>∃ x6:zO,v15=(.pointer x6)/\(sx w22/\((aD prog 309 [e5 xa7 xb8 xc7 xd7 xe7,e5 xa8 xb9 xc8 xd8 xe8] w22 (aG R) λv16 w23=>∃ xa10 xb13 xc10 xd10 xe10:UInt64,v16=(e5 xa10 xb13 xc10 xd10 xe10)/\(sx w23/\((aD prog 315 [e5 xa6 xb7 xc6 xd6 xe6,e5 xa10 xb13 xc10 xd10 xe10] w23 (aG R) λv17 w24=>∃ xaa4 xab4 xac4 xad4 xae4:UInt64,∃ xb14:Bool,v17=(.tuple #[e5 xaa4 xab4 xac4 xad4 xae4,.bool xb14])/\(sx w24/\((aA x6 λa12=>aJ prog (storeVar 285 a12 (e5 xaa4 xab4 xac4 xad4 xae4)) w24 λw25=>j [.p x6,.b xb14] w25)/\True)))/\True)))/\True)))/\True)))/\(aH prog (Instr.alloc 285 true (.tuple #[])) w13 λv18 w26=>∃ x7:zO,v18=(.pointer x7)/\(sx w26/\((aD prog 304 [] w26 (aG R) λv19 w27=>∃ xa11 xb15 xc11 xd11 xe11:UInt64,v19=(e5 xa11 xb15 xc11 xd11 xe11)/\(sx w27/\((aD prog 309 [e5 xa7 xb8 xc7 xd7 xe7,e5 xa11 xb15 xc11 xd11 xe11] w27 (aG R) λv20 w28=>∃ xa12 xb16 xc12 xd12 xe12:UInt64,v20=(e5 xa12 xb16 xc12 xd12 xe12)/\(sx w28/\((aD prog 315 [e5 xa6 xb7 xc6 xd6 xe6,e5 xa12 xb16 xc12 xd12 xe12] w28 (aG R) λv21 w29=>∃ xaa5 xab5 xac5 xad5 xae5:UInt64,∃ xb17:Bool,v21=(.tuple #[e5 xaa5 xab5 xac5 xad5 xae5,.bool xb17])/\(sx w29/\((aA x7 λa13=>aJ prog (storeVar 285 a13 (e5 xaa5 xab5 xac5 xad5 xae5)) w29 λw30=>j [.p x7,.b xb17] w30)/\True)))/\True)))/\True)))/\True)))/\True)))/\(aH prog (Instr.alloc 285 true (.tuple #[])) w12 λv22 w31=>∃ x8:zO,v22=(.pointer x8)/\(sx w31/\((aD prog 247 [e5 xa3 xb4 xc3 xd3 xe3,e5 xa4 xb5 xc4 xd4 xe4] w31 (aG R) λv23 w32=>∃ xa13 xb18 xc13 xd13 xe13:UInt64,v23=(e5 xa13 xb18 xc13 xd13 xe13)/\(sx w32/\((aD prog 304 [] w32 (aG R) λv24 w33=>∃ xa14 xb19 xc14 xd14 xe14:UInt64,v24=(e5 xa14 xb19 xc14 xd14 xe14)/\(sx w33/\((aD prog 309 [e5 xa13 xb18 xc13 xd13 xe13,e5 xa14 xb19 xc14 xd14 xe14] w33 (aG R) λv25 w34=>∃ xa15 xb20 xc15 xd15 xe15:UInt64,v25=(e5 xa15 xb20 xc15 xd15 xe15)/\(sx w34/\((aD prog 315 [e5 xa6 xb7 xc6 xd6 xe6,e5 xa15 xb20 xc15 xd15 xe15] w34 (aG R) λv26 w35=>∃ xaa6 xab6 xac6 xad6 xae6:UInt64,∃ xb21:Bool,v26=(.tuple #[e5 xaa6 xab6 xac6 xad6 xae6,.bool xb21])/\(sx w35/\((aA x8 λa14=>aJ prog (storeVar 285 a14 (e5 xaa6 xab6 xac6 xad6 xae6)) w35 λw36=>j [.p x8,.b xb21] w36)/\True)))/\True)))/\True)))/\True)))/\True)))/\True)))/\(aH prog (Instr.alloc 285 true (.tuple #[])) w11 λv27 w37=>∃ x9:zO,v27=(.pointer x9)/\(sx w37/\((aD prog 310 [e5 xa2 xb3 xc2 xd2 xe2,e5 xa5 xb6 xc5 xd5 xe5] w37 (aG R) λv28 w38=>∃ xa16 xb22 xc16 xd16 xe16:UInt64,v28=(e5 xa16 xb22 xc16 xd16 xe16)/\(sx w38/\((aD prog 247 [e5 xa3 xb4 xc3 xd3 xe3,e5 xa4 xb5 xc4 xd4 xe4] w38 (aG R) λv29 w39=>∃ xa17 xb23 xc17 xd17 xe17:UInt64,v29=(e5 xa17 xb23 xc17 xd17 xe17)/\(sx w39/\((aD prog 304 [] w39 (aG R) λv30 w40=>∃ xa18 xb24 xc18 xd18 xe18:UInt64,v30=(e5 xa18 xb24 xc18 xd18 xe18)/\(sx w40/\((aD prog 309 [e5 xa17 xb23 xc17 xd17 xe17,e5 xa18 xb24 xc18 xd18 xe18] w40 (aG R) λv31 w41=>∃ xa19 xb25 xc19 xd19 xe19:UInt64,v31=(e5 xa19 xb25 xc19 xd19 xe19)/\(sx w41/\((aD prog 315 [e5 xa16 xb22 xc16 xd16 xe16,e5 xa19 xb25 xc19 xd19 xe19] w41 (aG R) λv32 w42=>∃ xaa7 xab7 xac7 xad7 xae7:UInt64,∃ xb26:Bool,v32=(.tuple #[e5 xaa7 xab7 xac7 xad7 xae7,.bool xb26])/\(sx w42/\((aA x9 λa15=>aJ prog (storeVar 285 a15 (e5 xaa7 xab7 xac7 xad7 xae7)) w42 λw43=>j [.p x9,.b xb26] w43)/\True)))/\True)))/\True)))/\True)))/\True)))/\True)))/\True)))/\(aH prog (Instr.alloc 285 true (.tuple #[])) w10.drew λv33 w44=>∃ x10:zO,v33=(.pointer x10)/\(sx w44/\((aD prog 304 [] w44 (aG R) λv34 w45=>∃ xa20 xb27 xc20 xd20 xe20:UInt64,v34=(e5 xa20 xb27 xc20 xd20 xe20)/\(sx w45/\((aD prog 310 [e5 xa2 xb3 xc2 xd2 xe2,e5 xa20 xb27 xc20 xd20 xe20] w45 (aG R) λv35 w46=>∃ xa21 xb28 xc21 xd21 xe21:UInt64,v35=(e5 xa21 xb28 xc21 xd21 xe21)/\(sx w46/\((aD prog 247 [e5 xa3 xb4 xc3 xd3 xe3,e5 xa4 xb5 xc4 xd4 xe4] w46 (aG R) λv36 w47=>∃ xa22 xb29 xc22 xd22 xe22:UInt64,v36=(e5 xa22 xb29 xc22 xd22 xe22)/\(sx w47/\((aD prog 304 [] w47 (aG R) λv37 w48=>∃ xa23 xb30 xc23 xd23 xe23:UInt64,v37=(e5 xa23 xb30 xc23 xd23 xe23)/\(sx w48/\((aD prog 309 [e5 xa22 xb29 xc22 xd22 xe22,e5 xa23 xb30 xc23 xd23 xe23] w48 (aG R) λv38 w49=>∃ xa24 xb31 xc24 xd24 xe24:UInt64,v38=(e5 xa24 xb31 xc24 xd24 xe24)/\(sx w49/\((aD prog 315 [e5 xa21 xb28 xc21 xd21 xe21,e5 xa24 xb31 xc24 xd24 xe24] w49 (aG R) λv39 w50=>∃ xaa8 xab8 xac8 xad8 xae8:UInt64,∃ xb32:Bool,v39=(.tuple #[e5 xaa8 xab8 xac8 xad8 xae8,.bool xb32])/\(sx w50/\((aA x10 λa16=>aJ prog (storeVar 285 a16 (e5 xaa8 xab8 xac8 xad8 xae8)) w50 λw51=>j [.p x10,.b xb32] w51)/\True)))/\True)))/\True)))/\True)))/\True)))/\True)))/\True)))/\True))/\(∀ x11:zO,∀ is:Bool,∀ w52:World,j [.p x11,.b is] w52->∃ j1:zT,(∃ j2:zT,(aE (!xb) (j2 [.b true] w52) (aE (!is) (j2 [.b true] w52) (aE ((x2 &&& (128:UInt8)) != (0:UInt8)) (aA x11 λa17=>∃ xa25 xb33 xc25 xd25 xe25:UInt64,Rd w52 a17 (l5 xa25 xb33 xc25 xd25 xe25)/\aD prog 316 [e5 xa25 xb33 xc25 xd25 xe25] w52 (aG R) λv40 w53=>∃ x12:Bool,v40=(.bool x12)/\j2 [.b x12] w53) (j2 [.b false] w52))))/\(∀ x13:Bool,∀ w54:World,j2 [.b x13] w54->aE x13 (aA x λa18=>aJ prog (storeVar 287 a18 (.agg #[.int .u64 ((0:UInt64)).toNat,.int .u64 ((0:UInt64)).toNat,.int .u64 ((0:UInt64)).toNat,.int .u64 ((0:UInt64)).toNat,.int .u64 ((0:UInt64)).toNat,.int .u64 ((0:UInt64)).toNat,.int .u64 ((0:UInt64)).toNat,.int .u64 ((0:UInt64)).toNat,.int .u64 ((0:UInt64)).toNat,.int .u64 ((0:UInt64)).toNat,.int .u64 ((0:UInt64)).toNat,.int .u64 ((0:UInt64)).toNat,.int .u64 ((0:UInt64)).toNat,.int .u64 ((0:UInt64)).toNat,.int .u64 ((0:UInt64)).toNat,.int .u64 ((0:UInt64)).toNat,.int .u64 ((0:UInt64)).toNat,.int .u64 ((0:UInt64)).toNat,.int .u64 ((0:UInt64)).toNat,.int .u64 ((0:UInt64)).toNat])) w54 λw55=>aA x λa19=>∃ xaa9 xab9 xac9 xad9 xae9 xba1 xbb1 xbc1 xbd1 xbe1 xca1 xcb1 xcc1 xcd1 xce1 xda1 xdb1 xdc1 xdd1 xde1:UInt64,Rd w55 a19 (l20 xaa9 xab9 xac9 xad9 xae9 xba1 xbb1 xbc1 xbd1 xbe1 xca1 xcb1 xcc1 xcd1 xce1 xda1 xdb1 xdc1 xdd1 xde1)/\R (.returned (.tuple #[e20 xaa9 xab9 xac9 xad9 xae9 xba1 xbb1 xbc1 xbd1 xbe1 xca1 xcb1 xcc1 xcd1 xce1 xda1 xdb1 xdc1 xdd1 xde1,.bool false])) w55) (aE ((x2 &&& (128:UInt8)) != (0:UInt8)) (aA x11 λa20=>∃ xa26 xb34 xc26 xd26 xe26:UInt64,Rd w54 a20 (l5 xa26 xb34 xc26 xd26 xe26)/\aD prog 312 [e5 xa26 xb34 xc26 xd26 xe26] w54 (aG R) λv41 w56=>∃ xa27 xb35 xc27 xd27 xe27:UInt64,v41=(e5 xa27 xb35 xc27 xd27 xe27)/\aA x11 λa21=>aJ prog (storeVar 285 a21 (e5 xa27 xb35 xc27 xd27 xe27)) w56 λw57=>j1 [] w57) (j1 [] w54))))/\(∀ w58:World,j1 [] w58->∃ sx1:zP,sx1 w58.drew/\aA x11 λa22=>∃ xa28 xb36 xc28 xd28 xe28:UInt64,(∀ w',sx1 w'->Rd w' a22 (l5 xa28 xb36 xc28 xd28 xe28))/\aA y λa23=>∃ xa29 xb37 xc29 xd29 xe29:UInt64,(∀ w',sx1 w'->Rd w' a23 (l5 xa29 xb37 xc29 xd29 xe29))/\aA x11 λa24=>∃ xa30 xb38 xc30 xd30 xe30:UInt64,(∀ w',sx1 w'->Rd w' a24 (l5 xa30 xb38 xc30 xd30 xe30))/\aA y λa25=>∃ xa31 xb39 xc31 xd31 xe31:UInt64,(∀ w',sx1 w'->Rd w' a25 (l5 xa31 xb39 xc31 xd31 xe31))/\((aD prog 304 [] w58.drew (aG R) λv42 w59=>∃ xa32 xb40 xc32 xd32 xe32:UInt64,v42=(e5 xa32 xb40 xc32 xd32 xe32)/\(sx1 w59/\((aD prog 247 [e5 xa30 xb38 xc30 xd30 xe30,e5 xa31 xb39 xc31 xd31 xe31] w59 (aG R) λv43 w60=>∃ xa33 xb41 xc33 xd33 xe33:UInt64,v43=(e5 xa33 xb41 xc33 xd33 xe33)/\(sx1 w60/\((aA x λa26=>aJ prog (storeVar 287 a26 (e20 xa28 xb36 xc28 xd28 xe28 xa29 xb37 xc29 xd29 xe29 xa32 xb40 xc32 xd32 xe32 xa33 xb41 xc33 xd33 xe33)) w60 λw61=>aA x λa27=>∃ xaa10 xab10 xac10 xad10 xae10 xba2 xbb2 xbc2 xbd2 xbe2 xca2 xcb2 xcc2 xcd2 xce2 xda2 xdb2 xdc2 xdd2 xde2:UInt64,Rd w61 a27 (l20 xaa10 xab10 xac10 xad10 xae10 xba2 xbb2 xbc2 xbd2 xbe2 xca2 xcb2 xcc2 xcd2 xce2 xda2 xdb2 xdc2 xdd2 xde2)/\R (.returned (.tuple #[e20 xaa10 xab10 xac10 xad10 xae10 xba2 xbb2 xbc2 xbd2 xbe2 xca2 xcb2 xcc2 xcd2 xce2 xda2 xdb2 xdc2 xdd2 xde2,.bool true])) w61)/\True)))/\True)))/\True)))))))
theorem qMY (b:Slc) {w:World} {R:RW} (h9:qTW b w R):Calls prog 255 #[zS b] w R:=
 zC (q0 .z (q0 (q0 .z (.cond (q0 .z .z) .z)) (q0 .z (q0 .z (q0 .z (q0 .z (q0 .z (.seq (some [(9,.p),(10,.b)]) (.draw 1 (.take 0 (.take 3 (.take 4 (.all [(1,(.all [(2,(.all [(5,(.all [(6,(.all [(7,(.all [(8,(.take 9 (.take 10 (.take 11 (.all [(12,(.all [(13,(.take 14 .done))]))]))))),(12,(.all [(8,(.take 9 (.take 10 (.take 11 (.all [(13,(.take 14 .done))])))))]))])),(12,(.all [(7,(.all [(8,(.take 9 (.take 10 (.take 11 (.all [(13,(.take 14 .done))])))))]))]))])),(12,(.all [(6,(.all [(7,(.all [(8,(.take 9 (.take 10 (.take 11 (.all [(13,(.take 14 .done))])))))]))]))]))])),(12,(.all [(5,(.all [(6,(.all [(7,(.all [(8,(.take 9 (.take 10 (.take 11 (.all [(13,(.take 14 .done))])))))]))]))]))]))])),(12,(.all [(2,(.all [(5,(.all [(6,(.all [(7,(.all [(8,(.take 9 (.take 10 (.take 11 (.all [(13,(.take 14 .done))])))))]))]))]))]))]))])),(12,(.all [(1,(.all [(2,(.all [(5,(.all [(6,(.all [(7,(.all [(8,(.take 9 (.take 10 (.take 11 (.all [(13,(.take 14 .done))])))))]))]))]))]))]))]))]))))) (.seq (some []) (.block none (.seq (some [(46,.b)]) (q0 .z (.cond .z (q0 .z (.cond .z .z)))) (.cond (q0 .z .z) (q0 .z (.cond .z .z))))) (q0 (.draw 1 (.take 0 (.take 1 (.take 3 (.take 4 (.all [(2,(.all [(5,(.take 6 (.all [(7,(.take 8 .done))])))]))])))))) .z)))))))))) func255 [.sl b] h9
def qXC (s:Slc) (w:World) (R:RW):Prop:=
 aH prog (Instr.box 191 (zS s)) w λv w1=>∃ s1:zO,v=(.pointer s1)/\R (.returned (.func (.func 305) #[] #[.pointer s1])) w1
theorem qQH (s:Slc) {w:World} {R:RW} (h9:qXC s w R):Calls prog 250 #[zS s] w R:=
 zC (q0 .z (q0 .z .z)) func250 [.sl s] h9
def qVL (yield:Value) (c:zO) (w:World) (R:RW):Prop:=
 aA c λa=>∃ x:Slc,Rd w a [zS x]/\∃ (inv:zT) (mu:zU),inv [.i .i64 (zW ((x.len:Int) - 1))] w/\(∀ i:Int,∀ w1:World,inv [.i .i64 i] w1->aE (decide (i>=0)) (aA c λa1=>∃ x1:Slc,Rd w1 a1 [zS x1]/\(zB i x1.len/\aA x1.a λa2=>∃ x2:Bool,Rd w1 (a2.add (i.toNat*1)) [.bool x2]/\dY prog yield [.int .i64 i,.bool x2] w1 (aG R) λv w2=>∃ x3:Bool,v=(.bool x3)/\aE (!x3) (R (.returned (.tuple #[])) w2) ((inv [.i .i64 (zW (i - 1))] w2/\mu [.i .i64 (zW (i - 1))] w2<mu [.i .i64 i] w1)))) (R (.returned (.tuple #[])) w1))
theorem qPP (yield:Value) (c:zO) {w:World} {R:RW} (h9:qVL yield c w R):Calls prog 305 #[yield,.pointer c] w R:=
 zC (q0 .z (.block none (.loop [(3,(.i .i64))] (q0 (q0 .z (.cond .z .z)) (q0 (.block none (q0 .z (.cond .z .z))) .z))))) func305 [.v yield,.p c] h9
def qUJ (x:Slc) (count:Int) (w:World) (R:RW):Prop:=
 ∃ j:zT,(aE (decide (count<0)) ((aG R) [{v:=(.iface 9 (.string ⟨([99,97,110,110,111,116,32,98,101,32,110,101,103,97,116,105,118,101]).toArray⟩)),recovered:=false}] w) (j [] w))/\(∀ w1:World,j [] w1->aD prog 313 [.int .u64 ((aP (x.len:Int))).toNat,.int .u64 ((aP count)).toNat] w1 (aG R) λv w2=>∃ xa xb:UInt64,v=(.tuple #[.int .u64 xa.toNat,.int .u64 xb.toNat])/\∃ j1:zT,(aE (decide ((0:UInt64)<xa)) ((aG R) [{v:=(.iface 9 (.string ⟨([116,104,101,32,114,101,115,117,108,116,32,111,102,32,40,108,101,110,40,120,41,32,42,32,99,111,117,110,116,41,32,111,118,101,114,102,108,111,119,115]).toArray⟩)),recovered:=false}] w2) (aE (decide ((9223372036854775807:UInt64)<xb)) ((aG R) [{v:=(.iface 9 (.string ⟨([116,104,101,32,114,101,115,117,108,116,32,111,102,32,40,108,101,110,40,120,41,32,42,32,99,111,117,110,116,41,32,111,118,101,114,102,108,111,119,115]).toArray⟩)),recovered:=false}] w2) (j1 [] w2)))/\(∀ w3:World,j1 [] w3->aH prog (Instr.makeSlice 38 (.int .i64 (zW (xb.toNat:Int))) (.int .i64 (zW (xb.toNat:Int)))) w3 λv1 w4=>∃ x1:Slc,v1=(zS x1)/\aH prog (Builtin.copy_ #[38,38] 3 #[zS x1,zS x]) w4 λv2 w5=>∃ x2:Int,v2=(.int .i64 x2)/\∃ (inv:zT) (mu:zU),inv [.i .i64 x2] w5/\(∀ n:Int,∀ w6:World,inv [.i .i64 n] w6->aE (decide (n<x1.len)) (((0<=n/\n<=(x1.len:Nat))/\((0<=n/\n<=(x1.cap:Nat))/\((aH prog (Builtin.copy_ #[38,38] 3 #[.slice (aF x1 1 (n.toNat) x1.len x1.cap).a (aF x1 1 (n.toNat) x1.len x1.cap).len (aF x1 1 (n.toNat) x1.len x1.cap).cap,.slice (aF x1 1 0 (n.toNat) x1.cap).a (aF x1 1 0 (n.toNat) x1.cap).len (aF x1 1 0 (n.toNat) x1.cap).cap]) w6.drew λv3 w7=>∃ x3:Int,v3=(.int .i64 x3)/\(inv [.i .i64 (zW (n+x3))] w7/\mu [.i .i64 (zW (n+x3))] w7<mu [.i .i64 n] w6))/\True)))) (R (.returned (zS x1)) w6))))
theorem qPJ (x:Slc) (count:Int) {w:World} {R:RW} (h9:qUJ x count w R):Calls prog 254 #[zS x,.int .i64 count] w R:=
 zC (q0 .z (.seq (some []) (q0 .z (.cond .z .z)) (q0 .z (.seq (some []) (q0 .z (.cond .z .z)) (q0 .z (q0 .z (q0 (.block none (.loop [(8,(.i .i64))] (q0 (q0 .z (.cond .z .z)) (.block none (.draw 0 (.take 0 (.take 1 (.take 2 (.take 3 (.take 4 (.take 5 (.take 6 (.all [(7,(.take 8 (.take 9 .done)))]))))))))))))) (q0 .z .z)))))))) func254 [.sl x,.i .i64 count] h9
def qWC (paa pab pac pad pae pba pbb pbc pbd pbe pca pcb pcc pcd pce pda pdb pdc pdd pde:UInt64) (w:World) (R:RW):Prop:=
 aH prog (Instr.box 287 (e20 paa pab pac pad pae pba pbb pbc pbd pbe pca pcb pcc pcd pce pda pdb pdc pdd pde)) w λv w1=>∃ p:zO,v=(.pointer p)/\aA p λa=>∃ xa xb xc xd xe:UInt64,Rd w1 (a.add 10) (l5 xa xb xc xd xe)/\aD prog 245 [e5 xa xb xc xd xe] w1 (aG R) λv1 w2=>∃ xa1 xb1 xc1 xd1 xe1:UInt64,v1=(e5 xa1 xb1 xc1 xd1 xe1)/\aH prog (Instr.alloc 285 true (.tuple #[])) w2 λv2 w3=>∃ z:zO,v2=(.pointer z)/\aA z λa1=>aJ prog (storeVar 285 a1 (e5 xa1 xb1 xc1 xd1 xe1)) w3 λw4=>aA p λa2=>∃ xa2 xb2 xc2 xd2 xe2:UInt64,Rd w4 (a2.add 5) (l5 xa2 xb2 xc2 xd2 xe2)/\aA z λa3=>∃ xa3 xb3 xc3 xd3 xe3:UInt64,Rd w4 a3 (l5 xa3 xb3 xc3 xd3 xe3)/\aD prog 247 [e5 xa2 xb2 xc2 xd2 xe2,e5 xa3 xb3 xc3 xd3 xe3] w4 (aG R) λv3 w5=>∃ xa4 xb4 xc4 xd4 xe4:UInt64,v3=(e5 xa4 xb4 xc4 xd4 xe4)/\aD prog 246 [e5 xa4 xb4 xc4 xd4 xe4] w5 (aG R) λv4 w6=>∃ x:Slc,v4=(zS x)/\aA p λa4=>∃ xa5 xb5 xc5 xd5 xe5:UInt64,Rd w6 (a4.add 0) (l5 xa5 xb5 xc5 xd5 xe5)/\aA z λa5=>∃ xa6 xb6 xc6 xd6 xe6:UInt64,Rd w6 a5 (l5 xa6 xb6 xc6 xd6 xe6)/\aD prog 247 [e5 xa5 xb5 xc5 xd5 xe5,e5 xa6 xb6 xc6 xd6 xe6] w6 (aG R) λv5 w7=>∃ xa7 xb7 xc7 xd7 xe7:UInt64,v5=(e5 xa7 xb7 xc7 xd7 xe7)/\aD prog 248 [e5 xa7 xb7 xc7 xd7 xe7] w7 (aG R) λv6 w8=>∃ x1:Bool,v6=(.bool x1)/\aE x1 (((0<=(31:Int)/\(31:Int)<(x.len:Nat))/\aA x.a λa6=>∃ x2:UInt8,Rd w8 (a6.add (((31:Int)).toNat*1)) [.int .u8 x2.toNat]/\((0<=(31:Int)/\(31:Int)<(x.len:Nat))/\aA x.a λa7=>aJ prog (storeVar 5 (a7.add (((31:Int)).toNat*1)) (.int .u8 ((x2 ||| (128:UInt8))).toNat)) w8 λw9=>R (.returned (zS x)) w9))) (R (.returned (zS x)) w8)
theorem qNQ (paa pab pac pad pae pba pbb pbc pbd pbe pca pcb pcc pcd pce pda pdb pdc pdd pde:UInt64) {w:World} {R:RW} (h9:qWC paa pab pac pad pae pba pbb pbc pbd pbe pca pcb pcc pcd pce pda pdb pdc pdd pde w R):Calls prog 188 #[e20 paa pab pac pad pae pba pbb pbc pbd pbe pca pcb pcc pcd pce pda pdb pdc pdd pde] w R:=
 zC (q0 .z (q0 .z (q0 .z (q0 (q0 .z (.cond .z .z)) (q0 .z .z))))) func188 [.agg [.agg [.u64 paa,.u64 pab,.u64 pac,.u64 pad,.u64 pae],.agg [.u64 pba,.u64 pbb,.u64 pbc,.u64 pbd,.u64 pbe],.agg [.u64 pca,.u64 pcb,.u64 pcc,.u64 pcd,.u64 pce],.agg [.u64 pda,.u64 pdb,.u64 pdc,.u64 pdd,.u64 pde]]] h9
def qWM (a:Slc) (paa pab pac pad pae pba pbb pbc pbd pbe pca pcb pcc pcd pce pda pdb pdc pdd pde:UInt64) (w:World) (R:RW):Prop:=
 aH prog (Instr.box 287 (e20 paa pab pac pad pae pba pbb pbc pbd pbe pca pcb pcc pcd pce pda pdb pdc pdd pde)) w λv w1=>∃ p:zO,v=(.pointer p)/\aH prog (Instr.alloc 287 true (.tuple #[])) w1 λv1 w2=>∃ x:zO,v1=(.pointer x)/\aD prog 249 [] w2 (aG R) λv2 w3=>∃ xaa xab xac xad xae xba xbb xbc xbd xbe xca xcb xcc xcd xce xda xdb xdc xdd xde:UInt64,v2=(e20 xaa xab xac xad xae xba xbb xbc xbd xbe xca xcb xcc xcd xce xda xdb xdc xdd xde)/\aH prog (Instr.alloc 355 true (.tuple #[])) w3 λv3 w4=>∃ s:zO,v3=(.pointer s)/\aA s λa1=>aJ prog (storeVar 355 a1 (e20 xaa xab xac xad xae xba xbb xbc xbd xbe xca xcb xcc xcd xce xda xdb xdc xdd xde)) w4 λw5=>aD prog 251 [zS a] w5 (aG R) λv4 w6=>∃ x1:Slc,v4=(zS x1)/\aD prog 250 [zS x1] w6 (aG R) λv5 w7=>∃ x2:Value,v5=x2/\∃ (fn:FuncId) (first cap:Array Value),x2 = .func (.func fn) first cap/\enters prog fn=true/\∀ (rec:LoopState->Option Code->Obj) (dd ll:Nat) (w8:World),dd=w7.heap.size->ll=dd+1->w8=(w7.alloc (.deferred (some []))).alloc (rec .ready none)->(∀ x3:Int,∀ x4:Bool,∀ (w9:World) (kk:Value->zP),w9.heap[ll]? = some (rec .ready none)->((w9.heap[ll]? = some (rec .ready none)/\aD prog 252 [.pointer s] (w9.putObj ll (rec .busy none)) (λ_ _=>False) λv6 w10=>v6=(.tuple #[])/\aE x4 (aA p λa2=>∃ xaa1 xab1 xac1 xad1 xae1 xba1 xbb1 xbc1 xbd1 xbe1 xca1 xcb1 xcc1 xcd1 xce1 xda1 xdb1 xdc1 xdd1 xde1:UInt64,Rd w10 a2 (l20 xaa1 xab1 xac1 xad1 xae1 xba1 xbb1 xbc1 xbd1 xbe1 xca1 xcb1 xcc1 xcd1 xce1 xda1 xdb1 xdc1 xdd1 xde1)/\aD prog 253 [.pointer s,e20 xaa1 xab1 xac1 xad1 xae1 xba1 xbb1 xbc1 xbd1 xbe1 xca1 xcb1 xcc1 xcd1 xce1 xda1 xdb1 xdc1 xdd1 xde1] w10 (λ_ _=>False) λv7 w11=>v7=(.tuple #[])/\(w11.heap[ll]? = some (rec .busy none)/\kk (.bool true) (w11.putObj ll (rec .ready none)))) ((w10.heap[ll]? = some (rec .busy none)/\kk (.bool true) (w10.putObj ll (rec .ready none))))))->eZ prog ll [.int .i64 x3,.bool x4] w9 kk)->aD prog fn (first.toList++[.func (.yield ll) #[] #[]]++cap.toList) w8 (qDQ R [(mkD dd)]) λ_ w12=>(w12.heap[ll]? = some (rec .ready none)/\aA s λa3=>∃ xaa2 xab2 xac2 xad2 xae2 xba2 xbb2 xbc2 xbd2 xbe2 xca2 xcb2 xcc2 xcd2 xce2 xda2 xdb2 xdc2 xdd2 xde2:UInt64,Rd (w12.putObj ll (rec .exhausted none)) (a3.add 0) (l20 xaa2 xab2 xac2 xad2 xae2 xba2 xbb2 xbc2 xbd2 xbe2 xca2 xcb2 xcc2 xcd2 xce2 xda2 xdb2 xdc2 xdd2 xde2)/\aA x λa4=>aJ prog (storeVar 287 a4 (e20 xaa2 xab2 xac2 xad2 xae2 xba2 xbb2 xbc2 xbd2 xbe2 xca2 xcb2 xcc2 xcd2 xce2 xda2 xdb2 xdc2 xdd2 xde2)) (w12.putObj ll (rec .exhausted none)) λw13=>(w13.heap[dd]? = some (.deferred (some []))/\aA x λa5=>∃ xaa3 xab3 xac3 xad3 xae3 xba3 xbb3 xbc3 xbd3 xbe3 xca3 xcb3 xcc3 xcd3 xce3 xda3 xdb3 xdc3 xdd3 xde3:UInt64,Rd (w13.putObj dd (.deferred none)) a5 (l20 xaa3 xab3 xac3 xad3 xae3 xba3 xbb3 xbc3 xbd3 xbe3 xca3 xcb3 xcc3 xcd3 xce3 xda3 xdb3 xdc3 xdd3 xde3)/\R (.returned (e20 xaa3 xab3 xac3 xad3 xae3 xba3 xbb3 xbc3 xbd3 xbe3 xca3 xcb3 xcc3 xcd3 xce3 xda3 xdb3 xdc3 xdd3 xde3)) (w13.putObj dd (.deferred none))))\/False\/False
theorem qNN (a:Slc) (paa pab pac pad pae pba pbb pbc pbd pbe pca pcb pcc pcd pce pda pdb pdc pdd pde:UInt64) {w:World} {R:RW} (h9:qWM a paa pab pac pad pae pba pbb pbc pbd pbe pca pcb pcc pcd pce pda pdb pdc pdd pde w R):Calls prog 189 #[zS a,e20 paa pab pac pad pae pba pbb pbc pbd pbe pca pcb pcc pcd pce pda pdb pdc pdd pde] w R:=
 zC (q0 .z (q0 .z (q0 (q0 .z (.block none (.rf false [] [(.i .i64),.b] .z (.block none (q0 .z (q0 .z (.cond .z .z))))))) (q0 .z .z)))) func189 [.sl a,.agg [.agg [.u64 paa,.u64 pab,.u64 pac,.u64 pad,.u64 pae],.agg [.u64 pba,.u64 pbb,.u64 pbc,.u64 pbd,.u64 pbe],.agg [.u64 pca,.u64 pcb,.u64 pcc,.u64 pcd,.u64 pce],.agg [.u64 pda,.u64 pdb,.u64 pdc,.u64 pdd,.u64 pde]]] h9
def qSY (w:World) (R:RW):Prop:=
 aH prog (Instr.alloc 287 true (.tuple #[])) w λv w1=>∃ x:zO,v=(.pointer x)/\aH prog (Instr.buildSlice 38 1 #[(0,(.int .u8 ((102:UInt8)).toNat))]) w1 λv1 w2=>∃ x1:Slc,v1=(zS x1)/\aD prog 254 [zS x1,.int .i64 32] w2 (aG R) λv2 w3=>∃ x2:Slc,v2=(zS x2)/\((0<=(0:Int)/\(0:Int)<(x2.len:Nat))/\aA x2.a λa=>aJ prog (storeVar 5 (a.add (((0:Int)).toNat*1)) (.int .u8 ((88:UInt8)).toNat)) w3 λw4=>aD prog 255 [zS x2] w4 (aG R) λv3 w5=>∃ xaaa xaab xaac xaad xaae xaba xabb xabc xabd xabe xaca xacb xacc xacd xace xada xadb xadc xadd xade:UInt64,∃ xb:Bool,v3=(.tuple #[e20 xaaa xaab xaac xaad xaae xaba xabb xabc xabd xabe xaca xacb xacc xacd xace xada xadb xadc xadd xade,.bool xb])/\aH prog (Instr.alloc 287 true (.tuple #[])) w5 λv4 w6=>∃ p:zO,v4=(.pointer p)/\aA p λa1=>aJ prog (storeVar 287 a1 (e20 xaaa xaab xaac xaad xaae xaba xabb xabc xabd xabe xaca xacb xacc xacd xace xada xadb xadc xadd xade)) w6 λw7=>aA p λa2=>∃ xaa xab xac xad xae xba xbb xbc xbd xbe xca xcb xcc xcd xce xda xdb xdc xdd xde:UInt64,Rd w7 a2 (l20 xaa xab xac xad xae xba xbb xbc xbd xbe xca xcb xcc xcd xce xda xdb xdc xdd xde)/\aA x λa3=>aJ prog (storeVar 287 a3 (e20 xaa xab xac xad xae xba xbb xbc xbd xbe xca xcb xcc xcd xce xda xdb xdc xdd xde)) w7 λw8=>aA x λa4=>∃ xaa1 xab1 xac1 xad1 xae1 xba1 xbb1 xbc1 xbd1 xbe1 xca1 xcb1 xcc1 xcd1 xce1 xda1 xdb1 xdc1 xdd1 xde1:UInt64,Rd w8 a4 (l20 xaa1 xab1 xac1 xad1 xae1 xba1 xbb1 xbc1 xbd1 xbe1 xca1 xcb1 xcc1 xcd1 xce1 xda1 xdb1 xdc1 xdd1 xde1)/\R (.returned (e20 xaa1 xab1 xac1 xad1 xae1 xba1 xbb1 xbc1 xbd1 xbe1 xca1 xcb1 xcc1 xcd1 xce1 xda1 xdb1 xdc1 xdd1 xde1)) w8)
theorem qMJ {w:World} {R:RW} (h9:qSY w R):Calls prog 190 #[] w R:=
 zC (q0 .z (q0 .z (q0 .z (q0 .z (q0 .z .z))))) func190 [] h9
def qTS (x y:UInt64) (w:World) (R:RW):Prop:=
 aD prog 302 [.int .u64 x.toNat,.int .u64 y.toNat] w (aG R) λv w1=>∃ xa xb:UInt64,v=(.tuple #[.int .u64 xa.toNat,.int .u64 xb.toNat])/\R (.returned (.tuple #[.int .u64 xa.toNat,.int .u64 xb.toNat])) w1
theorem qPS (x y:UInt64) {w:World} {R:RW} (h9:qTS x y w R):Calls prog 313 #[.int .u64 x.toNat,.int .u64 y.toNat] w R:=
 zC (q0 .z (q0 (.cond (q0 .z (q0 .z .z)) .z) (q0 .z (q0 .z .z)))) func313 [.u64 x,.u64 y] h9
def qWL (seed:Slc) (w:World) (R:RW):Prop:=
 aE ((seed.len:Int) != (32:Int)) (R (.returned (.tuple #[.pointer none,.bool false])) w) (aH prog (Instr.buildSlice 77 1 #[(0,(zS seed))]) w λv w1=>∃ x:Slc,v=(zS x)/\aD prog 241 [zS x] w1 (aG R) λv1 w2=>∃ x1:Slc,v1=(zS x1)/\((0<=(32:Int)/\(32:Int)<=(32:Int)/\(32:Int)<=(x1.cap:Nat))/\((0<=(0:Int)/\(0:Int)<((aF x1 1 0 (((32:Int)).toNat) (((32:Int)).toNat)).len:Nat))/\aA (aF x1 1 0 (((32:Int)).toNat) (((32:Int)).toNat)).a λa=>∃ x2:UInt8,Rd w2 (a.add (((0:Int)).toNat*1)) [.int .u8 x2.toNat]/\((0<=(0:Int)/\(0:Int)<((aF x1 1 0 (((32:Int)).toNat) (((32:Int)).toNat)).len:Nat))/\aA (aF x1 1 0 (((32:Int)).toNat) (((32:Int)).toNat)).a λa1=>aJ prog (storeVar 5 (a1.add (((0:Int)).toNat*1)) (.int .u8 ((x2 &&& ~~~(7:UInt8))).toNat)) w2 λw3=>((0<=(31:Int)/\(31:Int)<((aF x1 1 0 (((32:Int)).toNat) (((32:Int)).toNat)).len:Nat))/\aA (aF x1 1 0 (((32:Int)).toNat) (((32:Int)).toNat)).a λa2=>∃ x3:UInt8,Rd w3 (a2.add (((31:Int)).toNat*1)) [.int .u8 x3.toNat]/\((0<=(31:Int)/\(31:Int)<((aF x1 1 0 (((32:Int)).toNat) (((32:Int)).toNat)).len:Nat))/\aA (aF x1 1 0 (((32:Int)).toNat) (((32:Int)).toNat)).a λa3=>aJ prog (storeVar 5 (a3.add (((31:Int)).toNat*1)) (.int .u8 (((x3 &&& (63:UInt8)) ||| (64:UInt8))).toNat)) w3 λw4=>((0<=(32:Int)/\(32:Int)<=(x1.len:Nat))/\((aD prog 190 [] w4.drew (aG R) λv2 w5=>∃ xaa xab xac xad xae xba xbb xbc xbd xbe xca xcb xcc xcd xce xda xdb xdc xdd xde:UInt64,v2=(e20 xaa xab xac xad xae xba xbb xbc xbd xbe xca xcb xcc xcd xce xda xdb xdc xdd xde)/\((aD prog 189 [.slice (aF x1 1 0 (((32:Int)).toNat) (((32:Int)).toNat)).a (aF x1 1 0 (((32:Int)).toNat) (((32:Int)).toNat)).len (aF x1 1 0 (((32:Int)).toNat) (((32:Int)).toNat)).cap,e20 xaa xab xac xad xae xba xbb xbc xbd xbe xca xcb xcc xcd xce xda xdb xdc xdd xde] w5 (aG R) λv3 w6=>∃ xaa1 xab1 xac1 xad1 xae1 xba1 xbb1 xbc1 xbd1 xbe1 xca1 xcb1 xcc1 xcd1 xce1 xda1 xdb1 xdc1 xdd1 xde1:UInt64,v3=(e20 xaa1 xab1 xac1 xad1 xae1 xba1 xbb1 xbc1 xbd1 xbe1 xca1 xcb1 xcc1 xcd1 xce1 xda1 xdb1 xdc1 xdd1 xde1)/\((aH prog (Instr.box 289 (.agg #[.int .u64 xaa1.toNat,.int .u64 xab1.toNat,.int .u64 xac1.toNat,.int .u64 xad1.toNat,.int .u64 xae1.toNat,.int .u64 xba1.toNat,.int .u64 xbb1.toNat,.int .u64 xbc1.toNat,.int .u64 xbd1.toNat,.int .u64 xbe1.toNat,.int .u64 xca1.toNat,.int .u64 xcb1.toNat,.int .u64 xcc1.toNat,.int .u64 xcd1.toNat,.int .u64 xce1.toNat,.int .u64 xda1.toNat,.int .u64 xdb1.toNat,.int .u64 xdc1.toNat,.int .u64 xdd1.toNat,.int .u64 xde1.toNat,.slice (aF x1 1 0 (((32:Int)).toNat) (((32:Int)).toNat)).a (aF x1 1 0 (((32:Int)).toNat) (((32:Int)).toNat)).len (aF x1 1 0 (((32:Int)).toNat) (((32:Int)).toNat)).cap,.slice (aF x1 1 (((32:Int)).toNat) x1.len x1.cap).a (aF x1 1 (((32:Int)).toNat) x1.len x1.cap).len (aF x1 1 (((32:Int)).toNat) x1.len x1.cap).cap])) w6 λv4 w7=>∃ x4:zO,v4=(.pointer x4)/\R (.returned (.tuple #[.pointer x4,.bool true])) w7)/\True))/\True))/\True))))))))
theorem qSF (seed:Slc) {w:World} {R:RW} (h9:qWL seed w R):Calls prog 183 #[zS seed] w R:=
 zC (q0 .z (q0 (q0 .z (.cond (q0 .z .z) .z)) (q0 .z (q0 .z (q0 .z (q0 .z (q0 (.draw 0 (.take 0 (.take 3 (.take 4 (.take 5 (.all [(1,(.all [(2,(.take 6 (.all [(7,(.take 8 (.take 9 .done)))])))]))])))))) .z))))))) func183 [.sl seed] h9
def qYF (o:zO) (w:World) (R:RW):Prop:=
 aA o λa=>∃ xaa xab xac xad xae xba xbb xbc xbd xbe xca xcb xcc xcd xce xda xdb xdc xdd xde:UInt64,Rd w (a.add 0) (l20 xaa xab xac xad xae xba xbb xbc xbd xbe xca xcb xcc xcd xce xda xdb xdc xdd xde)/\aD prog 188 [e20 xaa xab xac xad xae xba xbb xbc xbd xbe xca xcb xcc xcd xce xda xdb xdc xdd xde] w (aG R) λv w1=>∃ x:Slc,v=(zS x)/\R (.returned (zS x)) w1
theorem qLZ (o:zO) {w:World} {R:RW} (h9:qYF o w R):Calls prog 184 #[.pointer o] w R:=
 zC (q0 .z (q0 .z .z)) func184 [.p o] h9
def qTY (first parts:Slc) (w:World) (R:RW):Prop:=
 aD prog 244 [zS parts] w (aG R) λv w1=>∃ x:Slc,v=(zS x)/\aH prog (Instr.buildSlice 77 1 #[(0,(zS first))]) w1 λv1 w2=>∃ x1:Slc,v1=(zS x1)/\aD prog 243 [zS x,.int .i64 0,zS x1] w2 (aG R) λv2 w3=>∃ x2:Slc,v2=(zS x2)/\aD prog 241 [zS x2] w3 (aG R) λv3 w4=>∃ x3:Slc,v3=(zS x3)/\aD prog 242 [zS x3] w4 (aG R) λv4 w5=>∃ x4:Slc,v4=(zS x4)/\R (.returned (zS x4)) w5
theorem qQI (first parts:Slc) {w:World} {R:RW} (h9:qTY first parts w R):Calls prog 187 #[zS first,zS parts] w R:=
 zC (q0 .z (q0 .z .z)) func187 [.sl first,.sl parts] h9
def qVK (point public0 text:Slc) (w:World) (R:RW):Prop:=
 aD prog 244 [zS text] w (aG R) λv w1=>∃ x:Slc,v=(zS x)/\aH prog (Instr.buildSlice 77 1 #[(0,(zS public0))]) w1 λv1 w2=>∃ x1:Slc,v1=(zS x1)/\aD prog 243 [zS x,.int .i64 0,zS x1] w2 (aG R) λv2 w3=>∃ x2:Slc,v2=(zS x2)/\aD prog 187 [zS point,zS x2] w3 (aG R) λv3 w4=>∃ x3:Slc,v3=(zS x3)/\R (.returned (zS x3)) w4
theorem qSL (point public0 text:Slc) {w:World} {R:RW} (h9:qVK point public0 text w R):Calls prog 193 #[zS point,zS public0,zS text] w R:=
 zC (q0 .z (q0 .z .z)) func193 [.sl point,.sl public0,.sl text] h9
def qYE (seed:Slc) (w:World) (R:RW):Prop:=
 aD prog 183 [zS seed] w (aG R) λv w1=>∃ xa:zO,∃ xb:Bool,v=(.tuple #[.pointer xa,.bool xb])/\aE (!xb) (R (.returned (.slice none 0 0)) w1) (aD prog 184 [.pointer xa] w1 (aG R) λv1 w2=>∃ x:Slc,v1=(zS x)/\R (.returned (zS x)) w2)
theorem qMP (seed:Slc) {w:World} {R:RW} (h9:qYE seed w R):Calls prog 110 #[zS seed] w R:=
 zC (q0 .z (q0 .z (q0 (q0 .z (.cond (q0 .z .z) .z)) (q0 .z .z)))) func110 [.sl seed] h9
def qXE (seed text:Slc) (w:World) (R:RW):Prop:=
 aD prog 183 [zS seed] w (aG R) λv w1=>∃ xa:zO,∃ xb:Bool,v=(.tuple #[.pointer xa,.bool xb])/\aE (!xb) (R (.returned (.slice none 0 0)) w1) (aA xa λa=>∃ x:Slc,Rd w1 (a.add 21) [zS x]/\aD prog 187 [zS x,zS text] w1 (aG R) λv1 w2=>∃ x1:Slc,v1=(zS x1)/\aD prog 190 [] w2 (aG R) λv2 w3=>∃ xaa xab xac xad xae xba xbb xbc xbd xbe xca xcb xcc xcd xce xda xdb xdc xdd xde:UInt64,v2=(e20 xaa xab xac xad xae xba xbb xbc xbd xbe xca xcb xcc xcd xce xda xdb xdc xdd xde)/\aD prog 189 [zS x1,e20 xaa xab xac xad xae xba xbb xbc xbd xbe xca xcb xcc xcd xce xda xdb xdc xdd xde] w3 (aG R) λv3 w4=>∃ xaa1 xab1 xac1 xad1 xae1 xba1 xbb1 xbc1 xbd1 xbe1 xca1 xcb1 xcc1 xcd1 xce1 xda1 xdb1 xdc1 xdd1 xde1:UInt64,v3=(e20 xaa1 xab1 xac1 xad1 xae1 xba1 xbb1 xbc1 xbd1 xbe1 xca1 xcb1 xcc1 xcd1 xce1 xda1 xdb1 xdc1 xdd1 xde1)/\aD prog 188 [e20 xaa1 xab1 xac1 xad1 xae1 xba1 xbb1 xbc1 xbd1 xbe1 xca1 xcb1 xcc1 xcd1 xce1 xda1 xdb1 xdc1 xdd1 xde1] w4 (aG R) λv4 w5=>∃ x2:Slc,v4=(zS x2)/\∃ sx:zP,sx w5.drew/\aA xa λa1=>∃ x3:Slc,(∀ w',sx w'->Rd w' (a1.add 20) [zS x3])/\((aD prog 184 [.pointer xa] w5.drew (aG R) λv5 w6=>∃ x4:Slc,v5=(zS x4)/\(sx w6/\((aD prog 193 [zS x2,zS x4,zS text] w6 (aG R) λv6 w7=>∃ x5:Slc,v6=(zS x5)/\(sx w7/\((aD prog 192 [zS x5,zS x3,zS x1] w7 (aG R) λv7 w8=>∃ x6:Slc,v7=(zS x6)/\((aH prog (Instr.buildSlice 77 2 #[(0,(zS x2)),(1,(zS x6))]) w8 λv8 w9=>∃ x7:Slc,v8=(zS x7)/\(sx w9/\((aD prog 191 [zS x7] w9 (aG R) λv9 w10=>∃ x8:Slc,v9=(zS x8)/\(sx w10/\R (.returned (zS x8)) w10))/\True)))/\True))/\True)))/\True)))/\True))
theorem qPV (seed text:Slc) {w:World} {R:RW} (h9:qXE seed text w R):Calls prog 112 #[zS seed,zS text] w R:=
 zC (q0 .z (q0 .z (q0 (q0 .z (.cond (q0 .z .z) .z)) (q0 .z (q0 .z (q0 (.draw 1 (.take 0 (.take 1 (.take 2 (.take 4 (.take 6 (.take 7 (.take 8 (.take 10 (.take 9 (.all [(3,(.all [(5,(.all [(11,(.all [(12,(.all [(13,(.take 14 .done))]))]))]))]))]))))))))))) .z)))))) func112 [.sl seed,.sl text] h9
def qVG (s:Slc) (w:World) (R:RW):Prop:=
 bB prog (do eqGuard .eql 77 (.tmp 3) (.const (.slice none 0 0)) (zS s) (.slice none 0 0); binOp .eql 77 (zS s) (.slice none 0 0)) λv=>∃ x:Bool,v=(.bool x)/\aE x (R (.returned (.slice none 0 0)) w) (aH prog (Instr.buildSlice 77 0 #[]) w λv1 w1=>∃ x1:Slc,v1=(zS x1)/\aH prog (Builtin.append_ #[77,77] 77 #[zS x1,zS s]) w1 λv2 w2=>∃ x2:Slc,v2=(zS x2)/\R (.returned (zS x2)) w2)
theorem qQC (s:Slc) {w:World} {R:RW} (h9:qVG s w R):Calls prog 244 #[zS s] w R:=
 zC (q0 .z (q0 (q0 .z (.cond (q0 .z .z) .z)) (q0 .z .z))) func244 [.sl s] h9
def qWX (s:Slc) (i:Int) (v:Slc) (w:World) (R:RW):Prop:=
 jFI 1 77 296 297 s i v w R
theorem qPT (s:Slc) (i:Int) (v:Slc) {w:World} {R:RW} (h9:qWX s i v w R):Calls prog 243 #[zS s,.int .i64 i,zS v] w R:=
 zC (q0 .z (q0 .z (q0 .z (q0 (q0 .z (.cond (q0 .z .z) .z)) (q0 .z (q0 (q0 .z (.cond (q0 .z .z) .z)) (q0 (q0 .z (.cond (q0 .z (q0 .z (q0 (.draw 0 (.take 0 (.take 1 (.take 2 (.take 3 (.take 4 (.take 5 (.take 6 (.take 7 (.all [(8,.done)])))))))))) (q0 .z .z)))) .z)) (q0 .z (q0 (q0 .z (.cond (q0 (.draw 0 (.take 0 (.take 1 (.take 2 (.take 3 (.take 4 (.take 5 (.take 6 (.take 7 (.all [(8,.done)])))))))))) (q0 .z (q0 .z .z))) .z)) (q0 .z (q0 .z (q0 .z .z)))))))))))) func243 [.sl s,.i .i64 i,.sl v] h9
def qXG (slices:Slc) (w:World) (R:RW):Prop:=
 ∃ (inv:zT) (mu:zU),inv [.i .i64 0,.i .i64 0] w/\(∀ size x:Int,∀ w1:World,inv [.i .i64 size,.i .i64 x] w1->aE (decide (x<slices.len)) ((zB x slices.len/\aA slices.a λa=>∃ x1:Slc,Rd w1 (a.add (x.toNat*1)) [zS x1]/\aE (decide ((zW (size+(x1.len:Int)))<(0:Int))) ((aG R) [{v:=(.iface 9 (.string ⟨([108,101,110,32,111,117,116,32,111,102,32,114,97,110,103,101]).toArray⟩)),recovered:=false}] w1) ((inv [.i .i64 (zW (size+(x1.len:Int))),.i .i64 (zW (x+1))] w1/\mu [.i .i64 (zW (size+(x1.len:Int))),.i .i64 (zW (x+1))] w1<mu [.i .i64 size,.i .i64 x] w1)))) (aD prog 256 [.slice none 0 0,.int .i64 size] w1 (aG R) λv w2=>∃ x2:Slc,v=(zS x2)/\∃ (inv1:zT) (mu1:zU),inv1 [.sl x2,.i .i64 0] w2/\(∀ newslice:Slc,∀ x3:Int,∀ w3:World,inv1 [.sl newslice,.i .i64 x3] w3->aE (decide (x3<slices.len)) ((zB x3 slices.len/\aA slices.a λa1=>∃ x4:Slc,Rd w3 (a1.add (x3.toNat*1)) [zS x4]/\aH prog (Builtin.append_ #[38,38] 38 #[zS newslice,zS x4]) w3 λv1 w4=>∃ x5:Slc,v1=(zS x5)/\(inv1 [.sl x5,.i .i64 (zW (x3+1))] w4/\mu1 [.sl x5,.i .i64 (zW (x3+1))] w4<mu1 [.sl newslice,.i .i64 x3] w3))) (R (.returned (zS newslice)) w3))))
theorem qPR (slices:Slc) {w:World} {R:RW} (h9:qXG slices w R):Calls prog 191 #[zS slices] w R:=
 zC (q0 .z (q0 .z (q0 (q0 .z (.block none (.loop [(3,(.i .i64)),(11,(.i .i64))] (q0 .z (q0 (.cond .z .z) (q0 (.block none (q0 .z (q0 .z (q0 .z (.cond .z .z))))) .z)))))) (q0 .z (q0 (q0 .z (.block none (.loop [(6,.sl),(27,(.i .i64))] (q0 .z (q0 (.cond .z .z) (q0 (.block none (q0 .z .z)) .z)))))) (q0 .z .z)))))) func191 [.sl slices] h9
def qTR (s:Slc) (n:Int) (w:World) (R:RW):Prop:=
 ∃ j:zT,(aE (decide (n<0)) ((aG R) [{v:=(.iface 9 (.string ⟨([99,97,110,110,111,116,32,98,101,32,110,101,103,97,116,105,118,101]).toArray⟩)),recovered:=false}] w) (j [] w))/\(∀ w1:World,j [] w1->aE (decide ((zW (n - (zW ((s.cap:Int) - (s.len:Int))))) > (0:Int))) (((0<=(s.cap:Int)/\(s.cap:Int)<=(s.cap:Nat))/\aH prog (Builtin.append_ #[38,3] 38 #[.slice (aF s 1 0 (((s.cap:Int)).toNat) s.cap).a (aF s 1 0 (((s.cap:Int)).toNat) s.cap).len (aF s 1 0 (((s.cap:Int)).toNat) s.cap).cap,.int .i64 (zW (n - (zW ((s.cap:Int) - (s.len:Int)))))]) w1 λv w2=>∃ x:Slc,v=(zS x)/\((0<=(s.len:Int)/\(s.len:Int)<=(x.cap:Nat))/\R (.returned (.slice (aF x 1 0 (((s.len:Int)).toNat) x.cap).a (aF x 1 0 (((s.len:Int)).toNat) x.cap).len (aF x 1 0 (((s.len:Int)).toNat) x.cap).cap)) w2))) (R (.returned (zS s)) w1))
theorem qLI (s:Slc) (n:Int) {w:World} {R:RW} (h9:qTR s n w R):Calls prog 256 #[zS s,.int .i64 n] w R:=
 zC (q0 .z (.seq (some []) (q0 .z (.cond .z .z)) (q0 (q0 .z (q0 .z (.cond .z .z))) (q0 .z .z)))) func256 [.sl s,.i .i64 n] h9
def qTC (s:Slc) (w:World) (R:RW):Prop:=
 bB prog (do eqGuard .eql 37 (.tmp 3) (.const (.slice none 0 0)) (zS s) (.slice none 0 0); binOp .eql 37 (zS s) (.slice none 0 0)) λv=>∃ x:Bool,v=(.bool x)/\aE x (R (.returned (.slice none 0 0)) w) (aH prog (Instr.buildSlice 37 0 #[]) w λv1 w1=>∃ x1:Slc,v1=(zS x1)/\aH prog (Builtin.append_ #[37,37] 37 #[zS x1,zS s]) w1 λv2 w2=>∃ x2:Slc,v2=(zS x2)/\R (.returned (zS x2)) w2)
theorem qLK (s:Slc) {w:World} {R:RW} (h9:qTC s w R):Calls prog 185 #[zS s] w R:=
 zC (q0 .z (q0 (q0 .z (.cond (q0 .z .z) .z)) (q0 .z .z))) func185 [.sl s] h9
section
variable {w w0:World}
theorem qCW {Z:Nat->Prop} {L:List (Nat×Nat×Bool)} {g:FuncId} {args:List Value} {pan:List PanicEntry->zP} {K:Slc->zP} (hc:Calls prog g args.toArray w (Ret (R32 w))) (h:J Z w0 L w) (hK : ∀ b l w',l.length=32->Blk w' b (bys l) 5->w.heap.size<=b->J Z w0 L w'->Mod NoB w w'->K ⟨some ⟨b,0,none⟩,32,32⟩ w') :
 aD prog g args w pan λv w'=>∃ x:Slc,v = .slice x.a x.len x.cap/\K x w':=
 aB hc λv w' ⟨b,l,hv,h1,h2,h3,hm⟩=>⟨⟨some ⟨b,0,none⟩,32,32⟩,hv,hK b l w' h1 h2 h3 (h.mod hm) hm⟩
theorem qZE {w1 w':World} {b:Nat} {l:zY} (hb:Blk w1 b (bys l) 5) (hl:l.length=32) (hm:Mod NoB w1 w') {K:UInt8->Prop} (hK : ∀ x,K x) : ∃ x:UInt8,Rd w' ((⟨b,0,none⟩:Addr).add ((31:Int).toNat*1)) [.int .u8 x.toNat]/\K x:=
 ⟨l[31]'(by omega),rda (n:=31) (hb.no hm) (zZ (by omega)),hK _⟩
theorem jBU {w1 w' wx:World} {b:Nat} {l:zY} {y:UInt8} (hb:Blk w1 b (bys l) 5) (hl:l.length=32) (hm:Mod NoB w1 w') (hw:Mod NoB w w') (hs:wx.heap.size<=b) (hx:Mod NoB w wx):aJ prog (storeVar 5 ((⟨b,0,none⟩:Addr).add ((31:Int).toNat*1)) (.int .u8 y.toNat)) w' λw''=>R32 w (.slice (some ⟨b,0,none⟩) 32 32) w'':=
 iX (b:=b) (n:=31) (by kernel_rfl) (by kernel_rfl) rfl (hb.no hm) (by simp [bys,hl]) λw'' ht h9=>by
  rw [fU] at h9
  exact ⟨b,_,rfl,by simp [hl],h9,Nat.le_trans hx.size hs,hw.fresh ht.mod λx e=>by subst e; exact Nat.le_trans hx.size hs⟩
theorem jFR {w1 w' wx:World} {b:Nat} {l:zY} (hb:Blk w1 b (bys l) 5) (hl:l.length=32) (hs:wx.heap.size<=b) (hm:Mod NoB w1 w') (hw:Mod NoB w w') (hx:Mod NoB w wx):R32 w (.slice (some ⟨b,0,none⟩) 32 32) w':=⟨b,l,rfl,hl,hb.no hm,Nat.le_trans hx.size hs,hw⟩
theorem qHC {x0 x1 x2 x3 x4 x5 x6 x7 x8 x9 x10 x11 x12 x13 x14 x15 x16 x17 x18 x19:UInt64} : Calls prog 188 #[e20 x0 x1 x2 x3 x4 x5 x6 x7 x8 x9 x10 x11 x12 x13 x14 x15 x16 x17 x18 x19] w (Ret (R32 w)):=by
 refine qNQ _ _ _ _ _ _ _ _ _ _ _ _ _ _ _ _ _ _ _ _ ?_
 unfold qWC
 have h9:=J.start w
 repeat' (first | (refine cF (by first | exact zi5 | exact zi2 | exact mT | exact kT) (by assumption) λp w' hJ hM=>?_) | (refine iZ (by assumption) (by (try simp only [aO,add0,Nat.zero_add]); rfl) (by (repeat first | exact List.mem_cons_self | assumption | apply List.mem_cons_of_mem); first | done | fail) (by first | omega | (simp only []; omega)) λa b c d e=>?_) | (refine jH (by assumption) (by (try simp only [aO,add0,Nat.zero_add]); rfl) (by (repeat first | exact List.mem_cons_self | assumption | apply List.mem_cons_of_mem); first | done | fail) (by kernel_rfl) (by kernel_rfl) (by omega) λw' hJ hT=>?_) | (refine cN rR (by assumption) λa b c d e w' hJ hM=>?_) | (refine cN qHG (by assumption) λa b c d e w' hJ hM=>?_) | (refine qDH qXM (by assumption) λt w' hJ hM=>?_) | (refine qAL (by assumption) λp w' hJ hM=>?_) | (refine qCW jCE (by assumption) λb l w' hl hb hs hJ hM=>?_) | (refine qZE (by assumption) (by assumption) (by first | assumption | exact Mod.refl _ _ | ((first | refine Mod.tr ?_ (by assumption) | refine Mod.fresh ?_ (by assumption) (by rintro x rfl; assumption)); first | assumption | exact Mod.refl _ _ | ((first | refine Mod.tr ?_ (by assumption) | refine Mod.fresh ?_ (by assumption) (by rintro x rfl; assumption)); first | assumption | exact Mod.refl _ _ | ((first | refine Mod.tr ?_ (by assumption) | refine Mod.fresh ?_ (by assumption) (by rintro x rfl; assumption)); first | assumption | exact Mod.refl _ _ | ((first | refine Mod.tr ?_ (by assumption) | refine Mod.fresh ?_ (by assumption) (by rintro x rfl; assumption)); first | assumption | exact Mod.refl _ _ | ((first | refine Mod.tr ?_ (by assumption) | refine Mod.fresh ?_ (by assumption) (by rintro x rfl; assumption)); first | assumption | exact Mod.refl _ _ | ((first | refine Mod.tr ?_ (by assumption) | refine Mod.fresh ?_ (by assumption) (by rintro x rfl; assumption)); first | assumption | exact Mod.refl _ _ | ((first | refine Mod.tr ?_ (by assumption) | refine Mod.fresh ?_ (by assumption) (by rintro x rfl; assumption)); first | assumption | exact Mod.refl _ _ | ((first | refine Mod.tr ?_ (by assumption) | refine Mod.fresh ?_ (by assumption) (by rintro x rfl; assumption)); first | assumption | exact Mod.refl _ _ | ((first | refine Mod.tr ?_ (by assumption) | refine Mod.fresh ?_ (by assumption) (by rintro x rfl; assumption)); first | assumption | exact Mod.refl _ _ | ((first | refine Mod.tr ?_ (by assumption) | refine Mod.fresh ?_ (by assumption) (by rintro x rfl; assumption)); first | assumption | exact Mod.refl _ _ | ((first | refine Mod.tr ?_ (by assumption) | refine Mod.fresh ?_ (by assumption) (by rintro x rfl; assumption)); first | assumption | exact Mod.refl _ _ | ((first | refine Mod.tr ?_ (by assumption) | refine Mod.fresh ?_ (by assumption) (by rintro x rfl; assumption)); first | assumption | exact Mod.refl _ _ | ((first | refine Mod.tr ?_ (by assumption) | refine Mod.fresh ?_ (by assumption) (by rintro x rfl; assumption)); first | assumption | exact Mod.refl _ _ | ((first | refine Mod.tr ?_ (by assumption) | refine Mod.fresh ?_ (by assumption) (by rintro x rfl; assumption)); first | assumption | exact Mod.refl _ _))))))))))))))) λx=>?_) | exact jBU (by assumption) (by assumption) (by first | assumption | exact Mod.refl _ _ | ((first | refine Mod.tr ?_ (by assumption) | refine Mod.fresh ?_ (by assumption) (by rintro x rfl; assumption)); first | assumption | exact Mod.refl _ _ | ((first | refine Mod.tr ?_ (by assumption) | refine Mod.fresh ?_ (by assumption) (by rintro x rfl; assumption)); first | assumption | exact Mod.refl _ _ | ((first | refine Mod.tr ?_ (by assumption) | refine Mod.fresh ?_ (by assumption) (by rintro x rfl; assumption)); first | assumption | exact Mod.refl _ _ | ((first | refine Mod.tr ?_ (by assumption) | refine Mod.fresh ?_ (by assumption) (by rintro x rfl; assumption)); first | assumption | exact Mod.refl _ _ | ((first | refine Mod.tr ?_ (by assumption) | refine Mod.fresh ?_ (by assumption) (by rintro x rfl; assumption)); first | assumption | exact Mod.refl _ _ | ((first | refine Mod.tr ?_ (by assumption) | refine Mod.fresh ?_ (by assumption) (by rintro x rfl; assumption)); first | assumption | exact Mod.refl _ _ | ((first | refine Mod.tr ?_ (by assumption) | refine Mod.fresh ?_ (by assumption) (by rintro x rfl; assumption)); first | assumption | exact Mod.refl _ _ | ((first | refine Mod.tr ?_ (by assumption) | refine Mod.fresh ?_ (by assumption) (by rintro x rfl; assumption)); first | assumption | exact Mod.refl _ _ | ((first | refine Mod.tr ?_ (by assumption) | refine Mod.fresh ?_ (by assumption) (by rintro x rfl; assumption)); first | assumption | exact Mod.refl _ _ | ((first | refine Mod.tr ?_ (by assumption) | refine Mod.fresh ?_ (by assumption) (by rintro x rfl; assumption)); first | assumption | exact Mod.refl _ _ | ((first | refine Mod.tr ?_ (by assumption) | refine Mod.fresh ?_ (by assumption) (by rintro x rfl; assumption)); first | assumption | exact Mod.refl _ _ | ((first | refine Mod.tr ?_ (by assumption) | refine Mod.fresh ?_ (by assumption) (by rintro x rfl; assumption)); first | assumption | exact Mod.refl _ _ | ((first | refine Mod.tr ?_ (by assumption) | refine Mod.fresh ?_ (by assumption) (by rintro x rfl; assumption)); first | assumption | exact Mod.refl _ _ | ((first | refine Mod.tr ?_ (by assumption) | refine Mod.fresh ?_ (by assumption) (by rintro x rfl; assumption)); first | assumption | exact Mod.refl _ _))))))))))))))) (J.m (by assumption)) (by assumption) (J.m (by assumption)) | exact jFR (by assumption) (by assumption) (by assumption) (by first | assumption | exact Mod.refl _ _ | ((first | refine Mod.tr ?_ (by assumption) | refine Mod.fresh ?_ (by assumption) (by rintro x rfl; assumption)); first | assumption | exact Mod.refl _ _ | ((first | refine Mod.tr ?_ (by assumption) | refine Mod.fresh ?_ (by assumption) (by rintro x rfl; assumption)); first | assumption | exact Mod.refl _ _ | ((first | refine Mod.tr ?_ (by assumption) | refine Mod.fresh ?_ (by assumption) (by rintro x rfl; assumption)); first | assumption | exact Mod.refl _ _ | ((first | refine Mod.tr ?_ (by assumption) | refine Mod.fresh ?_ (by assumption) (by rintro x rfl; assumption)); first | assumption | exact Mod.refl _ _ | ((first | refine Mod.tr ?_ (by assumption) | refine Mod.fresh ?_ (by assumption) (by rintro x rfl; assumption)); first | assumption | exact Mod.refl _ _ | ((first | refine Mod.tr ?_ (by assumption) | refine Mod.fresh ?_ (by assumption) (by rintro x rfl; assumption)); first | assumption | exact Mod.refl _ _ | ((first | refine Mod.tr ?_ (by assumption) | refine Mod.fresh ?_ (by assumption) (by rintro x rfl; assumption)); first | assumption | exact Mod.refl _ _ | ((first | refine Mod.tr ?_ (by assumption) | refine Mod.fresh ?_ (by assumption) (by rintro x rfl; assumption)); first | assumption | exact Mod.refl _ _ | ((first | refine Mod.tr ?_ (by assumption) | refine Mod.fresh ?_ (by assumption) (by rintro x rfl; assumption)); first | assumption | exact Mod.refl _ _ | ((first | refine Mod.tr ?_ (by assumption) | refine Mod.fresh ?_ (by assumption) (by rintro x rfl; assumption)); first | assumption | exact Mod.refl _ _ | ((first | refine Mod.tr ?_ (by assumption) | refine Mod.fresh ?_ (by assumption) (by rintro x rfl; assumption)); first | assumption | exact Mod.refl _ _ | ((first | refine Mod.tr ?_ (by assumption) | refine Mod.fresh ?_ (by assumption) (by rintro x rfl; assumption)); first | assumption | exact Mod.refl _ _ | ((first | refine Mod.tr ?_ (by assumption) | refine Mod.fresh ?_ (by assumption) (by rintro x rfl; assumption)); first | assumption | exact Mod.refl _ _ | ((first | refine Mod.tr ?_ (by assumption) | refine Mod.fresh ?_ (by assumption) (by rintro x rfl; assumption)); first | assumption | exact Mod.refl _ _))))))))))))))) (J.m (by assumption)) (J.m (by assumption)) | (refine aC (λhb=>?_) λhb=>?_ <;> try simp at hb) | (refine And.intro (by first | omega | (simp only []; omega)) ?_))
theorem qZQ {x:Slc} {l:zY} (hx:aK w x 1 (bys l)) (hg:TR w (2,5)):Calls prog 255 #[.slice x.a x.len x.cap] w (Ret (RPB w)):=by
 refine qMY _ ?_
 unfold qTW
 have k4:J NoB w [(2,5,false)] w:=⟨Mod.refl _ _,λq hq=>by simp at hq; subst hq; exact ⟨λh=>(by cases h),hg⟩⟩
 have hl:=aV hx
 refine cF kT k4 λp w1 h9 hM1=>?_
 refine aC (λ_=>?_) λhb=>?_
 ·refine oT (x0:=0) (x1:=0) (x2:=0) (x3:=0) (x4:=0) (x5:=0) (x6:=0) (x7:=0) (x8:=0) (x9:=0) (x10:=0) (x11:=0) (x12:=0) (x13:=0) (x14:=0) (x15:=0) (x16:=0) (x17:=0) (x18:=0) (x19:=0) h9 (o:=0) rfl List.mem_cons_self (by kernel_rfl) (by kernel_rfl) (by omega) λw' hJ hT=>?_
  repeat' (first | (refine pZ (by assumption) (by (try simp only [aO,add0,Nat.zero_add]); rfl) (by (repeat first | exact List.mem_cons_self | assumption | apply List.mem_cons_of_mem); first | done | fail) (by omega) λx0 x1 x2 x3 x4 x5 x6 x7 x8 x9 x10 x11 x12 x13 x14 x15 x16 x17 x18 x19=>?_) | exact ⟨_,_,_,_,_,_,_,_,_,_,_,_,_,_,_,_,_,_,_,_,_,rfl,J.m (by assumption)⟩)
 ·have hb:x.len=32:=by have:=hb; simp at this; omega
  refine aB (uZ (hx.no hM1) (by omega)) ?_
  rintro v w2 ⟨y,rfl,ho,hf,k5⟩
  have k6:=h9.mod k5
  have hyl:=aV ho.rd
  refine ⟨y,rfl,⟨by omega,by omega⟩,?_⟩
  obtain ⟨ya,yl,yc⟩:=y
  simp only [] at hyl
  obtain ⟨A,hA,hr⟩:=gL ho.rd (i:=31) (by omega)
  simp only [] at hA
  subst hA
  refine ⟨_,hr,⟨by omega,by show (31:Int)<(yl:Int); omega⟩,_,hr,⟨by omega,by show (31:Int)<(yl:Int); omega⟩,?_⟩
  have hyn : ∀ z,Slc.blk ⟨some A,yl,yc⟩=some z->w1.heap.size<=z:=λz hz=>by
   rcases hf with hf | ⟨u,hu,p8⟩
   ·rw [hf] at hz; cases hz
   ·rw [hu] at hz; cases hz; exact p8
  refine iC (by kernel_rfl) (by kernel_rfl) rfl ho rfl (i:=31) (by show 31<yl; omega) λw3 k3 p9 q8=>?_
  rw [fU] at k3
  have q9:J NoB w [(p,20,true),(2,5,false)] w3:=k6.other p9 (λz hz=>Nat.le_trans hM1.size (hyn z hz)) λq hq hz=>by
   have h1:=hyn _ hz
   have h2:=(h9.2 q hq).2.1
   simp only [] at h2; omega
  refine qVW (jDK k3.rd) q9 λa b c d e t w4 t6 t7=>?_
  repeat' (first | (refine cF (by first | exact zi5 | exact zi2 | exact mT | exact kT) (by assumption) λp w' hJ hM=>?_) | (refine iZ (by assumption) (by (try simp only [aO,add0,Nat.zero_add]); rfl) (by (repeat first | exact List.mem_cons_self | assumption | apply List.mem_cons_of_mem); first | done | fail) (by first | omega | (simp only []; omega)) λa b c d e=>?_) | (refine oG (by assumption) (by (try simp only [aO,add0,Nat.zero_add]); rfl) (by (repeat first | exact List.mem_cons_self | assumption | apply List.mem_cons_of_mem); first | done | fail) (by first | omega | (simp only []; omega)) λa b c d e=>?_) | (refine jH (by assumption) (by (try simp only [aO,add0,Nat.zero_add]); rfl) (by (repeat first | exact List.mem_cons_self | assumption | apply List.mem_cons_of_mem); first | done | fail) (by kernel_rfl) (by kernel_rfl) (by omega) λw' hJ hT=>?_) | (refine cN rR (by assumption) λa b c d e w' hJ hM=>?_) | (refine cN oM (by assumption) λa b c d e w' hJ hM=>?_) | (refine cN qKG (by assumption) λa b c d e w' hJ hM=>?_) | (refine cN qDG (by assumption) λa b c d e w' hJ hM=>?_) | (refine cN qHL (by assumption) λa b c d e w' hJ hM=>?_) | (refine cN qIY (by assumption) λa b c d e w' hJ hM=>?_) | (refine qDH jAO (by assumption) λt w' hJ hM=>?_) | (refine pZ (by assumption) (by (try simp only [aO,add0,Nat.zero_add]); rfl) (by (repeat first | exact List.mem_cons_self | assumption | apply List.mem_cons_of_mem); first | done | fail) (by omega) λx0 x1 x2 x3 x4 x5 x6 x7 x8 x9 x10 x11 x12 x13 x14 x15 x16 x17 x18 x19=>?_) | (refine oT (by assumption) (by (try simp only [aO,add0,Nat.zero_add]); rfl) (by (repeat first | exact List.mem_cons_self | assumption | apply List.mem_cons_of_mem); first | done | fail) (by kernel_rfl) (by kernel_rfl) (by omega) λw' hJ hT=>?_) | exact ⟨_,_,_,_,_,_,_,_,_,_,_,_,_,_,_,_,_,_,_,_,_,rfl,J.m (by assumption)⟩ | (refine qVW jAB (by assumption) λa b c d e t w' hJ hM=>?_) | (refine aC (λhb=>?_) λhb=>?_ <;> try simp at hb) | (refine And.intro ?_ trivial) | (refine And.intro (by first | omega | (simp only []; omega)) ?_) | (refine dT (by assumption) λhJ=>?_) | (refine And.intro (by (repeat first | assumption | exact Mod.refl _ _ | refine Mod.tr ?_ (by assumption) | refine Mod.fresh ?_ (by assumption) (by rintro x rfl; assumption)); first | done | fail) ?_) | assumption | (simp (disch:=omega) only [wrap_i64]) | (refine jGU (by assumption) ?_ λb t w' hJ=>?_) | exact ⟨_,rfl,J.sub (by assumption) (by intro q hq; first | ((repeat first | exact hq | apply List.mem_cons_of_mem); first | done | fail) | (rcases List.mem_cons.1 hq with rfl | hq; (first | exact List.mem_cons_self | (apply List.mem_cons_of_mem; exact List.mem_cons_self)); ((repeat first | exact hq | apply List.mem_cons_of_mem); first | done | fail)))⟩ | (refine qHE (by assumption) ?_ ?_) | (refine λ(w:World) (hJ:J _ _ _ w)=>?_) | (refine λ(_:Bool) (w:World) (hJ:J _ _ _ w)=>?_) | (refine And.intro ?_ ?_))
end
section
variable {w w0:World}
theorem jAQ:Calls prog 313 #[.int .u64 (UInt64.toNat (aP (1:Nat))),.int .u64 (UInt64.toNat (aP 32))] w (Ret λv w'=>v = .tuple #[.int .u64 ((0:UInt64)).toNat,.int .u64 ((32:UInt64)).toNat]/\w'=w):=by
 refine qPS _ _ ?_
 unfold qTS
 refine aB (Q:=λv w'=>v = .tuple #[.int .u64 ((0:UInt64)).toNat,.int .u64 ((32:UInt64)).toNat]/\w'=w) ?_ ?_
 ·refine qCR _ _ ?_
  unfold qJA
  refine ⟨Int.natCast_nonneg _,Int.natCast_nonneg _,Int.natCast_nonneg _,Int.natCast_nonneg _,Int.natCast_nonneg _,?_,rfl⟩
  rfl
 ·rintro v w' ⟨rfl,rfl⟩
  exact ⟨_,_,rfl,rfl,rfl⟩
theorem qDB {l m:zY} {o:Nat} : putAt (bys l) o (bys m)=bys (l.take o++m++l.drop (o+m.length)):=by simp [putAt,bys,List.map_take,List.map_drop]
theorem qHK {x:Slc} {c:UInt8} (hx:aK w x 1 (bys [c])) (hxl : ∀ z,x.blk=some z->z<w.heap.size):Calls prog 254 #[.slice x.a x.len x.cap,.int .i64 32] w (Ret (R32 w)):=by
 refine qPJ _ _ ?_
 unfold qUJ
 obtain ⟨u2,h9,k6,k3,p8⟩:=i5
 have hl:x.len=1:=by have:=aV hx; simpa using this.symm
 obtain ⟨xa,xl,xc⟩:=x
 simp only [] at hl
 subst hl
 refine ⟨λl w'=>w'=w,aC (λh=>by simp at h) λ_=>rfl,?_⟩
 rintro w1 rfl
 refine aB jAQ ?_
 rintro v w2 ⟨rfl,rfl⟩
 refine ⟨_,_,rfl,λl w'=>w'=w2,aC (λh=>absurd h (by decide)) λ_=>aC (λh=>absurd h (by decide)) λ_=>rfl,?_⟩
 rintro w3 rfl
 have e32:zW (((32:UInt64)).toNat:Int)=((32:Nat):Int):=by decide
 rw [e32]
 refine bW u26 h9 k6 k3 rfl p8 (l:=32) (c:=32) rfl rfl (by omega) (by omega) (by omega) λq w4 hN hb ho=>⟨⟨some ⟨q,0,none⟩,32,32⟩,rfl,?_⟩
 rw [kI] at hb
 have u3:=hN.at_
 have p9:=hx.no hN.mod
 refine qZ (d:=⟨some ⟨q,0,none⟩,32,32⟩) (o:=0) u26 h9 k3 rfl hb (by simp [bys]) p9 (eX _) λw5 k5 q8 q9=>⟨_,rfl,?_⟩
 have ey:(bys [c]).take (min 1 32*1)=bys [c]:=rfl
 have ey':(bys [c]).take (min (Slc.len ⟨xa,1,xc⟩) (Slc.len ⟨some ⟨q,0,none⟩,32,32⟩)*1)=bys [c]:=rfl
 rw [ey',qDB] at k5
 refine ⟨λl' w'=>match l' with | [.i _ x]=>∃ n:Nat,x=(n:Int)/\1<=n/\n<=32/\∃ l,l.length=32/\Blk w' q (bys l) 5/\Mod (λy=>y=q) w4 w' | _=>False,λl' _=>match l' with | [.i _ x]=>(32 - x).toNat | _=>0,
  ⟨1,rfl,by omega,by omega,_,by simp,k5,q8⟩,?_⟩
 rintro i w6 ⟨n,rfl,h1,h2,l,hl,hbl,hm⟩
 refine aC (λhlt=>?_) λ_=>⟨q,l,rfl,hl,hbl,by omega,hN.mod.fresh hm λy e=>by omega⟩
 have hlt:n<32:=by have:=hlt; simp at this; omega
 refine ⟨⟨by omega,by show (n:Int)<=((32:Nat):Int); omega⟩,⟨by omega,by show (n:Int)<=((32:Nat):Int); omega⟩,?_,trivial⟩
 have ec:aF ⟨some ⟨q,0,none⟩,32,32⟩ 1 n 32 32=⟨some ⟨q,n,none⟩,32 - n,32 - n⟩:=by unfold aF; rw [if_neg (by omega)]; simp
 have t6:aF ⟨some ⟨q,0,none⟩,32,32⟩ 1 0 n 32=⟨some ⟨q,0,none⟩,n,32⟩:=by unfold aF; rw [if_neg (by omega)]; simp
 simp only [Int.toNat_natCast,ec,t6]
 have t7:aK w6.drew ⟨some ⟨q,0,none⟩,n,32⟩ 1 (bys (l.take n)):=⟨by simp [bys]; omega,by simp only []; omega,.inr ⟨_,rfl,hbl.drew.rd λj v hj=>by
  simp only [bys,List.getElem?_map,List.getElem?_take,Nat.zero_add] at hj ⊢
  split at hj
  ·exact hj
  ·cases hj⟩⟩
 refine qZ (d:=⟨some ⟨q,n,none⟩,32 - n,32 - n⟩) (o:=n) u26 h9 k3 rfl hbl.drew (by simp [bys]; omega) t7 (eX _) λw7 k4 u0 u1=>⟨_,rfl,?_⟩
 have e1:zW ((n:Int)+((min n (32 - n):Nat):Int))=((n+min n (32 - n):Nat):Int):=by rw [wrap_i64 (by omega)]; omega
 show (∃ m:Nat,zW ((n:Int)+((min n (32 - n):Nat):Int))=(m:Int)/\_)/\(32 - zW ((n:Int)+((min n (32 - n):Nat):Int))).toNat<_
 have et:(bys (l.take n)).take (min n (32 - n)*1)=bys ((l.take n).take (min n (32 - n))):=by simp [bys,List.map_take]
 rw [e1]
 simp only [] at k4
 rw [et,qDB] at k4
 exact ⟨⟨_,rfl,by omega,by omega,_,by simp; omega,k4,(hm.tr (Mod.drew _ _)).tr u0⟩,by omega⟩
theorem qHQ (hg:TR w (2,5)):Calls prog 190 #[] w (Ret (RP w)):=by
 refine qMJ ?_
 unfold qSY
 have k4:J NoB w [(2,5,false)] w:=⟨Mod.refl _ _,λq hq=>by simp at hq; subst hq; exact ⟨λh=>(by cases h),hg⟩⟩
 refine cF kT k4 λp w1 k5 hM1=>?_
 refine fQ [102] rfl rfl (by omega) (by omega) λx b w2 k6 ex hb2 p8=>⟨x,rfl,?_⟩
 have h9:=k5.mod k6.mod
 refine qCW (qHK p8.rd λz hz=>by subst ex; rw [Slc.blk_mk] at hz; simp at hz; subst hz; exact hb2.lt) h9 λb' l w3 hl hb3 hs p9 q8=>?_
 refine ⟨⟨by omega,by show (0:Int)<((32:Nat):Int); omega⟩,?_⟩
 refine iX (b:=b') (n:=0) (by kernel_rfl) (by kernel_rfl) rfl hb3 (by simp [bys,hl]) λw4 ht hb4=>?_
 rw [fU] at hb4
 have k3:J NoB w [(p,20,true),(2,5,false)] w4:=p9.other ht.mod (λz e=>by subst e; exact Nat.le_trans h9.m.size hs) λq hq e=>by
  have h2:=(h9.2 q hq).2.1
  simp only [] at h2; omega
 refine qZC (qZQ (aY (n:=32) (k:=1) hb4 (by simp [bys,hl])).rd (k3.tr (f:=false) (List.mem_cons_of_mem _ List.mem_cons_self))) k3 λx0 x1 x2 x3 x4 x5 x6 x7 x8 x9 x10 x11 x12 x13 x14 x15 x16 x17 x18 x19 t w5 q9 t6=>?_
 repeat' (first | (refine cF (by first | exact zi5 | exact zi2 | exact mT | exact kT) (by assumption) λp w' hJ hM=>?_) | (refine pZ (by assumption) (by (try simp only [aO,add0,Nat.zero_add]); rfl) (by (repeat first | exact List.mem_cons_self | assumption | apply List.mem_cons_of_mem); first | done | fail) (by omega) λx0 x1 x2 x3 x4 x5 x6 x7 x8 x9 x10 x11 x12 x13 x14 x15 x16 x17 x18 x19=>?_) | (refine oT (by assumption) (by (try simp only [aO,add0,Nat.zero_add]); rfl) (by (repeat first | exact List.mem_cons_self | assumption | apply List.mem_cons_of_mem); first | done | fail) (by kernel_rfl) (by kernel_rfl) (by omega) λw' hJ hT=>?_) | exact ⟨_,_,_,_,_,_,_,_,_,_,_,_,_,_,_,_,_,_,_,_,rfl,J.m (by assumption)⟩)
theorem qIG {s:Slc} : Calls prog 250 #[.slice s.a s.len s.cap] w (Ret λv w'=>∃ p,v = .func (.func 305) #[] #[.pointer (some ⟨p,0,none⟩)]/\(∃ T,Blk w' p [s.val] T)/\w.heap.size<=p/\Mod NoB w w'):=by
 refine qQH _ ?_
 unfold qXC
 refine aQ (l:=[s.val]) rfl λp w1 hN1 hb1=>⟨_,rfl,?_⟩
 have h1:=hN1.at_
 exact ⟨p,rfl,⟨_,hb1⟩,by omega,hN1.mod⟩
theorem qSO {ll p:Nat} {s:Slc} {l:List Bool} {I:Nat->zP} (hl:l.length=s.len) (hn:l.length<=1000000000000000) (hp : ∃ T,Blk w p [s.val] T) (h0:I l.length w)
 (hI : ∀ k w1,k<l.length->I (k+1) w1->Rd w1 ⟨p,0,none⟩ [s.val]/\aK w1 s 1 (bls l)/\∀ h:k<l.length,eZ prog ll [.int .i64 k,.bool l[k]] w1 λv w2=>v = .bool true/\I k w2) :
 Calls prog 305 #[.func (.yield ll) #[] #[],.pointer (some ⟨p,0,none⟩)] w (Ret λv w'=>v = .tuple #[]/\I 0 w'):=by
 refine qPP _ _ ?_
 unfold qVL
 obtain ⟨T,hp⟩:=hp
 refine ⟨s,hp.rd1 rfl,?_⟩
 refine ⟨λl' w'=>match l' with | [.i _ x]=>∃ k:Nat,x=(k:Int) - 1/\k<=l.length/\I k w' | _=>False,λl' _=>match l' with | [.i _ x]=>(x+1).toNat | _=>0,⟨l.length,by rw [wrap_i64 (by omega),hl],by omega,h0⟩,?_⟩
 rintro i w1 ⟨k,rfl,hk,hI1⟩
 refine aC (λhge=>?_) λhlt=>?_
 ·have hk0:0<k:=by simp at hge; omega
  obtain ⟨hr1,hr2,hy⟩:=hI (k - 1) w1 (by omega) (by rw [Nat.sub_add_cancel hk0]; exact hI1)
  obtain ⟨a,ea,hra⟩:=qSJ hr2 (i:=k - 1) (by omega)
  have e1:((k:Int) - 1)=((k - 1:Nat):Int):=by omega
  rw [e1]
  refine ⟨s,hr1,⟨by omega,by omega⟩,?_⟩
  rw [ea]
  refine ⟨_,hra,?_⟩
  show eZ _ _ _ _ _
  obtain ⟨f,tmps,assign,body,g1,g2⟩:=hy (by omega)
  refine ⟨f,tmps,assign,body,g1,RoundIn.mono g2 λe w2 he=>?_⟩
  obtain ⟨v,rfl,rfl,hI2⟩:=he
  refine ⟨_,rfl,true,rfl,?_⟩
  refine aC (λe=>by cases e) λ_=>⟨⟨k - 1,by rw [wrap_i64 (by omega)],by omega,hI2⟩,?_⟩
  rw [wrap_i64 (by omega)]; (try simp only []); omega
 ·have:k=0:=by simp at hlt; omega
  subst this
  exact ⟨rfl,hI1⟩
theorem xC {Z:Nat->Prop} {w':World} {L:List (Nat×Nat×Bool)} {b:Nat} (h:J Z w0 L w) (hm:Mod (λx=>x=b) w w') (h1:w0.heap.size<=b) (h2 : ∀ q∈L,q.1≠b):J Z w0 L w':=h.other hm (λx e=>by subst e; exact h1) λq hq e=>h2 q hq e
theorem qIM {a:Slc} {l:zY} {x0 x1 x2 x3 x4 x5 x6 x7 x8 x9 x10 x11 x12 x13 x14 x15 x16 x17 x18 x19:UInt64} (ha:aK w a 1 (bys l)) (hal : ∀ x,a.blk=some x->x<w.heap.size) (hg:TR w (1,5)):Calls prog 189 #[.slice a.a a.len a.cap,e20 x0 x1 x2 x3 x4 x5 x6 x7 x8 x9 x10 x11 x12 x13 x14 x15 x16 x17 x18 x19] w (Ret (RP w)):=by
 refine qNN _ _ _ _ _ _ _ _ _ _ _ _ _ _ _ _ _ _ _ _ _ ?_
 unfold qWM
 have j3:J NoB w [(1,5,false)] w:=⟨Mod.refl _ _,λq hq=>by simp at hq; subst hq; exact ⟨λh=>(by cases h),hg⟩⟩
 refine qAL j3 λp w1 j4 hM1=>?_
 refine cF kT j4 λx w2 j5 hM2=>?_
 refine qJD qNS j5 λx0 x1 x2 x3 x4 x5 x6 x7 x8 x9 x10 x11 x12 x13 x14 x15 x16 x17 x18 x19 w3 j6 o3=>?_
 refine cF jFX j6 λs w4 b5 o4=>?_
 refine oT b5 (o:=0) rfl List.mem_cons_self (by kernel_rfl) (by kernel_rfl) (by omega) λw5 u7 o5=>?_
 refine aB (qQQ (ha.mod u7.m λ_ _ h=>h) λz hz=>Nat.lt_of_lt_of_le (hal z hz) u7.m.size) ?_
 rintro v w6 ⟨y,rfl,v1,b6,y9⟩
 have a6:=u7.mod y9
 refine ⟨y,rfl,?_⟩
 refine aB qIG ?_
 rintro v w7 ⟨pb,rfl,⟨T,v6⟩,hps,v7⟩
 have v8:=a6.mod v7
 refine ⟨_,rfl,305,#[],#[.pointer (some ⟨pb,0,none⟩)],rfl,by kernel_rfl,?_⟩
 rintro rec dd ll w8 z1 hll hw8 hY
 have u9:Mod NoB w7 w8:=by rw [hw8]; exact (cS _ _).tr (cS _ _)
 have a7:w8.heap.size=ll+1:=by rw [hw8]; simp; omega
 have y0:w8.heap[ll]? = some (rec .ready none):=by
  rw [hw8,hll,z1]
  have:=heap_alloc_new (w7.alloc (.deferred (some []))) (rec .ready none)
  simpa using this
 have y1:w8.heap[dd]? = some (.deferred (some [])):=by
  rw [hw8,z1,heap_alloc_old _ _ (by simp)]
  exact heap_alloc_new _ _
 have a8:=v8.mod u9
 have hs7:=v8.m.size
 have k5 : ∀ q∈[(s,20,true),(x,20,true),(p,20,true),(1,5,false)],q.1<w7.heap.size:=λq hq=>(v8.2 q hq).2.1
 have hls:s≠ll/\s≠dd:=by have:=k5 _ List.mem_cons_self; simp only [] at this; omega
 have hl1 : ∀ q∈[(s,20,true),(x,20,true),(p,20,true),(1,5,false)],q.1≠ll:=λq hq=>by have:=k5 q hq; omega
 have hl2 : ∀ q∈[(s,20,true),(x,20,true),(p,20,true),(1,5,false)],q.1≠dd:=λq hq=>by have:=k5 q hq; omega
 have hyl:=qCO v1.rd
 have i6:aK w7 y 1 (bls (oP l)):=(v1.no v7).rd
 have hsb : ∀ z,y.blk=some z->w5.heap.size<=z/\z<w7.heap.size:=λz hz=>⟨b6 z hz,Nat.lt_of_lt_of_le (v1.lt hz) v7.size⟩
 have hs5:s<w5.heap.size:=(u7.2 _ List.mem_cons_self).2.1
 have i7:=v6.lt
 have i8:s<pb:=by have:=y9.size; omega
 let I:Nat->zP:=λk w'=>w'.heap[ll]? = some (rec .ready none)/\J NoB w [(s,20,true),(x,20,true),(p,20,true),(1,5,false)] w'/\Mod (λz=>z=s\/z=ll) w8 w'
 have y2:=qSO (w:=w8) (ll:=ll) (p:=pb) (s:=y) (l:=oP l) (I:=I) hyl (by rw [oP]; split <;> simp) ⟨T,v6.no u9⟩ ⟨y0,a8,Mod.refl _ _⟩ (by
  rintro k w9 hk ⟨p9,y5,q8⟩
  refine ⟨((v6.no u9).mod q8 (by omega)).rd1 rfl,(i6.mod u9 λ_ _ h=>h).mod q8 (λz hz e=>by have:=hsb z hz; omega),λo6=>?_⟩
  refine hY _ _ w9 _ p9 ⟨p9,?_⟩
  have k6:=aT p9
  obtain ⟨q9,z6,hsp⟩:=eO (o:=rec .busy none) k6
  have z7:=xC y5 q9 (by omega) hl1
  refine qHX (qHR (z7.tb List.mem_cons_self)) z7 List.mem_cons_self λz8 h9 t6=>?_
  have k3:z8.heap[ll]? = some (rec .busy none):=by rw [t6.block ll (by omega) (by omega)]; exact z6
  have t7:Mod (λz=>z=s\/z=ll) w8 z8:=(q8.tr (q9.mono λx _ e=>.inr e)).tr (t6.mono λx _ e=>.inl e)
  refine aC (λ_=>?_) λ_=>?_
  ·refine pZ h9 (o:=0) rfl (List.mem_cons_of_mem _ (List.mem_cons_of_mem _ List.mem_cons_self)) (by omega) λx0 x1 x2 x3 x4 x5 x6 x7 x8 x9 x10 x11 x12 x13 x14 x15 x16 x17 x18 x19=>?_
   refine qHX (qZM (h9.tb List.mem_cons_self) (h9.tr (f:=false) (List.mem_cons_of_mem _ (List.mem_cons_of_mem _ (List.mem_cons_of_mem _ List.mem_cons_self))))) h9 List.mem_cons_self λy7 p8 k4=>?_
   have u0:y7.heap[ll]? = some (rec .busy none):=by rw [k4.block ll (aT k3) (by omega)]; exact k3
   have u1:=aT u0
   obtain ⟨u2,y8,o0⟩:=eO (o:=rec .ready none) u1
   exact ⟨u0,rfl,y8,xC p8 u2 (by omega) hl1,(t7.tr (k4.mono λx _ e=>.inl e)).tr (u2.mono λx _ e=>.inr e)⟩
  ·have u3:=aT k3
   obtain ⟨u2,y8,o0⟩:=eO (o:=rec .ready none) u3
   exact ⟨k3,rfl,y8,xC h9 u2 (by omega) hl1,t7.tr (u2.mono λx _ e=>.inr e)⟩)
 refine oS y2 ?_ (λ_ _ h=>h.elim) (λ_ h=>h)
 rintro v w9 ⟨rfl,p9,y5,q8⟩
 left
 refine ⟨p9,?_⟩
 have k6:=aT p9
 obtain ⟨q9,z6,hsp⟩:=eO (o:=rec .exhausted none) k6
 have h9:=xC y5 q9 (by omega) hl1
 refine pZ h9 (o:=0) rfl List.mem_cons_self (by omega) λx0 x1 x2 x3 x4 x5 x6 x7 x8 x9 x10 x11 x12 x13 x14 x15 x16 x17 x18 x19=>?_
 refine oT h9 (o:=0) rfl (List.mem_cons_of_mem _ List.mem_cons_self) (by kernel_rfl) (by kernel_rfl) (by omega) λy7 p8 k4=>?_
 have o1:x≠dd:=hl2 _ (List.mem_cons_of_mem _ List.mem_cons_self)
 have j2:w9.heap[dd]? = some (.deferred (some [])):=by rw [q8.block dd (by omega) (by omega)]; exact y1
 have u4:(w9.putObj ll (rec .exhausted none)).heap[dd]? = some (.deferred (some [])):=by rw [q9.block dd (aT j2) (by omega)]; exact j2
 have u5:y7.heap[dd]? = some (.deferred (some [])):=by rw [k4.block dd (aT u4) (λe=>o1 e.symm)]; exact u4
 refine ⟨u5,?_⟩
 obtain ⟨o2,hgd,o7⟩:=eO (o:=.deferred none) (aT u5)
 have u6:=xC p8 o2 (by omega) hl2
 refine pZ u6 (o:=0) rfl (List.mem_cons_of_mem _ List.mem_cons_self) (by omega) λx0 x1 x2 x3 x4 x5 x6 x7 x8 x9 x10 x11 x12 x13 x14 x15 x16 x17 x18 x19=>?_
 exact ⟨_,_,_,_,_,_,_,_,_,_,_,_,_,_,_,_,_,_,_,_,rfl,u6.m⟩
end
end Go.Proofs.YthaefcgpbccmbaaGreatDoor
end
