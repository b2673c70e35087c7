/- The forms of the translated functions,their contracts and the plain laws behind them,put together by a program. -/
import Derived.Test.YtahjmeegfkfokaaGreatDoorPA11
import Derived.Test.YtahjmeegfkfokaaGreatDoorProg
set_option linter.unusedSimpArgs false
set_option linter.unusedVariables false
set_option maxRecDepth 100000
set_option maxHeartbeats 4000000
section
namespace Go.Proofs.YtahjmeegfkfokaaGreatDoor
open Go Go.Sh
open Go.Proofs.Tryz
def jDH (a b c:Slc) (w:World) (R:RW):Prop:=
 aI prog (Instr.buildSlice 118 3 #[(0,(zS a)),(1,(zS b)),(2,(zS c))]) w fun v w1=>∃ x:Slc,v=(zS x)∧aD prog 138 [zS x] w1 (aG R) fun v1 w2=>∃ x1:Bool,v1=(.bool x1)∧aH (!x1) (R (.returned (.slice none 0 0)) w2) (aI prog (Instr.makeSlice 197 (.int .i64 (66:Int)) (.int .i64 (66:Int))) w2 fun v2 w3=>∃ x2:Slc,v2=(zS x2)∧∃ (inv:List TV→World→Prop) (mu:List TV→World→Nat),inv [.i .i64 (0:Int)] w3∧(∀ x3:Int,∀ w4:World,inv [.i .i64 x3] w4→aH (decide (x3<(32:Int))) (∃ sx:World→Prop,sx w4.drew∧((0≤x3∧x3<(x2.len:Nat))∧aA x2.a fun a1=>((0≤x3∧x3<(c.len:Nat))∧aA c.a fun a2=>∃ x4:UInt64,(∀ w',sx w'→Rd w' (a1.add (x3.toNat*1)) [.int .u64 x4.toNat])∧∃ x5:UInt8,(∀ w',sx w'→Rd w' (a2.add (x3.toNat*1)) [.int .u8 x5.toNat])∧((0≤x3∧x3<(x2.len:Nat))∧aA x2.a fun a3=>((aJ prog (storeVar 119 (a3.add (x3.toNat*1)) (.int .u64 ((x4+(x5).toUInt64)).toNat)) w4.drew fun w5=>∃ (inv1:List TV→World→Prop) (mu1:List TV→World→Nat),inv1 [.i .i64 (0:Int)] w5∧(∀ x6:Int,∀ w6:World,inv1 [.i .i64 x6] w6→aH (decide (x6<(32:Int))) (∃ sx1:World→Prop,sx1 w6.drew∧((0≤(IntKind.i64.wrap (x3+x6))∧(IntKind.i64.wrap (x3+x6))<(x2.len:Nat))∧aA x2.a fun a4=>((0≤x3∧x3<(a.len:Nat))∧aA a.a fun a5=>((0≤x6∧x6<(b.len:Nat))∧aA b.a fun a6=>∃ x7:UInt64,(∀ w',sx1 w'→Rd w' (a4.add (((IntKind.i64.wrap (x3+x6))).toNat*1)) [.int .u64 x7.toNat])∧∃ x8:UInt8,(∀ w',sx1 w'→Rd w' (a5.add (x3.toNat*1)) [.int .u8 x8.toNat])∧∃ x9:UInt8,(∀ w',sx1 w'→Rd w' (a6.add (x6.toNat*1)) [.int .u8 x9.toNat])∧((0≤(IntKind.i64.wrap (x3+x6))∧(IntKind.i64.wrap (x3+x6))<(x2.len:Nat))∧aA x2.a fun a7=>((aJ prog (storeVar 119 (a7.add (((IntKind.i64.wrap (x3+x6))).toNat*1)) (.int .u64 ((x7+((x8).toUInt64*(x9).toUInt64))).toNat)) w6.drew fun w7=>(inv1 [.i .i64 (IntKind.i64.wrap (x6+(1:Int)))] w7∧mu1 [.i .i64 (IntKind.i64.wrap (x6+(1:Int)))] w7<mu1 [.i .i64 x6] w6))∧True)))))) ((inv [.i .i64 (IntKind.i64.wrap (x3+(1:Int)))] w6∧mu [.i .i64 (IntKind.i64.wrap (x3+(1:Int)))] w6<mu [.i .i64 x3] w4))))∧True))))) (aI prog (Instr.makeSlice 28 (.int .i64 (x2.len:Int)) (.int .i64 (x2.len:Int))) w4 fun v3 w8=>∃ x10:Slc,v3=(zS x10)∧∃ (inv2:List TV→World→Prop) (mu2:List TV→World→Nat),inv2 [.u64 (0:UInt64),.i .i64 (0:Int)] w8∧(∀ carry:UInt64,∀ x11:Int,∀ w9:World,inv2 [.u64 carry,.i .i64 x11] w9→aH (decide (x11<(x2.len:Int))) (((0≤x11∧x11<(x2.len:Nat))∧aA x2.a fun a8=>∃ x12:UInt64,Rd w9 (a8.add (x11.toNat*1)) [.int .u64 x12.toNat]∧((0≤x11∧x11<(x10.len:Nat))∧aA x10.a fun a9=>aJ prog (storeVar 5 (a9.add (x11.toNat*1)) (.int .u8 (((carry+x12)).toUInt8).toNat)) w9 fun w10=>(0≤(((8:UInt64)).toNat:Int)∧(inv2 [.u64 (aM (carry+x12) ((((8:UInt64)).toNat:Int)).toNat),.i .i64 (IntKind.i64.wrap (x11+(1:Int)))] w10∧mu2 [.u64 (aM (carry+x12) ((((8:UInt64)).toNat:Int)).toNat),.i .i64 (IntKind.i64.wrap (x11+(1:Int)))] w10<mu2 [.u64 carry,.i .i64 x11] w9))))) (aD prog 139 [zS x10] w9 (aG R) fun v4 w11=>∃ x13:Slc,v4=(zS x13)∧R (.returned (zS x13)) w11)))))
theorem qXF (a b c:Slc) {w:World} {R:RW} (hden:jDH a b c w R):Calls prog 79 #[zS a,zS b,zS c] w R:=
 aB (q0 .z (q0 (q0 .z (.cond (q0 .z .z) .z)) (q0 .z (q0 (q0 .z (.block none (.loop [(21,(.i .i64))] (q0 .z (q0 (.cond .z .z) (q0 (.block none (q0 .z (q0 (.draw 1 (.take 0 (.take 1 (.take 2 (.take 4 (.take 5 (.take 6 (.take 3 (.take 7 (.take 8 (.take 9 (.take 10 (.all [(11,.done)]))))))))))))) (q0 .z (.block none (.loop [(35,(.i .i64))] (q0 .z (q0 (.cond .z .z) (q0 (.block none (q0 .z (.draw 1 (.take 0 (.take 1 (.take 2 (.take 3 (.take 4 (.take 6 (.take 7 (.take 8 (.take 11 (.take 12 (.take 13 (.take 5 (.take 9 (.take 10 (.take 14 (.take 15 (.take 16 (.take 17 (.take 18 (.all [(19,.done)]))))))))))))))))))))))) .z))))))))) .z)))))) (q0 .z (q0 .z (q0 (q0 .z (.block none (.loop [(11,.u64),(64,(.i .i64))] (q0 .z (q0 (.cond .z .z) (q0 (.block none (q0 .z (q0 .z (q0 .z .z)))) .z)))))) (q0 .z .z)))))))) func79 (by kernel_rfl) [.sl a,.sl b,.sl c] (by kernel_rfl) (by kernel_rfl) hden
def qRU (b:Slc) (w:World) (R:RW):Prop:=
 aH (decide ((b.len:Int) > (64:Int))) (R (.returned (.slice none 0 0)) w) (aD prog 139 [zS b] w (aG R) fun v w1=>∃ x:Slc,v=(zS x)∧R (.returned (zS x)) w1)
theorem qOH (b:Slc) {w:World} {R:RW} (hden:qRU b w R):Calls prog 123 #[zS b] w R:=
 aB (q0 .z (q0 (q0 .z (.cond (q0 .z .z) .z)) (q0 .z .z))) func123 (by kernel_rfl) [.sl b] (by kernel_rfl) (by kernel_rfl) hden
def qTD (b:Slc) (w:World) (R:RW):Prop:=
 aH ((b.len:Int) != (32:Int)) (R (.returned (.slice none 0 0)) w) (aD prog 183 [zS b] w (aG R) fun v w1=>∃ x:Value,v=x∧aD prog 182 [x] w1 (aG R) fun v1 w2=>∃ x1:Slc,v1=(zS x1)∧R (.returned (zS x1)) w2)
theorem qJP (b:Slc) {w:World} {R:RW} (hden:qTD b w R):Calls prog 132 #[zS b] w R:=
 aB (q0 .z (q0 (q0 .z (.cond (q0 .z .z) .z)) (q0 .z .z))) func132 (by kernel_rfl) [.sl b] (by kernel_rfl) (by kernel_rfl) hden
def qTI (l:Slc) (w:World) (R:RW):Prop:=
 aD prog 193 [zS l,.func (.func 194) #[] #[]] w (aG R) fun v w1=>∃ x:Bool,v=(.bool x)∧R (.returned (.bool (!x))) w1
theorem qLA (l:Slc) {w:World} {R:RW} (hden:qTI l w R):Calls prog 138 #[zS l] w R:=
 aB (q0 .z (q0 .z .z)) func138 (by kernel_rfl) [.sl l] (by kernel_rfl) (by kernel_rfl) hden
def qSC (l:Slc) (w:World) (R:RW):Prop:=
 aI prog (Instr.alloc 260 true (.tuple #[])) w fun v w1=>∃ r:Option Addr,v=(.pointer r)∧aD prog 195 [zS l] w1 (aG R) fun v1 w2=>∃ x:Value,v1=x∧∃ (fn:FuncId) (first cap:Array Value),x = .func (.func fn) first cap∧enters prog fn=true∧∀ (rec:LoopState→Option Code→Obj) (dd ll:Nat) (w3:World),dd=w2.heap.size→ll=dd+1→w3=(w2.alloc (.deferred (some []))).alloc (rec .ready none)→(∀ x1:Int,∀ x2:UInt8,∀ (w4:World) (kk:Value→World→Prop),w4.heap[ll]? = some (rec .ready none)→((w4.heap[ll]? = some (rec .ready none)∧aD prog 196 [.pointer r,.int .u8 x2.toNat] (w4.putObj ll (rec .busy none)) (fun _ _=>False) fun v2 w5=>v2=(.tuple #[])∧(w5.heap[ll]? = some (rec .busy none)∧kk (.bool true) (w5.putObj ll (rec .ready none)))))→fF prog ll [.int .i64 x1,.int .u8 x2.toNat] w4 kk)→aD prog fn (first.toList++[.func (.yield ll) #[] #[]]++cap.toList) w3 (xN R [(mkD dd)]) fun _ w6=>(w6.heap[ll]? = some (rec .ready none)∧aI prog (Instr.makeSlice 28 (.int .i64 (32:Int)) (.int .i64 (32:Int))) (w6.putObj ll (rec .exhausted none)) fun v3 w7=>∃ x3:Slc,v3=(zS x3)∧∃ (inv:List TV→World→Prop) (mu:List TV→World→Nat),inv [.i .i64 (0:Int)] w7∧(∀ x4:Int,∀ w8:World,inv [.i .i64 x4] w8→aH (decide (x4<(x3.len:Int))) (((8:Int)≠0∧aA r fun a=>((0≤(IntKind.i64.wrap (Int.tdiv x4 (8:Int)))∧(IntKind.i64.wrap (Int.tdiv x4 (8:Int)))<(5:Nat))∧∃ x5:UInt64,Rd w8 ((a.add 0).add (((IntKind.i64.wrap (Int.tdiv x4 (8:Int)))).toNat*1)) [.int .u64 x5.toNat]∧((8:Int)≠0∧(0≤(IntKind.i64.wrap ((8:Int)*(Int.tmod x4 (8:Int))))∧((0≤x4∧x4<(x3.len:Nat))∧aA x3.a fun a1=>aJ prog (storeVar 5 (a1.add (x4.toNat*1)) (.int .u8 (((aM x5 ((IntKind.i64.wrap ((8:Int)*(Int.tmod x4 (8:Int))))).toNat)).toUInt8).toNat)) w8 fun w9=>(inv [.i .i64 (IntKind.i64.wrap (x4+(1:Int)))] w9∧mu [.i .i64 (IntKind.i64.wrap (x4+(1:Int)))] w9<mu [.i .i64 x4] w8))))))) ((w8.heap[dd]? = some (.deferred (some []))∧R (.returned (zS x3)) (w8.putObj dd (.deferred none))))))∨False∨False
theorem qPA (l:Slc) {w:World} {R:RW} (hden:qSC l w R):Calls prog 139 #[zS l] w R:=
 aB (q0 .z (q0 .z (q0 (q0 .z (.block none (.rf false [] [(.i .i64),.u8] .z (.block none .z)))) (q0 .z (q0 (q0 .z (.block none (.loop [(17,(.i .i64))] (q0 .z (q0 (.cond .z .z) (q0 (.block none (q0 .z .z)) .z)))))) (q0 .z .z)))))) func139 (by kernel_rfl) [.sl l] (by kernel_rfl) (by kernel_rfl) hden
def qQS (seq:Value) (w:World) (R:RW):Prop:=
 aD prog 228 [.slice none 0 0,seq] w (aG R) fun v w1=>∃ x:Slc,v=(zS x)∧R (.returned (zS x)) w1
theorem qNW (seq:Value) {w:World} {R:RW} (hden:qQS seq w R):Calls prog 182 #[seq] w R:=
 aB (q0 .z (q0 .z .z)) func182 (by kernel_rfl) [.v seq] (by kernel_rfl) (by kernel_rfl) hden
def qSV (b:Slc) (w:World) (R:RW):Prop:=
 aI prog (Instr.box 28 (zS b)) w fun v w1=>∃ b1:Option Addr,v=(.pointer b1)∧R (.returned (.func (.func 229) #[] #[.pointer b1])) w1
theorem qKN (b:Slc) {w:World} {R:RW} (hden:qSV b w R):Calls prog 183 #[zS b] w R:=
 aB (q0 .z (q0 .z .z)) func183 (by kernel_rfl) [.sl b] (by kernel_rfl) (by kernel_rfl) hden
def qRC (s:Slc) (f:Value) (w:World) (R:RW):Prop:=
 aD prog 232 [zS s,f] w (aG R) fun v w1=>∃ x:Int,v=(.int .i64 x)∧R (.returned (.bool (decide (x≥(0:Int))))) w1
theorem qLJ (s:Slc) (f:Value) {w:World} {R:RW} (hden:qRC s f w R):Calls prog 193 #[zS s,f] w R:=
 aB (q0 .z (q0 .z .z)) func193 (by kernel_rfl) [.sl s,.v f] (by kernel_rfl) (by kernel_rfl) hden
def jBP (b:Slc) (w:World) (R:RW):Prop:=
 R (.returned (.bool ((b.len:Int) != (32:Int)))) w
theorem qJJ (b:Slc) {w:World} {R:RW} (hden:jBP b w R):Calls prog 194 #[zS b] w R:=
 aB (q0 .z (q0 .z .z)) func194 (by kernel_rfl) [.sl b] (by kernel_rfl) (by kernel_rfl) hden
def qSS (s:Slc) (w:World) (R:RW):Prop:=
 aI prog (Instr.box 28 (zS s)) w fun v w1=>∃ s1:Option Addr,v=(.pointer s1)∧R (.returned (.func (.func 233) #[] #[.pointer s1])) w1
theorem qKC (s:Slc) {w:World} {R:RW} (hden:qSS s w R):Calls prog 195 #[zS s] w R:=
 aB (q0 .z (q0 .z .z)) func195 (by kernel_rfl) [.sl s] (by kernel_rfl) (by kernel_rfl) hden
def qQQ (r:Option Addr) (b:UInt8) (w:World) (R:RW):Prop:=
 ∃ (inv:List TV→World→Prop) (mu:List TV→World→Nat),inv [.i .i64 (4:Int)] w∧(∀ i:Int,∀ w1:World,inv [.i .i64 i] w1→aH (decide (i > (0:Int))) (∃ sx:World→Prop,sx w1.drew∧aA r fun a=>((0≤i∧i<(5:Nat))∧aA r fun a1=>((0≤(IntKind.i64.wrap (i - (1:Int)))∧(IntKind.i64.wrap (i - (1:Int)))<(5:Nat))∧aA r fun a2=>∃ x:UInt64,(∀ w',sx w'→Rd w' ((a.add 0).add (i.toNat*1)) [.int .u64 x.toNat])∧(0≤(((8:UInt64)).toNat:Int)∧∃ x1:UInt64,(∀ w',sx w'→Rd w' ((a1.add 0).add (((IntKind.i64.wrap (i - (1:Int)))).toNat*1)) [.int .u64 x1.toNat])∧(0≤(((56:UInt64)).toNat:Int)∧((0≤i∧i<(5:Nat))∧((aJ prog (storeVar 119 ((a2.add 0).add (i.toNat*1)) (.int .u64 (((dO x ((((8:UInt64)).toNat:Int)).toNat) ||| (aM x1 ((((56:UInt64)).toNat:Int)).toNat))).toNat)) w1.drew fun w2=>(inv [.i .i64 (IntKind.i64.wrap (i - (1:Int)))] w2∧mu [.i .i64 (IntKind.i64.wrap (i - (1:Int)))] w2<mu [.i .i64 i] w1))∧True))))))) (∃ sx1:World→Prop,sx1 w1.drew∧aA r fun a3=>((0≤(0:Int)∧(0:Int)<(5:Nat))∧aA r fun a4=>∃ x2:UInt64,(∀ w',sx1 w'→Rd w' ((a3.add 0).add (((0:Int)).toNat*1)) [.int .u64 x2.toNat])∧(0≤(((8:UInt64)).toNat:Int)∧((0≤(0:Int)∧(0:Int)<(5:Nat))∧((aJ prog (storeVar 119 ((a4.add 0).add (((0:Int)).toNat*1)) (.int .u64 (((dO x2 ((((8:UInt64)).toNat:Int)).toNat) ||| (b).toUInt64)).toNat)) w1.drew fun w3=>∃ (inv1:List TV→World→Prop) (mu1:List TV→World→Nat),inv1 [.i .i64 (8:Int)] w3∧(∀ by0:Int,∀ w4:World,inv1 [.i .i64 by0] w4→aH (decide (by0≥(0:Int))) (aD prog 234 [.pointer r,.int .u64 ((aN by0)).toNat] w4 (aG R) fun v w5=>v=(.tuple #[])∧(inv1 [.i .i64 (IntKind.i64.wrap (by0 - (1:Int)))] w5∧mu1 [.i .i64 (IntKind.i64.wrap (by0 - (1:Int)))] w5<mu1 [.i .i64 by0] w4)) (R (.returned (.tuple #[])) w4)))∧True))))))
theorem qKR (r:Option Addr) (b:UInt8) {w:World} {R:RW} (hden:qQQ r b w R):Calls prog 196 #[.pointer r,.int .u8 b.toNat] w R:=
 aB (q0 (q0 .z (.block none (.loop [(4,(.i .i64))] (q0 (q0 .z (.cond .z .z)) (q0 (.block none (.draw 1 (.take 0 (.take 1 (.take 2 (.take 3 (.take 4 (.take 5 (.take 6 (.take 9 (.take 10 (.take 11 (.take 12 (.take 13 (.take 14 (.take 18 (.take 19 (.take 7 (.take 8 (.take 15 (.take 16 (.take 17 (.take 20 (.all [(21,.done)])))))))))))))))))))))))) .z))))) (q0 (.draw 1 (.take 0 (.take 1 (.take 2 (.take 3 (.take 4 (.take 7 (.take 8 (.take 10 (.take 11 (.take 5 (.take 6 (.take 9 (.take 12 (.all [(13,.done)]))))))))))))))) (q0 .z (.block none (.loop [(5,(.i .i64))] (q0 (q0 .z (.cond .z .z)) (q0 (.block none .z) .z))))))) func196 (by kernel_rfl) [.p r,.u8 b] (by kernel_rfl) (by kernel_rfl) hden
def qRZ (s:Slc) (seq:Value) (w:World) (R:RW):Prop:=
 aI prog (Instr.box 190 (zS s)) w fun v w1=>∃ s1:Option Addr,v=(.pointer s1)∧∃ (fn:FuncId) (first cap:Array Value),seq = .func (.func fn) first cap∧enters prog fn=true∧∀ (rec:LoopState→Option Code→Obj) (dd ll:Nat) (w2:World),dd=w1.heap.size→ll=dd+1→w2=(w1.alloc (.deferred (some []))).alloc (rec .ready none)→(∀ x:Bool,∀ (w3:World) (kk:Value→World→Prop),w3.heap[ll]? = some (rec .ready none)→((w3.heap[ll]? = some (rec .ready none)∧aA s1 fun a=>∃ x1:Slc,Rd (w3.putObj ll (rec .busy none)) a [zS x1]∧aI prog (Instr.buildSlice 190 1 #[(0,(.bool x))]) (w3.putObj ll (rec .busy none)) fun v1 w4=>∃ x2:Slc,v1=(zS x2)∧aI prog (Builtin.append_ #[190,190] 190 #[zS x1,zS x2]) w4 fun v2 w5=>∃ x3:Slc,v2=(zS x3)∧aA s1 fun a1=>aJ prog (storeVar 190 a1 (zS x3)) w5 fun w6=>(w6.heap[ll]? = some (rec .busy none)∧kk (.bool true) (w6.putObj ll (rec .ready none)))))→fF prog ll [.bool x] w3 kk)→aD prog fn (first.toList++[.func (.yield ll) #[] #[]]++cap.toList) w2 (xN R [(mkD dd)]) fun _ w7=>(w7.heap[ll]? = some (rec .ready none)∧aA s1 fun a2=>∃ x4:Slc,Rd (w7.putObj ll (rec .exhausted none)) a2 [zS x4]∧((w7.putObj ll (rec .exhausted none)).heap[dd]? = some (.deferred (some []))∧R (.returned (zS x4)) ((w7.putObj ll (rec .exhausted none)).putObj dd (.deferred none))))∨False∨False
theorem qKP (s:Slc) (seq:Value) {w:World} {R:RW} (hden:qRZ s seq w R):Calls prog 228 #[zS s,seq] w R:=
 aB (q0 .z (q0 (q0 .z (.block none (.rf false [] [.b] .z (.block none .z)))) (q0 .z .z))) func228 (by kernel_rfl) [.sl s,.v seq] (by kernel_rfl) (by kernel_rfl) hden
def qRD (yield:Value) (c:Option Addr) (w:World) (R:RW):Prop:=
 aA c fun a=>∃ x:Slc,Rd w a [zS x]∧∃ (inv:List TV→World→Prop) (mu:List TV→World→Nat),inv [.i .i64 (0:Int)] w∧(∀ x1:Int,∀ w1:World,inv [.i .i64 x1] w1→aH (decide (x1<(IntKind.i64.wrap ((8:Int)*(x.len:Int))))) (aA c fun a1=>∃ x2:Slc,Rd w1 a1 [zS x2]∧((8:Int)≠0∧((0≤(IntKind.i64.wrap (Int.tdiv x1 (8:Int)))∧(IntKind.i64.wrap (Int.tdiv x1 (8:Int)))<(x2.len:Nat))∧aA x2.a fun a2=>∃ x3:UInt8,Rd w1 (a2.add (((IntKind.i64.wrap (Int.tdiv x1 (8:Int)))).toNat*1)) [.int .u8 x3.toNat]∧((8:Int)≠0∧(0≤(Int.tmod x1 (8:Int))∧dL prog yield [.bool (((iF x3 ((Int.tmod x1 (8:Int))).toNat) &&& (1:UInt8))==(1:UInt8))] w1 (aG R) fun v w2=>∃ x4:Bool,v=(.bool x4)∧aH (!x4) (R (.returned (.tuple #[])) w2) ((inv [.i .i64 (IntKind.i64.wrap (x1+(1:Int)))] w2∧mu [.i .i64 (IntKind.i64.wrap (x1+(1:Int)))] w2<mu [.i .i64 x1] w1))))))) (R (.returned (.tuple #[])) w1))
theorem qJR (yield:Value) (c:Option Addr) {w:World} {R:RW} (hden:qRD yield c w R):Calls prog 229 #[yield,.pointer c] w R:=
 aB (q0 .z (.block none (.loop [(7,(.i .i64))] (q0 .z (q0 (.cond .z .z) (q0 (.block none (q0 .z (q0 .z (.cond .z .z)))) .z)))))) func229 (by kernel_rfl) [.v yield,.p c] (by kernel_rfl) (by kernel_rfl) hden
def qSI (s:Slc) (f:Value) (w:World) (R:RW):Prop:=
 ∃ (inv:List TV→World→Prop) (mu:List TV→World→Nat),inv [.i .i64 (0:Int)] w∧(∀ x:Int,∀ w1:World,inv [.i .i64 x] w1→aH (decide (x<(s.len:Int))) (((0≤x∧x<(s.len:Nat))∧aA s.a fun a=>∃ x1:Slc,Rd w1 (a.add (x.toNat*1)) [zS x1]∧dL prog f [zS x1] w1 (aG R) fun v w2=>∃ x2:Bool,v=(.bool x2)∧aH x2 (R (.returned (.int .i64 x)) w2) ((inv [.i .i64 (IntKind.i64.wrap (x+(1:Int)))] w2∧mu [.i .i64 (IntKind.i64.wrap (x+(1:Int)))] w2<mu [.i .i64 x] w1)))) (R (.returned (.int .i64 (-1:Int))) w1))
theorem qJG (s:Slc) (f:Value) {w:World} {R:RW} (hden:qSI s f w R):Calls prog 232 #[zS s,f] w R:=
 aB (q0 .z (q0 (q0 .z (.block none (.loop [(8,(.i .i64))] (q0 .z (q0 (.cond .z .z) (q0 (.block none (q0 .z (q0 .z (.cond (q0 .z .z) .z)))) .z)))))) (q0 .z .z))) func232 (by kernel_rfl) [.sl s,.v f] (by kernel_rfl) (by kernel_rfl) hden
def qSY (yield:Value) (c:Option Addr) (w:World) (R:RW):Prop:=
 aA c fun a=>∃ x:Slc,Rd w a [zS x]∧∃ (inv:List TV→World→Prop) (mu:List TV→World→Nat),inv [.i .i64 (IntKind.i64.wrap ((x.len:Int) - (1:Int)))] w∧(∀ i:Int,∀ w1:World,inv [.i .i64 i] w1→aH (decide (i≥(0:Int))) (aA c fun a1=>∃ x1:Slc,Rd w1 a1 [zS x1]∧((0≤i∧i<(x1.len:Nat))∧aA x1.a fun a2=>∃ x2:UInt8,Rd w1 (a2.add (i.toNat*1)) [.int .u8 x2.toNat]∧dL prog yield [.int .i64 i,.int .u8 x2.toNat] w1 (aG R) fun v w2=>∃ x3:Bool,v=(.bool x3)∧aH (!x3) (R (.returned (.tuple #[])) w2) ((inv [.i .i64 (IntKind.i64.wrap (i - (1:Int)))] w2∧mu [.i .i64 (IntKind.i64.wrap (i - (1:Int)))] w2<mu [.i .i64 i] w1)))) (R (.returned (.tuple #[])) w1))
theorem qOO (yield:Value) (c:Option Addr) {w:World} {R:RW} (hden:qSY yield c w R):Calls prog 233 #[yield,.pointer c] w R:=
 aB (q0 .z (.block none (.loop [(3,(.i .i64))] (q0 (q0 .z (.cond .z .z)) (q0 (.block none (q0 .z (.cond .z .z))) .z))))) func233 (by kernel_rfl) [.v yield,.p c] (by kernel_rfl) (by kernel_rfl) hden
def qUF (r:Option Addr) (by0:UInt64) (w:World) (R:RW):Prop:=
 aI prog (Instr.alloc 258 true (.tuple #[])) w fun v w1=>∃ m:Option Addr,v=(.pointer m)∧aD prog 249 [] w1 (aG R) fun v1 w2=>∃ xa xb xc xd xe:UInt64,v1=(e5 xa xb xc xd xe)∧aI prog (Instr.alloc 258 true (.tuple #[])) w2 fun v2 w3=>∃ l:Option Addr,v2=(.pointer l)∧aA l fun a=>aJ prog (storeVar 258 a (e5 xa xb xc xd xe)) w3 fun w4=>∃ (inv:List TV→World→Prop) (mu:List TV→World→Nat),inv [.i .i64 (0:Int)] w4∧(∀ x:Int,∀ w5:World,inv [.i .i64 x] w5→aH (decide (x<(5:Int))) (((0≤x∧x<(5:Nat))∧aA l fun a1=>∃ x1:UInt64,Rd w5 (a1.add (x.toNat*1)) [.int .u64 x1.toNat]∧(0≤(by0.toNat:Int)∧((0≤x∧x<(5:Nat))∧aA m fun a2=>aJ prog (storeVar 119 (a2.add (x.toNat*1)) (.int .u64 ((dO x1 ((by0.toNat:Int)).toNat)).toNat)) w5 fun w6=>∃ j:List TV→World→Prop,(aH (decide (x > (0:Int))) (j [.b (decide ((0:UInt64)<by0))] w6) (j [.b false] w6))∧(∀ x2:Bool,∀ w7:World,j [.b x2] w7→aH x2 (∃ sx:World→Prop,sx w7.drew∧((0≤x∧x<(5:Nat))∧aA m fun a3=>((0≤(IntKind.i64.wrap (x - (1:Int)))∧(IntKind.i64.wrap (x - (1:Int)))<(5:Nat))∧aA l fun a4=>∃ x3:UInt64,(∀ w',sx w'→Rd w' (a3.add (x.toNat*1)) [.int .u64 x3.toNat])∧∃ x4:UInt64,(∀ w',sx w'→Rd w' (a4.add (((IntKind.i64.wrap (x - (1:Int)))).toNat*1)) [.int .u64 x4.toNat])∧(0≤((((64:UInt64) - by0)).toNat:Int)∧((0≤x∧x<(5:Nat))∧aA m fun a5=>((aJ prog (storeVar 119 (a5.add (x.toNat*1)) (.int .u64 ((x3 ||| (aM x4 (((((64:UInt64) - by0)).toNat:Int)).toNat))).toNat)) w7.drew fun w8=>(inv [.i .i64 (IntKind.i64.wrap (x+(1:Int)))] w8∧mu [.i .i64 (IntKind.i64.wrap (x+(1:Int)))] w8<mu [.i .i64 x] w5))∧True)))))) ((inv [.i .i64 (IntKind.i64.wrap (x+(1:Int)))] w7∧mu [.i .i64 (IntKind.i64.wrap (x+(1:Int)))] w7<mu [.i .i64 x] w5))))))) (∃ sx1:World→Prop,sx1 w5.drew∧aA r fun a6=>∃ xa1 xb1 xc1 xd1 xe1:UInt64,(∀ w',sx1 w'→Rd w' (a6.add 0) (l5 xa1 xb1 xc1 xd1 xe1))∧aA m fun a7=>∃ xa2 xb2 xc2 xd2 xe2:UInt64,(∀ w',sx1 w'→Rd w' a7 (l5 xa2 xb2 xc2 xd2 xe2))∧((aD prog 250 [e5 xa1 xb1 xc1 xd1 xe1,e5 xa2 xb2 xc2 xd2 xe2] w5.drew (aG R) fun v3 w9=>∃ x5:Bool,v3=(.bool x5)∧aH x5 (R (.returned (.tuple #[])) w9) (∃ (inv1:List TV→World→Prop) (mu1:List TV→World→Nat),inv1 [.u64 (0:UInt64),.i .i64 (0:Int)] w9∧(∀ borrow:UInt64,∀ x6:Int,∀ w10:World,inv1 [.u64 borrow,.i .i64 x6] w10→aH (decide (x6<(5:Int))) (∃ sx2:World→Prop,sx2 w10.drew∧aA r fun a8=>((0≤x6∧x6<(5:Nat))∧((0≤x6∧x6<(5:Nat))∧aA m fun a9=>aA r fun a10=>∃ x7:UInt64,(∀ w',sx2 w'→Rd w' ((a8.add 0).add (x6.toNat*1)) [.int .u64 x7.toNat])∧∃ x8:UInt64,(∀ w',sx2 w'→Rd w' (a9.add (x6.toNat*1)) [.int .u64 x8.toNat])∧((∃ v4 w11,(callFunc 251 #[.int .u64 x7.toNat,.int .u64 x8.toNat,.int .u64 borrow.toNat]).run prog w10.drew = .ok (.value v4) w11∧∃ xa3 xb3:UInt64,v4=(.tuple #[.int .u64 xa3.toNat,.int .u64 xb3.toNat])∧((0≤x6∧x6<(5:Nat))∧((aJ prog (storeVar 119 ((a10.add 0).add (x6.toNat*1)) (.int .u64 xa3.toNat)) w11 fun w12=>(inv1 [.u64 xb3,.i .i64 (IntKind.i64.wrap (x6+(1:Int)))] w12∧mu1 [.u64 xb3,.i .i64 (IntKind.i64.wrap (x6+(1:Int)))] w12<mu1 [.u64 borrow,.i .i64 x6] w10))∧True)))∧True)))) (R (.returned (.tuple #[])) w10))))∧True)))
theorem qML (r:Option Addr) (by0:UInt64) {w:World} {R:RW} (hden:qUF r by0 w R):Calls prog 234 #[.pointer r,.int .u64 by0.toNat] w R:=
 aB (q0 .z (q0 .z (q0 (q0 .z (.block none (.loop [(10,(.i .i64))] (q0 .z (q0 (.cond .z .z) (q0 (.block none (q0 .z (q0 .z (.seq (some [(25,.b)]) .z (.cond (.draw 1 (.take 0 (.take 1 (.take 3 (.take 4 (.take 5 (.take 7 (.take 8 (.take 2 (.take 6 (.take 9 (.take 10 (.take 11 (.all [(12,.done)])))))))))))))) .z))))) .z)))))) (q0 (q0 (.draw 1 (.take 0 (.take 1 (.take 2 (.take 3 (.take 4 (.all [(5,.done)]))))))) (.cond .z .z)) (q0 .z (q0 .z (.block none (.loop [(7,.u64),(45,(.i .i64))] (q0 .z (q0 (.cond .z .z) (q0 (.block none (q0 .z (.draw 1 (.take 0 (.take 1 (.take 2 (.take 3 (.take 4 (.take 5 (.take 6 (.take 8 (.take 9 (.take 11 (.take 16 (.take 17 (.take 7 (.take 10 (.all [(12,(.take 13 (.take 14 (.take 15 (.take 18 (.all [(19,(.take 20 .done))]))))))])))))))))))))))))) .z))))))))))) func234 (by kernel_rfl) [.p r,.u64 by0] (by kernel_rfl) (by kernel_rfl) hden
def qQX (w:World) (R:RW):Prop:=
 aI prog (Instr.alloc 258 true (.tuple #[])) w fun v w1=>∃ x:Option Addr,v=(.pointer x)∧aA x fun a=>aJ prog (storeVar 258 a (.agg #[.int .u64 ((6346243789798364141:UInt64)).toNat,.int .u64 ((1503914060200516822:UInt64)).toNat,.int .u64 ((0:UInt64)).toNat,.int .u64 ((1152921504606846976:UInt64)).toNat,.int .u64 ((0:UInt64)).toNat])) w1 fun w2=>aA x fun a1=>∃ xa xb xc xd xe:UInt64,Rd w2 a1 (l5 xa xb xc xd xe)∧R (.returned (e5 xa xb xc xd xe)) w2
theorem qMJ {w:World} {R:RW} (hden:qQX w R):Calls prog 249 #[] w R:=
 aB (q0 .z (q0 .z .z)) func249 (by kernel_rfl) [] (by kernel_rfl) (by kernel_rfl) hden
def qUJ (na nb nc nd ne ma mb mc md me:UInt64) (w:World) (R:RW):Prop:=
 aI prog (Instr.box 258 (e5 na nb nc nd ne)) w fun v w1=>∃ n:Option Addr,v=(.pointer n)∧aI prog (Instr.box 258 (e5 ma mb mc md me)) w1 fun v1 w2=>∃ m:Option Addr,v1=(.pointer m)∧aA n fun a=>∃ xa xb xc xd xe:UInt64,Rd w2 a (l5 xa xb xc xd xe)∧aA m fun a1=>∃ xa1 xb1 xc1 xd1 xe1:UInt64,Rd w2 a1 (l5 xa1 xb1 xc1 xd1 xe1)∧aU prog (do eqGuard .eql 258 (.tmp 6) (.tmp 7) (e5 xa xb xc xd xe) (e5 xa1 xb1 xc1 xd1 xe1); binOp .eql 258 (e5 xa xb xc xd xe) (e5 xa1 xb1 xc1 xd1 xe1)) fun v2=>∃ x:Bool,v2=(.bool x)∧aH x (R (.returned (.bool false)) w2) (∃ (inv:List TV→World→Prop) (mu:List TV→World→Nat),inv [.i .i64 (4:Int)] w2∧(∀ i:Int,∀ w3:World,inv [.i .i64 i] w3→aH (decide (i≥(0:Int))) (((0≤i∧i<(5:Nat))∧aA n fun a2=>((0≤i∧i<(5:Nat))∧aA m fun a3=>∃ x1:UInt64,Rd w3.drew (a2.add (i.toNat*1)) [.int .u64 x1.toNat]∧∃ x2:UInt64,Rd w3.drew (a3.add (i.toNat*1)) [.int .u64 x2.toNat]∧aH (x1 != x2) (((0≤i∧i<(5:Nat))∧aA n fun a4=>((0≤i∧i<(5:Nat))∧aA m fun a5=>∃ x3:UInt64,Rd w3.drew.drew (a4.add (i.toNat*1)) [.int .u64 x3.toNat]∧∃ x4:UInt64,Rd w3.drew.drew (a5.add (i.toNat*1)) [.int .u64 x4.toNat]∧R (.returned (.bool (decide (x3<x4)))) w3.drew.drew))) ((inv [.i .i64 (IntKind.i64.wrap (i - (1:Int)))] w3.drew∧mu [.i .i64 (IntKind.i64.wrap (i - (1:Int)))] w3.drew<mu [.i .i64 i] w3))))) (R (.returned (.bool false)) w3)))
theorem qJT (na nb nc nd ne ma mb mc md me:UInt64) {w:World} {R:RW} (hden:qUJ na nb nc nd ne ma mb mc md me w R):Calls prog 250 #[e5 na nb nc nd ne,e5 ma mb mc md me] w R:=
 aB (q0 .z (q0 (q0 .z (.cond (q0 .z .z) .z)) (q0 (q0 .z (.block none (.loop [(5,(.i .i64))] (q0 (q0 .z (.cond .z .z)) (q0 (.block none (q0 (.draw 2 (.take 0 (.take 1 (.take 3 (.take 4 (.take 2 (.take 5 (.take 6 .done)))))))) (.cond (q0 (.draw 2 (.take 0 (.take 1 (.take 3 (.take 4 (.take 2 (.take 5 (.take 6 (.take 7 .done))))))))) .z) .z))) .z))))) (q0 .z .z)))) func250 (by kernel_rfl) [.agg [.u64 na,.u64 nb,.u64 nc,.u64 nd,.u64 ne],.agg [.u64 ma,.u64 mb,.u64 mc,.u64 md,.u64 me]] (by kernel_rfl) (by kernel_rfl) hden
theorem zn5:ZI prog 258 5:=by
 obtain ⟨i,h1,h2,_,_⟩:=bM (P:=prog) (T:=258) (z:=.agg #[.int .u64 0,.int .u64 0,.int .u64 0,.int .u64 0,.int .u64 0]) (n:=5) (m:=40) (by kernel_rfl) (by kernel_rfl) (by kernel_rfl)
 exact ⟨i,_,h1,h2,rfl⟩
section
variable {w:World} {a b c d e a' b' c' d' e':UInt64}
theorem qEP:Calls prog 249 #[] w (Ret (RE w)):=by
 refine qMJ ?_
 unfold qQX
 refine bU zn5 (J.start w) fun p w1 h1 _=>?_
 refine iW h1 rfl (.head _) (by kernel_rfl) (by kernel_rfl) (by omega) fun w2 h2 _=>?_
 refine iQ h2 rfl (.head _) (by omega) fun a b c d e=>?_
 exact ⟨_,_,_,_,_,rfl,h2.m⟩
theorem qMF:Calls prog 250 #[e5 a b c d e,e5 a' b' c' d' e'] w (Ret fun v w'=>∃ t,v = .bool t∧Mod NoB w w'):=by
 refine qJT _ _ _ _ _ _ _ _ _ _ ?_
 unfold qUJ
 obtain ⟨i,g1,g2,g3,g4⟩:=(bM (by kernel_rfl) (by kernel_rfl) (by kernel_rfl) : ∃ i,prog.info? 119=some i∧i.zero=some (.int .u64 0)∧i.size=1∧i.bytes=8)
 let n:=[a,b,c,d,e]
 let m:=[a',b',c',d',e']
 refine aT (l:=us n) rfl fun p w1 hN1 hb1=>⟨_,rfl,?_⟩
 refine aT (l:=us m) rfl fun q w2 hN2 hb2=>⟨_,rfl,?_⟩
 have hm2:Mod NoB w w2:=hN1.mod.tr hN2.mod
 have hp2:=hb1.no hN2.mod
 refine ⟨a,b,c,d,e,hp2.rd (o:=0) (fun j v hv=>by simp only [Nat.zero_add]; exact hv),a',b',c',d',e',hb2.rd (o:=0) (fun j v hv=>by simp only [Nat.zero_add]; exact hv),?_⟩
 refine qIN (k:=.u64) (.inl rfl) (by kernel_rfl:prog.underlying 258=some (.array 5 119)) (by kernel_rfl) (by kernel_rfl) g1 (by kernel_rfl) (by kernel_rfl) (l:=n.map fun x=>(x.toNat:Int)) (l':=m.map fun x=>(x.toNat:Int)) rfl rfl rfl rfl ⟨_,rfl,?_⟩
 refine aE (fun _=>⟨_,rfl,hm2⟩) fun he=>?_
 have hne:n≠m:=fun e=>by rw [e] at he; simp at he
 refine ⟨fun l' w'=>match l' with | [.i _ x]=>∃ k:Nat,x=(k:Int) - 1∧k≤5∧n.drop k=m.drop k∧Mod NoB w2 w' | _=>False,fun l' _=>match l' with | [.i _ x]=>(x+1).toNat | _=>0,⟨5,rfl,by omega,rfl,Mod.refl _ _⟩,?_⟩
 rintro x w3 ⟨k,rfl,hk,hd,hm3⟩
 have l1:n.length=5:=rfl
 have l2:m.length=5:=rfl
 refine aE (fun hge=>?_) fun hlt=>?_
 ·have hk1:0<k:=by simp at hge; omega
  have e1:((k:Int) - 1).toNat=k - 1:=by omega
  rw [e1]
  have hpd:=(hp2.no hm3).drew; have hqd:=(hb2.no hm3).drew
  refine ⟨⟨by omega,by omega⟩,⟨by omega,by omega⟩,n[k - 1]'(by omega),rda hpd (pC (by omega)),m[k - 1]'(by omega),rda hqd (pC (by omega)),?_⟩
  refine aE (fun hx=>?_) fun hx=>?_
  ·exact ⟨⟨by omega,by omega⟩,⟨by omega,by omega⟩,n[k - 1]'(by omega),rda hpd.drew (pC (by omega)),m[k - 1]'(by omega),rda hqd.drew (pC (by omega)),⟨_,rfl,Mod.dr (Mod.dr (hm2.tr hm3))⟩⟩
  ·refine ⟨⟨k - 1,by rw [wrap_i64 (by omega)]; omega,by omega,?_,Mod.dr hm3⟩,?_⟩
   ·have h':n[k - 1]'(by omega)=m[k - 1]'(by omega):=by simpa using hx
    rw [List.drop_eq_getElem_cons (by omega:k - 1<n.length),List.drop_eq_getElem_cons (by omega:k - 1<m.length),h',Nat.sub_add_cancel hk1,hd]
   ·rw [wrap_i64 (by omega)]; (try simp only []); omega
 ·have:k=0:=by simp at hlt; omega
  subst this
  exact absurd (by simpa using hd) hne
theorem qCO {p:Nat} {x:UInt8} {Z:Nat→Prop} {w0:World} {L:List (Nat×Nat×Bool)} (h:J Z w0 L w) (hp:(p,5,true)∈L)
 (hmin : ∀ {w1:World} {k:UInt64},J Z w0 L w1→Calls prog 234 #[.pointer (some ⟨p,0,none⟩),.int .u64 k.toNat] w1 (Ret fun v w'=>v = .tuple #[]∧J Z w0 L w')) :
 Calls prog 196 #[.pointer (some ⟨p,0,none⟩),.int .u8 x.toNat] w (Ret fun v w'=>v = .tuple #[]∧J Z w0 L w'):=by
 refine qKR _ _ ?_
 unfold qQQ
 refine ⟨fun l' w'=>match l' with | [.i _ y]=>(0≤y∧y≤4)∧J Z w0 L w' | _=>False,fun l' _=>match l' with | [.i _ y]=>y.toNat | _=>0,⟨by omega,h⟩,?_⟩
 rintro y w1 ⟨hy,h1⟩
 refine aE (fun hgt=>?_) fun _=>?_
 ·have hgt:0<y:=by simpa using hgt
  rw [wrap_i64 (by omega)]
  refine dN h1 fun h1=>⟨by omega,by omega,?_⟩
  refine gV h1 hp (by omega) fun _=>⟨by omega,gV h1 hp (by omega) fun _=>⟨by omega,by omega,?_,trivial⟩⟩
  exact oU h1 hp (by omega) (by kernel_rfl) (by kernel_rfl) fun w2 h2 _=>⟨⟨by omega,h2⟩,by (try simp only []); omega⟩
 ·refine dN h1 fun h1=>⟨by omega,gV (x:=0) h1 hp (by omega) fun _=>⟨by omega,by omega,?_,trivial⟩⟩
  refine oU (x:=0) h1 hp (by omega) (by kernel_rfl) (by kernel_rfl) fun w2 h2 _=>?_
  refine ⟨fun l' w'=>match l' with | [.i _ y]=>(-1≤y∧y≤8)∧J Z w0 L w' | _=>False,fun l' _=>match l' with | [.i _ y]=>(y+1).toNat | _=>0,⟨by omega,h2⟩,?_⟩
  rintro y w3 ⟨hy,h3⟩
  refine aE (fun hge=>?_) fun _=>⟨rfl,h3⟩
  have hge:0≤y:=by simpa using hge
  refine aC (hmin h3) ?_
  rintro v w4 ⟨rfl,h4⟩
  rw [wrap_i64 (by omega)]
  exact ⟨rfl,⟨by omega,h4⟩,by (try simp only []); omega⟩
end
def qVE:Array Value→Sem Value:=(Extern.MathBitsCarry.rows.getD 1 ("",fun _=>pure .nilFunc)).2
theorem yM {x y b:UInt64} (hb:b.toNat≤1) (w:World) : ∃ d b':UInt64,(callFunc 251 #[.int .u64 x.toNat,.int .u64 y.toNat,.int .u64 b.toNat]).run prog w = .ok (.value (.tuple #[.int .u64 d.toNat,.int .u64 b'.toNat])) w∧b'.toNat≤1:=by
 have hx:=x.toNat_lt; have hy:=y.toNat_lt
 refine ⟨UInt64.ofNat ((x.toNat+18446744073709551616 - y.toNat - b.toNat) % 18446744073709551616),UInt64.ofNat (if x.toNat<y.toNat+b.toNat then 1 else 0),?_,?_⟩
 ·rw [run_callFunc_extern func251 (by kernel_rfl) (by kernel_rfl) (by kernel_rfl) (e:=qVE) (by kernel_rfl)]
  have e1:(UInt64.ofNat ((x.toNat+18446744073709551616 - y.toNat - b.toNat) % 18446744073709551616)).toNat=(x.toNat+18446744073709551616 - y.toNat - b.toNat) % 18446744073709551616:=by
   rw [UInt64.toNat_ofNat']; omega
  have e2:(UInt64.ofNat (if x.toNat<y.toNat+b.toNat then 1 else 0)).toNat=if x.toNat<y.toNat+b.toNat then 1 else 0:=by
   split <;> rfl
  rw [e1,e2]
  have:b.toNat=0∨b.toNat=1:=by omega
  rcases this with h | h <;> rw [h] <;> rfl
 ·split <;> decide
section
variable {w w0:World} {Z:Nat→Prop} {L:List (Nat×Nat×Bool)}
theorem qFM {p:Nat} {x:UInt64} (h:J Z w0 L w) (hp:(p,5,true)∈L):Calls prog 234 #[.pointer (some ⟨p,0,none⟩),.int .u64 x.toNat] w (Ret fun v w'=>v = .tuple #[]∧J Z w0 L w'):=by
 refine qML _ _ ?_
 unfold qUF
 refine bU zn5 h fun m w1 h1 _=>?_
 refine aC qEP ?_
 rintro v w2 ⟨a,b,c,d,e,rfl,hm2⟩
 refine ⟨a,b,c,d,e,rfl,?_⟩
 refine bU zn5 (h1.mod hm2) fun l w3 h3 _=>?_
 refine iW h3 rfl (.head _) (by kernel_rfl) (by kernel_rfl) (by omega) fun w4 h4 _=>?_
 have hl:(l,5,true)∈(l,5,true) :: (m,5,true) :: L:=.head _
 have hm:(m,5,true)∈(l,5,true) :: (m,5,true) :: L:=.tail _ (.head _)
 have hr:(p,5,true)∈(l,5,true) :: (m,5,true) :: L:=.tail _ (.tail _ hp)
 refine ⟨fun l' w'=>match l' with | [.i _ y]=>(0≤y∧y≤5)∧J Z w0 ((l,5,true) :: (m,5,true) :: L) w' | _=>False,fun l' _=>match l' with | [.i _ y]=>(5 - y).toNat | _=>0,⟨by omega,h4⟩,?_⟩
 rintro y w5 ⟨hy,h5⟩
 refine aE (fun hlt=>?_) fun _=>?_
 ·have hlt:y<5:=by simpa using hlt
  refine ⟨by omega,qDP h5 hl (by omega) fun _=>⟨by omega,by omega,oU h5 hm (by omega) (by kernel_rfl) (by kernel_rfl) fun w6 h6 _=>?_⟩⟩
  refine ⟨fun l' w'=>match l' with | [.b t]=>(t=true→0<y)∧w'=w6 | _=>False,aE (fun h=>⟨fun _=>by simpa using h,rfl⟩) (fun _=>⟨fun h=>(by cases h),rfl⟩),?_⟩
  rintro t w7 ⟨ht,rfl⟩
  have ew:IntKind.i64.wrap (y+1)=y+1:=wrap_i64 (by omega)
  refine aE (fun hc=>?_) fun _=>?_
  ·have h0:=ht hc
   have ew2:IntKind.i64.wrap (y - 1)=y - 1:=wrap_i64 (by omega)
   rw [ew2]
   refine dN h6 fun h6=>⟨by omega,by omega,gV h6 hm (by omega) fun _=>gV h6 hl (by omega) fun _=>⟨by omega,by omega,?_,trivial⟩⟩
   refine oU h6 hm (by omega) (by kernel_rfl) (by kernel_rfl) fun w8 h8 _=>?_
   rw [ew]
   exact ⟨⟨by omega,h8⟩,by (try simp only []); omega⟩
  ·rw [ew]
   exact ⟨⟨by omega,h6⟩,by (try simp only []); omega⟩
 ·refine dN h5 fun h5=>nE h5 rfl hr (by omega) fun _ _ _ _ _=>nE h5 rfl hm (by omega) fun _ _ _ _ _=>⟨?_,trivial⟩
  refine aC qMF ?_
  rintro v w9 ⟨t,rfl,hm9⟩
  have h9:=h5.mod hm9
  refine ⟨t,rfl,aE (fun _=>⟨rfl,h9.sub fun q hq=>.tail _ (.tail _ hq)⟩) fun _=>?_⟩
  refine ⟨fun l' w'=>match l' with | [.u64 b,.i _ y]=>b.toNat≤1∧(0≤y∧y≤5)∧J Z w0 ((l,5,true) :: (m,5,true) :: L) w' | _=>False,fun l' _=>match l' with | [.u64 _,.i _ y]=>(5 - y).toNat | _=>0,⟨by decide,by omega,h9⟩,?_⟩
  rintro b y w10 ⟨hb,hy,h10⟩
  refine aE (fun hlt=>?_) fun _=>⟨rfl,h10.sub fun q hq=>.tail _ (.tail _ hq)⟩
  have hlt:y<5:=by simpa using hlt
  refine dN h10 fun h10=>⟨by omega,by omega,gV h10 hr (by omega) fun x7=>gV h10 hm (by omega) fun x8=>⟨?_,trivial⟩⟩
  obtain ⟨d,b',hrun,hb'⟩:=yM (x:=x7) (y:=x8) hb w10.drew
  refine ⟨_,_,hrun,d,b',rfl,by omega,?_,trivial⟩
  refine oU h10 hr (by omega) (by kernel_rfl) (by kernel_rfl) fun w12 h12 _=>?_
  rw [wrap_i64 (show -9223372036854775808≤y+1∧y+1≤9223372036854775807 by omega)]
  exact ⟨⟨hb',by omega,h12⟩,by (try simp only []); omega⟩
theorem zH {p:Nat} {x:UInt8} (h:J Z w0 L w) (hp:(p,5,true)∈L):Calls prog 196 #[.pointer (some ⟨p,0,none⟩),.int .u8 x.toNat] w (Ret fun v w'=>v = .tuple #[]∧J Z w0 L w'):=
 qCO h hp fun h1=>qFM h1 hp
end
theorem jEU : ∃ i,prog.info? 260=some i∧i.zero=some (.agg (us [0,0,0,0,0]).toArray)∧i.size=5∧i.bytes=40:=bM (by kernel_rfl) (by kernel_rfl) (by kernel_rfl)
theorem qHU {w:World} {s:Slc} : Calls prog 195 #[.slice s.a s.len s.cap] w (Ret fun v w'=>∃ p,v = .func (.func 233) #[] #[.pointer (some ⟨p,0,none⟩)]∧(∃ T,Blk w' p [s.val] T)∧w.heap.size≤p∧Mod NoB w w'):=by
 refine qKC _ ?_
 unfold qSS
 refine aT (l:=[s.val]) rfl fun p w1 hN1 hb1=>⟨_,rfl,?_⟩
 have h1:=hN1.at_
 exact ⟨p,rfl,⟨_,hb1⟩,by omega,hN1.mod⟩
theorem qWY {w:World} {ll p:Nat} {s:Slc} {l:List UInt8} {I:Nat→World→Prop} (hl:l.length=s.len) (hn:l.length≤1000000000000000) (hp : ∃ T,Blk w p [s.val] T) (h0:I l.length w)
 (hI : ∀ k w1,k<l.length→I (k+1) w1→Rd w1 ⟨p,0,none⟩ [s.val]∧aL w1 s 1 (bys l)∧∀ h:k<l.length,fF prog ll [.int .i64 k,.int .u8 l[k].toNat] w1 fun v w2=>v = .bool true∧I k w2) :
 Calls prog 233 #[.func (.yield ll) #[] #[],.pointer (some ⟨p,0,none⟩)] w (Ret fun v w'=>v = .tuple #[]∧I 0 w'):=by
 refine qOO _ _ ?_
 unfold qSY
 obtain ⟨T,hp⟩:=hp
 refine ⟨s,hp.rd1 rfl,?_⟩
 refine ⟨fun l' w'=>match l' with | [.i _ x]=>∃ k:Nat,x=(k:Int) - 1∧k≤l.length∧I k w' | _=>False,fun l' _=>match l' with | [.i _ x]=>(x+1).toNat | _=>0,⟨l.length,by rw [wrap_i64 (by omega),hl],by omega,h0⟩,?_⟩
 rintro i w1 ⟨k,rfl,hk,hI1⟩
 refine aE (fun hge=>?_) fun hlt=>?_
 ·have hk0:0<k:=by simp at hge; omega
  obtain ⟨hr1,hr2,hy⟩:=hI (k - 1) w1 (by omega) (by rw [Nat.sub_add_cancel hk0]; exact hI1)
  obtain ⟨a,ea,hra⟩:=gU hr2 (i:=k - 1) (by omega)
  have e1:((k:Int) - 1)=((k - 1:Nat):Int):=by omega
  rw [e1]
  refine ⟨s,hr1,⟨by omega,by omega⟩,?_⟩
  rw [ea]
  refine ⟨_,hra,?_⟩
  show fF _ _ _ _ _
  obtain ⟨f,tmps,assign,body,g1,g2⟩:=hy (by omega)
  refine ⟨f,tmps,assign,body,g1,RoundIn.mono g2 fun e w2 he=>?_⟩
  obtain ⟨v,rfl,rfl,hI2⟩:=he
  refine ⟨_,rfl,true,rfl,?_⟩
  refine aE (fun e=>by cases e) fun _=>⟨⟨k - 1,by rw [wrap_i64 (by omega)],by omega,hI2⟩,?_⟩
  rw [wrap_i64 (by omega)]; (try simp only []); omega
 ·have:k=0:=by simp at hlt; omega
  subst this
  exact ⟨rfl,hI1⟩
theorem rN {w:World} {s:Slc} {l:List UInt8} (hs:aL w s 1 (bys l)) (hsl : ∀ x,s.blk=some x→x<w.heap.size) (hn:l.length≤1000000000000000) :
 Calls prog 139 #[.slice s.a s.len s.cap] w (Ret fun v w'=>∃ x:Slc,v=x.val∧(∃ m:List UInt8,Sh.Own w' x 1 (bys m))∧x.len=32∧x.cap=32∧FB w x∧Mod NoB w w'):=by
 refine qPA _ ?_
 unfold qSC
 obtain ⟨ir,hr1,hr2,hr3,hr4⟩:=jEU
 obtain ⟨i5',h51,h52,h53,h54⟩:=i5
 have hlen:=aW hs
 refine aO (l:=us [0,0,0,0,0]) hr1 hr2 (by simp [Value.cells]) fun rb w1 hN1 hb1=>⟨_,rfl,?_⟩
 have a1:=hN1.at_; have a2:=hN1.size
 refine aC qHU ?_
 rintro v w2 ⟨p,rfl,⟨T,hp⟩,hps,hm2⟩
 refine ⟨_,rfl,233,#[],#[.pointer (some ⟨p,0,none⟩)],rfl,by kernel_rfl,?_⟩
 rintro rec dd ll w3 hdd hll hw3 hY
 have hM3:Mod NoB w2 w3:=by rw [hw3]; exact (dE _ _).tr (dE _ _)
 have hsz3:w3.heap.size=ll+1:=by rw [hw3]; simp; omega
 have hld3:w3.heap[ll]? = some (rec .ready none):=by
  rw [hw3,hll,hdd]
  have:=heap_alloc_new (w2.alloc (.deferred (some []))) (rec .ready none)
  simpa using this
 have hdd3:w3.heap[dd]? = some (.deferred (some [])):=by
  rw [hw3,hdd,heap_alloc_old _ _ (by simp)]
  exact heap_alloc_new _ _
 have hpl:=hp.lt; have s2:=hm2.size
 have hMw3:Mod NoB w w3:=(hN1.mod.tr hm2).tr hM3
 have hrb3:Blk w3 rb (us [0,0,0,0,0]) 260:=(hb1.no hm2).no hM3
 let I:Nat→World→Prop:=fun k w'=>w'.heap[ll]? = some (rec .ready none)∧∃ n T,Blk w' rb (us n) T∧n.length=5∧Mod (fun x=>x=rb∨x=ll) w3 w'
 have hseq:=qWY (w:=w3) (ll:=ll) (p:=p) (s:=s) (l:=l) (I:=I) hlen hn ⟨T,hp.no hM3⟩
  ⟨hld3,[0,0,0,0,0],_,hrb3,rfl,Mod.refl _ _⟩ (by
   rintro k w4 hk ⟨hl4,n,T4,hb4,hn4,hm4⟩
   refine ⟨((hp.no hM3).mod hm4 (by omega)).rd1 rfl,(hs.no hMw3).mod hm4 (fun x hx e=>by have:=hsl x hx; omega),fun hk'=>?_⟩
   refine hY _ _ w4 _ hl4 ⟨hl4,?_⟩
   have hll4:=bC hl4
   obtain ⟨hmp,hgp,hsp⟩:=dH (o:=rec .busy none) hll4
   have hrl:=hb4.lt
   have hbp:=hb4.mod hmp (show ¬ rb=ll by omega)
   have hTB:TB (w4.putObj ll (rec .busy none)) (rb,5):=⟨n,_,hn4,hbp⟩
   have hJ:J (fun z=>z=rb) (w4.putObj ll (rec .busy none)) [(rb,5,true)] (w4.putObj ll (rec .busy none)):=⟨Mod.refl _ _,fun q hq=>by
    obtain rfl:q=(rb,5,true):=by simpa using hq
    exact ⟨fun _=>⟨.inl rfl,hTB⟩,hTB.r⟩⟩
   refine aC (zH (x:=l[k]) hJ (.head _)) ?_
   rintro v w5 ⟨rfl,hJ5⟩
   have hm5:=hJ5.m
   obtain ⟨n5,T5,hn5,hb5⟩:=hJ5.tb (.head _)
   have hl5:w5.heap[ll]? = some (rec .busy none):=by rw [hm5.block ll (by omega) (by omega)]; exact hgp
   refine ⟨rfl,hl5,rfl,?_⟩
   have hll5:=bC hl5
   obtain ⟨hmq,hgq,hsq⟩:=dH (o:=rec .ready none) hll5
   refine ⟨hgq,n5,T5,hb5.mod hmq (by show ¬ rb=ll; omega),hn5,?_⟩
   exact ((hm4.tr (hmp.mono fun x _ e=>.inr e)).tr (hm5.mono fun x _ e=>.inl e)).tr (hmq.mono fun x _ e=>.inr e))
 refine jA hseq ?_ (fun _ _ h=>h.elim) (fun _ h=>h)
 rintro v w4 ⟨rfl,hl4,n,T4,hb4,hn4,hm4⟩
 left
 refine ⟨hl4,?_⟩
 have hll4:=bC hl4
 obtain ⟨hmp,hgp,hsp⟩:=dH (o:=rec .exhausted none) hll4
 have hb5:=hb4.mod hmp (show ¬ rb=ll by omega)
 have hM5:Mod NoB w (w4.putObj ll (rec .exhausted none)):=(hMw3.fresh hm4 fun x e=>by omega).fresh hmp fun x e=>by omega
 refine cH (l:=32) (c:=32) u26 h51 h52 h53 rfl h54 rfl rfl (by omega) (by omega) (by omega) fun e w7 hN7 hbe hoe=>⟨⟨_,_,_⟩,rfl,?_⟩
 have b1:=hN7.at_; have b2:=hN7.size; have b3:=hM5.size
 have b4:dd<(w4.putObj ll (rec .exhausted none)).heap.size:=by omega
 have hdd5:(w4.putObj ll (rec .exhausted none)).heap[dd]? = some (.deferred (some [])):=by
  rw [hmp.block dd (by omega) (by omega),hm4.block dd (by omega) (by omega)]; exact hdd3
 rw [jW] at hoe
 refine ⟨fun l' w'=>match l' with | [.i _ x]=>∃ (k:Nat) (m:List UInt8),x=k∧k≤32∧Sh.Own w' ⟨some ⟨e,0,none⟩,32,32⟩ 1 (bys m)∧Mod (fun y=>y=e) w7 w' | _=>False,fun l' _=>match l' with | [.i _ x]=>(32 - x).toNat | _=>0,
  ⟨0,_,rfl,by omega,hoe,Mod.refl _ _⟩,?_⟩
 rintro x w8 ⟨k,m,rfl,hk,ho8,hm8⟩
 have hb8:Blk w8 rb (us n) T4:=(hb5.no hN7.mod).mod hm8 (by have:=hb5.lt; omega)
 refine aE (fun hlt=>?_) fun hge=>?_
 ·have hk':k<32:=by simp at hlt; omega
  have e1:IntKind.i64.wrap (Int.tdiv (k:Int) 8)=((k / 8:Nat):Int):=by
   rw [show Int.tdiv (k:Int) 8=((k / 8:Nat):Int) from rfl,wrap_i64 (by omega)]
  have e2:IntKind.i64.wrap (8*Int.tmod (k:Int) 8)=((8*(k % 8):Nat):Int):=by
   rw [show Int.tmod (k:Int) 8=((k % 8:Nat):Int) from rfl,wrap_i64 (by omega)]; omega
  rw [e1,e2]
  refine ⟨by omega,⟨by omega,by omega⟩,n.getD (k / 8) 0,rda0 hb8 (lU (by omega)),by omega,by omega,⟨by omega,by show (k:Int)<((32:Nat):Int); omega⟩,?_⟩
  simp only [Int.toNat_natCast]
  refine iZ (by kernel_rfl) (by kernel_rfl) rfl ho8 rfl hk' fun w9 ho9 hm9 hs9=>⟨⟨k+1,m.set k ((aM (n.getD (k / 8) 0) (8*(k % 8))).toUInt8),aS (by omega),by omega,?_,hm8.tr (hm9.mono fun x _ hx=>by rw [Slc.blk_mk,if_neg (by omega)] at hx; cases hx; rfl)⟩,?_⟩
  ·rw [fP] at ho9
   exact ho9
  ·rw [aS (by omega)]; (try simp only []); omega
 ·have hk':k=32:=by simp at hge; omega
  subst hk'
  have hdd8:w8.heap[dd]? = some (.deferred (some [])):=by rw [hm8.block dd (by omega) (by omega),hN7.mod.block dd b4 (fun h=>h)]; exact hdd5
  have hddl:=bC hdd8
  obtain ⟨hmd,-,-⟩:=dH (w:=w8) (o:=.deferred none) hddl
  have hM8:Mod NoB w w8:=(hM5.tr hN7.mod).fresh hm8 fun x hx=>by omega
  refine ⟨hdd8,⟨some ⟨e,0,none⟩,32,32⟩,rfl,⟨m,ho8.mod hmd (fun x hx=>by rw [Slc.blk_mk,if_neg (by omega)] at hx; cases hx; omega)⟩,rfl,rfl,FB.new (by omega),hM8.fresh hmd fun x hx=>by omega⟩
theorem qDJ {w:World} {s:Slc} {l:List UInt8} (hs:aL w s 1 (bys l)) (hsl : ∀ x,s.blk=some x→x<w.heap.size) :
 Calls prog 123 #[.slice s.a s.len s.cap] w (Ret fun v w'=>∃ x:Slc,v=x.val∧(∃ m:List UInt8,Sh.Own w' x 1 (bys m)∧(l.length≤64→m.length=32))∧x.cap=x.len∧FB w x∧Mod NoB w w'):=by
 refine qOH _ ?_
 unfold qRU
 have hlen:=aW hs
 refine aE (fun h=>?_) fun h=>?_
 ·have:l.length > 64:=by simp at h; omega
  exact ⟨⟨none,0,0⟩,rfl,⟨[],bW _ _,fun h=>by omega⟩,rfl,FB.nil _,Mod.refl _ _⟩
 ·have h' : ¬ l.length > 64:=by simp at h; omega
  refine aC (rN hs hsl (by omega)) ?_
  rintro v w1 ⟨x,rfl,⟨m,ho⟩,hl,hc,hf,hm⟩
  exact ⟨x,rfl,x,rfl,⟨m,ho,fun _=>by have:=aW ho.rd; omega⟩,by omega,hf,hm⟩
theorem getD_at {α:Type} {l:List α} {i:Nat} {d:α} (h:i<l.length):l[i]=l.getD i d:=by rw [List.getD,List.getElem?_eq_getElem h]; rfl
def vF (l:List UInt8) (i:Nat):Bool:=(iF (l.getD (i / 8) 0) (i % 8) &&& 1)==1
def nB (l:List UInt8):List Bool:=if l.length=32 then (List.range 256).map (vF l) else []
theorem qCY {w:World} {x:Slc} {ss:List Slc} (hx:aL w x 1 (ss.map Slc.val)) (hn:ss.length≤1000000000) :
 Calls prog 138 #[.slice x.a x.len x.cap] w (Ret fun v w'=>v = .bool (ss.all fun s=>s.len==32)∧w'=w):=by
 have hlen:ss.length=x.len:=by have:=hx.1; simp at this; omega
 refine qLA _ ?_
 unfold qTI
 have idx:Calls prog 232 #[.slice x.a x.len x.cap,.func (.func 194) #[] #[]] w (Ret fun v w'=>∃ n:Int,v = .int .i64 n∧decide (n≥0) = !(ss.all fun s=>s.len==32)∧w'=w):=by
  refine qJG _ _ ?_
  unfold qSI
  refine ⟨fun l' w'=>match l' with | [.i _ y]=>∃ k:Nat,y=k∧k≤ss.length∧(ss.take k).all (fun s=>s.len==32)=true∧w'=w | _=>False,fun l' _=>match l' with | [.i _ y]=>(ss.length - y).toNat | _=>0,⟨0,rfl,by omega,rfl,rfl⟩,?_⟩
  rintro y w1 ⟨k,rfl,hk,hall,rfl⟩
  refine aE (fun hlt=>?_) fun hge=>?_
  ·have hk':k<ss.length:=by simp at hlt; omega
   obtain ⟨a,ea,hra⟩:=uH hx hk'
   rw [ea]
   refine ⟨⟨by omega,by omega⟩,_,hra,?_⟩
   refine cX (by kernel_rfl) ?_
   refine aC (Q:=fun v w'=>v = .bool ((ss[k].len:Int) != 32)∧w'=w1) (qJJ _ ⟨rfl,rfl⟩) ?_
   rintro v w2 ⟨rfl,rfl⟩
   refine ⟨_,rfl,aE (fun h=>⟨_,rfl,?_,rfl⟩) fun h=>⟨⟨k+1,aS (by omega),by omega,?_,rfl⟩,?_⟩⟩
   ·have hne : ¬ ss[k].len=32:=by simp at h; omega
    have:ss.all (fun s=>s.len==32)=false:=by
     rw [List.all_eq_false]
     exact ⟨ss[k],List.getElem_mem hk',by simpa using hne⟩
    rw [this]; simp
   ·rw [aV hk',List.all_append,hall]
    have:ss[k].len=32:=by simp at h; omega
    simp [this]
   ·rw [aS (by omega)]; (try simp only []); omega
  ·have:k=ss.length:=by simp at hge; omega
   subst this
   rw [List.take_length] at hall
   exact ⟨-1,rfl,by rw [hall]; rfl,rfl⟩
 refine aC (Q:=fun v w'=>v = .bool (!(ss.all fun s=>s.len==32))∧w'=w) ?_ ?_
 ·refine qLJ _ _ ?_
  unfold qRC
  refine aC idx ?_
  rintro v w1 ⟨n,rfl,h,rfl⟩
  exact ⟨_,rfl,by rw [h],rfl⟩
 ·rintro v w1 ⟨rfl,rfl⟩
  exact ⟨_,rfl,by simp,rfl⟩
theorem qCP {w:World} {a b c:Slc} {la lb lc:List UInt8} (ha:aL w a 1 (bys la)) (hal : ∀ x,a.blk=some x→x<w.heap.size) (hb:aL w b 1 (bys lb)) (hbl : ∀ x,b.blk=some x→x<w.heap.size) (hc:aL w c 1 (bys lc)) (hcl : ∀ x,c.blk=some x→x<w.heap.size) (ha32:la.length=32) (hb32:lb.length=32) (hc32:lc.length=32) :
 Calls prog 79 #[.slice a.a a.len a.cap,.slice b.a b.len b.cap,.slice c.a c.len c.cap] w (Ret fun v w'=>∃ x:Slc,v=x.val∧(∃ m:List UInt8,Sh.Own w' x 1 (bys m)∧m.length=32)∧x.cap=x.len∧FB w x∧Mod NoB w w'):=by
 refine qXF _ _ _ ?_
 unfold jDH
 obtain ⟨i5',h51,h52,h53,h54⟩:=i5
 obtain ⟨i44',h441,h442,h443,h444⟩:=i44
 have hna:=aW ha; have hnb:=aW hb; have hnc:=aW hc
 refine fR [a,b,c] (by rfl) rfl (by decide) (by decide) fun x e w1 hN1 hx hbx hox=>⟨x,rfl,?_⟩
 refine aC (qCY hox.rd (by simp)) ?_
 rintro v w2 ⟨rfl,rfl⟩
 refine ⟨_,rfl,aE (fun h=>?_) fun h=>?_⟩
 ·have e1:a.len=32:=by omega
  have e2:b.len=32:=by omega
  have e3:c.len=32:=by omega
  simp [e1,e2,e3] at h
 have hM1:=hN1.mod
 refine cH (l:=66) (c:=66) u40 h441 h442 h443 rfl h444 rfl rfl (by omega) (by omega) (by omega) fun t w3 hN3 hbt hot=>⟨⟨_,_,_⟩,rfl,?_⟩
 have a1:=hN1.at_; have a2:=hN1.size; have a3:=hN3.at_; have a4:=hN3.size
 have hM3:=hM1.tr hN3.mod
 have hzero:List.replicate 66 z64=us (List.replicate 66 0):=by simp [us,z64]
 rw [hzero] at hbt
 have hra : ∀ w',Mod (fun y=>y=t) w3 w'→aL w' a 1 (bys la):=fun w' hm=>(ha.no hM3).mod hm fun x hx e=>by have:=hal x hx; omega
 have hrb : ∀ w',Mod (fun y=>y=t) w3 w'→aL w' b 1 (bys lb):=fun w' hm=>(hb.no hM3).mod hm fun x hx e=>by have:=hbl x hx; omega
 have hrc : ∀ w',Mod (fun y=>y=t) w3 w'→aL w' c 1 (bys lc):=fun w' hm=>(hc.no hM3).mod hm fun x hx e=>by have:=hcl x hx; omega
 refine ⟨fun l' w'=>match l' with | [.i _ x]=>∃ (i:Nat) (tl:List UInt64),x=i∧i≤32∧Blk w' t (us tl) 119∧tl.length=66∧Mod (fun y=>y=t) w3 w' | _=>False,fun l' _=>match l' with | [.i _ x]=>(32 - x).toNat | _=>0,
  ⟨0,_,rfl,by omega,hbt,by simp,Mod.refl _ _⟩,?_⟩
 rintro x1 w4 ⟨i,tl,rfl,hi,hb4,htl,hm4⟩
 refine aE (fun hlt=>?_) fun hge=>?_
 ·have hi':i<32:=by simp at hlt; omega
  simp only [Int.toNat_natCast]
  obtain ⟨ac,eac,hrac⟩:=gU ((hrc w4 hm4).drew) (i:=i) (by omega)
  rw [eac]
  refine ⟨fun w'=>w'=w4.drew,rfl,⟨by omega,by show (i:Int)<((66:Nat):Int); omega⟩,⟨by omega,by omega⟩,tl.getD i 0,fun w' hw=>by rw [hw]; exact rda hb4.drew (lU (by omega)),_,fun w' hw=>by rw [hw]; exact hrac,⟨by omega,by show (i:Int)<((66:Nat):Int); omega⟩,?_,trivial⟩
  refine iK (b:=t) (n:=i) (by kernel_rfl) (by kernel_rfl) rfl hb4.drew (by simp; omega) fun w5 ht5 hb5=>?_
  rw [qGT] at hb5
  have hm5:=hm4.dr.tr ht5.mod
  refine ⟨fun l' w'=>match l' with | [.i _ x]=>∃ (k:Nat) (tl:List UInt64),x=k∧k≤32∧Blk w' t (us tl) 119∧tl.length=66∧Mod (fun y=>y=t) w3 w' | _=>False,fun l' _=>match l' with | [.i _ x]=>(32 - x).toNat | _=>0,
   ⟨0,_,rfl,by omega,hb5,by simp [htl],hm5⟩,?_⟩
  rintro x2 w6 ⟨k,tk,rfl,hk,hb6,htk,hm6⟩
  refine aE (fun hlt2=>?_) fun hge2=>?_
  ·have hk':k<32:=by simp at hlt2; omega
   have e1:IntKind.i64.wrap ((i:Int)+(k:Int))=((i+k:Nat):Int):=by rw [wrap_i64 (by omega)]; omega
   rw [e1]
   simp only [Int.toNat_natCast]
   obtain ⟨aa,eaa,hraa⟩:=gU ((hra w6 hm6).drew) (i:=i) (by omega)
   obtain ⟨ab,eab,hrab⟩:=gU ((hrb w6 hm6).drew) (i:=k) (by omega)
   rw [eaa,eab]
   refine ⟨fun w'=>w'=w6.drew,rfl,⟨by omega,by show ((i+k:Nat):Int)<((66:Nat):Int); omega⟩,⟨by omega,by omega⟩,⟨by omega,by omega⟩,tk.getD (i+k) 0,fun w' hw=>by rw [hw]; exact rda hb6.drew (lU (by omega)),_,fun w' hw=>by rw [hw]; exact hraa,_,fun w' hw=>by rw [hw]; exact hrab,⟨by omega,by show ((i+k:Nat):Int)<((66:Nat):Int); omega⟩,?_,trivial⟩
   refine iK (b:=t) (n:=i+k) (by kernel_rfl) (by kernel_rfl) rfl hb6.drew (by simp; omega) fun w7 ht7 hb7=>?_
   rw [qGT] at hb7
   refine ⟨⟨k+1,_,aS (by omega),by omega,hb7,by simp [htk],hm6.dr.tr ht7.mod⟩,?_⟩
   rw [aS (by omega)]; (try simp only []); omega
  ·have hk':k=32:=by simp at hge2; omega
   subst hk'
   refine ⟨⟨i+1,tk,aS (by omega),by omega,hb6,htk,hm6⟩,?_⟩
   rw [aS (by omega)]; (try simp only []); omega
 ·have hi':i=32:=by simp at hge; omega
  subst hi'
  have hM4:Mod NoB w w4:=hM3.fresh hm4 fun x hx=>by omega
  have hs4:=hm4.size
  refine cH (l:=66) (c:=66) u26 h51 h52 h53 rfl h54 rfl rfl (by omega) (by omega) (by omega) fun o w8 hN8 hbo hoo=>⟨⟨_,_,_⟩,rfl,?_⟩
  have b1:=hN8.at_; have b2:=hN8.size
  have hb8:=hb4.no hN8.mod
  rw [jW] at hbo
  refine ⟨fun l' w'=>match l' with | [.u64 cy,.i _ x]=>∃ (k:Nat) (ob:List UInt8),x=k∧k≤66∧ob.length=66∧Blk w' o (bys ob) 5∧Mod (fun y=>y=o) w8 w' | _=>False,fun l' _=>match l' with | [.u64 _,.i _ x]=>(66 - x).toNat | _=>0,
   ⟨0,_,rfl,by omega,by simp,hbo,Mod.refl _ _⟩,?_⟩
  rintro cy x3 w9 ⟨k,ob,rfl,hk,hob,hb9,hm9⟩
  have hb9t:Blk w9 t (us tl) 119:=hb8.mod hm9 (by have:=hb4.lt; omega)
  refine aE (fun hlt=>?_) fun hge=>?_
  ·have hk':k<66:=by have h:(k:Int)<((66:Nat):Int):=by simpa using hlt
                     omega
   simp only [Int.toNat_natCast]
   refine ⟨⟨by omega,by show (k:Int)<((66:Nat):Int); omega⟩,tl.getD k 0,rda hb9t (lU (by omega)),⟨by omega,by show (k:Int)<((66:Nat):Int); omega⟩,?_⟩
   refine iK (b:=o) (n:=k) (by kernel_rfl) (by kernel_rfl) rfl hb9 (by simp [hob]; omega) fun w10 ht10 hb10=>?_
   rw [fP] at hb10
   refine ⟨by omega,⟨k+1,_,aS (by omega),by omega,by simp [hob],hb10,hm9.tr ht10.mod⟩,?_⟩
   rw [aS (by omega)]; (try simp only []); omega
  ·have hk':k=66:=by have h : ¬ (k:Int)<((66:Nat):Int):=by simpa using hge
                     omega
   subst hk'
   have hM9:Mod NoB w w9:=(hM4.tr hN8.mod).fresh hm9 fun x hx=>by omega
   have hro:aL w9 ⟨some ⟨o,0,none⟩,66,66⟩ 1 (bys ob):=(aX (n:=66) (k:=1) hb9 (by simp [hob])).rd
   refine aC (rN hro (fun x hx=>by rw [Slc.blk_mk,if_neg (by omega)] at hx; cases hx; exact hb9.lt) (by omega)) ?_
   rintro v w11 ⟨y,rfl,⟨m,hoy⟩,hyl,hyc,hfy,hm11⟩
   exact ⟨y,rfl,y,rfl,⟨m,hoy,by have:=aW hoy.rd; omega⟩,by omega,hfy.le hM9.size,hM9.tr hm11⟩
def bls (l:List Bool):List Value:=l.map .bool
@[simp] theorem jFE (l:List Bool):(bls l).length=l.length:=by simp [bls]
theorem qMH (l:List Bool) : ∀ y∈bls l,y.oneCell'=true:=by
 intro y hy; obtain ⟨x,_,rfl⟩:=List.mem_map.1 hy; rfl
theorem qON (a b:List Bool):bls (a++b)=bls a++bls b:=by simp [bls]
theorem qOZ {w:World} {s:Slc} {l:List Bool} (h:aL w s 1 (bls l)) {i:Nat} (hi:i<l.length) : ∃ a,s.a=some a∧Rd w (a.add (i*1)) [.bool l[i]]:=
 h.at (by have:=h.1; simp at this; omega) (by omega) fun j u hu=>by
  cases j with
  | zero=>simp at hu; subst hu; simp [bls,hi]
  | succ j=>simp at hu
theorem qAC {w:World} {s:Slc} {l:List Bool} (h:aL w s 1 (bls l)):l.length=s.len:=by have:=h.1; simpa using this
theorem qIE:prog.underlying 190=some (.slice 4):=by kernel_rfl
theorem jBD : ∃ i,prog.info? 4=some i∧i.zero=some (.bool false)∧i.size=1∧i.bytes=1:=bM (by kernel_rfl) (by kernel_rfl) (by kernel_rfl)
section
variable {K:Slc→World→Prop} {w:World}
theorem qCX {s:Slc} {l:List Bool} {c:Bool} (hs:Sh.Own w s 1 (bls l)) (hn:l.length≤2000000000)
 (hK : ∀ (s':Slc) w',Sh.Own w' s' 1 (bls (l++[c]))→s'.len=s.len+1→Mod (fun x=>s.blk=some x) w w'→(s'.blk=s.blk∨∃ x,s'.blk=some x∧w.heap.size≤x)→K s' w') :
 aI prog (Instr.buildSlice 190 1 #[(0,(.bool c))]) w fun v w2=>∃ x1:Slc,v=(.slice x1.a x1.len x1.cap)∧aI prog (Builtin.append_ #[190,190] 190 #[(.slice s.a s.len s.cap),(.slice x1.a x1.len x1.cap)]) w2 fun v1 w3=>∃ x2:Slc,v1=(.slice x2.a x2.len x2.cap)∧K x2 w3:=by
 obtain ⟨i5',h51,h52,h53,h54⟩:=jBD
 have hl:=qAC hs.rd
 refine bZ (l:=[.bool c]) [.bool c] qIE h51 h52 h53 (by decide) rfl (by decide) (by decide) rfl (by simp [Value.cells]) rfl fun b w1 hN hb=>⟨⟨_,_,_⟩,rfl,?_⟩
 have a1:=hN.at_; have a2:=hN.size
 refine bG qIE h51 h52 h53 rfl h54 (hs.no hN.mod) (aX (n:=1) (k:=1) hb rfl).rd (qMH [c]) (by simp only []; omega) (by simp only []; omega) fun s' w2 ho hlen hblk hm2=>⟨s',rfl,hK s' w2 ?_ hlen ((hN.mod.mono fun _ _ h=>h.elim).tr hm2) ?_⟩
 ·rw [qON]; exact ho
 ·rcases hblk with h | h
  ·exact .inl h
  ·exact .inr ⟨_,h,by omega⟩
end
theorem qOJ {w:World} {b:Slc} {l:List UInt8} (hb:aL w b 1 (bys l)) (hbl : ∀ x,b.blk=some x→x<w.heap.size) :
 Calls prog 132 #[.slice b.a b.len b.cap] w (Ret fun v w'=>∃ x:Slc,v=x.val∧Sh.Own w' x 1 (bls (nB l))∧FB w x∧Mod NoB w w'):=by
 refine qJP _ ?_
 unfold qTD
 have hn:=aW hb
 refine aE (fun h=>?_) fun h=>?_
 ·have : ¬ l.length=32:=by simp at h; omega
  exact ⟨⟨none,0,0⟩,rfl,by rw [nB,if_neg this]; exact bW _ _,FB.nil _,Mod.refl _ _⟩
 have h32:l.length=32:=by simp at h; omega
 refine aC (Q:=fun v w'=>∃ p,v = .func (.func 229) #[] #[.pointer (some ⟨p,0,none⟩)]∧(∃ T,Blk w' p [b.val] T)∧w.heap.size≤p∧Mod NoB w w') ?_ ?_
 ·refine qKN _ ?_
  unfold qSV
  refine aT (l:=[b.val]) rfl fun p w1 hN1 hb1=>⟨_,rfl,?_⟩
  have h1:=hN1.at_
  exact ⟨p,rfl,⟨_,hb1⟩,by omega,hN1.mod⟩
 rintro v w1 ⟨p,rfl,⟨T,hp⟩,hps,hm1⟩
 refine ⟨_,rfl,?_⟩
 suffices hc:Calls prog 228 #[.slice none 0 0,.func (.func 229) #[] #[.pointer (some ⟨p,0,none⟩)]] w1 (Ret fun v w'=>∃ x:Slc,v=x.val∧Sh.Own w' x 1 (bls (nB l))∧FB w1 x∧Mod NoB w1 w') by
  refine aC (Q:=fun v w'=>∃ x:Slc,v=x.val∧Sh.Own w' x 1 (bls (nB l))∧FB w1 x∧Mod NoB w1 w') ?_ ?_
  ·refine qNW _ ?_
   unfold qQS
   refine aC hc ?_
   rintro v w2 ⟨x,rfl,h⟩
   exact ⟨x,rfl,x,rfl,h⟩
  ·rintro v w2 ⟨x,rfl,ho,hf,hm2⟩
   exact ⟨x,rfl,x,rfl,ho,hf.le hm1.size,hm1.tr hm2⟩
 refine qKP ⟨none,0,0⟩ _ ?_
 unfold qRZ
 refine aT (l:=[.slice none 0 0]) rfl fun q w2 hN2 hq2=>⟨_,rfl,229,#[],#[.pointer (some ⟨p,0,none⟩)],rfl,by kernel_rfl,?_⟩
 rintro rec dd ll w3 hdd hll hw3 hY
 have a1:=hN2.at_; have a2:=hN2.size
 have hM3:Mod NoB w2 w3:=by rw [hw3]; exact (dE _ _).tr (dE _ _)
 have hsz3:w3.heap.size=ll+1:=by rw [hw3]; simp; omega
 have hld3:w3.heap[ll]? = some (rec .ready none):=by
  rw [hw3,hll,hdd]
  have:=heap_alloc_new (w2.alloc (.deferred (some []))) (rec .ready none)
  simpa using this
 have hdd3:w3.heap[dd]? = some (.deferred (some [])):=by
  rw [hw3,hdd,heap_alloc_old _ _ (by simp)]
  exact heap_alloc_new _ _
 have hpl:=hp.lt
 have hM13:Mod NoB w1 w3:=hN2.mod.tr hM3
 have hb3:aL w3 b 1 (bys l):=(hb.no hm1).no hM13
 have hm1s:=hm1.size
 let I:Nat→World→Prop:=fun k w'=>w'.heap[ll]? = some (rec .ready none)∧∃ s,Blk w' q [s.val] 190∧Sh.Own w' s 1 (bls ((List.range k).map (vF l)))∧FB w3 s∧Mod (fun x=>x=q∨x=ll) w3 w'
 have hseq:Calls prog 229 #[.func (.yield ll) #[] #[],.pointer (some ⟨p,0,none⟩)] w3 (Ret fun v w'=>I 256 w'):=by
  refine qJR _ _ ?_
  unfold qRD
  have e0:IntKind.i64.wrap (8*(b.len:Int))=256:=by rw [wrap_i64 (by omega)]; omega
  refine ⟨b,(hp.no hM13).rd1 rfl,?_⟩
  rw [e0]
  refine ⟨fun l' w'=>match l' with | [.i _ x]=>∃ k:Nat,x=k∧k≤256∧I k w' | _=>False,fun l' _=>match l' with | [.i _ x]=>(256 - x).toNat | _=>0,⟨0,rfl,by omega,hld3,⟨none,0,0⟩,hq2.no hM3,bW _ _,FB.nil _,Mod.refl _ _⟩,?_⟩
  rintro x w4 ⟨k,rfl,hk,hI4⟩
  refine aE (fun hlt=>?_) fun hge=>?_
  ·have hk':k<256:=by simp at hlt; omega
   have hI4':=hI4
   obtain ⟨hl4,s,hq4,ho4,hf4,hm4⟩:=hI4
   have hne : ∀ x,x<w2.heap.size→x≠q→¬ (x=q∨x=ll):=fun x hx hxq e=>by omega
   have hp4:Blk w4 p [b.val] T:=(hp.no hM13).mod hm4 (hne p (by omega) (by omega))
   have hb4:aL w4 b 1 (bys l):=hb3.mod hm4 fun x hx e=>by have:=hbl x hx; omega
   have e1:IntKind.i64.wrap (Int.tdiv (k:Int) 8)=((k / 8:Nat):Int):=by
    rw [show Int.tdiv (k:Int) 8=((k / 8:Nat):Int) from rfl,wrap_i64 (by omega)]
   have e2:Int.tmod (k:Int) 8=((k % 8:Nat):Int):=rfl
   obtain ⟨ab,eab,hrb⟩:=gU hb4 (i:=k / 8) (by omega)
   rw [e1,e2]
   refine ⟨b,hp4.rd1 rfl,by omega,⟨by omega,by omega⟩,?_⟩
   rw [eab]
   refine ⟨_,hrb,by omega,by omega,?_⟩
   show fF _ _ _ _ _
   simp only [Int.toNat_natCast]
   have e3:((iF l[k / 8] (k % 8) &&& 1)==1)=vF l k:=by
    unfold vF
    rw [← getD_at (d:=0) (by omega:k / 8<l.length)]
   rw [e3]
   refine hY _ w4 _ hl4 ⟨hl4,?_⟩
   have hll4:=bC hl4
   obtain ⟨hmp,hgp,hsp⟩:=dH (o:=rec .busy none) hll4
   have hql:=hq4.lt
   have hsl : ∀ x,s.blk=some x→x≠ll:=fun x hx e=>by have:=hf4 x hx; omega
   have hq5:=hq4.mod hmp (show ¬ q=ll by omega)
   have ho5:=ho4.mod hmp hsl
   refine ⟨s,hq5.rd1 rfl,?_⟩
   refine qCX (s:=s) ho5 (by simp; omega) fun s' w5 ho6 hlen6 hm6 hbk6=>?_
   have hsq : ∀ x,s.blk=some x→x≠q:=fun x hx e=>by have:=hf4 x hx; omega
   have hq6:Blk w5 q [s.val] 190:=hq5.mod hm6 fun e=>hsq q e rfl
   refine aP (b:=q) (o:=0) (l:=[s.val]) (by kernel_rfl) (by kernel_rfl) rfl hq6 (by simp) fun w6 ht7 hq7=>?_
   have hf6:FB w3 s':=fun x hx=>by
    rcases hbk6 with h | ⟨y,h,hy⟩
    ·exact hf4 x (by rw [← h]; exact hx)
    ·rw [h] at hx; cases hx; omega
   have hl7:w6.heap[ll]? = some (rec .busy none):=by
    rw [ht7.mod.block ll (by have:=hm6.size; omega) (by omega),hm6.block ll (by omega) (fun e=>hsl ll e rfl)]; exact hgp
   refine ⟨hl7,?_⟩
   have hll7:=bC hl7
   obtain ⟨hmr,hgr,hsr⟩:=dH (o:=rec .ready none) hll7
   refine ⟨true,rfl,?_⟩
   show aH false _ _
   refine aE (fun e=>by cases e) fun _=>⟨⟨k+1,aS (by omega),by omega,hgr,s',?_,?_,hf6,?_⟩,?_⟩
   ·have h7:Blk w6 q [s'.val] 190:=hq7
    exact h7.mod hmr (by omega)
   ·have h8:=(ho6.mod ht7.mod fun x hx e=>by have:=hf6 x hx; omega).mod hmr fun x hx e=>by have:=hf6 x hx; omega
    rw [List.range_succ,List.map_append]
    exact h8
   ·have m1:Mod (fun x=>x=q∨x=ll) w3 (w4.putObj ll (rec .busy none)):=hm4.tr (hmp.mono fun x _ e=>.inr e)
    have m2:Mod (fun x=>x=q∨x=ll) w3 w5:=m1.trans hm6 (fun _ _ h=>h) fun x hx e=>by have:=hf4 x e; omega
    exact (m2.tr (ht7.mod.mono fun x _ e=>.inl e)).tr (hmr.mono fun x _ e=>.inr e)
   ·rw [aS (by omega)]; (try simp only []); omega
  ·have:k=256:=by simp at hge; omega
   subst this
   exact hI4
 refine jA hseq ?_ (fun _ _ h=>h.elim) (fun _ h=>h)
 rintro v w4 ⟨hl4,s,hq4,ho4,hf4,hm4⟩
 left
 refine ⟨hl4,?_⟩
 have hll4:=bC hl4
 obtain ⟨hmp,hgp,hsp⟩:=dH (o:=rec .exhausted none) hll4
 have hql:=hq4.lt
 have hq5:=hq4.mod hmp (show ¬ q=ll by omega)
 have ho5:=ho4.mod hmp fun x hx e=>by have:=hf4 x hx; omega
 have hm4s:=hm4.size
 have hdd5:(w4.putObj ll (rec .exhausted none)).heap[dd]? = some (.deferred (some [])):=by
  rw [hmp.block dd (by omega) (by omega),hm4.block dd (by omega) (by omega)]; exact hdd3
 refine ⟨s,hq5.rd1 rfl,hdd5,?_⟩
 have hddl:=bC hdd5
 obtain ⟨hmd,-,-⟩:=dH (w:=w4.putObj ll (rec .exhausted none)) (o:=.deferred none) hddl
 have hbt:(List.range 256).map (vF l)=nB l:=by rw [nB,if_pos h32]
 rw [hbt] at ho5
 have hM4:=(hM13.fresh hm4 fun x e=>by omega).fresh hmp fun x e=>by omega
 exact ⟨s,rfl,ho5.mod hmd (fun x hx e=>by have:=hf4 x hx; omega),fun x hx=>by have:=hf4 x hx; have:=hM13.size; omega,hM4.fresh hmd fun x e=>by omega⟩
def qDA (K:Nat) (T:TypeId) (f g:FuncId) (s:Slc) (i:Int) (v:Slc) (w:World) (R:RW):Prop:=
 ((0≤i∧i≤(s.len:Nat))∧aH ((v.len:Int)==(0:Int)) (R (.returned (.slice s.a s.len s.cap)) w) (aH (i==(s.len:Int)) (aI prog (Builtin.append_ #[T,T] T #[.slice s.a s.len s.cap,.slice v.a v.len v.cap]) w fun v1 w1=>∃ x:Slc,v1=(.slice x.a x.len x.cap)∧R (.returned (.slice x.a x.len x.cap)) w1) (aH (decide ((IntKind.i64.wrap ((s.len:Int)+(v.len:Int))) > (s.cap:Int))) (((0≤i∧i≤(s.cap:Nat))∧aI prog (Builtin.append_ #[T,3] T #[.slice (aF s K 0 (i.toNat) s.cap).a (aF s K 0 (i.toNat) s.cap).len (aF s K 0 (i.toNat) s.cap).cap,.int .i64 (IntKind.i64.wrap ((IntKind.i64.wrap ((s.len:Int)+(v.len:Int))) - i))]) w fun v2 w2=>∃ x1:Slc,v2=(.slice x1.a x1.len x1.cap)∧((0≤i∧i≤(x1.len:Nat))∧aI prog (Builtin.copy_ #[T,T] 3 #[.slice (aF x1 K (i.toNat) x1.len x1.cap).a (aF x1 K (i.toNat) x1.len x1.cap).len (aF x1 K (i.toNat) x1.len x1.cap).cap,.slice v.a v.len v.cap]) w2 fun v3 w3=>∃ x2:Int,v3=(.int .i64 x2)∧((0≤(IntKind.i64.wrap (i+(v.len:Int)))∧(IntKind.i64.wrap (i+(v.len:Int)))≤(x1.len:Nat))∧((0≤i∧i≤(s.len:Nat))∧((aI prog (Builtin.copy_ #[T,T] 3 #[.slice (aF x1 K (((IntKind.i64.wrap (i+(v.len:Int)))).toNat) x1.len x1.cap).a (aF x1 K (((IntKind.i64.wrap (i+(v.len:Int)))).toNat) x1.len x1.cap).len (aF x1 K (((IntKind.i64.wrap (i+(v.len:Int)))).toNat) x1.len x1.cap).cap,.slice (aF s K (i.toNat) s.len s.cap).a (aF s K (i.toNat) s.len s.cap).len (aF s K (i.toNat) s.len s.cap).cap]) w3.drew fun v4 w4=>∃ x3:Int,v4=(.int .i64 x3)∧R (.returned (.slice x1.a x1.len x1.cap)) w4)∧True)))))) (((0≤(IntKind.i64.wrap ((s.len:Int)+(v.len:Int)))∧(IntKind.i64.wrap ((s.len:Int)+(v.len:Int)))≤(s.cap:Nat))∧((0≤(IntKind.i64.wrap (i+(v.len:Int)))∧(IntKind.i64.wrap (i+(v.len:Int)))≤((aF s K 0 (((IntKind.i64.wrap ((s.len:Int)+(v.len:Int)))).toNat) s.cap).len:Nat))∧∃ v5 w5,(callFunc f #[.slice v.a v.len v.cap,.slice (aF (aF s K 0 (((IntKind.i64.wrap ((s.len:Int)+(v.len:Int)))).toNat) s.cap) K (((IntKind.i64.wrap (i+(v.len:Int)))).toNat) ((aF s K 0 (((IntKind.i64.wrap ((s.len:Int)+(v.len:Int)))).toNat) s.cap).len) ((aF s K 0 (((IntKind.i64.wrap ((s.len:Int)+(v.len:Int)))).toNat) s.cap).cap)).a (aF (aF s K 0 (((IntKind.i64.wrap ((s.len:Int)+(v.len:Int)))).toNat) s.cap) K (((IntKind.i64.wrap (i+(v.len:Int)))).toNat) ((aF s K 0 (((IntKind.i64.wrap ((s.len:Int)+(v.len:Int)))).toNat) s.cap).len) ((aF s K 0 (((IntKind.i64.wrap ((s.len:Int)+(v.len:Int)))).toNat) s.cap).cap)).len (aF (aF s K 0 (((IntKind.i64.wrap ((s.len:Int)+(v.len:Int)))).toNat) s.cap) K (((IntKind.i64.wrap (i+(v.len:Int)))).toNat) ((aF s K 0 (((IntKind.i64.wrap ((s.len:Int)+(v.len:Int)))).toNat) s.cap).len) ((aF s K 0 (((IntKind.i64.wrap ((s.len:Int)+(v.len:Int)))).toNat) s.cap).cap)).cap]).run prog w = .ok (.value v5) w5∧∃ x4:Bool,v5=(.bool x4)∧aH (!x4) (((0≤(IntKind.i64.wrap (i+(v.len:Int)))∧(IntKind.i64.wrap (i+(v.len:Int)))≤((aF s K 0 (((IntKind.i64.wrap ((s.len:Int)+(v.len:Int)))).toNat) s.cap).len:Nat))∧((0≤i∧i≤((aF s K 0 (((IntKind.i64.wrap ((s.len:Int)+(v.len:Int)))).toNat) s.cap).len:Nat))∧((aI prog (Builtin.copy_ #[T,T] 3 #[.slice (aF (aF s K 0 (((IntKind.i64.wrap ((s.len:Int)+(v.len:Int)))).toNat) s.cap) K (((IntKind.i64.wrap (i+(v.len:Int)))).toNat) ((aF s K 0 (((IntKind.i64.wrap ((s.len:Int)+(v.len:Int)))).toNat) s.cap).len) ((aF s K 0 (((IntKind.i64.wrap ((s.len:Int)+(v.len:Int)))).toNat) s.cap).cap)).a (aF (aF s K 0 (((IntKind.i64.wrap ((s.len:Int)+(v.len:Int)))).toNat) s.cap) K (((IntKind.i64.wrap (i+(v.len:Int)))).toNat) ((aF s K 0 (((IntKind.i64.wrap ((s.len:Int)+(v.len:Int)))).toNat) s.cap).len) ((aF s K 0 (((IntKind.i64.wrap ((s.len:Int)+(v.len:Int)))).toNat) s.cap).cap)).len (aF (aF s K 0 (((IntKind.i64.wrap ((s.len:Int)+(v.len:Int)))).toNat) s.cap) K (((IntKind.i64.wrap (i+(v.len:Int)))).toNat) ((aF s K 0 (((IntKind.i64.wrap ((s.len:Int)+(v.len:Int)))).toNat) s.cap).len) ((aF s K 0 (((IntKind.i64.wrap ((s.len:Int)+(v.len:Int)))).toNat) s.cap).cap)).cap,.slice (aF (aF s K 0 (((IntKind.i64.wrap ((s.len:Int)+(v.len:Int)))).toNat) s.cap) K (i.toNat) ((aF s K 0 (((IntKind.i64.wrap ((s.len:Int)+(v.len:Int)))).toNat) s.cap).len) ((aF s K 0 (((IntKind.i64.wrap ((s.len:Int)+(v.len:Int)))).toNat) s.cap).cap)).a (aF (aF s K 0 (((IntKind.i64.wrap ((s.len:Int)+(v.len:Int)))).toNat) s.cap) K (i.toNat) ((aF s K 0 (((IntKind.i64.wrap ((s.len:Int)+(v.len:Int)))).toNat) s.cap).len) ((aF s K 0 (((IntKind.i64.wrap ((s.len:Int)+(v.len:Int)))).toNat) s.cap).cap)).len (aF (aF s K 0 (((IntKind.i64.wrap ((s.len:Int)+(v.len:Int)))).toNat) s.cap) K (i.toNat) ((aF s K 0 (((IntKind.i64.wrap ((s.len:Int)+(v.len:Int)))).toNat) s.cap).len) ((aF s K 0 (((IntKind.i64.wrap ((s.len:Int)+(v.len:Int)))).toNat) s.cap).cap)).cap]) w5.drew fun v6 w6=>∃ x5:Int,v6=(.int .i64 x5)∧((0≤i∧i≤((aF s K 0 (((IntKind.i64.wrap ((s.len:Int)+(v.len:Int)))).toNat) s.cap).len:Nat))∧aI prog (Builtin.copy_ #[T,T] 3 #[.slice (aF (aF s K 0 (((IntKind.i64.wrap ((s.len:Int)+(v.len:Int)))).toNat) s.cap) K (i.toNat) ((aF s K 0 (((IntKind.i64.wrap ((s.len:Int)+(v.len:Int)))).toNat) s.cap).len) ((aF s K 0 (((IntKind.i64.wrap ((s.len:Int)+(v.len:Int)))).toNat) s.cap).cap)).a (aF (aF s K 0 (((IntKind.i64.wrap ((s.len:Int)+(v.len:Int)))).toNat) s.cap) K (i.toNat) ((aF s K 0 (((IntKind.i64.wrap ((s.len:Int)+(v.len:Int)))).toNat) s.cap).len) ((aF s K 0 (((IntKind.i64.wrap ((s.len:Int)+(v.len:Int)))).toNat) s.cap).cap)).len (aF (aF s K 0 (((IntKind.i64.wrap ((s.len:Int)+(v.len:Int)))).toNat) s.cap) K (i.toNat) ((aF s K 0 (((IntKind.i64.wrap ((s.len:Int)+(v.len:Int)))).toNat) s.cap).len) ((aF s K 0 (((IntKind.i64.wrap ((s.len:Int)+(v.len:Int)))).toNat) s.cap).cap)).cap,.slice v.a v.len v.cap]) w6 fun v7 w7=>∃ x6:Int,v7=(.int .i64 x6)∧R (.returned (.slice (aF s K 0 (((IntKind.i64.wrap ((s.len:Int)+(v.len:Int)))).toNat) s.cap).a (aF s K 0 (((IntKind.i64.wrap ((s.len:Int)+(v.len:Int)))).toNat) s.cap).len (aF s K 0 (((IntKind.i64.wrap ((s.len:Int)+(v.len:Int)))).toNat) s.cap).cap)) w7))∧True)))) (((0≤(s.len:Int)∧(s.len:Int)≤((aF s K 0 (((IntKind.i64.wrap ((s.len:Int)+(v.len:Int)))).toNat) s.cap).len:Nat))∧aI prog (Builtin.copy_ #[T,T] 3 #[.slice (aF (aF s K 0 (((IntKind.i64.wrap ((s.len:Int)+(v.len:Int)))).toNat) s.cap) K (((s.len:Int)).toNat) ((aF s K 0 (((IntKind.i64.wrap ((s.len:Int)+(v.len:Int)))).toNat) s.cap).len) ((aF s K 0 (((IntKind.i64.wrap ((s.len:Int)+(v.len:Int)))).toNat) s.cap).cap)).a (aF (aF s K 0 (((IntKind.i64.wrap ((s.len:Int)+(v.len:Int)))).toNat) s.cap) K (((s.len:Int)).toNat) ((aF s K 0 (((IntKind.i64.wrap ((s.len:Int)+(v.len:Int)))).toNat) s.cap).len) ((aF s K 0 (((IntKind.i64.wrap ((s.len:Int)+(v.len:Int)))).toNat) s.cap).cap)).len (aF (aF s K 0 (((IntKind.i64.wrap ((s.len:Int)+(v.len:Int)))).toNat) s.cap) K (((s.len:Int)).toNat) ((aF s K 0 (((IntKind.i64.wrap ((s.len:Int)+(v.len:Int)))).toNat) s.cap).len) ((aF s K 0 (((IntKind.i64.wrap ((s.len:Int)+(v.len:Int)))).toNat) s.cap).cap)).cap,.slice v.a v.len v.cap]) w5 fun v8 w8=>∃ x7:Int,v8=(.int .i64 x7)∧((0≤i∧i≤((aF s K 0 (((IntKind.i64.wrap ((s.len:Int)+(v.len:Int)))).toNat) s.cap).len:Nat))∧aD prog g [.slice (aF (aF s K 0 (((IntKind.i64.wrap ((s.len:Int)+(v.len:Int)))).toNat) s.cap) K (i.toNat) ((aF s K 0 (((IntKind.i64.wrap ((s.len:Int)+(v.len:Int)))).toNat) s.cap).len) ((aF s K 0 (((IntKind.i64.wrap ((s.len:Int)+(v.len:Int)))).toNat) s.cap).cap)).a (aF (aF s K 0 (((IntKind.i64.wrap ((s.len:Int)+(v.len:Int)))).toNat) s.cap) K (i.toNat) ((aF s K 0 (((IntKind.i64.wrap ((s.len:Int)+(v.len:Int)))).toNat) s.cap).len) ((aF s K 0 (((IntKind.i64.wrap ((s.len:Int)+(v.len:Int)))).toNat) s.cap).cap)).len (aF (aF s K 0 (((IntKind.i64.wrap ((s.len:Int)+(v.len:Int)))).toNat) s.cap) K (i.toNat) ((aF s K 0 (((IntKind.i64.wrap ((s.len:Int)+(v.len:Int)))).toNat) s.cap).len) ((aF s K 0 (((IntKind.i64.wrap ((s.len:Int)+(v.len:Int)))).toNat) s.cap).cap)).cap,.int .i64 (v.len:Int)] w8 (aG R) fun v9 w9=>v9=(.tuple #[])∧R (.returned (.slice (aF s K 0 (((IntKind.i64.wrap ((s.len:Int)+(v.len:Int)))).toNat) s.cap).a (aF s K 0 (((IntKind.i64.wrap ((s.len:Int)+(v.len:Int)))).toNat) s.cap).len (aF s K 0 (((IntKind.i64.wrap ((s.len:Int)+(v.len:Int)))).toNat) s.cap).cap)) w9)))))))))
def qQV (b:Slc) (w:World) (R:RW):Prop:=
 aI prog (Instr.alloc 123 true (.tuple #[])) w fun v w1=>∃ x:Option Addr,v=(.pointer x)∧aH ((b.len:Int) != (32:Int)) (aA x fun a=>aJ prog (storeVar 123 a (.agg #[.int .u64 ((0:UInt64)).toNat,.int .u64 ((0:UInt64)).toNat,.int .u64 ((0:UInt64)).toNat,.int .u64 ((0:UInt64)).toNat,.int .u64 ((0:UInt64)).toNat,.int .u64 ((0:UInt64)).toNat,.int .u64 ((0:UInt64)).toNat,.int .u64 ((0:UInt64)).toNat,.int .u64 ((0:UInt64)).toNat,.int .u64 ((0:UInt64)).toNat,.int .u64 ((0:UInt64)).toNat,.int .u64 ((0:UInt64)).toNat,.int .u64 ((0:UInt64)).toNat,.int .u64 ((0:UInt64)).toNat,.int .u64 ((0:UInt64)).toNat,.int .u64 ((0:UInt64)).toNat,.int .u64 ((0:UInt64)).toNat,.int .u64 ((0:UInt64)).toNat,.int .u64 ((0:UInt64)).toNat,.int .u64 ((0:UInt64)).toNat])) w1 fun w2=>aA x fun a1=>∃ xaa xab xac xad xae xba xbb xbc xbd xbe xca xcb xcc xcd xce xda xdb xdc xdd xde:UInt64,Rd w2 a1 (l20 xaa xab xac xad xae xba xbb xbc xbd xbe xca xcb xcc xcd xce xda xdb xdc xdd xde)∧R (.returned (.tuple #[e20 xaa xab xac xad xae xba xbb xbc xbd xbe xca xcb xcc xcd xce xda xdb xdc xdd xde,.bool false])) w2) (aD prog 73 [zS b] w1 (aG R) fun v1 w3=>∃ x1:Slc,v1=(zS x1)∧((0≤(31:Int)∧(31:Int)<(x1.len:Nat))∧aA x1.a fun a2=>∃ x2:UInt8,Rd w3 (a2.add (((31:Int)).toNat*1)) [.int .u8 x2.toNat]∧((0≤(31:Int)∧(31:Int)<(x1.len:Nat))∧aA x1.a fun a3=>∃ x3:UInt8,Rd w3 (a3.add (((31:Int)).toNat*1)) [.int .u8 x3.toNat]∧((0≤(31:Int)∧(31:Int)<(x1.len:Nat))∧aA x1.a fun a4=>aJ prog (storeVar 5 (a4.add (((31:Int)).toNat*1)) (.int .u8 ((x3 &&& ~~~(128:UInt8))).toNat)) w3 fun w4=>aD prog 190 [zS x1] w4 (aG R) fun v2 w5=>∃ xaa1 xab1 xac1 xad1 xae1:UInt64,∃ xb:Bool,v2=(.tuple #[e5 xaa1 xab1 xac1 xad1 xae1,.bool xb])∧aI prog (Instr.alloc 121 true (.tuple #[])) w5 fun v3 w6=>∃ y:Option Addr,v3=(.pointer y)∧aA y fun a5=>aJ prog (storeVar 121 a5 (e5 xaa1 xab1 xac1 xad1 xae1)) w6 fun w7=>aA y fun a6=>∃ xa xb1 xc xd xe:UInt64,Rd w7 a6 (l5 xa xb1 xc xd xe)∧aD prog 184 [e5 xa xb1 xc xd xe] w7 (aG R) fun v4 w8=>∃ xa1 xb2 xc1 xd1 xe1:UInt64,v4=(e5 xa1 xb2 xc1 xd1 xe1)∧aI prog (Instr.alloc 121 true (.tuple #[])) w8 fun v5 w9=>∃ yy:Option Addr,v5=(.pointer yy)∧aA yy fun a7=>aJ prog (storeVar 121 a7 (e5 xa1 xb2 xc1 xd1 xe1)) w9 fun w10=>∃ j:List TV→World→Prop,(∃ sx:World→Prop,sx w10.drew∧aA yy fun a8=>∃ xa2 xb3 xc2 xd2 xe2:UInt64,(∀ w',sx w'→Rd w' a8 (l5 xa2 xb3 xc2 xd2 xe2))∧∃ xa3 xb4 xc3 xd3 xe3:UInt64,(∀ w',sx w'→Rd w' (⟨2,0,none⟩:Addr) (l5 xa3 xb4 xc3 xd3 xe3))∧aA yy fun a9=>∃ xa4 xb5 xc4 xd4 xe4:UInt64,(∀ w',sx w'→Rd w' a9 (l5 xa4 xb5 xc4 xd4 xe4))∧((aD prog 180 [] w10.drew (aG R) fun v6 w11=>∃ xa5 xb6 xc5 xd5 xe5:UInt64,v6=(e5 xa5 xb6 xc5 xd5 xe5)∧(sx w11∧((aD prog 186 [e5 xa2 xb3 xc2 xd2 xe2,e5 xa5 xb6 xc5 xd5 xe5] w11 (aG R) fun v7 w12=>∃ xa6 xb7 xc6 xd6 xe6:UInt64,v7=(e5 xa6 xb7 xc6 xd6 xe6)∧(sx w12∧((aD prog 128 [e5 xa3 xb4 xc3 xd3 xe3,e5 xa4 xb5 xc4 xd4 xe4] w12 (aG R) fun v8 w13=>∃ xa7 xb8 xc7 xd7 xe7:UInt64,v8=(e5 xa7 xb8 xc7 xd7 xe7)∧(sx w13∧((aD prog 180 [] w13 (aG R) fun v9 w14=>∃ xa8 xb9 xc8 xd8 xe8:UInt64,v9=(e5 xa8 xb9 xc8 xd8 xe8)∧(sx w14∧((aD prog 185 [e5 xa7 xb8 xc7 xd7 xe7,e5 xa8 xb9 xc8 xd8 xe8] w14 (aG R) fun v10 w15=>∃ xa9 xb10 xc9 xd9 xe9:UInt64,v10=(e5 xa9 xb10 xc9 xd9 xe9)∧(sx w15∧((aD prog 191 [e5 xa6 xb7 xc6 xd6 xe6,e5 xa9 xb10 xc9 xd9 xe9] w15 (aG R) fun v11 w16=>∃ xaa2 xab2 xac2 xad2 xae2:UInt64,∃ xb11:Bool,v11=(.tuple #[e5 xaa2 xab2 xac2 xad2 xae2,.bool xb11])∧(sx w16∧((aI prog (Instr.alloc 121 true (.tuple #[])) w16 fun v12 w17=>∃ x4:Option Addr,v12=(.pointer x4)∧(sx w17∧((aA x4 fun a10=>aJ prog (storeVar 121 a10 (e5 xaa2 xab2 xac2 xad2 xae2)) w17 fun w18=>j [.p x4,.b xb11] w18)∧True)))∧True)))∧(aI prog (Instr.alloc 121 true (.tuple #[])) w15 fun v13 w19=>∃ x5:Option Addr,v13=(.pointer x5)∧(sx w19∧((aD prog 191 [e5 xa6 xb7 xc6 xd6 xe6,e5 xa9 xb10 xc9 xd9 xe9] w19 (aG R) fun v14 w20=>∃ xaa3 xab3 xac3 xad3 xae3:UInt64,∃ xb12:Bool,v14=(.tuple #[e5 xaa3 xab3 xac3 xad3 xae3,.bool xb12])∧(sx w20∧((aA x5 fun a11=>aJ prog (storeVar 121 a11 (e5 xaa3 xab3 xac3 xad3 xae3)) w20 fun w21=>j [.p x5,.b xb12] w21)∧True)))∧True)))∧True)))∧(aI prog (Instr.alloc 121 true (.tuple #[])) w14 fun v15 w22=>∃ x6:Option Addr,v15=(.pointer x6)∧(sx w22∧((aD prog 185 [e5 xa7 xb8 xc7 xd7 xe7,e5 xa8 xb9 xc8 xd8 xe8] w22 (aG R) fun v16 w23=>∃ xa10 xb13 xc10 xd10 xe10:UInt64,v16=(e5 xa10 xb13 xc10 xd10 xe10)∧(sx w23∧((aD prog 191 [e5 xa6 xb7 xc6 xd6 xe6,e5 xa10 xb13 xc10 xd10 xe10] w23 (aG R) fun v17 w24=>∃ xaa4 xab4 xac4 xad4 xae4:UInt64,∃ xb14:Bool,v17=(.tuple #[e5 xaa4 xab4 xac4 xad4 xae4,.bool xb14])∧(sx w24∧((aA x6 fun a12=>aJ prog (storeVar 121 a12 (e5 xaa4 xab4 xac4 xad4 xae4)) w24 fun w25=>j [.p x6,.b xb14] w25)∧True)))∧True)))∧True)))∧True)))∧(aI prog (Instr.alloc 121 true (.tuple #[])) w13 fun v18 w26=>∃ x7:Option Addr,v18=(.pointer x7)∧(sx w26∧((aD prog 180 [] w26 (aG R) fun v19 w27=>∃ xa11 xb15 xc11 xd11 xe11:UInt64,v19=(e5 xa11 xb15 xc11 xd11 xe11)∧(sx w27∧((aD prog 185 [e5 xa7 xb8 xc7 xd7 xe7,e5 xa11 xb15 xc11 xd11 xe11] w27 (aG R) fun v20 w28=>∃ xa12 xb16 xc12 xd12 xe12:UInt64,v20=(e5 xa12 xb16 xc12 xd12 xe12)∧(sx w28∧((aD prog 191 [e5 xa6 xb7 xc6 xd6 xe6,e5 xa12 xb16 xc12 xd12 xe12] w28 (aG R) fun v21 w29=>∃ xaa5 xab5 xac5 xad5 xae5:UInt64,∃ xb17:Bool,v21=(.tuple #[e5 xaa5 xab5 xac5 xad5 xae5,.bool xb17])∧(sx w29∧((aA x7 fun a13=>aJ prog (storeVar 121 a13 (e5 xaa5 xab5 xac5 xad5 xae5)) w29 fun w30=>j [.p x7,.b xb17] w30)∧True)))∧True)))∧True)))∧True)))∧True)))∧(aI prog (Instr.alloc 121 true (.tuple #[])) w12 fun v22 w31=>∃ x8:Option Addr,v22=(.pointer x8)∧(sx w31∧((aD prog 128 [e5 xa3 xb4 xc3 xd3 xe3,e5 xa4 xb5 xc4 xd4 xe4] w31 (aG R) fun v23 w32=>∃ xa13 xb18 xc13 xd13 xe13:UInt64,v23=(e5 xa13 xb18 xc13 xd13 xe13)∧(sx w32∧((aD prog 180 [] w32 (aG R) fun v24 w33=>∃ xa14 xb19 xc14 xd14 xe14:UInt64,v24=(e5 xa14 xb19 xc14 xd14 xe14)∧(sx w33∧((aD prog 185 [e5 xa13 xb18 xc13 xd13 xe13,e5 xa14 xb19 xc14 xd14 xe14] w33 (aG R) fun v25 w34=>∃ xa15 xb20 xc15 xd15 xe15:UInt64,v25=(e5 xa15 xb20 xc15 xd15 xe15)∧(sx w34∧((aD prog 191 [e5 xa6 xb7 xc6 xd6 xe6,e5 xa15 xb20 xc15 xd15 xe15] w34 (aG R) fun v26 w35=>∃ xaa6 xab6 xac6 xad6 xae6:UInt64,∃ xb21:Bool,v26=(.tuple #[e5 xaa6 xab6 xac6 xad6 xae6,.bool xb21])∧(sx w35∧((aA x8 fun a14=>aJ prog (storeVar 121 a14 (e5 xaa6 xab6 xac6 xad6 xae6)) w35 fun w36=>j [.p x8,.b xb21] w36)∧True)))∧True)))∧True)))∧True)))∧True)))∧True)))∧(aI prog (Instr.alloc 121 true (.tuple #[])) w11 fun v27 w37=>∃ x9:Option Addr,v27=(.pointer x9)∧(sx w37∧((aD prog 186 [e5 xa2 xb3 xc2 xd2 xe2,e5 xa5 xb6 xc5 xd5 xe5] w37 (aG R) fun v28 w38=>∃ xa16 xb22 xc16 xd16 xe16:UInt64,v28=(e5 xa16 xb22 xc16 xd16 xe16)∧(sx w38∧((aD prog 128 [e5 xa3 xb4 xc3 xd3 xe3,e5 xa4 xb5 xc4 xd4 xe4] w38 (aG R) fun v29 w39=>∃ xa17 xb23 xc17 xd17 xe17:UInt64,v29=(e5 xa17 xb23 xc17 xd17 xe17)∧(sx w39∧((aD prog 180 [] w39 (aG R) fun v30 w40=>∃ xa18 xb24 xc18 xd18 xe18:UInt64,v30=(e5 xa18 xb24 xc18 xd18 xe18)∧(sx w40∧((aD prog 185 [e5 xa17 xb23 xc17 xd17 xe17,e5 xa18 xb24 xc18 xd18 xe18] w40 (aG R) fun v31 w41=>∃ xa19 xb25 xc19 xd19 xe19:UInt64,v31=(e5 xa19 xb25 xc19 xd19 xe19)∧(sx w41∧((aD prog 191 [e5 xa16 xb22 xc16 xd16 xe16,e5 xa19 xb25 xc19 xd19 xe19] w41 (aG R) fun v32 w42=>∃ xaa7 xab7 xac7 xad7 xae7:UInt64,∃ xb26:Bool,v32=(.tuple #[e5 xaa7 xab7 xac7 xad7 xae7,.bool xb26])∧(sx w42∧((aA x9 fun a15=>aJ prog (storeVar 121 a15 (e5 xaa7 xab7 xac7 xad7 xae7)) w42 fun w43=>j [.p x9,.b xb26] w43)∧True)))∧True)))∧True)))∧True)))∧True)))∧True)))∧True)))∧(aI prog (Instr.alloc 121 true (.tuple #[])) w10.drew fun v33 w44=>∃ x10:Option Addr,v33=(.pointer x10)∧(sx w44∧((aD prog 180 [] w44 (aG R) fun v34 w45=>∃ xa20 xb27 xc20 xd20 xe20:UInt64,v34=(e5 xa20 xb27 xc20 xd20 xe20)∧(sx w45∧((aD prog 186 [e5 xa2 xb3 xc2 xd2 xe2,e5 xa20 xb27 xc20 xd20 xe20] w45 (aG R) fun v35 w46=>∃ xa21 xb28 xc21 xd21 xe21:UInt64,v35=(e5 xa21 xb28 xc21 xd21 xe21)∧(sx w46∧((aD prog 128 [e5 xa3 xb4 xc3 xd3 xe3,e5 xa4 xb5 xc4 xd4 xe4] w46 (aG R) fun v36 w47=>∃ xa22 xb29 xc22 xd22 xe22:UInt64,v36=(e5 xa22 xb29 xc22 xd22 xe22)∧(sx w47∧((aD prog 180 [] w47 (aG R) fun v37 w48=>∃ xa23 xb30 xc23 xd23 xe23:UInt64,v37=(e5 xa23 xb30 xc23 xd23 xe23)∧(sx w48∧((aD prog 185 [e5 xa22 xb29 xc22 xd22 xe22,e5 xa23 xb30 xc23 xd23 xe23] w48 (aG R) fun v38 w49=>∃ xa24 xb31 xc24 xd24 xe24:UInt64,v38=(e5 xa24 xb31 xc24 xd24 xe24)∧(sx w49∧((aD prog 191 [e5 xa21 xb28 xc21 xd21 xe21,e5 xa24 xb31 xc24 xd24 xe24] w49 (aG R) fun v39 w50=>∃ xaa8 xab8 xac8 xad8 xae8:UInt64,∃ xb32:Bool,v39=(.tuple #[e5 xaa8 xab8 xac8 xad8 xae8,.bool xb32])∧(sx w50∧((aA x10 fun a16=>aJ prog (storeVar 121 a16 (e5 xaa8 xab8 xac8 xad8 xae8)) w50 fun w51=>j [.p x10,.b xb32] w51)∧True)))∧True)))∧True)))∧True)))∧True)))∧True)))∧True)))∧True))∧(∀ x11:Option Addr,∀ is:Bool,∀ w52:World,j [.p x11,.b is] w52→∃ j1:List TV→World→Prop,(∃ j2:List TV→World→Prop,(aH (!xb) (j2 [.b true] w52) (aH (!is) (j2 [.b true] w52) (aH ((x2 &&& (128:UInt8)) != (0:UInt8)) (aA x11 fun a17=>∃ xa25 xb33 xc25 xd25 xe25:UInt64,Rd w52 a17 (l5 xa25 xb33 xc25 xd25 xe25)∧aD prog 192 [e5 xa25 xb33 xc25 xd25 xe25] w52 (aG R) fun v40 w53=>∃ x12:Bool,v40=(.bool x12)∧j2 [.b x12] w53) (j2 [.b false] w52))))∧(∀ x13:Bool,∀ w54:World,j2 [.b x13] w54→aH x13 (aA x fun a18=>aJ prog (storeVar 123 a18 (.agg #[.int .u64 ((0:UInt64)).toNat,.int .u64 ((0:UInt64)).toNat,.int .u64 ((0:UInt64)).toNat,.int .u64 ((0:UInt64)).toNat,.int .u64 ((0:UInt64)).toNat,.int .u64 ((0:UInt64)).toNat,.int .u64 ((0:UInt64)).toNat,.int .u64 ((0:UInt64)).toNat,.int .u64 ((0:UInt64)).toNat,.int .u64 ((0:UInt64)).toNat,.int .u64 ((0:UInt64)).toNat,.int .u64 ((0:UInt64)).toNat,.int .u64 ((0:UInt64)).toNat,.int .u64 ((0:UInt64)).toNat,.int .u64 ((0:UInt64)).toNat,.int .u64 ((0:UInt64)).toNat,.int .u64 ((0:UInt64)).toNat,.int .u64 ((0:UInt64)).toNat,.int .u64 ((0:UInt64)).toNat,.int .u64 ((0:UInt64)).toNat])) w54 fun w55=>aA x fun a19=>∃ xaa9 xab9 xac9 xad9 xae9 xba1 xbb1 xbc1 xbd1 xbe1 xca1 xcb1 xcc1 xcd1 xce1 xda1 xdb1 xdc1 xdd1 xde1:UInt64,Rd w55 a19 (l20 xaa9 xab9 xac9 xad9 xae9 xba1 xbb1 xbc1 xbd1 xbe1 xca1 xcb1 xcc1 xcd1 xce1 xda1 xdb1 xdc1 xdd1 xde1)∧R (.returned (.tuple #[e20 xaa9 xab9 xac9 xad9 xae9 xba1 xbb1 xbc1 xbd1 xbe1 xca1 xcb1 xcc1 xcd1 xce1 xda1 xdb1 xdc1 xdd1 xde1,.bool false])) w55) (aH ((x2 &&& (128:UInt8)) != (0:UInt8)) (aA x11 fun a20=>∃ xa26 xb34 xc26 xd26 xe26:UInt64,Rd w54 a20 (l5 xa26 xb34 xc26 xd26 xe26)∧aD prog 188 [e5 xa26 xb34 xc26 xd26 xe26] w54 (aG R) fun v41 w56=>∃ xa27 xb35 xc27 xd27 xe27:UInt64,v41=(e5 xa27 xb35 xc27 xd27 xe27)∧aA x11 fun a21=>aJ prog (storeVar 121 a21 (e5 xa27 xb35 xc27 xd27 xe27)) w56 fun w57=>j1 [] w57) (j1 [] w54))))∧(∀ w58:World,j1 [] w58→∃ sx1:World→Prop,sx1 w58.drew∧aA x11 fun a22=>∃ xa28 xb36 xc28 xd28 xe28:UInt64,(∀ w',sx1 w'→Rd w' a22 (l5 xa28 xb36 xc28 xd28 xe28))∧aA y fun a23=>∃ xa29 xb37 xc29 xd29 xe29:UInt64,(∀ w',sx1 w'→Rd w' a23 (l5 xa29 xb37 xc29 xd29 xe29))∧aA x11 fun a24=>∃ xa30 xb38 xc30 xd30 xe30:UInt64,(∀ w',sx1 w'→Rd w' a24 (l5 xa30 xb38 xc30 xd30 xe30))∧aA y fun a25=>∃ xa31 xb39 xc31 xd31 xe31:UInt64,(∀ w',sx1 w'→Rd w' a25 (l5 xa31 xb39 xc31 xd31 xe31))∧((aD prog 180 [] w58.drew (aG R) fun v42 w59=>∃ xa32 xb40 xc32 xd32 xe32:UInt64,v42=(e5 xa32 xb40 xc32 xd32 xe32)∧(sx1 w59∧((aD prog 128 [e5 xa30 xb38 xc30 xd30 xe30,e5 xa31 xb39 xc31 xd31 xe31] w59 (aG R) fun v43 w60=>∃ xa33 xb41 xc33 xd33 xe33:UInt64,v43=(e5 xa33 xb41 xc33 xd33 xe33)∧(sx1 w60∧((aA x fun a26=>aJ prog (storeVar 123 a26 (e20 xa28 xb36 xc28 xd28 xe28 xa29 xb37 xc29 xd29 xe29 xa32 xb40 xc32 xd32 xe32 xa33 xb41 xc33 xd33 xe33)) w60 fun w61=>aA x fun a27=>∃ xaa10 xab10 xac10 xad10 xae10 xba2 xbb2 xbc2 xbd2 xbe2 xca2 xcb2 xcc2 xcd2 xce2 xda2 xdb2 xdc2 xdd2 xde2:UInt64,Rd w61 a27 (l20 xaa10 xab10 xac10 xad10 xae10 xba2 xbb2 xbc2 xbd2 xbe2 xca2 xcb2 xcc2 xcd2 xce2 xda2 xdb2 xdc2 xdd2 xde2)∧R (.returned (.tuple #[e20 xaa10 xab10 xac10 xad10 xae10 xba2 xbb2 xbc2 xbd2 xbe2 xca2 xcb2 xcc2 xcd2 xce2 xda2 xdb2 xdc2 xdd2 xde2,.bool true])) w61)∧True)))∧True)))∧True)))))))
theorem qNA (b:Slc) {w:World} {R:RW} (hden:qQV b w R):Calls prog 136 #[zS b] w R:=
 aB (q0 .z (q0 (q0 .z (.cond (q0 .z .z) .z)) (q0 .z (q0 .z (q0 .z (q0 .z (q0 .z (.seq (some [(9,.p),(10,.b)]) (.draw 1 (.take 0 (.take 3 (.take 4 (.all [(1,(.all [(2,(.all [(5,(.all [(6,(.all [(7,(.all [(8,(.take 9 (.take 10 (.take 11 (.all [(12,(.all [(13,(.take 14 .done))]))]))))),(12,(.all [(8,(.take 9 (.take 10 (.take 11 (.all [(13,(.take 14 .done))])))))]))])),(12,(.all [(7,(.all [(8,(.take 9 (.take 10 (.take 11 (.all [(13,(.take 14 .done))])))))]))]))])),(12,(.all [(6,(.all [(7,(.all [(8,(.take 9 (.take 10 (.take 11 (.all [(13,(.take 14 .done))])))))]))]))]))])),(12,(.all [(5,(.all [(6,(.all [(7,(.all [(8,(.take 9 (.take 10 (.take 11 (.all [(13,(.take 14 .done))])))))]))]))]))]))])),(12,(.all [(2,(.all [(5,(.all [(6,(.all [(7,(.all [(8,(.take 9 (.take 10 (.take 11 (.all [(13,(.take 14 .done))])))))]))]))]))]))]))])),(12,(.all [(1,(.all [(2,(.all [(5,(.all [(6,(.all [(7,(.all [(8,(.take 9 (.take 10 (.take 11 (.all [(13,(.take 14 .done))])))))]))]))]))]))]))]))]))))) (.seq (some []) (.block none (.seq (some [(46,.b)]) (q0 .z (.cond .z (q0 .z (.cond .z .z)))) (.cond (q0 .z .z) (q0 .z (.cond .z .z))))) (q0 (.draw 1 (.take 0 (.take 1 (.take 3 (.take 4 (.all [(2,(.all [(5,(.take 6 (.all [(7,(.take 8 .done))])))]))])))))) .z)))))))))) func136 (by kernel_rfl) [.sl b] (by kernel_rfl) (by kernel_rfl) hden
def qRF (s:Slc) (w:World) (R:RW):Prop:=
 aI prog (Instr.box 190 (zS s)) w fun v w1=>∃ s1:Option Addr,v=(.pointer s1)∧R (.returned (.func (.func 181) #[] #[.pointer s1])) w1
theorem qPJ (s:Slc) {w:World} {R:RW} (hden:qRF s w R):Calls prog 131 #[zS s] w R:=
 aB (q0 .z (q0 .z .z)) func131 (by kernel_rfl) [.sl s] (by kernel_rfl) (by kernel_rfl) hden
def qSP (yield:Value) (c:Option Addr) (w:World) (R:RW):Prop:=
 aA c fun a=>∃ x:Slc,Rd w a [zS x]∧∃ (inv:List TV→World→Prop) (mu:List TV→World→Nat),inv [.i .i64 (IntKind.i64.wrap ((x.len:Int) - (1:Int)))] w∧(∀ i:Int,∀ w1:World,inv [.i .i64 i] w1→aH (decide (i≥(0:Int))) (aA c fun a1=>∃ x1:Slc,Rd w1 a1 [zS x1]∧((0≤i∧i<(x1.len:Nat))∧aA x1.a fun a2=>∃ x2:Bool,Rd w1 (a2.add (i.toNat*1)) [.bool x2]∧dL prog yield [.int .i64 i,.bool x2] w1 (aG R) fun v w2=>∃ x3:Bool,v=(.bool x3)∧aH (!x3) (R (.returned (.tuple #[])) w2) ((inv [.i .i64 (IntKind.i64.wrap (i - (1:Int)))] w2∧mu [.i .i64 (IntKind.i64.wrap (i - (1:Int)))] w2<mu [.i .i64 i] w1)))) (R (.returned (.tuple #[])) w1))
theorem qPF (yield:Value) (c:Option Addr) {w:World} {R:RW} (hden:qSP yield c w R):Calls prog 181 #[yield,.pointer c] w R:=
 aB (q0 .z (.block none (.loop [(3,(.i .i64))] (q0 (q0 .z (.cond .z .z)) (q0 (.block none (q0 .z (.cond .z .z))) .z))))) func181 (by kernel_rfl) [.v yield,.p c] (by kernel_rfl) (by kernel_rfl) hden
def qQL (x:Slc) (count:Int) (w:World) (R:RW):Prop:=
 ∃ j:List TV→World→Prop,(aH (decide (count<(0:Int))) ((aG R) [{v:=(.iface 9 (.string ⟨([99,97,110,110,111,116,32,98,101,32,110,101,103,97,116,105,118,101]).toArray⟩)),recovered:=false}] w) (j [] w))∧(∀ w1:World,j [] w1→aD prog 189 [.int .u64 ((aN (x.len:Int))).toNat,.int .u64 ((aN count)).toNat] w1 (aG R) fun v w2=>∃ xa xb:UInt64,v=(.tuple #[.int .u64 xa.toNat,.int .u64 xb.toNat])∧∃ j1:List TV→World→Prop,(aH (decide ((0:UInt64)<xa)) ((aG R) [{v:=(.iface 9 (.string ⟨([116,104,101,32,114,101,115,117,108,116,32,111,102,32,40,108,101,110,40,120,41,32,42,32,99,111,117,110,116,41,32,111,118,101,114,102,108,111,119,115]).toArray⟩)),recovered:=false}] w2) (aH (decide ((9223372036854775807:UInt64)<xb)) ((aG R) [{v:=(.iface 9 (.string ⟨([116,104,101,32,114,101,115,117,108,116,32,111,102,32,40,108,101,110,40,120,41,32,42,32,99,111,117,110,116,41,32,111,118,101,114,102,108,111,119,115]).toArray⟩)),recovered:=false}] w2) (j1 [] w2)))∧(∀ w3:World,j1 [] w3→aI prog (Instr.makeSlice 28 (.int .i64 (IntKind.i64.wrap (xb.toNat:Int))) (.int .i64 (IntKind.i64.wrap (xb.toNat:Int)))) w3 fun v1 w4=>∃ x1:Slc,v1=(zS x1)∧aI prog (Builtin.copy_ #[28,28] 3 #[zS x1,zS x]) w4 fun v2 w5=>∃ x2:Int,v2=(.int .i64 x2)∧∃ (inv:List TV→World→Prop) (mu:List TV→World→Nat),inv [.i .i64 x2] w5∧(∀ n:Int,∀ w6:World,inv [.i .i64 n] w6→aH (decide (n<(x1.len:Int))) (((0≤n∧n≤(x1.len:Nat))∧((0≤n∧n≤(x1.cap:Nat))∧((aI prog (Builtin.copy_ #[28,28] 3 #[.slice (aF x1 1 (n.toNat) x1.len x1.cap).a (aF x1 1 (n.toNat) x1.len x1.cap).len (aF x1 1 (n.toNat) x1.len x1.cap).cap,.slice (aF x1 1 0 (n.toNat) x1.cap).a (aF x1 1 0 (n.toNat) x1.cap).len (aF x1 1 0 (n.toNat) x1.cap).cap]) w6.drew fun v3 w7=>∃ x3:Int,v3=(.int .i64 x3)∧(inv [.i .i64 (IntKind.i64.wrap (n+x3))] w7∧mu [.i .i64 (IntKind.i64.wrap (n+x3))] w7<mu [.i .i64 n] w6))∧True)))) (R (.returned (zS x1)) w6))))
theorem qMT (x:Slc) (count:Int) {w:World} {R:RW} (hden:qQL x count w R):Calls prog 135 #[zS x,.int .i64 count] w R:=
 aB (q0 .z (.seq (some []) (q0 .z (.cond .z .z)) (q0 .z (.seq (some []) (q0 .z (.cond .z .z)) (q0 .z (q0 .z (q0 (.block none (.loop [(8,(.i .i64))] (q0 (q0 .z (.cond .z .z)) (.block none (.draw 0 (.take 0 (.take 1 (.take 2 (.take 3 (.take 4 (.take 5 (.take 6 (.all [(7,(.take 8 (.take 9 .done)))]))))))))))))) (q0 .z .z)))))))) func135 (by kernel_rfl) [.sl x,.i .i64 count] (by kernel_rfl) (by kernel_rfl) hden
def jBZ (paa pab pac pad pae pba pbb pbc pbd pbe pca pcb pcc pcd pce pda pdb pdc pdd pde:UInt64) (w:World) (R:RW):Prop:=
 aI prog (Instr.box 123 (e20 paa pab pac pad pae pba pbb pbc pbd pbe pca pcb pcc pcd pce pda pdb pdc pdd pde)) w fun v w1=>∃ p:Option Addr,v=(.pointer p)∧aA p fun a=>∃ xa xb xc xd xe:UInt64,Rd w1 (a.add 10) (l5 xa xb xc xd xe)∧aD prog 126 [e5 xa xb xc xd xe] w1 (aG R) fun v1 w2=>∃ xa1 xb1 xc1 xd1 xe1:UInt64,v1=(e5 xa1 xb1 xc1 xd1 xe1)∧aI prog (Instr.alloc 121 true (.tuple #[])) w2 fun v2 w3=>∃ z:Option Addr,v2=(.pointer z)∧aA z fun a1=>aJ prog (storeVar 121 a1 (e5 xa1 xb1 xc1 xd1 xe1)) w3 fun w4=>aA p fun a2=>∃ xa2 xb2 xc2 xd2 xe2:UInt64,Rd w4 (a2.add 5) (l5 xa2 xb2 xc2 xd2 xe2)∧aA z fun a3=>∃ xa3 xb3 xc3 xd3 xe3:UInt64,Rd w4 a3 (l5 xa3 xb3 xc3 xd3 xe3)∧aD prog 128 [e5 xa2 xb2 xc2 xd2 xe2,e5 xa3 xb3 xc3 xd3 xe3] w4 (aG R) fun v3 w5=>∃ xa4 xb4 xc4 xd4 xe4:UInt64,v3=(e5 xa4 xb4 xc4 xd4 xe4)∧aD prog 127 [e5 xa4 xb4 xc4 xd4 xe4] w5 (aG R) fun v4 w6=>∃ x:Slc,v4=(zS x)∧aA p fun a4=>∃ xa5 xb5 xc5 xd5 xe5:UInt64,Rd w6 (a4.add 0) (l5 xa5 xb5 xc5 xd5 xe5)∧aA z fun a5=>∃ xa6 xb6 xc6 xd6 xe6:UInt64,Rd w6 a5 (l5 xa6 xb6 xc6 xd6 xe6)∧aD prog 128 [e5 xa5 xb5 xc5 xd5 xe5,e5 xa6 xb6 xc6 xd6 xe6] w6 (aG R) fun v5 w7=>∃ xa7 xb7 xc7 xd7 xe7:UInt64,v5=(e5 xa7 xb7 xc7 xd7 xe7)∧aD prog 129 [e5 xa7 xb7 xc7 xd7 xe7] w7 (aG R) fun v6 w8=>∃ x1:Bool,v6=(.bool x1)∧aH x1 (((0≤(31:Int)∧(31:Int)<(x.len:Nat))∧aA x.a fun a6=>∃ x2:UInt8,Rd w8 (a6.add (((31:Int)).toNat*1)) [.int .u8 x2.toNat]∧((0≤(31:Int)∧(31:Int)<(x.len:Nat))∧aA x.a fun a7=>aJ prog (storeVar 5 (a7.add (((31:Int)).toNat*1)) (.int .u8 ((x2 ||| (128:UInt8))).toNat)) w8 fun w9=>R (.returned (zS x)) w9))) (R (.returned (zS x)) w8)
theorem qYM (paa pab pac pad pae pba pbb pbc pbd pbe pca pcb pcc pcd pce pda pdb pdc pdd pde:UInt64) {w:World} {R:RW} (hden:jBZ paa pab pac pad pae pba pbb pbc pbd pbe pca pcb pcc pcd pce pda pdb pdc pdd pde w R):Calls prog 75 #[e20 paa pab pac pad pae pba pbb pbc pbd pbe pca pcb pcc pcd pce pda pdb pdc pdd pde] w R:=
 aB (q0 .z (q0 .z (q0 .z (q0 (q0 .z (.cond .z .z)) (q0 .z .z))))) func75 (by kernel_rfl) [.agg [.agg [.u64 paa,.u64 pab,.u64 pac,.u64 pad,.u64 pae],.agg [.u64 pba,.u64 pbb,.u64 pbc,.u64 pbd,.u64 pbe],.agg [.u64 pca,.u64 pcb,.u64 pcc,.u64 pcd,.u64 pce],.agg [.u64 pda,.u64 pdb,.u64 pdc,.u64 pdd,.u64 pde]]] (by kernel_rfl) (by kernel_rfl) hden
def jEA (a:Slc) (paa pab pac pad pae pba pbb pbc pbd pbe pca pcb pcc pcd pce pda pdb pdc pdd pde:UInt64) (w:World) (R:RW):Prop:=
 aI prog (Instr.box 123 (e20 paa pab pac pad pae pba pbb pbc pbd pbe pca pcb pcc pcd pce pda pdb pdc pdd pde)) w fun v w1=>∃ p:Option Addr,v=(.pointer p)∧aI prog (Instr.alloc 123 true (.tuple #[])) w1 fun v1 w2=>∃ x:Option Addr,v1=(.pointer x)∧aD prog 130 [] w2 (aG R) fun v2 w3=>∃ xaa xab xac xad xae xba xbb xbc xbd xbe xca xcb xcc xcd xce xda xdb xdc xdd xde:UInt64,v2=(e20 xaa xab xac xad xae xba xbb xbc xbd xbe xca xcb xcc xcd xce xda xdb xdc xdd xde)∧aI prog (Instr.alloc 186 true (.tuple #[])) w3 fun v3 w4=>∃ s:Option Addr,v3=(.pointer s)∧aA s fun a1=>aJ prog (storeVar 186 a1 (e20 xaa xab xac xad xae xba xbb xbc xbd xbe xca xcb xcc xcd xce xda xdb xdc xdd xde)) w4 fun w5=>aD prog 132 [zS a] w5 (aG R) fun v4 w6=>∃ x1:Slc,v4=(zS x1)∧aD prog 131 [zS x1] w6 (aG R) fun v5 w7=>∃ x2:Value,v5=x2∧∃ (fn:FuncId) (first cap:Array Value),x2 = .func (.func fn) first cap∧enters prog fn=true∧∀ (rec:LoopState→Option Code→Obj) (dd ll:Nat) (w8:World),dd=w7.heap.size→ll=dd+1→w8=(w7.alloc (.deferred (some []))).alloc (rec .ready none)→(∀ x3:Int,∀ x4:Bool,∀ (w9:World) (kk:Value→World→Prop),w9.heap[ll]? = some (rec .ready none)→((w9.heap[ll]? = some (rec .ready none)∧aD prog 133 [.pointer s] (w9.putObj ll (rec .busy none)) (fun _ _=>False) fun v6 w10=>v6=(.tuple #[])∧aH x4 (aA p fun a2=>∃ xaa1 xab1 xac1 xad1 xae1 xba1 xbb1 xbc1 xbd1 xbe1 xca1 xcb1 xcc1 xcd1 xce1 xda1 xdb1 xdc1 xdd1 xde1:UInt64,Rd w10 a2 (l20 xaa1 xab1 xac1 xad1 xae1 xba1 xbb1 xbc1 xbd1 xbe1 xca1 xcb1 xcc1 xcd1 xce1 xda1 xdb1 xdc1 xdd1 xde1)∧aD prog 134 [.pointer s,e20 xaa1 xab1 xac1 xad1 xae1 xba1 xbb1 xbc1 xbd1 xbe1 xca1 xcb1 xcc1 xcd1 xce1 xda1 xdb1 xdc1 xdd1 xde1] w10 (fun _ _=>False) fun v7 w11=>v7=(.tuple #[])∧(w11.heap[ll]? = some (rec .busy none)∧kk (.bool true) (w11.putObj ll (rec .ready none)))) ((w10.heap[ll]? = some (rec .busy none)∧kk (.bool true) (w10.putObj ll (rec .ready none))))))→fF prog ll [.int .i64 x3,.bool x4] w9 kk)→aD prog fn (first.toList++[.func (.yield ll) #[] #[]]++cap.toList) w8 (xN R [(mkD dd)]) fun _ w12=>(w12.heap[ll]? = some (rec .ready none)∧aA s fun a3=>∃ xaa2 xab2 xac2 xad2 xae2 xba2 xbb2 xbc2 xbd2 xbe2 xca2 xcb2 xcc2 xcd2 xce2 xda2 xdb2 xdc2 xdd2 xde2:UInt64,Rd (w12.putObj ll (rec .exhausted none)) (a3.add 0) (l20 xaa2 xab2 xac2 xad2 xae2 xba2 xbb2 xbc2 xbd2 xbe2 xca2 xcb2 xcc2 xcd2 xce2 xda2 xdb2 xdc2 xdd2 xde2)∧aA x fun a4=>aJ prog (storeVar 123 a4 (e20 xaa2 xab2 xac2 xad2 xae2 xba2 xbb2 xbc2 xbd2 xbe2 xca2 xcb2 xcc2 xcd2 xce2 xda2 xdb2 xdc2 xdd2 xde2)) (w12.putObj ll (rec .exhausted none)) fun w13=>(w13.heap[dd]? = some (.deferred (some []))∧aA x fun a5=>∃ xaa3 xab3 xac3 xad3 xae3 xba3 xbb3 xbc3 xbd3 xbe3 xca3 xcb3 xcc3 xcd3 xce3 xda3 xdb3 xdc3 xdd3 xde3:UInt64,Rd (w13.putObj dd (.deferred none)) a5 (l20 xaa3 xab3 xac3 xad3 xae3 xba3 xbb3 xbc3 xbd3 xbe3 xca3 xcb3 xcc3 xcd3 xce3 xda3 xdb3 xdc3 xdd3 xde3)∧R (.returned (e20 xaa3 xab3 xac3 xad3 xae3 xba3 xbb3 xbc3 xbd3 xbe3 xca3 xcb3 xcc3 xcd3 xce3 xda3 xdb3 xdc3 xdd3 xde3)) (w13.putObj dd (.deferred none))))∨False∨False
theorem qYK (a:Slc) (paa pab pac pad pae pba pbb pbc pbd pbe pca pcb pcc pcd pce pda pdb pdc pdd pde:UInt64) {w:World} {R:RW} (hden:jEA a paa pab pac pad pae pba pbb pbc pbd pbe pca pcb pcc pcd pce pda pdb pdc pdd pde w R):Calls prog 76 #[zS a,e20 paa pab pac pad pae pba pbb pbc pbd pbe pca pcb pcc pcd pce pda pdb pdc pdd pde] w R:=
 aB (q0 .z (q0 .z (q0 (q0 .z (.block none (.rf false [] [(.i .i64),.b] .z (.block none (q0 .z (q0 .z (.cond .z .z))))))) (q0 .z .z)))) func76 (by kernel_rfl) [.sl a,.agg [.agg [.u64 paa,.u64 pab,.u64 pac,.u64 pad,.u64 pae],.agg [.u64 pba,.u64 pbb,.u64 pbc,.u64 pbd,.u64 pbe],.agg [.u64 pca,.u64 pcb,.u64 pcc,.u64 pcd,.u64 pce],.agg [.u64 pda,.u64 pdb,.u64 pdc,.u64 pdd,.u64 pde]]] (by kernel_rfl) (by kernel_rfl) hden
def jAB (w:World) (R:RW):Prop:=
 aI prog (Instr.alloc 123 true (.tuple #[])) w fun v w1=>∃ x:Option Addr,v=(.pointer x)∧aI prog (Instr.buildSlice 28 1 #[(0,(.int .u8 ((102:UInt8)).toNat))]) w1 fun v1 w2=>∃ x1:Slc,v1=(zS x1)∧aD prog 135 [zS x1,.int .i64 (32:Int)] w2 (aG R) fun v2 w3=>∃ x2:Slc,v2=(zS x2)∧((0≤(0:Int)∧(0:Int)<(x2.len:Nat))∧aA x2.a fun a=>aJ prog (storeVar 5 (a.add (((0:Int)).toNat*1)) (.int .u8 ((88:UInt8)).toNat)) w3 fun w4=>aD prog 136 [zS x2] w4 (aG R) fun v3 w5=>∃ xaaa xaab xaac xaad xaae xaba xabb xabc xabd xabe xaca xacb xacc xacd xace xada xadb xadc xadd xade:UInt64,∃ xb:Bool,v3=(.tuple #[e20 xaaa xaab xaac xaad xaae xaba xabb xabc xabd xabe xaca xacb xacc xacd xace xada xadb xadc xadd xade,.bool xb])∧aI prog (Instr.alloc 123 true (.tuple #[])) w5 fun v4 w6=>∃ p:Option Addr,v4=(.pointer p)∧aA p fun a1=>aJ prog (storeVar 123 a1 (e20 xaaa xaab xaac xaad xaae xaba xabb xabc xabd xabe xaca xacb xacc xacd xace xada xadb xadc xadd xade)) w6 fun w7=>aA p fun a2=>∃ xaa xab xac xad xae xba xbb xbc xbd xbe xca xcb xcc xcd xce xda xdb xdc xdd xde:UInt64,Rd w7 a2 (l20 xaa xab xac xad xae xba xbb xbc xbd xbe xca xcb xcc xcd xce xda xdb xdc xdd xde)∧aA x fun a3=>aJ prog (storeVar 123 a3 (e20 xaa xab xac xad xae xba xbb xbc xbd xbe xca xcb xcc xcd xce xda xdb xdc xdd xde)) w7 fun w8=>aA x fun a4=>∃ xaa1 xab1 xac1 xad1 xae1 xba1 xbb1 xbc1 xbd1 xbe1 xca1 xcb1 xcc1 xcd1 xce1 xda1 xdb1 xdc1 xdd1 xde1:UInt64,Rd w8 a4 (l20 xaa1 xab1 xac1 xad1 xae1 xba1 xbb1 xbc1 xbd1 xbe1 xca1 xcb1 xcc1 xcd1 xce1 xda1 xdb1 xdc1 xdd1 xde1)∧R (.returned (e20 xaa1 xab1 xac1 xad1 xae1 xba1 xbb1 xbc1 xbd1 xbe1 xca1 xcb1 xcc1 xcd1 xce1 xda1 xdb1 xdc1 xdd1 xde1)) w8)
theorem qZW {w:World} {R:RW} (hden:jAB w R):Calls prog 77 #[] w R:=
 aB (q0 .z (q0 .z (q0 .z (q0 .z (q0 .z .z))))) func77 (by kernel_rfl) [] (by kernel_rfl) (by kernel_rfl) hden
def qPX (x y:UInt64) (w:World) (R:RW):Prop:=
 aD prog 178 [.int .u64 x.toNat,.int .u64 y.toNat] w (aG R) fun v w1=>∃ xa xb:UInt64,v=(.tuple #[.int .u64 xa.toNat,.int .u64 xb.toNat])∧R (.returned (.tuple #[.int .u64 xa.toNat,.int .u64 xb.toNat])) w1
theorem qKL (x y:UInt64) {w:World} {R:RW} (hden:qPX x y w R):Calls prog 189 #[.int .u64 x.toNat,.int .u64 y.toNat] w R:=
 aB (q0 .z (q0 (.cond (q0 .z (q0 .z .z)) .z) (q0 .z (q0 .z .z)))) func189 (by kernel_rfl) [.u64 x,.u64 y] (by kernel_rfl) (by kernel_rfl) hden
def jBJ (seed:Slc) (w:World) (R:RW):Prop:=
 aH ((seed.len:Int) != (32:Int)) (R (.returned (.tuple #[.pointer none,.bool false])) w) (aI prog (Instr.buildSlice 118 1 #[(0,(zS seed))]) w fun v w1=>∃ x:Slc,v=(zS x)∧aD prog 122 [zS x] w1 (aG R) fun v1 w2=>∃ x1:Slc,v1=(zS x1)∧((0≤(32:Int)∧(32:Int)≤(32:Int)∧(32:Int)≤(x1.cap:Nat))∧((0≤(0:Int)∧(0:Int)<((aF x1 1 0 (((32:Int)).toNat) (((32:Int)).toNat)).len:Nat))∧aA (aF x1 1 0 (((32:Int)).toNat) (((32:Int)).toNat)).a fun a=>∃ x2:UInt8,Rd w2 (a.add (((0:Int)).toNat*1)) [.int .u8 x2.toNat]∧((0≤(0:Int)∧(0:Int)<((aF x1 1 0 (((32:Int)).toNat) (((32:Int)).toNat)).len:Nat))∧aA (aF x1 1 0 (((32:Int)).toNat) (((32:Int)).toNat)).a fun a1=>aJ prog (storeVar 5 (a1.add (((0:Int)).toNat*1)) (.int .u8 ((x2 &&& ~~~(7:UInt8))).toNat)) w2 fun w3=>((0≤(31:Int)∧(31:Int)<((aF x1 1 0 (((32:Int)).toNat) (((32:Int)).toNat)).len:Nat))∧aA (aF x1 1 0 (((32:Int)).toNat) (((32:Int)).toNat)).a fun a2=>∃ x3:UInt8,Rd w3 (a2.add (((31:Int)).toNat*1)) [.int .u8 x3.toNat]∧((0≤(31:Int)∧(31:Int)<((aF x1 1 0 (((32:Int)).toNat) (((32:Int)).toNat)).len:Nat))∧aA (aF x1 1 0 (((32:Int)).toNat) (((32:Int)).toNat)).a fun a3=>aJ prog (storeVar 5 (a3.add (((31:Int)).toNat*1)) (.int .u8 (((x3 &&& (63:UInt8)) ||| (64:UInt8))).toNat)) w3 fun w4=>((0≤(32:Int)∧(32:Int)≤(x1.len:Nat))∧((aD prog 77 [] w4.drew (aG R) fun v2 w5=>∃ xaa xab xac xad xae xba xbb xbc xbd xbe xca xcb xcc xcd xce xda xdb xdc xdd xde:UInt64,v2=(e20 xaa xab xac xad xae xba xbb xbc xbd xbe xca xcb xcc xcd xce xda xdb xdc xdd xde)∧((aD prog 76 [.slice (aF x1 1 0 (((32:Int)).toNat) (((32:Int)).toNat)).a (aF x1 1 0 (((32:Int)).toNat) (((32:Int)).toNat)).len (aF x1 1 0 (((32:Int)).toNat) (((32:Int)).toNat)).cap,e20 xaa xab xac xad xae xba xbb xbc xbd xbe xca xcb xcc xcd xce xda xdb xdc xdd xde] w5 (aG R) fun v3 w6=>∃ xaa1 xab1 xac1 xad1 xae1 xba1 xbb1 xbc1 xbd1 xbe1 xca1 xcb1 xcc1 xcd1 xce1 xda1 xdb1 xdc1 xdd1 xde1:UInt64,v3=(e20 xaa1 xab1 xac1 xad1 xae1 xba1 xbb1 xbc1 xbd1 xbe1 xca1 xcb1 xcc1 xcd1 xce1 xda1 xdb1 xdc1 xdd1 xde1)∧((aI prog (Instr.box 125 (.agg #[.int .u64 xaa1.toNat,.int .u64 xab1.toNat,.int .u64 xac1.toNat,.int .u64 xad1.toNat,.int .u64 xae1.toNat,.int .u64 xba1.toNat,.int .u64 xbb1.toNat,.int .u64 xbc1.toNat,.int .u64 xbd1.toNat,.int .u64 xbe1.toNat,.int .u64 xca1.toNat,.int .u64 xcb1.toNat,.int .u64 xcc1.toNat,.int .u64 xcd1.toNat,.int .u64 xce1.toNat,.int .u64 xda1.toNat,.int .u64 xdb1.toNat,.int .u64 xdc1.toNat,.int .u64 xdd1.toNat,.int .u64 xde1.toNat,.slice (aF x1 1 0 (((32:Int)).toNat) (((32:Int)).toNat)).a (aF x1 1 0 (((32:Int)).toNat) (((32:Int)).toNat)).len (aF x1 1 0 (((32:Int)).toNat) (((32:Int)).toNat)).cap,.slice (aF x1 1 (((32:Int)).toNat) x1.len x1.cap).a (aF x1 1 (((32:Int)).toNat) x1.len x1.cap).len (aF x1 1 (((32:Int)).toNat) x1.len x1.cap).cap])) w6 fun v4 w7=>∃ x4:Option Addr,v4=(.pointer x4)∧R (.returned (.tuple #[.pointer x4,.bool true])) w7)∧True))∧True))∧True))))))))
theorem qXT (seed:Slc) {w:World} {R:RW} (hden:jBJ seed w R):Calls prog 70 #[zS seed] w R:=
 aB (q0 .z (q0 (q0 .z (.cond (q0 .z .z) .z)) (q0 .z (q0 .z (q0 .z (q0 .z (q0 (.draw 0 (.take 0 (.take 3 (.take 4 (.take 5 (.all [(1,(.all [(2,(.take 6 (.all [(7,(.take 8 (.take 9 .done)))])))]))])))))) .z))))))) func70 (by kernel_rfl) [.sl seed] (by kernel_rfl) (by kernel_rfl) hden
def jCO (o:Option Addr) (w:World) (R:RW):Prop:=
 aA o fun a=>∃ xaa xab xac xad xae xba xbb xbc xbd xbe xca xcb xcc xcd xce xda xdb xdc xdd xde:UInt64,Rd w (a.add 0) (l20 xaa xab xac xad xae xba xbb xbc xbd xbe xca xcb xcc xcd xce xda xdb xdc xdd xde)∧aD prog 75 [e20 xaa xab xac xad xae xba xbb xbc xbd xbe xca xcb xcc xcd xce xda xdb xdc xdd xde] w (aG R) fun v w1=>∃ x:Slc,v=(zS x)∧R (.returned (zS x)) w1
theorem qUU (o:Option Addr) {w:World} {R:RW} (hden:jCO o w R):Calls prog 71 #[.pointer o] w R:=
 aB (q0 .z (q0 .z .z)) func71 (by kernel_rfl) [.p o] (by kernel_rfl) (by kernel_rfl) hden
def jCU (first parts:Slc) (w:World) (R:RW):Prop:=
 aD prog 125 [zS parts] w (aG R) fun v w1=>∃ x:Slc,v=(zS x)∧aI prog (Instr.buildSlice 118 1 #[(0,(zS first))]) w1 fun v1 w2=>∃ x1:Slc,v1=(zS x1)∧aD prog 124 [zS x,.int .i64 (0:Int),zS x1] w2 (aG R) fun v2 w3=>∃ x2:Slc,v2=(zS x2)∧aD prog 122 [zS x2] w3 (aG R) fun v3 w4=>∃ x3:Slc,v3=(zS x3)∧aD prog 123 [zS x3] w4 (aG R) fun v4 w5=>∃ x4:Slc,v4=(zS x4)∧R (.returned (zS x4)) w5
theorem qYA (first parts:Slc) {w:World} {R:RW} (hden:jCU first parts w R):Calls prog 74 #[zS first,zS parts] w R:=
 aB (q0 .z (q0 .z .z)) func74 (by kernel_rfl) [.sl first,.sl parts] (by kernel_rfl) (by kernel_rfl) hden
def jDI (point public0 text:Slc) (w:World) (R:RW):Prop:=
 aD prog 125 [zS text] w (aG R) fun v w1=>∃ x:Slc,v=(zS x)∧aI prog (Instr.buildSlice 118 1 #[(0,(zS public0))]) w1 fun v1 w2=>∃ x1:Slc,v1=(zS x1)∧aD prog 124 [zS x,.int .i64 (0:Int),zS x1] w2 (aG R) fun v2 w3=>∃ x2:Slc,v2=(zS x2)∧aD prog 74 [zS point,zS x2] w3 (aG R) fun v3 w4=>∃ x3:Slc,v3=(zS x3)∧R (.returned (zS x3)) w4
theorem qVR (point public0 text:Slc) {w:World} {R:RW} (hden:jDI point public0 text w R):Calls prog 80 #[zS point,zS public0,zS text] w R:=
 aB (q0 .z (q0 .z .z)) func80 (by kernel_rfl) [.sl point,.sl public0,.sl text] (by kernel_rfl) (by kernel_rfl) hden
def jDJ (seed:Slc) (w:World) (R:RW):Prop:=
 aD prog 70 [zS seed] w (aG R) fun v w1=>∃ xa:Option Addr,∃ xb:Bool,v=(.tuple #[.pointer xa,.bool xb])∧aH (!xb) (R (.returned (.slice none 0 0)) w1) (aD prog 71 [.pointer xa] w1 (aG R) fun v1 w2=>∃ x:Slc,v1=(zS x)∧R (.returned (zS x)) w2)
theorem qUX (seed:Slc) {w:World} {R:RW} (hden:jDJ seed w R):Calls prog 44 #[zS seed] w R:=
 aB (q0 .z (q0 .z (q0 (q0 .z (.cond (q0 .z .z) .z)) (q0 .z .z)))) func44 (by kernel_rfl) [.sl seed] (by kernel_rfl) (by kernel_rfl) hden
def jAA (seed text:Slc) (w:World) (R:RW):Prop:=
 aD prog 70 [zS seed] w (aG R) fun v w1=>∃ xa:Option Addr,∃ xb:Bool,v=(.tuple #[.pointer xa,.bool xb])∧aH (!xb) (R (.returned (.slice none 0 0)) w1) (aA xa fun a=>∃ x:Slc,Rd w1 (a.add 21) [zS x]∧aD prog 74 [zS x,zS text] w1 (aG R) fun v1 w2=>∃ x1:Slc,v1=(zS x1)∧aD prog 77 [] w2 (aG R) fun v2 w3=>∃ xaa xab xac xad xae xba xbb xbc xbd xbe xca xcb xcc xcd xce xda xdb xdc xdd xde:UInt64,v2=(e20 xaa xab xac xad xae xba xbb xbc xbd xbe xca xcb xcc xcd xce xda xdb xdc xdd xde)∧aD prog 76 [zS x1,e20 xaa xab xac xad xae xba xbb xbc xbd xbe xca xcb xcc xcd xce xda xdb xdc xdd xde] w3 (aG R) fun v3 w4=>∃ xaa1 xab1 xac1 xad1 xae1 xba1 xbb1 xbc1 xbd1 xbe1 xca1 xcb1 xcc1 xcd1 xce1 xda1 xdb1 xdc1 xdd1 xde1:UInt64,v3=(e20 xaa1 xab1 xac1 xad1 xae1 xba1 xbb1 xbc1 xbd1 xbe1 xca1 xcb1 xcc1 xcd1 xce1 xda1 xdb1 xdc1 xdd1 xde1)∧aD prog 75 [e20 xaa1 xab1 xac1 xad1 xae1 xba1 xbb1 xbc1 xbd1 xbe1 xca1 xcb1 xcc1 xcd1 xce1 xda1 xdb1 xdc1 xdd1 xde1] w4 (aG R) fun v4 w5=>∃ x2:Slc,v4=(zS x2)∧∃ sx:World→Prop,sx w5.drew∧aA xa fun a1=>∃ x3:Slc,(∀ w',sx w'→Rd w' (a1.add 20) [zS x3])∧((aD prog 71 [.pointer xa] w5.drew (aG R) fun v5 w6=>∃ x4:Slc,v5=(zS x4)∧(sx w6∧((aD prog 80 [zS x2,zS x4,zS text] w6 (aG R) fun v6 w7=>∃ x5:Slc,v6=(zS x5)∧(sx w7∧((aD prog 79 [zS x5,zS x3,zS x1] w7 (aG R) fun v7 w8=>∃ x6:Slc,v7=(zS x6)∧((aI prog (Instr.buildSlice 118 2 #[(0,(zS x2)),(1,(zS x6))]) w8 fun v8 w9=>∃ x7:Slc,v8=(zS x7)∧(sx w9∧((aD prog 78 [zS x7] w9 (aG R) fun v9 w10=>∃ x8:Slc,v9=(zS x8)∧(sx w10∧R (.returned (zS x8)) w10))∧True)))∧True))∧True)))∧True)))∧True))
theorem qZL (seed text:Slc) {w:World} {R:RW} (hden:jAA seed text w R):Calls prog 46 #[zS seed,zS text] w R:=
 aB (q0 .z (q0 .z (q0 (q0 .z (.cond (q0 .z .z) .z)) (q0 .z (q0 .z (q0 (.draw 1 (.take 0 (.take 1 (.take 2 (.take 4 (.take 6 (.take 7 (.take 8 (.take 10 (.take 9 (.all [(3,(.all [(5,(.all [(11,(.all [(12,(.all [(13,(.take 14 .done))]))]))]))]))]))))))))))) .z)))))) func46 (by kernel_rfl) [.sl seed,.sl text] (by kernel_rfl) (by kernel_rfl) hden
def qRY (s:Slc) (w:World) (R:RW):Prop:=
 aU prog (do eqGuard .eql 118 (.tmp 3) (.const (.slice none 0 0)) (zS s) (.slice none 0 0); binOp .eql 118 (zS s) (.slice none 0 0)) fun v=>∃ x:Bool,v=(.bool x)∧aH x (R (.returned (.slice none 0 0)) w) (aI prog (Instr.buildSlice 118 0 #[]) w fun v1 w1=>∃ x1:Slc,v1=(zS x1)∧aI prog (Builtin.append_ #[118,118] 118 #[zS x1,zS s]) w1 fun v2 w2=>∃ x2:Slc,v2=(zS x2)∧R (.returned (zS x2)) w2)
theorem qOC (s:Slc) {w:World} {R:RW} (hden:qRY s w R):Calls prog 125 #[zS s] w R:=
 aB (q0 .z (q0 (q0 .z (.cond (q0 .z .z) .z)) (q0 .z .z))) func125 (by kernel_rfl) [.sl s] (by kernel_rfl) (by kernel_rfl) hden
def qQR (s:Slc) (i:Int) (v:Slc) (w:World) (R:RW):Prop:=
 qDA 1 118 172 173 s i v w R
theorem qNJ (s:Slc) (i:Int) (v:Slc) {w:World} {R:RW} (hden:qQR s i v w R):Calls prog 124 #[zS s,.int .i64 i,zS v] w R:=
 aB (q0 .z (q0 .z (q0 .z (q0 (q0 .z (.cond (q0 .z .z) .z)) (q0 .z (q0 (q0 .z (.cond (q0 .z .z) .z)) (q0 (q0 .z (.cond (q0 .z (q0 .z (q0 (.draw 0 (.take 0 (.take 1 (.take 2 (.take 3 (.take 4 (.take 5 (.take 6 (.take 7 (.all [(8,.done)])))))))))) (q0 .z .z)))) .z)) (q0 .z (q0 (q0 .z (.cond (q0 (.draw 0 (.take 0 (.take 1 (.take 2 (.take 3 (.take 4 (.take 5 (.take 6 (.take 7 (.all [(8,.done)])))))))))) (q0 .z (q0 .z .z))) .z)) (q0 .z (q0 .z (q0 .z .z)))))))))))) func124 (by kernel_rfl) [.sl s,.i .i64 i,.sl v] (by kernel_rfl) (by kernel_rfl) hden
def jCG (slices:Slc) (w:World) (R:RW):Prop:=
 ∃ (inv:List TV→World→Prop) (mu:List TV→World→Nat),inv [.i .i64 (0:Int),.i .i64 (0:Int)] w∧(∀ size x:Int,∀ w1:World,inv [.i .i64 size,.i .i64 x] w1→aH (decide (x<(slices.len:Int))) (((0≤x∧x<(slices.len:Nat))∧aA slices.a fun a=>∃ x1:Slc,Rd w1 (a.add (x.toNat*1)) [zS x1]∧aH (decide ((IntKind.i64.wrap (size+(x1.len:Int)))<(0:Int))) ((aG R) [{v:=(.iface 9 (.string ⟨([108,101,110,32,111,117,116,32,111,102,32,114,97,110,103,101]).toArray⟩)),recovered:=false}] w1) ((inv [.i .i64 (IntKind.i64.wrap (size+(x1.len:Int))),.i .i64 (IntKind.i64.wrap (x+(1:Int)))] w1∧mu [.i .i64 (IntKind.i64.wrap (size+(x1.len:Int))),.i .i64 (IntKind.i64.wrap (x+(1:Int)))] w1<mu [.i .i64 size,.i .i64 x] w1)))) (aD prog 137 [.slice none 0 0,.int .i64 size] w1 (aG R) fun v w2=>∃ x2:Slc,v=(zS x2)∧∃ (inv1:List TV→World→Prop) (mu1:List TV→World→Nat),inv1 [.sl x2,.i .i64 (0:Int)] w2∧(∀ newslice:Slc,∀ x3:Int,∀ w3:World,inv1 [.sl newslice,.i .i64 x3] w3→aH (decide (x3<(slices.len:Int))) (((0≤x3∧x3<(slices.len:Nat))∧aA slices.a fun a1=>∃ x4:Slc,Rd w3 (a1.add (x3.toNat*1)) [zS x4]∧aI prog (Builtin.append_ #[28,28] 28 #[zS newslice,zS x4]) w3 fun v1 w4=>∃ x5:Slc,v1=(zS x5)∧(inv1 [.sl x5,.i .i64 (IntKind.i64.wrap (x3+(1:Int)))] w4∧mu1 [.sl x5,.i .i64 (IntKind.i64.wrap (x3+(1:Int)))] w4<mu1 [.sl newslice,.i .i64 x3] w3))) (R (.returned (zS newslice)) w3))))
theorem qWJ (slices:Slc) {w:World} {R:RW} (hden:jCG slices w R):Calls prog 78 #[zS slices] w R:=
 aB (q0 .z (q0 .z (q0 (q0 .z (.block none (.loop [(3,(.i .i64)),(11,(.i .i64))] (q0 .z (q0 (.cond .z .z) (q0 (.block none (q0 .z (q0 .z (q0 .z (.cond .z .z))))) .z)))))) (q0 .z (q0 (q0 .z (.block none (.loop [(6,.sl),(27,(.i .i64))] (q0 .z (q0 (.cond .z .z) (q0 (.block none (q0 .z .z)) .z)))))) (q0 .z .z)))))) func78 (by kernel_rfl) [.sl slices] (by kernel_rfl) (by kernel_rfl) hden
def qQA (s:Slc) (n:Int) (w:World) (R:RW):Prop:=
 ∃ j:List TV→World→Prop,(aH (decide (n<(0:Int))) ((aG R) [{v:=(.iface 9 (.string ⟨([99,97,110,110,111,116,32,98,101,32,110,101,103,97,116,105,118,101]).toArray⟩)),recovered:=false}] w) (j [] w))∧(∀ w1:World,j [] w1→aH (decide ((IntKind.i64.wrap (n - (IntKind.i64.wrap ((s.cap:Int) - (s.len:Int))))) > (0:Int))) (((0≤(s.cap:Int)∧(s.cap:Int)≤(s.cap:Nat))∧aI prog (Builtin.append_ #[28,3] 28 #[.slice (aF s 1 0 (((s.cap:Int)).toNat) s.cap).a (aF s 1 0 (((s.cap:Int)).toNat) s.cap).len (aF s 1 0 (((s.cap:Int)).toNat) s.cap).cap,.int .i64 (IntKind.i64.wrap (n - (IntKind.i64.wrap ((s.cap:Int) - (s.len:Int)))))]) w1 fun v w2=>∃ x:Slc,v=(zS x)∧((0≤(s.len:Int)∧(s.len:Int)≤(x.cap:Nat))∧R (.returned (.slice (aF x 1 0 (((s.len:Int)).toNat) x.cap).a (aF x 1 0 (((s.len:Int)).toNat) x.cap).len (aF x 1 0 (((s.len:Int)).toNat) x.cap).cap)) w2))) (R (.returned (zS s)) w1))
theorem qLR (s:Slc) (n:Int) {w:World} {R:RW} (hden:qQA s n w R):Calls prog 137 #[zS s,.int .i64 n] w R:=
 aB (q0 .z (.seq (some []) (q0 .z (.cond .z .z)) (q0 (q0 .z (q0 .z (.cond .z .z))) (q0 .z .z)))) func137 (by kernel_rfl) [.sl s,.i .i64 n] (by kernel_rfl) (by kernel_rfl) hden
def jEE (s:Slc) (w:World) (R:RW):Prop:=
 aU prog (do eqGuard .eql 27 (.tmp 3) (.const (.slice none 0 0)) (zS s) (.slice none 0 0); binOp .eql 27 (zS s) (.slice none 0 0)) fun v=>∃ x:Bool,v=(.bool x)∧aH x (R (.returned (.slice none 0 0)) w) (aI prog (Instr.buildSlice 27 0 #[]) w fun v1 w1=>∃ x1:Slc,v1=(zS x1)∧aI prog (Builtin.append_ #[27,27] 27 #[zS x1,zS s]) w1 fun v2 w2=>∃ x2:Slc,v2=(zS x2)∧R (.returned (zS x2)) w2)
theorem qXS (s:Slc) {w:World} {R:RW} (hden:jEE s w R):Calls prog 72 #[zS s] w R:=
 aB (q0 .z (q0 (q0 .z (.cond (q0 .z .z) .z)) (q0 .z .z))) func72 (by kernel_rfl) [.sl s] (by kernel_rfl) (by kernel_rfl) hden
section
variable {w w0:World}
theorem zO {Z:Nat→Prop} {L:List (Nat×Nat×Bool)} {g:FuncId} {args:List Value} {pan:List PanicEntry→World→Prop} {K:Slc→World→Prop} (hc:Calls prog g args.toArray w (Ret (R32 w))) (h:J Z w0 L w) (hK : ∀ b l w',l.length=32→Blk w' b (bys l) 5→w.heap.size≤b→J Z w0 L w'→Mod NoB w w'→K ⟨some ⟨b,0,none⟩,32,32⟩ w') :
 aD prog g args w pan fun v w'=>∃ x:Slc,v = .slice x.a x.len x.cap∧K x w':=
 aC hc fun v w' ⟨b,l,hv,h1,h2,h3,hm⟩=>⟨⟨some ⟨b,0,none⟩,32,32⟩,hv,hK b l w' h1 h2 h3 (h.mod hm) hm⟩
theorem qVW {w1 w':World} {b:Nat} {l:List UInt8} (hb:Blk w1 b (bys l) 5) (hl:l.length=32) (hm:Mod NoB w1 w') {K:UInt8→Prop} (hK : ∀ x,K x) : ∃ x:UInt8,Rd w' ((⟨b,0,none⟩:Addr).add ((31:Int).toNat*1)) [.int .u8 x.toNat]∧K x:=
 ⟨l[31]'(by omega),rda (n:=31) (hb.no hm) (qG (by omega)),hK _⟩
theorem qVL {w1 w' wx:World} {b:Nat} {l:List UInt8} {y:UInt8} (hb:Blk w1 b (bys l) 5) (hl:l.length=32) (hm:Mod NoB w1 w') (hw:Mod NoB w w') (hs:wx.heap.size≤b) (hx:Mod NoB w wx):aJ prog (storeVar 5 ((⟨b,0,none⟩:Addr).add ((31:Int).toNat*1)) (.int .u8 y.toNat)) w' fun w''=>R32 w (.slice (some ⟨b,0,none⟩) 32 32) w'':=
 iK (b:=b) (n:=31) (by kernel_rfl) (by kernel_rfl) rfl (hb.no hm) (by simp [bys,hl]) fun w'' ht hb'=>by
  rw [fP] at hb'
  exact ⟨b,_,rfl,by simp [hl],hb',Nat.le_trans hx.size hs,hw.fresh ht.mod fun x e=>by subst e; exact Nat.le_trans hx.size hs⟩
theorem jES {w1 w' wx:World} {b:Nat} {l:List UInt8} (hb:Blk w1 b (bys l) 5) (hl:l.length=32) (hs:wx.heap.size≤b) (hm:Mod NoB w1 w') (hw:Mod NoB w w') (hx:Mod NoB w wx):R32 w (.slice (some ⟨b,0,none⟩) 32 32) w':=⟨b,l,rfl,hl,hb.no hm,Nat.le_trans hx.size hs,hw⟩
theorem qHN {x0 x1 x2 x3 x4 x5 x6 x7 x8 x9 x10 x11 x12 x13 x14 x15 x16 x17 x18 x19:UInt64} : Calls prog 75 #[e20 x0 x1 x2 x3 x4 x5 x6 x7 x8 x9 x10 x11 x12 x13 x14 x15 x16 x17 x18 x19] w (Ret (R32 w)):=by
 refine qYM _ _ _ _ _ _ _ _ _ _ _ _ _ _ _ _ _ _ _ _ ?_
 unfold jBZ
 have hJ0:=J.start w
 repeat' (first | (refine bU (by first | exact zi5 | exact zi2 | exact mI | exact kJ) (by assumption) fun p w' hJ hM=>?_) | (refine iQ (by assumption) (by (try simp only [aK,add0,Nat.zero_add]); rfl) (by (repeat first | exact List.mem_cons_self | assumption | apply List.mem_cons_of_mem); first | done | fail) (by first | omega | (simp only []; omega)) fun a b c d e=>?_) | (refine iW (by assumption) (by (try simp only [aK,add0,Nat.zero_add]); rfl) (by (repeat first | exact List.mem_cons_self | assumption | apply List.mem_cons_of_mem); first | done | fail) (by kernel_rfl) (by kernel_rfl) (by omega) fun w' hJ hT=>?_) | (refine cG qV (by assumption) fun a b c d e w' hJ hM=>?_) | (refine cG qHZ (by assumption) fun a b c d e w' hJ hM=>?_) | (refine qBF qQB (by assumption) fun t w' hJ hM=>?_) | (refine yZ (by assumption) fun p w' hJ hM=>?_) | (refine zO qUP (by assumption) fun b l w' hl hb hs hJ hM=>?_) | (refine qVW (by assumption) (by assumption) (by first | assumption | exact Mod.refl _ _ | ((first | refine Mod.tr ?_ (by assumption) | refine Mod.fresh ?_ (by assumption) (by rintro x rfl; assumption)); first | assumption | exact Mod.refl _ _ | ((first | refine Mod.tr ?_ (by assumption) | refine Mod.fresh ?_ (by assumption) (by rintro x rfl; assumption)); first | assumption | exact Mod.refl _ _ | ((first | refine Mod.tr ?_ (by assumption) | refine Mod.fresh ?_ (by assumption) (by rintro x rfl; assumption)); first | assumption | exact Mod.refl _ _ | ((first | refine Mod.tr ?_ (by assumption) | refine Mod.fresh ?_ (by assumption) (by rintro x rfl; assumption)); first | assumption | exact Mod.refl _ _ | ((first | refine Mod.tr ?_ (by assumption) | refine Mod.fresh ?_ (by assumption) (by rintro x rfl; assumption)); first | assumption | exact Mod.refl _ _ | ((first | refine Mod.tr ?_ (by assumption) | refine Mod.fresh ?_ (by assumption) (by rintro x rfl; assumption)); first | assumption | exact Mod.refl _ _ | ((first | refine Mod.tr ?_ (by assumption) | refine Mod.fresh ?_ (by assumption) (by rintro x rfl; assumption)); first | assumption | exact Mod.refl _ _ | ((first | refine Mod.tr ?_ (by assumption) | refine Mod.fresh ?_ (by assumption) (by rintro x rfl; assumption)); first | assumption | exact Mod.refl _ _ | ((first | refine Mod.tr ?_ (by assumption) | refine Mod.fresh ?_ (by assumption) (by rintro x rfl; assumption)); first | assumption | exact Mod.refl _ _ | ((first | refine Mod.tr ?_ (by assumption) | refine Mod.fresh ?_ (by assumption) (by rintro x rfl; assumption)); first | assumption | exact Mod.refl _ _ | ((first | refine Mod.tr ?_ (by assumption) | refine Mod.fresh ?_ (by assumption) (by rintro x rfl; assumption)); first | assumption | exact Mod.refl _ _ | ((first | refine Mod.tr ?_ (by assumption) | refine Mod.fresh ?_ (by assumption) (by rintro x rfl; assumption)); first | assumption | exact Mod.refl _ _ | ((first | refine Mod.tr ?_ (by assumption) | refine Mod.fresh ?_ (by assumption) (by rintro x rfl; assumption)); first | assumption | exact Mod.refl _ _ | ((first | refine Mod.tr ?_ (by assumption) | refine Mod.fresh ?_ (by assumption) (by rintro x rfl; assumption)); first | assumption | exact Mod.refl _ _))))))))))))))) fun x=>?_) | exact qVL (by assumption) (by assumption) (by first | assumption | exact Mod.refl _ _ | ((first | refine Mod.tr ?_ (by assumption) | refine Mod.fresh ?_ (by assumption) (by rintro x rfl; assumption)); first | assumption | exact Mod.refl _ _ | ((first | refine Mod.tr ?_ (by assumption) | refine Mod.fresh ?_ (by assumption) (by rintro x rfl; assumption)); first | assumption | exact Mod.refl _ _ | ((first | refine Mod.tr ?_ (by assumption) | refine Mod.fresh ?_ (by assumption) (by rintro x rfl; assumption)); first | assumption | exact Mod.refl _ _ | ((first | refine Mod.tr ?_ (by assumption) | refine Mod.fresh ?_ (by assumption) (by rintro x rfl; assumption)); first | assumption | exact Mod.refl _ _ | ((first | refine Mod.tr ?_ (by assumption) | refine Mod.fresh ?_ (by assumption) (by rintro x rfl; assumption)); first | assumption | exact Mod.refl _ _ | ((first | refine Mod.tr ?_ (by assumption) | refine Mod.fresh ?_ (by assumption) (by rintro x rfl; assumption)); first | assumption | exact Mod.refl _ _ | ((first | refine Mod.tr ?_ (by assumption) | refine Mod.fresh ?_ (by assumption) (by rintro x rfl; assumption)); first | assumption | exact Mod.refl _ _ | ((first | refine Mod.tr ?_ (by assumption) | refine Mod.fresh ?_ (by assumption) (by rintro x rfl; assumption)); first | assumption | exact Mod.refl _ _ | ((first | refine Mod.tr ?_ (by assumption) | refine Mod.fresh ?_ (by assumption) (by rintro x rfl; assumption)); first | assumption | exact Mod.refl _ _ | ((first | refine Mod.tr ?_ (by assumption) | refine Mod.fresh ?_ (by assumption) (by rintro x rfl; assumption)); first | assumption | exact Mod.refl _ _ | ((first | refine Mod.tr ?_ (by assumption) | refine Mod.fresh ?_ (by assumption) (by rintro x rfl; assumption)); first | assumption | exact Mod.refl _ _ | ((first | refine Mod.tr ?_ (by assumption) | refine Mod.fresh ?_ (by assumption) (by rintro x rfl; assumption)); first | assumption | exact Mod.refl _ _ | ((first | refine Mod.tr ?_ (by assumption) | refine Mod.fresh ?_ (by assumption) (by rintro x rfl; assumption)); first | assumption | exact Mod.refl _ _ | ((first | refine Mod.tr ?_ (by assumption) | refine Mod.fresh ?_ (by assumption) (by rintro x rfl; assumption)); first | assumption | exact Mod.refl _ _))))))))))))))) (J.m (by assumption)) (by assumption) (J.m (by assumption)) | exact jES (by assumption) (by assumption) (by assumption) (by first | assumption | exact Mod.refl _ _ | ((first | refine Mod.tr ?_ (by assumption) | refine Mod.fresh ?_ (by assumption) (by rintro x rfl; assumption)); first | assumption | exact Mod.refl _ _ | ((first | refine Mod.tr ?_ (by assumption) | refine Mod.fresh ?_ (by assumption) (by rintro x rfl; assumption)); first | assumption | exact Mod.refl _ _ | ((first | refine Mod.tr ?_ (by assumption) | refine Mod.fresh ?_ (by assumption) (by rintro x rfl; assumption)); first | assumption | exact Mod.refl _ _ | ((first | refine Mod.tr ?_ (by assumption) | refine Mod.fresh ?_ (by assumption) (by rintro x rfl; assumption)); first | assumption | exact Mod.refl _ _ | ((first | refine Mod.tr ?_ (by assumption) | refine Mod.fresh ?_ (by assumption) (by rintro x rfl; assumption)); first | assumption | exact Mod.refl _ _ | ((first | refine Mod.tr ?_ (by assumption) | refine Mod.fresh ?_ (by assumption) (by rintro x rfl; assumption)); first | assumption | exact Mod.refl _ _ | ((first | refine Mod.tr ?_ (by assumption) | refine Mod.fresh ?_ (by assumption) (by rintro x rfl; assumption)); first | assumption | exact Mod.refl _ _ | ((first | refine Mod.tr ?_ (by assumption) | refine Mod.fresh ?_ (by assumption) (by rintro x rfl; assumption)); first | assumption | exact Mod.refl _ _ | ((first | refine Mod.tr ?_ (by assumption) | refine Mod.fresh ?_ (by assumption) (by rintro x rfl; assumption)); first | assumption | exact Mod.refl _ _ | ((first | refine Mod.tr ?_ (by assumption) | refine Mod.fresh ?_ (by assumption) (by rintro x rfl; assumption)); first | assumption | exact Mod.refl _ _ | ((first | refine Mod.tr ?_ (by assumption) | refine Mod.fresh ?_ (by assumption) (by rintro x rfl; assumption)); first | assumption | exact Mod.refl _ _ | ((first | refine Mod.tr ?_ (by assumption) | refine Mod.fresh ?_ (by assumption) (by rintro x rfl; assumption)); first | assumption | exact Mod.refl _ _ | ((first | refine Mod.tr ?_ (by assumption) | refine Mod.fresh ?_ (by assumption) (by rintro x rfl; assumption)); first | assumption | exact Mod.refl _ _ | ((first | refine Mod.tr ?_ (by assumption) | refine Mod.fresh ?_ (by assumption) (by rintro x rfl; assumption)); first | assumption | exact Mod.refl _ _))))))))))))))) (J.m (by assumption)) (J.m (by assumption)) | (refine aE (fun hb=>?_) fun hb=>?_ <;> try simp at hb) | (refine And.intro (by first | omega | (simp only []; omega)) ?_))
theorem qVQ {x:Slc} {l:List UInt8} (hx:aL w x 1 (bys l)) (hg:TR w (2,5)):Calls prog 136 #[.slice x.a x.len x.cap] w (Ret (RPB w)):=by
 refine qNA _ ?_
 unfold qQV
 have hJ0:J NoB w [(2,5,false)] w:=⟨Mod.refl _ _,fun q hq=>by simp at hq; subst hq; exact ⟨fun h=>(by cases h),hg⟩⟩
 have hl:=aW hx
 refine bU kJ hJ0 fun p w1 hJ1 hM1=>?_
 refine aE (fun _=>?_) fun hb=>?_
 ·refine nA (x0:=0) (x1:=0) (x2:=0) (x3:=0) (x4:=0) (x5:=0) (x6:=0) (x7:=0) (x8:=0) (x9:=0) (x10:=0) (x11:=0) (x12:=0) (x13:=0) (x14:=0) (x15:=0) (x16:=0) (x17:=0) (x18:=0) (x19:=0) hJ1 (o:=0) rfl List.mem_cons_self (by kernel_rfl) (by kernel_rfl) (by omega) fun w' hJ hT=>?_
  repeat' (first | (refine pD (by assumption) (by (try simp only [aK,add0,Nat.zero_add]); rfl) (by (repeat first | exact List.mem_cons_self | assumption | apply List.mem_cons_of_mem); first | done | fail) (by omega) fun x0 x1 x2 x3 x4 x5 x6 x7 x8 x9 x10 x11 x12 x13 x14 x15 x16 x17 x18 x19=>?_) | exact ⟨_,_,_,_,_,_,_,_,_,_,_,_,_,_,_,_,_,_,_,_,_,rfl,J.m (by assumption)⟩)
 ·have hb:x.len=32:=by have:=hb; simp at this; omega
  refine aC (tQ (hx.no hM1) (by omega)) ?_
  rintro v w2 ⟨y,rfl,ho,hf,hm2⟩
  have hJ2:=hJ1.mod hm2
  have hyl:=aW ho.rd
  refine ⟨y,rfl,⟨by omega,by omega⟩,?_⟩
  obtain ⟨ya,yl,yc⟩:=y
  simp only [] at hyl
  obtain ⟨A,hA,hr⟩:=gU ho.rd (i:=31) (by omega)
  simp only [] at hA
  subst hA
  refine ⟨_,hr,⟨by omega,by show (31:Int)<(yl:Int); omega⟩,_,hr,⟨by omega,by show (31:Int)<(yl:Int); omega⟩,?_⟩
  have hyn : ∀ z,Slc.blk ⟨some A,yl,yc⟩=some z→w1.heap.size≤z:=fun z hz=>by
   rcases hf with hf | ⟨u,hu,hu'⟩
   ·rw [hf] at hz; cases hz
   ·rw [hu] at hz; cases hz; exact hu'
  refine iZ (by kernel_rfl) (by kernel_rfl) rfl ho rfl (i:=31) (by show 31<yl; omega) fun w3 ho3 hm3 hsz3=>?_
  rw [fP] at ho3
  have hJ3:J NoB w [(p,20,true),(2,5,false)] w3:=hJ2.other hm3 (fun z hz=>Nat.le_trans hM1.size (hyn z hz)) fun q hq hz=>by
   have h1:=hyn _ hz
   have h2:=(hJ1.2 q hq).2.1
   simp only [] at h2; omega
  refine qSX (jEY ho3.rd) hJ3 fun a b c d e t w4 hJ4 hM4=>?_
  repeat' (first | (refine bU (by first | exact zi5 | exact zi2 | exact mI | exact kJ) (by assumption) fun p w' hJ hM=>?_) | (refine iQ (by assumption) (by (try simp only [aK,add0,Nat.zero_add]); rfl) (by (repeat first | exact List.mem_cons_self | assumption | apply List.mem_cons_of_mem); first | done | fail) (by first | omega | (simp only []; omega)) fun a b c d e=>?_) | (refine nE (by assumption) (by (try simp only [aK,add0,Nat.zero_add]); rfl) (by (repeat first | exact List.mem_cons_self | assumption | apply List.mem_cons_of_mem); first | done | fail) (by first | omega | (simp only []; omega)) fun a b c d e=>?_) | (refine iW (by assumption) (by (try simp only [aK,add0,Nat.zero_add]); rfl) (by (repeat first | exact List.mem_cons_self | assumption | apply List.mem_cons_of_mem); first | done | fail) (by kernel_rfl) (by kernel_rfl) (by omega) fun w' hJ hT=>?_) | (refine cG qV (by assumption) fun a b c d e w' hJ hM=>?_) | (refine cG nI (by assumption) fun a b c d e w' hJ hM=>?_) | (refine cG qEH (by assumption) fun a b c d e w' hJ hM=>?_) | (refine cG qAJ (by assumption) fun a b c d e w' hJ hM=>?_) | (refine cG qFA (by assumption) fun a b c d e w' hJ hM=>?_) | (refine cG qIM (by assumption) fun a b c d e w' hJ hM=>?_) | (refine qBF qUN (by assumption) fun t w' hJ hM=>?_) | (refine pD (by assumption) (by (try simp only [aK,add0,Nat.zero_add]); rfl) (by (repeat first | exact List.mem_cons_self | assumption | apply List.mem_cons_of_mem); first | done | fail) (by omega) fun x0 x1 x2 x3 x4 x5 x6 x7 x8 x9 x10 x11 x12 x13 x14 x15 x16 x17 x18 x19=>?_) | (refine nA (by assumption) (by (try simp only [aK,add0,Nat.zero_add]); rfl) (by (repeat first | exact List.mem_cons_self | assumption | apply List.mem_cons_of_mem); first | done | fail) (by kernel_rfl) (by kernel_rfl) (by omega) fun w' hJ hT=>?_) | exact ⟨_,_,_,_,_,_,_,_,_,_,_,_,_,_,_,_,_,_,_,_,_,rfl,J.m (by assumption)⟩ | (refine qSX qXJ (by assumption) fun a b c d e t w' hJ hM=>?_) | (refine aE (fun hb=>?_) fun hb=>?_ <;> try simp at hb) | (refine And.intro ?_ trivial) | (refine And.intro (by first | omega | (simp only []; omega)) ?_) | (refine dN (by assumption) fun hJ=>?_) | (refine And.intro (by (repeat first | assumption | exact Mod.refl _ _ | refine Mod.tr ?_ (by assumption) | refine Mod.fresh ?_ (by assumption) (by rintro x rfl; assumption)); first | done | fail) ?_) | assumption | (simp (disch:=omega) only [wrap_i64]) | (refine jCE (by assumption) ?_ fun b t w' hJ=>?_) | exact ⟨_,rfl,J.sub (by assumption) (by intro q hq; first | ((repeat first | exact hq | apply List.mem_cons_of_mem); first | done | fail) | (rcases List.mem_cons.1 hq with rfl | hq; (first | exact List.mem_cons_self | (apply List.mem_cons_of_mem; exact List.mem_cons_self)); ((repeat first | exact hq | apply List.mem_cons_of_mem); first | done | fail)))⟩ | (refine qEW (by assumption) ?_ ?_) | (refine fun (w:World) (hJ:J _ _ _ w)=>?_) | (refine fun (_:Bool) (w:World) (hJ:J _ _ _ w)=>?_) | (refine And.intro ?_ ?_))
end
section
variable {w w0:World}
theorem qXQ:Calls prog 189 #[.int .u64 (UInt64.toNat (aN (1:Nat))),.int .u64 (UInt64.toNat (aN 32))] w (Ret fun v w'=>v = .tuple #[.int .u64 ((0:UInt64)).toNat,.int .u64 ((32:UInt64)).toNat]∧w'=w):=by
 refine qKL _ _ ?_
 unfold qPX
 refine aC (Q:=fun v w'=>v = .tuple #[.int .u64 ((0:UInt64)).toNat,.int .u64 ((32:UInt64)).toNat]∧w'=w) ?_ ?_
 ·refine qCA _ _ ?_
  unfold qIJ
  refine ⟨Int.natCast_nonneg _,Int.natCast_nonneg _,Int.natCast_nonneg _,Int.natCast_nonneg _,Int.natCast_nonneg _,?_,rfl⟩
  rfl
 ·rintro v w' ⟨rfl,rfl⟩
  exact ⟨_,_,rfl,rfl,rfl⟩
theorem qAK {l m:List UInt8} {o:Nat} : putAt (bys l) o (bys m)=bys (l.take o++m++l.drop (o+m.length)):=by simp [putAt,bys,List.map_take,List.map_drop]
theorem qIU {x:Slc} {c:UInt8} (hx:aL w x 1 (bys [c])) (hxl : ∀ z,x.blk=some z→z<w.heap.size):Calls prog 135 #[.slice x.a x.len x.cap,.int .i64 32] w (Ret (R32 w)):=by
 refine qMT _ _ ?_
 unfold qQL
 obtain ⟨i5',h51,h52,h53,h54⟩:=i5
 have hl:x.len=1:=by have:=aW hx; simpa using this.symm
 obtain ⟨xa,xl,xc⟩:=x
 simp only [] at hl
 subst hl
 refine ⟨fun l w'=>w'=w,aE (fun h=>by simp at h) fun _=>rfl,?_⟩
 rintro w1 rfl
 refine aC qXQ ?_
 rintro v w2 ⟨rfl,rfl⟩
 refine ⟨_,_,rfl,fun l w'=>w'=w2,aE (fun h=>absurd h (by decide)) fun _=>aE (fun h=>absurd h (by decide)) fun _=>rfl,?_⟩
 rintro w3 rfl
 have e32:IntKind.i64.wrap (((32:UInt64)).toNat:Int)=((32:Nat):Int):=by decide
 rw [e32]
 refine cH u26 h51 h52 h53 rfl h54 (l:=32) (c:=32) rfl rfl (by omega) (by omega) (by omega) fun q w4 hN hb ho=>⟨⟨some ⟨q,0,none⟩,32,32⟩,rfl,?_⟩
 rw [jW] at hb
 have hqs:=hN.at_
 have hx4:=hx.no hN.mod
 refine nJ (d:=⟨some ⟨q,0,none⟩,32,32⟩) (o:=0) u26 h51 h53 rfl hb (by simp [bys]) hx4 (fM _) fun w5 hb5 hm5 hsz5=>⟨_,rfl,?_⟩
 have ey:(bys [c]).take (min 1 32*1)=bys [c]:=rfl
 have ey':(bys [c]).take (min (Slc.len ⟨xa,1,xc⟩) (Slc.len ⟨some ⟨q,0,none⟩,32,32⟩)*1)=bys [c]:=rfl
 rw [ey',qAK] at hb5
 refine ⟨fun l' w'=>match l' with | [.i _ x]=>∃ n:Nat,x=(n:Int)∧1≤n∧n≤32∧∃ l,l.length=32∧Blk w' q (bys l) 5∧Mod (fun y=>y=q) w4 w' | _=>False,fun l' _=>match l' with | [.i _ x]=>(32 - x).toNat | _=>0,
  ⟨1,rfl,by omega,by omega,_,by simp,hb5,hm5⟩,?_⟩
 rintro i w6 ⟨n,rfl,h1,h2,l,hl,hbl,hm⟩
 refine aE (fun hlt=>?_) fun _=>⟨q,l,rfl,hl,hbl,by omega,hN.mod.fresh hm fun y e=>by omega⟩
 have hlt:n<32:=by have:=hlt; simp at this; omega
 refine ⟨⟨by omega,by show (n:Int)≤((32:Nat):Int); omega⟩,⟨by omega,by show (n:Int)≤((32:Nat):Int); omega⟩,?_,trivial⟩
 have ec:aF ⟨some ⟨q,0,none⟩,32,32⟩ 1 n 32 32=⟨some ⟨q,n,none⟩,32 - n,32 - n⟩:=by unfold aF; rw [if_neg (by omega)]; simp
 have ec0:aF ⟨some ⟨q,0,none⟩,32,32⟩ 1 0 n 32=⟨some ⟨q,0,none⟩,n,32⟩:=by unfold aF; rw [if_neg (by omega)]; simp
 simp only [Int.toNat_natCast,ec,ec0]
 have hrd:aL w6.drew ⟨some ⟨q,0,none⟩,n,32⟩ 1 (bys (l.take n)):=⟨by simp [bys]; omega,by simp only []; omega,.inr ⟨_,rfl,hbl.drew.rd fun j v hj=>by
  simp only [bys,List.getElem?_map,List.getElem?_take,Nat.zero_add] at hj ⊢
  split at hj
  ·exact hj
  ·cases hj⟩⟩
 refine nJ (d:=⟨some ⟨q,n,none⟩,32 - n,32 - n⟩) (o:=n) u26 h51 h53 rfl hbl.drew (by simp [bys]; omega) hrd (fM _) fun w7 hb7 hm7 hsz7=>⟨_,rfl,?_⟩
 have e1:IntKind.i64.wrap ((n:Int)+((min n (32 - n):Nat):Int))=((n+min n (32 - n):Nat):Int):=by rw [wrap_i64 (by omega)]; omega
 show (∃ m:Nat,IntKind.i64.wrap ((n:Int)+((min n (32 - n):Nat):Int))=(m:Int)∧_)∧(32 - IntKind.i64.wrap ((n:Int)+((min n (32 - n):Nat):Int))).toNat<_
 have et:(bys (l.take n)).take (min n (32 - n)*1)=bys ((l.take n).take (min n (32 - n))):=by simp [bys,List.map_take]
 rw [e1]
 simp only [] at hb7
 rw [et,qAK] at hb7
 exact ⟨⟨_,rfl,by omega,by omega,_,by simp; omega,hb7,(hm.tr (Mod.drew _ _)).tr hm7⟩,by omega⟩
theorem qEV (hg:TR w (2,5)):Calls prog 77 #[] w (Ret (RP w)):=by
 refine qZW ?_
 unfold jAB
 have hJ0:J NoB w [(2,5,false)] w:=⟨Mod.refl _ _,fun q hq=>by simp at hq; subst hq; exact ⟨fun h=>(by cases h),hg⟩⟩
 refine bU kJ hJ0 fun p w1 hJ1 hM1=>?_
 refine gJ [102] rfl rfl (by omega) (by omega) fun x b w2 hN2 ex hb2 ho2=>⟨x,rfl,?_⟩
 have hJ2:=hJ1.mod hN2.mod
 refine zO (qIU ho2.rd fun z hz=>by subst ex; rw [Slc.blk_mk] at hz; simp at hz; subst hz; exact hb2.lt) hJ2 fun b' l w3 hl hb3 hs hJ3 hM3=>?_
 refine ⟨⟨by omega,by show (0:Int)<((32:Nat):Int); omega⟩,?_⟩
 refine iK (b:=b') (n:=0) (by kernel_rfl) (by kernel_rfl) rfl hb3 (by simp [bys,hl]) fun w4 ht hb4=>?_
 rw [fP] at hb4
 have hJ4:J NoB w [(p,20,true),(2,5,false)] w4:=hJ3.other ht.mod (fun z e=>by subst e; exact Nat.le_trans hJ2.m.size hs) fun q hq e=>by
  have h2:=(hJ2.2 q hq).2.1
  simp only [] at h2; omega
 refine qXK (qVQ (aX (n:=32) (k:=1) hb4 (by simp [bys,hl])).rd (hJ4.tr (f:=false) (List.mem_cons_of_mem _ List.mem_cons_self))) hJ4 fun x0 x1 x2 x3 x4 x5 x6 x7 x8 x9 x10 x11 x12 x13 x14 x15 x16 x17 x18 x19 t w5 hJ5 hM5=>?_
 repeat' (first | (refine bU (by first | exact zi5 | exact zi2 | exact mI | exact kJ) (by assumption) fun p w' hJ hM=>?_) | (refine pD (by assumption) (by (try simp only [aK,add0,Nat.zero_add]); rfl) (by (repeat first | exact List.mem_cons_self | assumption | apply List.mem_cons_of_mem); first | done | fail) (by omega) fun x0 x1 x2 x3 x4 x5 x6 x7 x8 x9 x10 x11 x12 x13 x14 x15 x16 x17 x18 x19=>?_) | (refine nA (by assumption) (by (try simp only [aK,add0,Nat.zero_add]); rfl) (by (repeat first | exact List.mem_cons_self | assumption | apply List.mem_cons_of_mem); first | done | fail) (by kernel_rfl) (by kernel_rfl) (by omega) fun w' hJ hT=>?_) | exact ⟨_,_,_,_,_,_,_,_,_,_,_,_,_,_,_,_,_,_,_,_,rfl,J.m (by assumption)⟩)
theorem qET {s:Slc} : Calls prog 131 #[.slice s.a s.len s.cap] w (Ret fun v w'=>∃ p,v = .func (.func 181) #[] #[.pointer (some ⟨p,0,none⟩)]∧(∃ T,Blk w' p [s.val] T)∧w.heap.size≤p∧Mod NoB w w'):=by
 refine qPJ _ ?_
 unfold qRF
 refine aT (l:=[s.val]) rfl fun p w1 hN1 hb1=>⟨_,rfl,?_⟩
 have h1:=hN1.at_
 exact ⟨p,rfl,⟨_,hb1⟩,by omega,hN1.mod⟩
theorem qLZ {ll p:Nat} {s:Slc} {l:List Bool} {I:Nat→World→Prop} (hl:l.length=s.len) (hn:l.length≤1000000000000000) (hp : ∃ T,Blk w p [s.val] T) (h0:I l.length w)
 (hI : ∀ k w1,k<l.length→I (k+1) w1→Rd w1 ⟨p,0,none⟩ [s.val]∧aL w1 s 1 (bls l)∧∀ h:k<l.length,fF prog ll [.int .i64 k,.bool l[k]] w1 fun v w2=>v = .bool true∧I k w2) :
 Calls prog 181 #[.func (.yield ll) #[] #[],.pointer (some ⟨p,0,none⟩)] w (Ret fun v w'=>v = .tuple #[]∧I 0 w'):=by
 refine qPF _ _ ?_
 unfold qSP
 obtain ⟨T,hp⟩:=hp
 refine ⟨s,hp.rd1 rfl,?_⟩
 refine ⟨fun l' w'=>match l' with | [.i _ x]=>∃ k:Nat,x=(k:Int) - 1∧k≤l.length∧I k w' | _=>False,fun l' _=>match l' with | [.i _ x]=>(x+1).toNat | _=>0,⟨l.length,by rw [wrap_i64 (by omega),hl],by omega,h0⟩,?_⟩
 rintro i w1 ⟨k,rfl,hk,hI1⟩
 refine aE (fun hge=>?_) fun hlt=>?_
 ·have hk0:0<k:=by simp at hge; omega
  obtain ⟨hr1,hr2,hy⟩:=hI (k - 1) w1 (by omega) (by rw [Nat.sub_add_cancel hk0]; exact hI1)
  obtain ⟨a,ea,hra⟩:=qOZ hr2 (i:=k - 1) (by omega)
  have e1:((k:Int) - 1)=((k - 1:Nat):Int):=by omega
  rw [e1]
  refine ⟨s,hr1,⟨by omega,by omega⟩,?_⟩
  rw [ea]
  refine ⟨_,hra,?_⟩
  show fF _ _ _ _ _
  obtain ⟨f,tmps,assign,body,g1,g2⟩:=hy (by omega)
  refine ⟨f,tmps,assign,body,g1,RoundIn.mono g2 fun e w2 he=>?_⟩
  obtain ⟨v,rfl,rfl,hI2⟩:=he
  refine ⟨_,rfl,true,rfl,?_⟩
  refine aE (fun e=>by cases e) fun _=>⟨⟨k - 1,by rw [wrap_i64 (by omega)],by omega,hI2⟩,?_⟩
  rw [wrap_i64 (by omega)]; (try simp only []); omega
 ·have:k=0:=by simp at hlt; omega
  subst this
  exact ⟨rfl,hI1⟩
theorem wT {Z:Nat→Prop} {w':World} {L:List (Nat×Nat×Bool)} {b:Nat} (h:J Z w0 L w) (hm:Mod (fun x=>x=b) w w') (h1:w0.heap.size≤b) (h2 : ∀ q∈L,q.1≠b):J Z w0 L w':=h.other hm (fun x e=>by subst e; exact h1) fun q hq e=>h2 q hq e
theorem qGR {a:Slc} {l:List UInt8} {x0 x1 x2 x3 x4 x5 x6 x7 x8 x9 x10 x11 x12 x13 x14 x15 x16 x17 x18 x19:UInt64} (ha:aL w a 1 (bys l)) (hal : ∀ x,a.blk=some x→x<w.heap.size) (hg:TR w (1,5)):Calls prog 76 #[.slice a.a a.len a.cap,e20 x0 x1 x2 x3 x4 x5 x6 x7 x8 x9 x10 x11 x12 x13 x14 x15 x16 x17 x18 x19] w (Ret (RP w)):=by
 refine qYK _ _ _ _ _ _ _ _ _ _ _ _ _ _ _ _ _ _ _ _ _ ?_
 unfold jEA
 have hJ0:J NoB w [(1,5,false)] w:=⟨Mod.refl _ _,fun q hq=>by simp at hq; subst hq; exact ⟨fun h=>(by cases h),hg⟩⟩
 refine yZ hJ0 fun p w1 hJ1 hM1=>?_
 refine bU kJ hJ1 fun x w2 hJ2 hM2=>?_
 refine qHO qOB hJ2 fun x0 x1 x2 x3 x4 x5 x6 x7 x8 x9 x10 x11 x12 x13 x14 x15 x16 x17 x18 x19 w3 hJ3 hM3=>?_
 refine bU jAS hJ3 fun s w4 hJ4 hM4=>?_
 refine nA hJ4 (o:=0) rfl List.mem_cons_self (by kernel_rfl) (by kernel_rfl) (by omega) fun w5 hJ5 hT5=>?_
 refine aC (qOJ (ha.mod hJ5.m fun _ _ h=>h) fun z hz=>Nat.lt_of_lt_of_le (hal z hz) hJ5.m.size) ?_
 rintro v w6 ⟨y,rfl,hoy,hfy,hm6⟩
 have hJ6:=hJ5.mod hm6
 refine ⟨y,rfl,?_⟩
 refine aC qET ?_
 rintro v w7 ⟨pb,rfl,⟨T,hpb⟩,hps,hm7⟩
 have hJ7:=hJ6.mod hm7
 refine ⟨_,rfl,181,#[],#[.pointer (some ⟨pb,0,none⟩)],rfl,by kernel_rfl,?_⟩
 rintro rec dd ll w8 hdd hll hw8 hY
 have hM8:Mod NoB w7 w8:=by rw [hw8]; exact (dE _ _).tr (dE _ _)
 have hsz8:w8.heap.size=ll+1:=by rw [hw8]; simp; omega
 have hld8:w8.heap[ll]? = some (rec .ready none):=by
  rw [hw8,hll,hdd]
  have:=heap_alloc_new (w7.alloc (.deferred (some []))) (rec .ready none)
  simpa using this
 have hdd8:w8.heap[dd]? = some (.deferred (some [])):=by
  rw [hw8,hdd,heap_alloc_old _ _ (by simp)]
  exact heap_alloc_new _ _
 have hJ8:=hJ7.mod hM8
 have hs7:=hJ7.m.size
 have hlt7 : ∀ q∈[(s,20,true),(x,20,true),(p,20,true),(1,5,false)],q.1<w7.heap.size:=fun q hq=>(hJ7.2 q hq).2.1
 have hls:s≠ll∧s≠dd:=by have:=hlt7 _ List.mem_cons_self; simp only [] at this; omega
 have hl1 : ∀ q∈[(s,20,true),(x,20,true),(p,20,true),(1,5,false)],q.1≠ll:=fun q hq=>by have:=hlt7 q hq; omega
 have hl2 : ∀ q∈[(s,20,true),(x,20,true),(p,20,true),(1,5,false)],q.1≠dd:=fun q hq=>by have:=hlt7 q hq; omega
 have hyl:=qAC hoy.rd
 have hy7:aL w7 y 1 (bls (nB l)):=(hoy.no hm7).rd
 have hsb : ∀ z,y.blk=some z→w5.heap.size≤z∧z<w7.heap.size:=fun z hz=>⟨hfy z hz,Nat.lt_of_lt_of_le (hoy.lt hz) hm7.size⟩
 have hs5:s<w5.heap.size:=(hJ5.2 _ List.mem_cons_self).2.1
 have hpbl:=hpb.lt
 have hpbs:s<pb:=by have:=hm6.size; omega
 let I:Nat→World→Prop:=fun k w'=>w'.heap[ll]? = some (rec .ready none)∧J NoB w [(s,20,true),(x,20,true),(p,20,true),(1,5,false)] w'∧Mod (fun z=>z=s∨z=ll) w8 w'
 have hseq:=qLZ (w:=w8) (ll:=ll) (p:=pb) (s:=y) (l:=nB l) (I:=I) hyl (by rw [nB]; split <;> simp) ⟨T,hpb.no hM8⟩ ⟨hld8,hJ8,Mod.refl _ _⟩ (by
  rintro k w9 hk ⟨hl9,hJ9,hm9⟩
  refine ⟨((hpb.no hM8).mod hm9 (by omega)).rd1 rfl,(hy7.mod hM8 fun _ _ h=>h).mod hm9 (fun z hz e=>by have:=hsb z hz; omega),fun hk'=>?_⟩
  refine hY _ _ w9 _ hl9 ⟨hl9,?_⟩
  have hll9:=bC hl9
  obtain ⟨hmp,hgp,hsp⟩:=dH (o:=rec .busy none) hll9
  have hJp:=wT hJ9 hmp (by omega) hl1
  refine qGG (qGV (hJp.tb List.mem_cons_self)) hJp List.mem_cons_self fun w10 hJ10 hT10=>?_
  have hl10:w10.heap[ll]? = some (rec .busy none):=by rw [hT10.block ll (by omega) (by omega)]; exact hgp
  have hm10:Mod (fun z=>z=s∨z=ll) w8 w10:=(hm9.tr (hmp.mono fun x _ e=>.inr e)).tr (hT10.mono fun x _ e=>.inl e)
  refine aE (fun _=>?_) fun _=>?_
  ·refine pD hJ10 (o:=0) rfl (List.mem_cons_of_mem _ (List.mem_cons_of_mem _ List.mem_cons_self)) (by omega) fun x0 x1 x2 x3 x4 x5 x6 x7 x8 x9 x10 x11 x12 x13 x14 x15 x16 x17 x18 x19=>?_
   refine qGG (qWE (hJ10.tb List.mem_cons_self) (hJ10.tr (f:=false) (List.mem_cons_of_mem _ (List.mem_cons_of_mem _ (List.mem_cons_of_mem _ List.mem_cons_self))))) hJ10 List.mem_cons_self fun w11 hJ11 hT11=>?_
   have hl11:w11.heap[ll]? = some (rec .busy none):=by rw [hT11.block ll (bC hl10) (by omega)]; exact hl10
   have hll11:=bC hl11
   obtain ⟨hmq,hgq,hsq⟩:=dH (o:=rec .ready none) hll11
   exact ⟨hl11,rfl,hgq,wT hJ11 hmq (by omega) hl1,(hm10.tr (hT11.mono fun x _ e=>.inl e)).tr (hmq.mono fun x _ e=>.inr e)⟩
  ·have hll10:=bC hl10
   obtain ⟨hmq,hgq,hsq⟩:=dH (o:=rec .ready none) hll10
   exact ⟨hl10,rfl,hgq,wT hJ10 hmq (by omega) hl1,hm10.tr (hmq.mono fun x _ e=>.inr e)⟩)
 refine jA hseq ?_ (fun _ _ h=>h.elim) (fun _ h=>h)
 rintro v w9 ⟨rfl,hl9,hJ9,hm9⟩
 left
 refine ⟨hl9,?_⟩
 have hll9:=bC hl9
 obtain ⟨hmp,hgp,hsp⟩:=dH (o:=rec .exhausted none) hll9
 have hJ10:=wT hJ9 hmp (by omega) hl1
 refine pD hJ10 (o:=0) rfl List.mem_cons_self (by omega) fun x0 x1 x2 x3 x4 x5 x6 x7 x8 x9 x10 x11 x12 x13 x14 x15 x16 x17 x18 x19=>?_
 refine nA hJ10 (o:=0) rfl (List.mem_cons_of_mem _ List.mem_cons_self) (by kernel_rfl) (by kernel_rfl) (by omega) fun w11 hJ11 hT11=>?_
 have hxd:x≠dd:=hl2 _ (List.mem_cons_of_mem _ List.mem_cons_self)
 have hd9:w9.heap[dd]? = some (.deferred (some [])):=by rw [hm9.block dd (by omega) (by omega)]; exact hdd8
 have hd10:(w9.putObj ll (rec .exhausted none)).heap[dd]? = some (.deferred (some [])):=by rw [hmp.block dd (bC hd9) (by omega)]; exact hd9
 have hd11:w11.heap[dd]? = some (.deferred (some [])):=by rw [hT11.block dd (bC hd10) (fun e=>hxd e.symm)]; exact hd10
 refine ⟨hd11,?_⟩
 obtain ⟨hmd,hgd,hsd⟩:=dH (o:=.deferred none) (bC hd11)
 have hJ12:=wT hJ11 hmd (by omega) hl2
 refine pD hJ12 (o:=0) rfl (List.mem_cons_of_mem _ List.mem_cons_self) (by omega) fun x0 x1 x2 x3 x4 x5 x6 x7 x8 x9 x10 x11 x12 x13 x14 x15 x16 x17 x18 x19=>?_
 exact ⟨_,_,_,_,_,_,_,_,_,_,_,_,_,_,_,_,_,_,_,_,rfl,hJ12.m⟩
end
end Go.Proofs.YtahjmeegfkfokaaGreatDoor
end
