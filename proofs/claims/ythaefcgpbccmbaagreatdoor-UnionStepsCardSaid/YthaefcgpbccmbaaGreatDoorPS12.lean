/- The forms of the translated functions, their contracts and the plain laws behind them, put together by a program. -/
import Derived.Test.YthaefcgpbccmbaaGreatDoorPS11
import Derived.Test.YthaefcgpbccmbaaGreatDoorProg
import Derived.Laws.Externs
set_option linter.unusedSimpArgs false
set_option linter.unusedVariables false
set_option maxRecDepth 100000
set_option maxHeartbeats 4000000
section
namespace Go.Proofs.YthaefcgpbccmbaaGreatDoor
open Go Go.Sh
open Go.Proofs.Tryz
def sh192 (a b c : Slc) (w : World) (R : RW) : Prop :=
  semK prog (Instr.buildSlice 77 3 #[(0, (zS a)), (1, (zS b)), (2, (zS c))]) w fun v w1 => ∃ x : Slc, v = (zS x) ∧ callK prog 257 [zS x] w1 (panR R) fun v1 w2 => ∃ x1 : Bool, v1 = (.bool x1) ∧ condK (!x1) (R (.returned (.slice none 0 0)) w2) (semK prog (Instr.makeSlice 187 (.int .i64 (66 : Int)) (.int .i64 (66 : Int))) w2 fun v2 w3 => ∃ x2 : Slc, v2 = (zS x2) ∧ ∃ (inv : List TV → World → Prop) (mu : List TV → World → Nat), inv [.i .i64 (0 : Int)] w3 ∧ (∀ x3 : Int, ∀ w4 : World, inv [.i .i64 x3] w4 → condK (decide (x3 < (32 : Int))) (∃ sx : World → Prop, sx w4.drew ∧ ((0 ≤ x3 ∧ x3 < (x2.len : Nat)) ∧ onSome x2.a fun a1 => ((0 ≤ x3 ∧ x3 < (c.len : Nat)) ∧ onSome c.a fun a2 => ∃ x4 : UInt64, (∀ w', sx w' → Rd w' (a1.add (x3.toNat * 1)) [.int .u64 x4.toNat]) ∧ ∃ x5 : UInt8, (∀ w', sx w' → Rd w' (a2.add (x3.toNat * 1)) [.int .u8 x5.toNat]) ∧ ((0 ≤ x3 ∧ x3 < (x2.len : Nat)) ∧ onSome x2.a fun a3 => ((semU prog (storeVar 188 (a3.add (x3.toNat * 1)) (.int .u64 ((x4 + (x5).toUInt64)).toNat)) w4.drew fun w5 => ∃ (inv1 : List TV → World → Prop) (mu1 : List TV → World → Nat), inv1 [.i .i64 (0 : Int)] w5 ∧ (∀ x6 : Int, ∀ w6 : World, inv1 [.i .i64 x6] w6 → condK (decide (x6 < (32 : Int))) (∃ sx1 : World → Prop, sx1 w6.drew ∧ ((0 ≤ (IntKind.i64.wrap (x3 + x6)) ∧ (IntKind.i64.wrap (x3 + x6)) < (x2.len : Nat)) ∧ onSome x2.a fun a4 => ((0 ≤ x3 ∧ x3 < (a.len : Nat)) ∧ onSome a.a fun a5 => ((0 ≤ x6 ∧ x6 < (b.len : Nat)) ∧ onSome b.a fun a6 => ∃ x7 : UInt64, (∀ w', sx1 w' → Rd w' (a4.add (((IntKind.i64.wrap (x3 + x6))).toNat * 1)) [.int .u64 x7.toNat]) ∧ ∃ x8 : UInt8, (∀ w', sx1 w' → Rd w' (a5.add (x3.toNat * 1)) [.int .u8 x8.toNat]) ∧ ∃ x9 : UInt8, (∀ w', sx1 w' → Rd w' (a6.add (x6.toNat * 1)) [.int .u8 x9.toNat]) ∧ ((0 ≤ (IntKind.i64.wrap (x3 + x6)) ∧ (IntKind.i64.wrap (x3 + x6)) < (x2.len : Nat)) ∧ onSome x2.a fun a7 => ((semU prog (storeVar 188 (a7.add (((IntKind.i64.wrap (x3 + x6))).toNat * 1)) (.int .u64 ((x7 + ((x8).toUInt64 * (x9).toUInt64))).toNat)) w6.drew fun w7 => (inv1 [.i .i64 (IntKind.i64.wrap (x6 + (1 : Int)))] w7 ∧ mu1 [.i .i64 (IntKind.i64.wrap (x6 + (1 : Int)))] w7 < mu1 [.i .i64 x6] w6)) ∧ True)))))) ((inv [.i .i64 (IntKind.i64.wrap (x3 + (1 : Int)))] w6 ∧ mu [.i .i64 (IntKind.i64.wrap (x3 + (1 : Int)))] w6 < mu [.i .i64 x3] w4)))) ∧ True))))) (semK prog (Instr.makeSlice 38 (.int .i64 (x2.len : Int)) (.int .i64 (x2.len : Int))) w4 fun v3 w8 => ∃ x10 : Slc, v3 = (zS x10) ∧ ∃ (inv2 : List TV → World → Prop) (mu2 : List TV → World → Nat), inv2 [.u64 (0 : UInt64), .i .i64 (0 : Int)] w8 ∧ (∀ carry : UInt64, ∀ x11 : Int, ∀ w9 : World, inv2 [.u64 carry, .i .i64 x11] w9 → condK (decide (x11 < (x2.len : Int))) (((0 ≤ x11 ∧ x11 < (x2.len : Nat)) ∧ onSome x2.a fun a8 => ∃ x12 : UInt64, Rd w9 (a8.add (x11.toNat * 1)) [.int .u64 x12.toNat] ∧ ((0 ≤ x11 ∧ x11 < (x10.len : Nat)) ∧ onSome x10.a fun a9 => semU prog (storeVar 5 (a9.add (x11.toNat * 1)) (.int .u8 (((carry + x12)).toUInt8).toNat)) w9 fun w10 => (0 ≤ (((8 : UInt64)).toNat : Int) ∧ (inv2 [.u64 (shrU64 (carry + x12) ((((8 : UInt64)).toNat : Int)).toNat), .i .i64 (IntKind.i64.wrap (x11 + (1 : Int)))] w10 ∧ mu2 [.u64 (shrU64 (carry + x12) ((((8 : UInt64)).toNat : Int)).toNat), .i .i64 (IntKind.i64.wrap (x11 + (1 : Int)))] w10 < mu2 [.u64 carry, .i .i64 x11] w9))))) (callK prog 258 [zS x10] w9 (panR R) fun v4 w11 => ∃ x13 : Slc, v4 = (zS x13) ∧ R (.returned (zS x13)) w11)))))
theorem call192 (a b c : Slc) {w : World} {R : RW} (hden : sh192 a b c w R) : Calls prog 192 #[zS a, zS b, zS c] w R :=
  calls_of_form (q0 .z (q0 (q0 .z (.cond (q0 .z .z) .z)) (q0 .z (q0 (q0 .z (.block none (.loop [(21, (.i .i64))] (q0 .z (q0 (.cond .z .z) (q0 (.block none (q0 .z (q0 (.draw 1 (.take 0 (.take 1 (.take 2 (.take 4 (.take 5 (.take 6 (.take 3 (.take 7 (.take 8 (.take 9 (.take 10 (.all [(11, .done)]))))))))))))) (q0 .z (.block none (.loop [(35, (.i .i64))] (q0 .z (q0 (.cond .z .z) (q0 (.block none (q0 .z (.draw 1 (.take 0 (.take 1 (.take 2 (.take 3 (.take 4 (.take 6 (.take 7 (.take 8 (.take 11 (.take 12 (.take 13 (.take 5 (.take 9 (.take 10 (.take 14 (.take 15 (.take 16 (.take 17 (.take 18 (.all [(19, .done)]))))))))))))))))))))))) .z))))))))) .z)))))) (q0 .z (q0 .z (q0 (q0 .z (.block none (.loop [(11, .u64), (64, (.i .i64))] (q0 .z (q0 (.cond .z .z) (q0 (.block none (q0 .z (q0 .z (q0 .z .z)))) .z)))))) (q0 .z .z)))))))) func192 (by kernel_rfl) [.sl a, .sl b, .sl c] (by kernel_rfl) (by kernel_rfl) hden
def sh242 (b : Slc) (w : World) (R : RW) : Prop :=
  condK (decide ((b.len : Int) > (64 : Int))) (R (.returned (.slice none 0 0)) w) (callK prog 258 [zS b] w (panR R) fun v w1 => ∃ x : Slc, v = (zS x) ∧ R (.returned (zS x)) w1)
theorem call242 (b : Slc) {w : World} {R : RW} (hden : sh242 b w R) : Calls prog 242 #[zS b] w R :=
  calls_of_form (q0 .z (q0 (q0 .z (.cond (q0 .z .z) .z)) (q0 .z .z))) func242 (by kernel_rfl) [.sl b] (by kernel_rfl) (by kernel_rfl) hden
def sh251 (b : Slc) (w : World) (R : RW) : Prop :=
  condK ((b.len : Int) != (32 : Int)) (R (.returned (.slice none 0 0)) w) (callK prog 307 [zS b] w (panR R) fun v w1 => ∃ x : Value, v = x ∧ callK prog 306 [x] w1 (panR R) fun v1 w2 => ∃ x1 : Slc, v1 = (zS x1) ∧ R (.returned (zS x1)) w2)
theorem call251 (b : Slc) {w : World} {R : RW} (hden : sh251 b w R) : Calls prog 251 #[zS b] w R :=
  calls_of_form (q0 .z (q0 (q0 .z (.cond (q0 .z .z) .z)) (q0 .z .z))) func251 (by kernel_rfl) [.sl b] (by kernel_rfl) (by kernel_rfl) hden
def sh257 (l : Slc) (w : World) (R : RW) : Prop :=
  callK prog 317 [zS l, .func (.func 318) #[] #[]] w (panR R) fun v w1 => ∃ x : Bool, v = (.bool x) ∧ R (.returned (.bool (!x))) w1
theorem call257 (l : Slc) {w : World} {R : RW} (hden : sh257 l w R) : Calls prog 257 #[zS l] w R :=
  calls_of_form (q0 .z (q0 .z .z)) func257 (by kernel_rfl) [.sl l] (by kernel_rfl) (by kernel_rfl) hden
def sh258 (l : Slc) (w : World) (R : RW) : Prop :=
  semK prog (Instr.alloc 426 true (.tuple #[])) w fun v w1 => ∃ r : Option Addr, v = (.pointer r) ∧ callK prog 319 [zS l] w1 (panR R) fun v1 w2 => ∃ x : Value, v1 = x ∧ ∃ (fn : FuncId) (first cap : Array Value), x = .func (.func fn) first cap ∧ enters prog fn = true ∧ ∀ (rec : LoopState → Option Code → Obj) (dd ll : Nat) (w3 : World), dd = w2.heap.size → ll = dd + 1 → w3 = (w2.alloc (.deferred (some []))).alloc (rec .ready none) → (∀ x1 : Int, ∀ x2 : UInt8, ∀ (w4 : World) (kk : Value → World → Prop), w4.heap[ll]? = some (rec .ready none) → ((w4.heap[ll]? = some (rec .ready none) ∧ callK prog 320 [.pointer r, .int .u8 x2.toNat] (w4.putObj ll (rec .busy none)) (fun _ _ => False) fun v2 w5 => v2 = (.tuple #[]) ∧ (w5.heap[ll]? = some (rec .busy none) ∧ kk (.bool true) (w5.putObj ll (rec .ready none))))) → yieldK prog ll [.int .i64 x1, .int .u8 x2.toNat] w4 kk) → callK prog fn (first.toList ++ [.func (.yield ll) #[] #[]] ++ cap.toList) w3 (panRK R [(mkD dd)]) fun _ w6 => (w6.heap[ll]? = some (rec .ready none) ∧ semK prog (Instr.makeSlice 38 (.int .i64 (32 : Int)) (.int .i64 (32 : Int))) (w6.putObj ll (rec .exhausted none)) fun v3 w7 => ∃ x3 : Slc, v3 = (zS x3) ∧ ∃ (inv : List TV → World → Prop) (mu : List TV → World → Nat), inv [.i .i64 (0 : Int)] w7 ∧ (∀ x4 : Int, ∀ w8 : World, inv [.i .i64 x4] w8 → condK (decide (x4 < (x3.len : Int))) (((8 : Int) ≠ 0 ∧ onSome r fun a => ((0 ≤ (IntKind.i64.wrap (Int.tdiv x4 (8 : Int))) ∧ (IntKind.i64.wrap (Int.tdiv x4 (8 : Int))) < (5 : Nat)) ∧ ∃ x5 : UInt64, Rd w8 ((a.add 0).add (((IntKind.i64.wrap (Int.tdiv x4 (8 : Int)))).toNat * 1)) [.int .u64 x5.toNat] ∧ ((8 : Int) ≠ 0 ∧ (0 ≤ (IntKind.i64.wrap ((8 : Int) * (Int.tmod x4 (8 : Int)))) ∧ ((0 ≤ x4 ∧ x4 < (x3.len : Nat)) ∧ onSome x3.a fun a1 => semU prog (storeVar 5 (a1.add (x4.toNat * 1)) (.int .u8 (((shrU64 x5 ((IntKind.i64.wrap ((8 : Int) * (Int.tmod x4 (8 : Int))))).toNat)).toUInt8).toNat)) w8 fun w9 => (inv [.i .i64 (IntKind.i64.wrap (x4 + (1 : Int)))] w9 ∧ mu [.i .i64 (IntKind.i64.wrap (x4 + (1 : Int)))] w9 < mu [.i .i64 x4] w8))))))) ((w8.heap[dd]? = some (.deferred (some [])) ∧ R (.returned (zS x3)) (w8.putObj dd (.deferred none)))))) ∨ False ∨ False
theorem call258 (l : Slc) {w : World} {R : RW} (hden : sh258 l w R) : Calls prog 258 #[zS l] w R :=
  calls_of_form (q0 .z (q0 .z (q0 (q0 .z (.block none (.rf false [] [(.i .i64), .u8] .z (.block none .z)))) (q0 .z (q0 (q0 .z (.block none (.loop [(17, (.i .i64))] (q0 .z (q0 (.cond .z .z) (q0 (.block none (q0 .z .z)) .z)))))) (q0 .z .z)))))) func258 (by kernel_rfl) [.sl l] (by kernel_rfl) (by kernel_rfl) hden
def sh306 (seq : Value) (w : World) (R : RW) : Prop :=
  callK prog 354 [.slice none 0 0, seq] w (panR R) fun v w1 => ∃ x : Slc, v = (zS x) ∧ R (.returned (zS x)) w1
theorem call306 (seq : Value) {w : World} {R : RW} (hden : sh306 seq w R) : Calls prog 306 #[seq] w R :=
  calls_of_form (q0 .z (q0 .z .z)) func306 (by kernel_rfl) [.v seq] (by kernel_rfl) (by kernel_rfl) hden
def sh307 (b : Slc) (w : World) (R : RW) : Prop :=
  semK prog (Instr.box 38 (zS b)) w fun v w1 => ∃ b1 : Option Addr, v = (.pointer b1) ∧ R (.returned (.func (.func 355) #[] #[.pointer b1])) w1
theorem call307 (b : Slc) {w : World} {R : RW} (hden : sh307 b w R) : Calls prog 307 #[zS b] w R :=
  calls_of_form (q0 .z (q0 .z .z)) func307 (by kernel_rfl) [.sl b] (by kernel_rfl) (by kernel_rfl) hden
def sh317 (s : Slc) (f : Value) (w : World) (R : RW) : Prop :=
  callK prog 358 [zS s, f] w (panR R) fun v w1 => ∃ x : Int, v = (.int .i64 x) ∧ R (.returned (.bool (decide (x ≥ (0 : Int))))) w1
theorem call317 (s : Slc) (f : Value) {w : World} {R : RW} (hden : sh317 s f w R) : Calls prog 317 #[zS s, f] w R :=
  calls_of_form (q0 .z (q0 .z .z)) func317 (by kernel_rfl) [.sl s, .v f] (by kernel_rfl) (by kernel_rfl) hden
def sh318 (b : Slc) (w : World) (R : RW) : Prop :=
  R (.returned (.bool ((b.len : Int) != (32 : Int)))) w
theorem call318 (b : Slc) {w : World} {R : RW} (hden : sh318 b w R) : Calls prog 318 #[zS b] w R :=
  calls_of_form (q0 .z (q0 .z .z)) func318 (by kernel_rfl) [.sl b] (by kernel_rfl) (by kernel_rfl) hden
def sh319 (s : Slc) (w : World) (R : RW) : Prop :=
  semK prog (Instr.box 38 (zS s)) w fun v w1 => ∃ s1 : Option Addr, v = (.pointer s1) ∧ R (.returned (.func (.func 359) #[] #[.pointer s1])) w1
theorem call319 (s : Slc) {w : World} {R : RW} (hden : sh319 s w R) : Calls prog 319 #[zS s] w R :=
  calls_of_form (q0 .z (q0 .z .z)) func319 (by kernel_rfl) [.sl s] (by kernel_rfl) (by kernel_rfl) hden
def sh320 (r : Option Addr) (b : UInt8) (w : World) (R : RW) : Prop :=
  ∃ (inv : List TV → World → Prop) (mu : List TV → World → Nat), inv [.i .i64 (4 : Int)] w ∧ (∀ i : Int, ∀ w1 : World, inv [.i .i64 i] w1 → condK (decide (i > (0 : Int))) (∃ sx : World → Prop, sx w1.drew ∧ onSome r fun a => ((0 ≤ i ∧ i < (5 : Nat)) ∧ onSome r fun a1 => ((0 ≤ (IntKind.i64.wrap (i - (1 : Int))) ∧ (IntKind.i64.wrap (i - (1 : Int))) < (5 : Nat)) ∧ onSome r fun a2 => ∃ x : UInt64, (∀ w', sx w' → Rd w' ((a.add 0).add (i.toNat * 1)) [.int .u64 x.toNat]) ∧ (0 ≤ (((8 : UInt64)).toNat : Int) ∧ ∃ x1 : UInt64, (∀ w', sx w' → Rd w' ((a1.add 0).add (((IntKind.i64.wrap (i - (1 : Int)))).toNat * 1)) [.int .u64 x1.toNat]) ∧ (0 ≤ (((56 : UInt64)).toNat : Int) ∧ ((0 ≤ i ∧ i < (5 : Nat)) ∧ ((semU prog (storeVar 188 ((a2.add 0).add (i.toNat * 1)) (.int .u64 (((shlU64 x ((((8 : UInt64)).toNat : Int)).toNat) ||| (shrU64 x1 ((((56 : UInt64)).toNat : Int)).toNat))).toNat)) w1.drew fun w2 => (inv [.i .i64 (IntKind.i64.wrap (i - (1 : Int)))] w2 ∧ mu [.i .i64 (IntKind.i64.wrap (i - (1 : Int)))] w2 < mu [.i .i64 i] w1)) ∧ True))))))) (∃ sx1 : World → Prop, sx1 w1.drew ∧ onSome r fun a3 => ((0 ≤ (0 : Int) ∧ (0 : Int) < (5 : Nat)) ∧ onSome r fun a4 => ∃ x2 : UInt64, (∀ w', sx1 w' → Rd w' ((a3.add 0).add (((0 : Int)).toNat * 1)) [.int .u64 x2.toNat]) ∧ (0 ≤ (((8 : UInt64)).toNat : Int) ∧ ((0 ≤ (0 : Int) ∧ (0 : Int) < (5 : Nat)) ∧ ((semU prog (storeVar 188 ((a4.add 0).add (((0 : Int)).toNat * 1)) (.int .u64 (((shlU64 x2 ((((8 : UInt64)).toNat : Int)).toNat) ||| (b).toUInt64)).toNat)) w1.drew fun w3 => ∃ (inv1 : List TV → World → Prop) (mu1 : List TV → World → Nat), inv1 [.i .i64 (8 : Int)] w3 ∧ (∀ by0 : Int, ∀ w4 : World, inv1 [.i .i64 by0] w4 → condK (decide (by0 ≥ (0 : Int))) (callK prog 360 [.pointer r, .int .u64 ((u64OfInt by0)).toNat] w4 (panR R) fun v w5 => v = (.tuple #[]) ∧ (inv1 [.i .i64 (IntKind.i64.wrap (by0 - (1 : Int)))] w5 ∧ mu1 [.i .i64 (IntKind.i64.wrap (by0 - (1 : Int)))] w5 < mu1 [.i .i64 by0] w4)) (R (.returned (.tuple #[])) w4))) ∧ True))))))
theorem call320 (r : Option Addr) (b : UInt8) {w : World} {R : RW} (hden : sh320 r b w R) : Calls prog 320 #[.pointer r, .int .u8 b.toNat] w R :=
  calls_of_form (q0 (q0 .z (.block none (.loop [(4, (.i .i64))] (q0 (q0 .z (.cond .z .z)) (q0 (.block none (.draw 1 (.take 0 (.take 1 (.take 2 (.take 3 (.take 4 (.take 5 (.take 6 (.take 9 (.take 10 (.take 11 (.take 12 (.take 13 (.take 14 (.take 18 (.take 19 (.take 7 (.take 8 (.take 15 (.take 16 (.take 17 (.take 20 (.all [(21, .done)])))))))))))))))))))))))) .z))))) (q0 (.draw 1 (.take 0 (.take 1 (.take 2 (.take 3 (.take 4 (.take 7 (.take 8 (.take 10 (.take 11 (.take 5 (.take 6 (.take 9 (.take 12 (.all [(13, .done)]))))))))))))))) (q0 .z (.block none (.loop [(5, (.i .i64))] (q0 (q0 .z (.cond .z .z)) (q0 (.block none .z) .z))))))) func320 (by kernel_rfl) [.p r, .u8 b] (by kernel_rfl) (by kernel_rfl) hden
def sh354 (s : Slc) (seq : Value) (w : World) (R : RW) : Prop :=
  semK prog (Instr.box 191 (zS s)) w fun v w1 => ∃ s1 : Option Addr, v = (.pointer s1) ∧ ∃ (fn : FuncId) (first cap : Array Value), seq = .func (.func fn) first cap ∧ enters prog fn = true ∧ ∀ (rec : LoopState → Option Code → Obj) (dd ll : Nat) (w2 : World), dd = w1.heap.size → ll = dd + 1 → w2 = (w1.alloc (.deferred (some []))).alloc (rec .ready none) → (∀ x : Bool, ∀ (w3 : World) (kk : Value → World → Prop), w3.heap[ll]? = some (rec .ready none) → ((w3.heap[ll]? = some (rec .ready none) ∧ onSome s1 fun a => ∃ x1 : Slc, Rd (w3.putObj ll (rec .busy none)) a [zS x1] ∧ semK prog (Instr.buildSlice 191 1 #[(0, (.bool x))]) (w3.putObj ll (rec .busy none)) fun v1 w4 => ∃ x2 : Slc, v1 = (zS x2) ∧ semK prog (Builtin.append_ #[191, 191] 191 #[zS x1, zS x2]) w4 fun v2 w5 => ∃ x3 : Slc, v2 = (zS x3) ∧ onSome s1 fun a1 => semU prog (storeVar 191 a1 (zS x3)) w5 fun w6 => (w6.heap[ll]? = some (rec .busy none) ∧ kk (.bool true) (w6.putObj ll (rec .ready none))))) → yieldK prog ll [.bool x] w3 kk) → callK prog fn (first.toList ++ [.func (.yield ll) #[] #[]] ++ cap.toList) w2 (panRK R [(mkD dd)]) fun _ w7 => (w7.heap[ll]? = some (rec .ready none) ∧ onSome s1 fun a2 => ∃ x4 : Slc, Rd (w7.putObj ll (rec .exhausted none)) a2 [zS x4] ∧ ((w7.putObj ll (rec .exhausted none)).heap[dd]? = some (.deferred (some [])) ∧ R (.returned (zS x4)) ((w7.putObj ll (rec .exhausted none)).putObj dd (.deferred none)))) ∨ False ∨ False
theorem call354 (s : Slc) (seq : Value) {w : World} {R : RW} (hden : sh354 s seq w R) : Calls prog 354 #[zS s, seq] w R :=
  calls_of_form (q0 .z (q0 (q0 .z (.block none (.rf false [] [.b] .z (.block none .z)))) (q0 .z .z))) func354 (by kernel_rfl) [.sl s, .v seq] (by kernel_rfl) (by kernel_rfl) hden
def sh355 (yield : Value) (c : Option Addr) (w : World) (R : RW) : Prop :=
  onSome c fun a => ∃ x : Slc, Rd w a [zS x] ∧ ∃ (inv : List TV → World → Prop) (mu : List TV → World → Nat), inv [.i .i64 (0 : Int)] w ∧ (∀ x1 : Int, ∀ w1 : World, inv [.i .i64 x1] w1 → condK (decide (x1 < (IntKind.i64.wrap ((8 : Int) * (x.len : Int))))) (onSome c fun a1 => ∃ x2 : Slc, Rd w1 a1 [zS x2] ∧ ((8 : Int) ≠ 0 ∧ ((0 ≤ (IntKind.i64.wrap (Int.tdiv x1 (8 : Int))) ∧ (IntKind.i64.wrap (Int.tdiv x1 (8 : Int))) < (x2.len : Nat)) ∧ onSome x2.a fun a2 => ∃ x3 : UInt8, Rd w1 (a2.add (((IntKind.i64.wrap (Int.tdiv x1 (8 : Int)))).toNat * 1)) [.int .u8 x3.toNat] ∧ ((8 : Int) ≠ 0 ∧ (0 ≤ (Int.tmod x1 (8 : Int)) ∧ callFV prog yield [.bool (((shrU8 x3 ((Int.tmod x1 (8 : Int))).toNat) &&& (1 : UInt8)) == (1 : UInt8))] w1 (panR R) fun v w2 => ∃ x4 : Bool, v = (.bool x4) ∧ condK (!x4) (R (.returned (.tuple #[])) w2) ((inv [.i .i64 (IntKind.i64.wrap (x1 + (1 : Int)))] w2 ∧ mu [.i .i64 (IntKind.i64.wrap (x1 + (1 : Int)))] w2 < mu [.i .i64 x1] w1))))))) (R (.returned (.tuple #[])) w1))
theorem call355 (yield : Value) (c : Option Addr) {w : World} {R : RW} (hden : sh355 yield c w R) : Calls prog 355 #[yield, .pointer c] w R :=
  calls_of_form (q0 .z (.block none (.loop [(7, (.i .i64))] (q0 .z (q0 (.cond .z .z) (q0 (.block none (q0 .z (q0 .z (.cond .z .z)))) .z)))))) func355 (by kernel_rfl) [.v yield, .p c] (by kernel_rfl) (by kernel_rfl) hden
def sh358 (s : Slc) (f : Value) (w : World) (R : RW) : Prop :=
  ∃ (inv : List TV → World → Prop) (mu : List TV → World → Nat), inv [.i .i64 (0 : Int)] w ∧ (∀ x : Int, ∀ w1 : World, inv [.i .i64 x] w1 → condK (decide (x < (s.len : Int))) (((0 ≤ x ∧ x < (s.len : Nat)) ∧ onSome s.a fun a => ∃ x1 : Slc, Rd w1 (a.add (x.toNat * 1)) [zS x1] ∧ callFV prog f [zS x1] w1 (panR R) fun v w2 => ∃ x2 : Bool, v = (.bool x2) ∧ condK x2 (R (.returned (.int .i64 x)) w2) ((inv [.i .i64 (IntKind.i64.wrap (x + (1 : Int)))] w2 ∧ mu [.i .i64 (IntKind.i64.wrap (x + (1 : Int)))] w2 < mu [.i .i64 x] w1)))) (R (.returned (.int .i64 (-1 : Int))) w1))
theorem call358 (s : Slc) (f : Value) {w : World} {R : RW} (hden : sh358 s f w R) : Calls prog 358 #[zS s, f] w R :=
  calls_of_form (q0 .z (q0 (q0 .z (.block none (.loop [(8, (.i .i64))] (q0 .z (q0 (.cond .z .z) (q0 (.block none (q0 .z (q0 .z (.cond (q0 .z .z) .z)))) .z)))))) (q0 .z .z))) func358 (by kernel_rfl) [.sl s, .v f] (by kernel_rfl) (by kernel_rfl) hden
def sh359 (yield : Value) (c : Option Addr) (w : World) (R : RW) : Prop :=
  onSome c fun a => ∃ x : Slc, Rd w a [zS x] ∧ ∃ (inv : List TV → World → Prop) (mu : List TV → World → Nat), inv [.i .i64 (IntKind.i64.wrap ((x.len : Int) - (1 : Int)))] w ∧ (∀ i : Int, ∀ w1 : World, inv [.i .i64 i] w1 → condK (decide (i ≥ (0 : Int))) (onSome c fun a1 => ∃ x1 : Slc, Rd w1 a1 [zS x1] ∧ ((0 ≤ i ∧ i < (x1.len : Nat)) ∧ onSome x1.a fun a2 => ∃ x2 : UInt8, Rd w1 (a2.add (i.toNat * 1)) [.int .u8 x2.toNat] ∧ callFV prog yield [.int .i64 i, .int .u8 x2.toNat] w1 (panR R) fun v w2 => ∃ x3 : Bool, v = (.bool x3) ∧ condK (!x3) (R (.returned (.tuple #[])) w2) ((inv [.i .i64 (IntKind.i64.wrap (i - (1 : Int)))] w2 ∧ mu [.i .i64 (IntKind.i64.wrap (i - (1 : Int)))] w2 < mu [.i .i64 i] w1)))) (R (.returned (.tuple #[])) w1))
theorem call359 (yield : Value) (c : Option Addr) {w : World} {R : RW} (hden : sh359 yield c w R) : Calls prog 359 #[yield, .pointer c] w R :=
  calls_of_form (q0 .z (.block none (.loop [(3, (.i .i64))] (q0 (q0 .z (.cond .z .z)) (q0 (.block none (q0 .z (.cond .z .z))) .z))))) func359 (by kernel_rfl) [.v yield, .p c] (by kernel_rfl) (by kernel_rfl) hden
def sh360 (r : Option Addr) (by0 : UInt64) (w : World) (R : RW) : Prop :=
  semK prog (Instr.alloc 424 true (.tuple #[])) w fun v w1 => ∃ m : Option Addr, v = (.pointer m) ∧ callK prog 376 [] w1 (panR R) fun v1 w2 => ∃ xa xb xc xd xe : UInt64, v1 = (e5 xa xb xc xd xe) ∧ semK prog (Instr.alloc 424 true (.tuple #[])) w2 fun v2 w3 => ∃ l : Option Addr, v2 = (.pointer l) ∧ onSome l fun a => semU prog (storeVar 424 a (e5 xa xb xc xd xe)) w3 fun w4 => ∃ (inv : List TV → World → Prop) (mu : List TV → World → Nat), inv [.i .i64 (0 : Int)] w4 ∧ (∀ x : Int, ∀ w5 : World, inv [.i .i64 x] w5 → condK (decide (x < (5 : Int))) (((0 ≤ x ∧ x < (5 : Nat)) ∧ onSome l fun a1 => ∃ x1 : UInt64, Rd w5 (a1.add (x.toNat * 1)) [.int .u64 x1.toNat] ∧ (0 ≤ (by0.toNat : Int) ∧ ((0 ≤ x ∧ x < (5 : Nat)) ∧ onSome m fun a2 => semU prog (storeVar 188 (a2.add (x.toNat * 1)) (.int .u64 ((shlU64 x1 ((by0.toNat : Int)).toNat)).toNat)) w5 fun w6 => ∃ j : List TV → World → Prop, (condK (decide (x > (0 : Int))) (j [.b (decide ((0 : UInt64) < by0))] w6) (j [.b false] w6)) ∧ (∀ x2 : Bool, ∀ w7 : World, j [.b x2] w7 → condK x2 (∃ sx : World → Prop, sx w7.drew ∧ ((0 ≤ x ∧ x < (5 : Nat)) ∧ onSome m fun a3 => ((0 ≤ (IntKind.i64.wrap (x - (1 : Int))) ∧ (IntKind.i64.wrap (x - (1 : Int))) < (5 : Nat)) ∧ onSome l fun a4 => ∃ x3 : UInt64, (∀ w', sx w' → Rd w' (a3.add (x.toNat * 1)) [.int .u64 x3.toNat]) ∧ ∃ x4 : UInt64, (∀ w', sx w' → Rd w' (a4.add (((IntKind.i64.wrap (x - (1 : Int)))).toNat * 1)) [.int .u64 x4.toNat]) ∧ (0 ≤ ((((64 : UInt64) - by0)).toNat : Int) ∧ ((0 ≤ x ∧ x < (5 : Nat)) ∧ onSome m fun a5 => ((semU prog (storeVar 188 (a5.add (x.toNat * 1)) (.int .u64 ((x3 ||| (shrU64 x4 (((((64 : UInt64) - by0)).toNat : Int)).toNat))).toNat)) w7.drew fun w8 => (inv [.i .i64 (IntKind.i64.wrap (x + (1 : Int)))] w8 ∧ mu [.i .i64 (IntKind.i64.wrap (x + (1 : Int)))] w8 < mu [.i .i64 x] w5)) ∧ True)))))) ((inv [.i .i64 (IntKind.i64.wrap (x + (1 : Int)))] w7 ∧ mu [.i .i64 (IntKind.i64.wrap (x + (1 : Int)))] w7 < mu [.i .i64 x] w5))))))) (∃ sx1 : World → Prop, sx1 w5.drew ∧ onSome r fun a6 => ∃ xa1 xb1 xc1 xd1 xe1 : UInt64, (∀ w', sx1 w' → Rd w' (a6.add 0) (l5 xa1 xb1 xc1 xd1 xe1)) ∧ onSome m fun a7 => ∃ xa2 xb2 xc2 xd2 xe2 : UInt64, (∀ w', sx1 w' → Rd w' a7 (l5 xa2 xb2 xc2 xd2 xe2)) ∧ ((callK prog 377 [e5 xa1 xb1 xc1 xd1 xe1, e5 xa2 xb2 xc2 xd2 xe2] w5.drew (panR R) fun v3 w9 => ∃ x5 : Bool, v3 = (.bool x5) ∧ condK x5 (R (.returned (.tuple #[])) w9) (∃ (inv1 : List TV → World → Prop) (mu1 : List TV → World → Nat), inv1 [.u64 (0 : UInt64), .i .i64 (0 : Int)] w9 ∧ (∀ borrow : UInt64, ∀ x6 : Int, ∀ w10 : World, inv1 [.u64 borrow, .i .i64 x6] w10 → condK (decide (x6 < (5 : Int))) (∃ sx2 : World → Prop, sx2 w10.drew ∧ onSome r fun a8 => ((0 ≤ x6 ∧ x6 < (5 : Nat)) ∧ ((0 ≤ x6 ∧ x6 < (5 : Nat)) ∧ onSome m fun a9 => onSome r fun a10 => ∃ x7 : UInt64, (∀ w', sx2 w' → Rd w' ((a8.add 0).add (x6.toNat * 1)) [.int .u64 x7.toNat]) ∧ ∃ x8 : UInt64, (∀ w', sx2 w' → Rd w' (a9.add (x6.toNat * 1)) [.int .u64 x8.toNat]) ∧ ((∃ v4 w11, (callFunc 378 #[.int .u64 x7.toNat, .int .u64 x8.toNat, .int .u64 borrow.toNat]).run prog w10.drew = .ok (.value v4) w11 ∧ ∃ xa3 xb3 : UInt64, v4 = (.tuple #[.int .u64 xa3.toNat, .int .u64 xb3.toNat]) ∧ ((0 ≤ x6 ∧ x6 < (5 : Nat)) ∧ ((semU prog (storeVar 188 ((a10.add 0).add (x6.toNat * 1)) (.int .u64 xa3.toNat)) w11 fun w12 => (inv1 [.u64 xb3, .i .i64 (IntKind.i64.wrap (x6 + (1 : Int)))] w12 ∧ mu1 [.u64 xb3, .i .i64 (IntKind.i64.wrap (x6 + (1 : Int)))] w12 < mu1 [.u64 borrow, .i .i64 x6] w10)) ∧ True))) ∧ True)))) (R (.returned (.tuple #[])) w10)))) ∧ True)))
theorem call360 (r : Option Addr) (by0 : UInt64) {w : World} {R : RW} (hden : sh360 r by0 w R) : Calls prog 360 #[.pointer r, .int .u64 by0.toNat] w R :=
  calls_of_form (q0 .z (q0 .z (q0 (q0 .z (.block none (.loop [(10, (.i .i64))] (q0 .z (q0 (.cond .z .z) (q0 (.block none (q0 .z (q0 .z (.seq (some [(25, .b)]) .z (.cond (.draw 1 (.take 0 (.take 1 (.take 3 (.take 4 (.take 5 (.take 7 (.take 8 (.take 2 (.take 6 (.take 9 (.take 10 (.take 11 (.all [(12, .done)])))))))))))))) .z))))) .z)))))) (q0 (q0 (.draw 1 (.take 0 (.take 1 (.take 2 (.take 3 (.take 4 (.all [(5, .done)]))))))) (.cond .z .z)) (q0 .z (q0 .z (.block none (.loop [(7, .u64), (45, (.i .i64))] (q0 .z (q0 (.cond .z .z) (q0 (.block none (q0 .z (.draw 1 (.take 0 (.take 1 (.take 2 (.take 3 (.take 4 (.take 5 (.take 6 (.take 8 (.take 9 (.take 11 (.take 16 (.take 17 (.take 7 (.take 10 (.all [(12, (.take 13 (.take 14 (.take 15 (.take 18 (.all [(19, (.take 20 .done))]))))))])))))))))))))))))) .z))))))))))) func360 (by kernel_rfl) [.p r, .u64 by0] (by kernel_rfl) (by kernel_rfl) hden
def sh376 (w : World) (R : RW) : Prop :=
  semK prog (Instr.alloc 424 true (.tuple #[])) w fun v w1 => ∃ x : Option Addr, v = (.pointer x) ∧ onSome x fun a => semU prog (storeVar 424 a (.agg #[.int .u64 ((6346243789798364141 : UInt64)).toNat, .int .u64 ((1503914060200516822 : UInt64)).toNat, .int .u64 ((0 : UInt64)).toNat, .int .u64 ((1152921504606846976 : UInt64)).toNat, .int .u64 ((0 : UInt64)).toNat])) w1 fun w2 => onSome x fun a1 => ∃ xa xb xc xd xe : UInt64, Rd w2 a1 (l5 xa xb xc xd xe) ∧ R (.returned (e5 xa xb xc xd xe)) w2
theorem call376 {w : World} {R : RW} (hden : sh376 w R) : Calls prog 376 #[] w R :=
  calls_of_form (q0 .z (q0 .z .z)) func376 (by kernel_rfl) [] (by kernel_rfl) (by kernel_rfl) hden
def sh377 (na nb nc nd ne ma mb mc md me : UInt64) (w : World) (R : RW) : Prop :=
  semK prog (Instr.box 424 (e5 na nb nc nd ne)) w fun v w1 => ∃ n : Option Addr, v = (.pointer n) ∧ semK prog (Instr.box 424 (e5 ma mb mc md me)) w1 fun v1 w2 => ∃ m : Option Addr, v1 = (.pointer m) ∧ onSome n fun a => ∃ xa xb xc xd xe : UInt64, Rd w2 a (l5 xa xb xc xd xe) ∧ onSome m fun a1 => ∃ xa1 xb1 xc1 xd1 xe1 : UInt64, Rd w2 a1 (l5 xa1 xb1 xc1 xd1 xe1) ∧ pureSem prog (do eqGuard .eql 424 (.tmp 6) (.tmp 7) (e5 xa xb xc xd xe) (e5 xa1 xb1 xc1 xd1 xe1); binOp .eql 424 (e5 xa xb xc xd xe) (e5 xa1 xb1 xc1 xd1 xe1)) fun v2 => ∃ x : Bool, v2 = (.bool x) ∧ condK x (R (.returned (.bool false)) w2) (∃ (inv : List TV → World → Prop) (mu : List TV → World → Nat), inv [.i .i64 (4 : Int)] w2 ∧ (∀ i : Int, ∀ w3 : World, inv [.i .i64 i] w3 → condK (decide (i ≥ (0 : Int))) (((0 ≤ i ∧ i < (5 : Nat)) ∧ onSome n fun a2 => ((0 ≤ i ∧ i < (5 : Nat)) ∧ onSome m fun a3 => ∃ x1 : UInt64, Rd w3.drew (a2.add (i.toNat * 1)) [.int .u64 x1.toNat] ∧ ∃ x2 : UInt64, Rd w3.drew (a3.add (i.toNat * 1)) [.int .u64 x2.toNat] ∧ condK (x1 != x2) (((0 ≤ i ∧ i < (5 : Nat)) ∧ onSome n fun a4 => ((0 ≤ i ∧ i < (5 : Nat)) ∧ onSome m fun a5 => ∃ x3 : UInt64, Rd w3.drew.drew (a4.add (i.toNat * 1)) [.int .u64 x3.toNat] ∧ ∃ x4 : UInt64, Rd w3.drew.drew (a5.add (i.toNat * 1)) [.int .u64 x4.toNat] ∧ R (.returned (.bool (decide (x3 < x4)))) w3.drew.drew))) ((inv [.i .i64 (IntKind.i64.wrap (i - (1 : Int)))] w3.drew ∧ mu [.i .i64 (IntKind.i64.wrap (i - (1 : Int)))] w3.drew < mu [.i .i64 i] w3))))) (R (.returned (.bool false)) w3)))
theorem call377 (na nb nc nd ne ma mb mc md me : UInt64) {w : World} {R : RW} (hden : sh377 na nb nc nd ne ma mb mc md me w R) : Calls prog 377 #[e5 na nb nc nd ne, e5 ma mb mc md me] w R :=
  calls_of_form (q0 .z (q0 (q0 .z (.cond (q0 .z .z) .z)) (q0 (q0 .z (.block none (.loop [(5, (.i .i64))] (q0 (q0 .z (.cond .z .z)) (q0 (.block none (q0 (.draw 2 (.take 0 (.take 1 (.take 3 (.take 4 (.take 2 (.take 5 (.take 6 .done)))))))) (.cond (q0 (.draw 2 (.take 0 (.take 1 (.take 3 (.take 4 (.take 2 (.take 5 (.take 6 (.take 7 .done))))))))) .z) .z))) .z))))) (q0 .z .z)))) func377 (by kernel_rfl) [.agg [.u64 na, .u64 nb, .u64 nc, .u64 nd, .u64 ne], .agg [.u64 ma, .u64 mb, .u64 mc, .u64 md, .u64 me]] (by kernel_rfl) (by kernel_rfl) hden
end Go.Proofs.YthaefcgpbccmbaaGreatDoor
end
section
namespace Go.Sh
open Go
def val64 : List UInt64 → Nat
  | [] => 0
  | x :: l => x.toNat + 18446744073709551616 * val64 l
def le : List UInt8 → Nat
  | [] => 0
  | x :: l => x.toNat + 256 * le l
def leb : Nat → Nat → List UInt8
  | 0, _ => []
  | k + 1, v => UInt8.ofNat (v % 256) :: leb k (v / 256)
def LO : Nat := 7237005577332262213973186563042994240857116359379907606001950938285454250989
theorem LO_pos : 0 < LO := by decide +kernel
@[simp] theorem leb_len : ∀ k v, (leb k v).length = k
  | 0, _ => rfl
  | k + 1, v => by simp [leb, leb_len k]
theorem le_lt : ∀ l : List UInt8, le l < 256 ^ l.length
  | [] => by simp [le]
  | x :: l => by
    have := le_lt l
    have := x.toNat_lt
    simp only [le, List.length_cons, Nat.pow_succ]
    omega
theorem leb_at : ∀ k v i, i < k → (leb k v)[i]? = some (UInt8.ofNat (v / 256 ^ i % 256))
  | 0, v, i, h => by omega
  | k + 1, v, 0, h => by simp [leb]
  | k + 1, v, i + 1, h => by
    simp only [leb, List.getElem?_cons_succ, leb_at k (v / 256) i (by omega), Nat.div_div_eq_div_mul]
    rw [Nat.pow_succ, Nat.mul_comm 256]
theorem le_append : ∀ a b : List UInt8, le (a ++ b) = le a + 256 ^ a.length * le b
  | [], b => by simp [le]
  | x :: a, b => by
    simp only [List.cons_append, le, le_append a b, List.length_cons, Nat.pow_succ]
    rw [Nat.mul_comm (256 ^ a.length) 256, Nat.mul_assoc]; omega
theorem val64_lt : ∀ l : List UInt64, val64 l < 18446744073709551616 ^ l.length
  | [] => by simp [val64]
  | x :: l => by
    have := val64_lt l
    have := x.toNat_lt
    simp only [val64, List.length_cons, Nat.pow_succ]
    omega
theorem val64_append : ∀ a b : List UInt64, val64 (a ++ b) = val64 a + 18446744073709551616 ^ a.length * val64 b
  | [], b => by simp [val64]
  | x :: a, b => by
    simp only [List.cons_append, val64, val64_append a b, List.length_cons, Nat.pow_succ]
    rw [Nat.mul_comm (_ ^ a.length) 18446744073709551616, Nat.mul_assoc]; omega
theorem val_cmp : ∀ (n m : List UInt64) (i : Nat), n.length = m.length → (h : i < n.length) → (h' : i < m.length) → n.drop (i + 1) = m.drop (i + 1) → n[i] ≠ m[i] → (val64 n < val64 m ↔ n[i] < m[i])
  | [], _, i, _, h, _, _, _ => by simp at h
  | x :: n, [], i, hl, _, _, _, _ => by simp at hl
  | x :: n, y :: m, 0, hl, h, h', hd, hne => by
    simp only [Nat.zero_add, List.drop_succ_cons, List.drop_zero] at hd
    subst hd
    simp only [val64, List.getElem_cons_zero, UInt64.lt_iff_toNat_lt]
    omega
  | x :: n, y :: m, i + 1, hl, h, h', hd, hne => by
    simp only [List.length_cons] at hl h h'
    simp only [List.drop_succ_cons] at hd
    simp only [List.getElem_cons_succ] at hne ⊢
    have h1 := val_cmp n m i (by omega) (by omega) (by omega) hd hne
    have h2 := val_cmp m n i (by omega) (by omega) (by omega) hd.symm (Ne.symm hne)
    have a1 := x.toNat_lt; have a2 := y.toNat_lt
    simp only [val64]
    rw [UInt64.lt_iff_toNat_lt] at h1 h2 ⊢
    have hne' : n[i].toNat ≠ m[i].toNat := fun e => hne (UInt64.toNat_inj.1 e)
    omega
theorem sub_step {x y b d b' : Nat} (hb : b ≤ 1) (hx : x < 18446744073709551616) (hy : y < 18446744073709551616) (hd : d = (x + 18446744073709551616 - y - b) % 18446744073709551616) (hb' : b' = if x < y + b then 1 else 0) : x + b' * 18446744073709551616 = d + y + b ∧ b' ≤ 1 := by
  subst hd hb'
  split <;> omega
theorem sub_keep {n m q : List UInt64} {k b b' : Nat} {d : UInt64} (hk : k < n.length) (hk' : k < m.length) (hq : q.length = k) (h : val64 (n.take k) + b * 18446744073709551616 ^ k = val64 q + val64 (m.take k))
    (hs : n[k].toNat + b' * 18446744073709551616 = d.toNat + m[k].toNat + b) : val64 (n.take (k + 1)) + b' * 18446744073709551616 ^ (k + 1) = val64 (q ++ [d]) + val64 (m.take (k + 1)) := by
  rw [List.take_succ_eq_append_getElem hk, List.take_succ_eq_append_getElem hk', val64_append, val64_append, val64_append]
  have e1 : (n.take k).length = k := by rw [List.length_take]; omega
  have e2 : (m.take k).length = k := by rw [List.length_take]; omega
  rw [e1, e2, hq]
  simp only [val64, Nat.mul_zero, Nat.add_zero, Nat.pow_succ]
  generalize 18446744073709551616 ^ k = Q at h ⊢
  have := congrArg (Q * ·) hs
  simp only [Nat.mul_add] at this
  rw [Nat.mul_comm b Q] at h
  have e3 : b' * (Q * 18446744073709551616) = Q * (b' * 18446744073709551616) := by rw [← Nat.mul_assoc, ← Nat.mul_assoc, Nat.mul_comm b' Q]
  rw [e3]
  omega
theorem sub_end {n m q : List UInt64} {b : Nat} (hl : n.length = m.length) (hq : q.length = n.length) (h : val64 n + b * 18446744073709551616 ^ n.length = val64 q + val64 m) (hge : val64 m ≤ val64 n) : val64 q = val64 n - val64 m := by
  have hq' := val64_lt q
  rw [hq] at hq'
  rcases Nat.eq_zero_or_pos b with rfl | hb
  · omega
  · have : 18446744073709551616 ^ n.length ≤ b * 18446744073709551616 ^ n.length := Nat.le_mul_of_pos_left _ hb
    omega
theorem or_low (x s : Nat) (hs : s < 256) : ((x <<< 8) % 18446744073709551616) ||| s = (x % 72057594037927936) * 256 + s := by
  have e : (x <<< 8) % 18446744073709551616 = (x % 72057594037927936) <<< 8 := by
    rw [Nat.shiftLeft_eq, Nat.shiftLeft_eq, show (18446744073709551616 : Nat) = 72057594037927936 * 2 ^ 8 from rfl, Nat.mul_mod_mul_right]
  rw [e, ← Nat.shiftLeft_add_eq_or_of_lt (by simpa using hs), Nat.shiftLeft_eq]
theorem shl8_byte (x : UInt64) (c : UInt8) : (shlU64 x 8 ||| c.toUInt64).toNat = (x.toNat % 72057594037927936) * 256 + c.toNat := by
  have : shlU64 x 8 = x <<< 8 := rfl
  rw [this, UInt64.toNat_or, UInt64.toNat_shiftLeft]
  exact or_low _ _ c.toNat_lt
theorem shl8_limb (x y : UInt64) : (shlU64 x 8 ||| shrU64 y 56).toNat = (x.toNat % 72057594037927936) * 256 + y.toNat / 72057594037927936 := by
  have e1 : shlU64 x 8 = x <<< 8 := rfl
  have e2 : shrU64 y 56 = y >>> 56 := rfl
  have hy := y.toNat_lt
  rw [e1, e2, UInt64.toNat_or, UInt64.toNat_shiftLeft, UInt64.toNat_shiftRight]
  have e3 : y.toNat >>> ((56 : UInt64).toNat % 64) = y.toNat / 72057594037927936 := by
    rw [show (56 : UInt64).toNat % 64 = 56 from rfl, Nat.shiftRight_eq_div_pow]
  rw [e3]
  exact or_low _ _ (by omega)
def times256 (n : List UInt64) (c : UInt8) : List UInt64 :=
  (List.range 5).map fun i => if i = 0 then shlU64 (n.getD 0 0) 8 ||| c.toUInt64 else shlU64 (n.getD i 0) 8 ||| shrU64 (n.getD (i - 1) 0) 56
theorem times256_len (n : List UInt64) (c : UInt8) : (times256 n c).length = 5 := by simp [times256]
theorem times256_val {n : List UInt64} {c : UInt8} (hl : n.length = 5) (hv : val64 n < 2 ^ 312) : val64 (times256 n c) = 256 * val64 n + c.toNat := by
  match n, hl with
  | [a, b, d, g, f], _ =>
    have e : times256 [a, b, d, g, f] c = [shlU64 a 8 ||| c.toUInt64, shlU64 b 8 ||| shrU64 a 56, shlU64 d 8 ||| shrU64 b 56, shlU64 g 8 ||| shrU64 d 56, shlU64 f 8 ||| shrU64 g 56] := rfl
    rw [e]
    simp only [val64, shl8_byte, shl8_limb] at hv ⊢
    have := a.toNat_lt; have := b.toNat_lt; have := d.toNat_lt; have := g.toNat_lt; have := f.toNat_lt; have := c.toNat_lt
    omega
def lLimbs : List UInt64 := [6346243789798364141, 1503914060200516822, 0, 1152921504606846976, 0]
def lShift (k : Nat) : List UInt64 := (List.range 5).map fun i => if 0 < i ∧ 0 < k then shlU64 (lLimbs.getD i 0) k ||| shrU64 (lLimbs.getD (i - 1) 0) (64 - k) else shlU64 (lLimbs.getD i 0) k
theorem lShift_len (k : Nat) : (lShift k).length = 5 := by simp [lShift]
theorem lShift_all : ∀ k : Fin 9, val64 (lShift k.val) = LO * 2 ^ k.val := by decide +kernel
theorem lShift_val {k : Nat} (h : k < 9) : val64 (lShift k) = LO * 2 ^ k := lShift_all ⟨k, h⟩
theorem mod_step {v V k : Nat} (h : v % LO = V % LO) (hv : v < LO * 2 ^ (k + 1)) {u : Nat} (hu : u = if v < LO * 2 ^ k then v else v - LO * 2 ^ k) : u % LO = V % LO ∧ u < LO * 2 ^ k := by
  subst hu
  rw [Nat.pow_succ, ← Nat.mul_assoc] at hv
  split
  · exact ⟨h, by omega⟩
  · refine ⟨?_, by omega⟩
    rw [← h]
    exact Nat.sub_mul_mod (by omega)
theorem val64_limb : ∀ (l : List UInt64) (k : Nat), k < l.length → val64 l / 18446744073709551616 ^ k % 18446744073709551616 = (l.getD k 0).toNat
  | [], k, h => by simp at h
  | x :: l, 0, h => by have := x.toNat_lt; simp [val64]
  | x :: l, k + 1, h => by
    have := val64_limb l k (by simpa using h)
    have hx := x.toNat_lt
    rw [Nat.pow_succ, Nat.mul_comm (_ ^ k), ← Nat.div_div_eq_div_mul]
    have e : val64 (x :: l) / 18446744073709551616 = val64 l := by simp only [val64]; omega
    rw [e, this]
    simp [List.getD]
theorem limb_byte {l : List UInt64} {i : Nat} (h : i < 8 * l.length) : (shrU64 (l.getD (i / 8) 0) (8 * (i % 8))).toUInt8 = UInt8.ofNat (val64 l / 256 ^ i % 256) := by
  apply UInt8.toNat_inj.1
  have h1 := val64_limb l (i / 8) (by omega)
  have e0 : (256 : Nat) ^ i = 18446744073709551616 ^ (i / 8) * 256 ^ (i % 8) := by
    rw [show (18446744073709551616 : Nat) = 256 ^ 8 from rfl, ← Nat.pow_mul, ← Nat.pow_add]
    congr 1; omega
  have e1 : shrU64 (l.getD (i / 8) 0) (8 * (i % 8)) = l.getD (i / 8) 0 >>> UInt64.ofNat (8 * (i % 8)) := by unfold shrU64; rw [if_pos (by omega)]
  have e2 : (UInt64.ofNat (8 * (i % 8))).toNat % 64 = 8 * (i % 8) := by
    rw [UInt64.toNat_ofNat', Nat.mod_eq_of_lt (by omega : 8 * (i % 8) < 2 ^ 64)]; omega
  rw [e1, UInt64.toNat_toUInt8, UInt64.toNat_shiftRight, e2, ← h1, Nat.shiftRight_eq_div_pow, UInt8.toNat_ofNat', e0, ← Nat.div_div_eq_div_mul]
  generalize val64 l / 18446744073709551616 ^ (i / 8) = v
  have e3 : (2 : Nat) ^ (8 * (i % 8)) = 256 ^ (i % 8) := by rw [Nat.pow_mul]
  rw [e3]
  have hj : i % 8 < 8 := Nat.mod_lt _ (by omega)
  generalize i % 8 = j at hj
  rw [Nat.mod_mod]
  match j, hj with
  | 0, _ => simp only [Nat.pow_zero, Nat.div_one]; omega
  | 1, _ => simp only [Nat.pow_one]; omega
  | 2, _ => show v % 18446744073709551616 / 65536 % 2 ^ 8 = v / 65536 % 256; omega
  | 3, _ => show v % 18446744073709551616 / 16777216 % 2 ^ 8 = v / 16777216 % 256; omega
  | 4, _ => show v % 18446744073709551616 / 4294967296 % 2 ^ 8 = v / 4294967296 % 256; omega
  | 5, _ => show v % 18446744073709551616 / 1099511627776 % 2 ^ 8 = v / 1099511627776 % 256; omega
  | 6, _ => show v % 18446744073709551616 / 281474976710656 % 2 ^ 8 = v / 281474976710656 % 256; omega
  | 7, _ => show v % 18446744073709551616 / 72057594037927936 % 2 ^ 8 = v / 72057594037927936 % 256; omega
def val256 : List UInt64 → Nat
  | [] => 0
  | x :: l => x.toNat + 256 * val256 l
theorem val256_set : ∀ (l : List UInt64) (k : Nat) (x : UInt64), k < l.length → val256 (l.set k x) + 256 ^ k * (l.getD k 0).toNat = val256 l + 256 ^ k * x.toNat
  | [], k, x, h => by simp at h
  | y :: l, 0, x, h => by simp [val256, List.getD]; omega
  | y :: l, k + 1, x, h => by
    have := val256_set l k x (by simpa using h)
    have e : (y :: l).getD (k + 1) 0 = l.getD k 0 := rfl
    rw [e]
    simp only [List.set_cons_succ, val256, Nat.pow_succ, Nat.mul_comm (256 ^ k) 256, Nat.mul_assoc]
    omega
theorem val256_append : ∀ a b : List UInt64, val256 (a ++ b) = val256 a + 256 ^ a.length * val256 b
  | [], b => by simp [val256]
  | x :: a, b => by
    simp only [List.cons_append, val256, val256_append a b, List.length_cons, Nat.pow_succ]
    rw [Nat.mul_comm (256 ^ a.length) 256, Nat.mul_assoc]; omega
theorem val256_zeros (n : Nat) : val256 (List.replicate n 0) = 0 := by
  induction n with
  | zero => rfl
  | succ n ih => simp [List.replicate_succ, val256, ih]
def redN (v : Nat) : List UInt8 := leb 32 (v % LO)
@[simp] theorem redN_len (v : Nat) : (redN v).length = 32 := by simp [redN]
end Go.Sh
end
section
namespace Go.Proofs.YthaefcgpbccmbaaGreatDoor
open Go Go.Sh
open Go.Proofs.Tryz
theorem iNum : ∃ i, prog.info? 424 = some i ∧ i.zero = some (.agg (us [0, 0, 0, 0, 0]).toArray) ∧ i.size = 5 ∧ i.bytes = 40 := info_of (by kernel_rfl) (by kernel_rfl) (by kernel_rfl)
theorem iRest : ∃ i, prog.info? 426 = some i ∧ i.zero = some (.agg (us [0, 0, 0, 0, 0]).toArray) ∧ i.size = 5 ∧ i.bytes = 40 := info_of (by kernel_rfl) (by kernel_rfl) (by kernel_rfl)
theorem uNum : prog.underlying 424 = some (.array 5 188) := by kernel_rfl
theorem list5 {α : Type} {l : List α} (h : l.length = 5) : ∃ a b c d e, l = [a, b, c, d, e] := by
  match l, h with
  | [a, b, c, d, e], _ => exact ⟨a, b, c, d, e, rfl⟩
theorem c_order {w : World} : Calls prog 376 #[] w (Ret fun v w' => v = .agg (us lLimbs).toArray ∧ Mod NoB w w') := by
  refine call376 ?_
  unfold sh376
  obtain ⟨i, h1, h2, h3, h4⟩ := iNum
  refine sem_alloc (l := us [0, 0, 0, 0, 0]) h1 h2 (by simp [Value.cells]) fun b w1 hN hb => ⟨_, rfl, ?_⟩
  refine semU_store (b := b) (o := 0) (vs := us lLimbs) (l := us [0, 0, 0, 0, 0]) (by kernel_rfl) (by kernel_rfl) rfl hb (by decide) (us_one _) fun w2 ht hb2 => ?_
  have e : putAt (us [0, 0, 0, 0, 0]) 0 (us lLimbs) = us lLimbs := rfl
  rw [e] at hb2
  have hat := hN.at_
  exact ⟨6346243789798364141, 1503914060200516822, 0, 1152921504606846976, 0, hb2.rd (o := 0) (fun j v hv => by simp only [Nat.zero_add]; exact hv), rfl, hN.mod.fresh ht.mod fun x hx => by omega⟩
theorem c_less {w : World} {n m : List UInt64} (hn : n.length = 5) (hm : m.length = 5) {a0 a1 a2 a3 a4 b0 b1 b2 b3 b4 : UInt64} (en : n = [a0, a1, a2, a3, a4]) (em : m = [b0, b1, b2, b3, b4]) :
    Calls prog 377 #[.agg #[.int .u64 a0.toNat, .int .u64 a1.toNat, .int .u64 a2.toNat, .int .u64 a3.toNat, .int .u64 a4.toNat], .agg #[.int .u64 b0.toNat, .int .u64 b1.toNat, .int .u64 b2.toNat, .int .u64 b3.toNat, .int .u64 b4.toNat]] w
      (Ret fun v w' => v = .bool (decide (val64 n < val64 m)) ∧ Mod NoB w w') := by
  refine call377 _ _ _ _ _ _ _ _ _ _ ?_
  unfold sh377
  obtain ⟨i, h1, h2, h3, h4⟩ := i44
  refine sem_box (l := us n) (by rw [en]; rfl) fun p w1 hN1 hb1 => ⟨_, rfl, ?_⟩
  refine sem_box (l := us m) (by rw [em]; rfl) fun q w2 hN2 hb2 => ⟨_, rfl, ?_⟩
  have hm2 : Mod NoB w w2 := hN1.mod.tr hN2.mod
  have hp2 := hb1.no hN2.mod
  refine ⟨a0, a1, a2, a3, a4, hp2.rd (o := 0) (fun j v hv => by rw [en]; simp only [Nat.zero_add]; exact hv), b0, b1, b2, b3, b4, hb2.rd (o := 0) (fun j v hv => by rw [em]; simp only [Nat.zero_add]; exact hv), ?_⟩
  refine ps_arr (k := .u64) (.inl rfl) uNum (by kernel_rfl) (by kernel_rfl) h1 (by kernel_rfl) (by kernel_rfl) (l := n.map fun x => (x.toNat : Int)) (l' := m.map fun x => (x.toNat : Int)) (by simpa using hn) (by simpa using hm) (by rw [en]; rfl) (by rw [em]; rfl) ⟨_, rfl, ?_⟩
  have hinj : (n.map fun x => (x.toNat : Int)) = (m.map fun x => (x.toNat : Int)) → n = m := fun h => List.map_inj_right (fun x y e => by rw [← UInt64.toNat_inj]; omega) |>.1 h
  refine condK_i (fun he => ⟨?_, hm2⟩) fun he => ?_
  · have : n = m := hinj (by simpa using he)
    rw [this]; simp
  have hne : n ≠ m := fun e => by rw [e] at he; simp at he
  refine ⟨fun l' w' => match l' with | [.i _ x] => ∃ k : Nat, x = (k : Int) - 1 ∧ k ≤ 5 ∧ n.drop k = m.drop k ∧ Mod NoB w2 w' | _ => False, fun l' _ => match l' with | [.i _ x] => (x + 1).toNat | _ => 0, ⟨5, rfl, by omega, by rw [List.drop_of_length_le (by omega), List.drop_of_length_le (by omega)], Mod.refl _ _⟩, ?_⟩
  rintro x w3 ⟨k, rfl, hk, hd, hm3⟩
  refine condK_i (fun hge => ?_) fun hlt => ?_
  · have hk1 : 0 < k := by simp at hge; omega
    have e1 : ((k : Int) - 1).toNat = k - 1 := by omega
    rw [e1]
    have hpd := (hp2.no hm3).drew; have hqd := (hb2.no hm3).drew
    refine ⟨⟨by omega, by omega⟩, ⟨by omega, by omega⟩, n[k - 1]'(by omega), rda hpd (us_at (by omega)), m[k - 1]'(by omega), rda hqd (us_at (by omega)), ?_⟩
    refine condK_i (fun hx => ?_) fun hx => ?_
    · refine ⟨⟨by omega, by omega⟩, ⟨by omega, by omega⟩, n[k - 1]'(by omega), rda hpd.drew (us_at (by omega)), m[k - 1]'(by omega), rda hqd.drew (us_at (by omega)), ?_, Mod.dr (Mod.dr (hm2.tr hm3))⟩
      have := val_cmp n m (k - 1) (by omega) (by omega) (by omega) (by rw [Nat.sub_add_cancel hk1]; exact hd) (by simpa using hx)
      simp only [this]
    · refine ⟨⟨k - 1, by rw [wrap_i64 (by omega)]; omega, by omega, ?_, Mod.dr hm3⟩, ?_⟩
      · have h' : n[k - 1]'(by omega) = m[k - 1]'(by omega) := by simpa using hx
        rw [List.drop_eq_getElem_cons (by omega : k - 1 < n.length), List.drop_eq_getElem_cons (by omega : k - 1 < m.length), h', Nat.sub_add_cancel hk1, hd]
      · rw [wrap_i64 (by omega)]; (try simp only []); omega
  · have : k = 0 := by simp at hlt; omega
    subst this
    exact absurd (by simpa using hd) hne
def fill5 (ws : List UInt64) : List Value := us ws ++ List.replicate (5 - ws.length) z64
theorem fill5_len {ws : List UInt64} (h : ws.length ≤ 5) : (fill5 ws).length = 5 := by simp [fill5]; omega
theorem fill5_next {ws : List UInt64} {x : UInt64} (h : ws.length < 5) : (fill5 ws).set ws.length (.int .u64 x.toNat) = fill5 (ws ++ [x]) := by
  unfold fill5
  rw [rep_succ (by omega), set_mid (by simp)]
  have : 5 - ws.length - 1 = 5 - (ws ++ [x]).length := by simp; omega
  rw [this]
  simp [us]
theorem fill5_at {ws : List UInt64} {x : UInt64} (h : ws.length < 5) : (fill5 (ws ++ [x]))[ws.length]? = some (.int .u64 x.toNat) := by
  unfold fill5
  rw [List.getElem?_append_left (by simp)]
  simp [us]
theorem fill5_put {ws : List UInt64} {x y : UInt64} (h : ws.length < 5) : (fill5 (ws ++ [x])).set ws.length (.int .u64 y.toNat) = fill5 (ws ++ [y]) := by
  unfold fill5
  rw [List.set_append_left _ _ (by simp)]
  simp [us]
theorem fill5_full {ws : List UInt64} (h : ws.length = 5) : fill5 ws = us ws := by simp [fill5, h]
theorem lShift_take {k i : Nat} (hi : i < 5) : (lShift k).take (i + 1) = (lShift k).take i ++ [if 0 < i ∧ 0 < k then shlU64 (lLimbs.getD i 0) k ||| shrU64 (lLimbs.getD (i - 1) 0) (64 - k) else shlU64 (lLimbs.getD i 0) k] := by
  rw [take_snoc (by rw [lShift_len]; omega)]
  simp [lShift]
theorem lLimbs_at {i : Nat} (hi : i < 5) : (us lLimbs)[i]? = some (.int .u64 (lLimbs.getD i 0).toNat) := us_getD (by show i < 5; omega)
def sub64E : Array Value → Sem Value := (Extern.MathBitsCarry.rows.getD 1 ("", fun _ => pure .nilFunc)).2
theorem run_sub64E (x y b : Nat) (hb : b ≤ 1) (w : World) : (sub64E #[.int .u64 x, .int .u64 y, .int .u64 b]).run prog w =
      .ok (.tuple #[.int .u64 (((x + 18446744073709551616 - y - b) % 18446744073709551616 : Nat) : Int), .int .u64 ((if x < y + b then 1 else 0 : Nat) : Int)]) w := by
  have : b = 0 ∨ b = 1 := by omega
  rcases this with rfl | rfl <;> rfl
theorem run_Sub64 {x y b : UInt64} (hb : b.toNat ≤ 1) (w : World) : ∃ d b' : UInt64, (callFunc 378 #[.int .u64 x.toNat, .int .u64 y.toNat, .int .u64 b.toNat]).run prog w = .ok (.value (.tuple #[.int .u64 d.toNat, .int .u64 b'.toNat])) w ∧
    x.toNat + b'.toNat * 18446744073709551616 = d.toNat + y.toNat + b.toNat ∧ b'.toNat ≤ 1 := by
  have hx := x.toNat_lt; have hy := y.toNat_lt
  have e1 : (UInt64.ofNat ((x.toNat + 18446744073709551616 - y.toNat - b.toNat) % 18446744073709551616)).toNat = (x.toNat + 18446744073709551616 - y.toNat - b.toNat) % 18446744073709551616 := by
    rw [UInt64.toNat_ofNat']; omega
  have e2 : (UInt64.ofNat (if x.toNat < y.toNat + b.toNat then 1 else 0)).toNat = if x.toNat < y.toNat + b.toNat then 1 else 0 := by
    split <;> rfl
  refine ⟨UInt64.ofNat ((x.toNat + 18446744073709551616 - y.toNat - b.toNat) % 18446744073709551616), UInt64.ofNat (if x.toNat < y.toNat + b.toNat then 1 else 0), ?_, ?_⟩
  · rw [run_callFunc_extern func378 (by kernel_rfl) (by kernel_rfl) (by kernel_rfl) (e := sub64E) (by kernel_rfl), run_sub64E _ _ _ hb, e1, e2]
    rfl
  · rw [e1, e2]
    exact sub_step hb hx hy rfl rfl
theorem c_minus {w : World} {rb : Nat} {n : List UInt64} {T : TypeId} {k : Nat} (hr : Blk w rb (us n) T) (hn : n.length = 5) (hk : k ≤ 8) :
    Calls prog 360 #[.pointer (some ⟨rb, 0, none⟩), .int .u64 (UInt64.ofNat k).toNat] w (Ret fun v w' => v = .tuple #[] ∧ ∃ n', Blk w' rb (us n') T ∧ n'.length = 5 ∧ val64 n' = (if val64 n < LO * 2 ^ k then val64 n else val64 n - LO * 2 ^ k) ∧ Mod (fun x => x = rb) w w') := by
  refine call360 _ _ ?_
  unfold sh360
  obtain ⟨i, h1, h2, h3, h4⟩ := iNum
  have ek : (UInt64.ofNat k).toNat = k := by rw [UInt64.toNat_ofNat']; omega
  have ek64 : ((64 : UInt64) - UInt64.ofNat k).toNat = 64 - k := by
    rw [UInt64.toNat_sub_of_le _ _ (by rw [UInt64.le_iff_toNat_le, ek]; show k ≤ 64; omega), ek]; rfl
  have ek0 : decide ((0 : UInt64) < UInt64.ofNat k) = decide (0 < k) := by
    simp only [UInt64.lt_iff_toNat_lt, ek]; rfl
  refine sem_alloc (l := us [0, 0, 0, 0, 0]) h1 h2 (by simp [Value.cells]) fun m w1 hN1 hm1 => ⟨_, rfl, ?_⟩
  refine callK_ret c_order ?_
  rintro v w2 ⟨rfl, hm2⟩
  refine ⟨6346243789798364141, 1503914060200516822, 0, 1152921504606846976, 0, rfl, ?_⟩
  refine sem_alloc (l := us [0, 0, 0, 0, 0]) h1 h2 (by simp [Value.cells]) fun l w3 hN3 hl3 => ⟨_, rfl, ?_⟩
  refine semU_store (b := l) (o := 0) (vs := us lLimbs) (l := us [0, 0, 0, 0, 0]) (by kernel_rfl) (by kernel_rfl) rfl hl3 (by decide) (us_one _) fun w4 ht4 hl4 => ?_
  have e0 : putAt (us [0, 0, 0, 0, 0]) 0 (us lLimbs) = us lLimbs := rfl
  rw [e0] at hl4
  have a1 := hN1.at_; have a2 := hN1.size; have a3 := hN3.at_; have a4 := hN3.size; have a5 := hm2.size; have a6 := ht4.size; have a7 := hr.lt
  have hM4 : Mod NoB w w4 := ((hN1.mod.tr hm2).tr hN3.mod).fresh ht4.mod fun x hx => by omega
  have hmb4 : Blk w4 m (us [0, 0, 0, 0, 0]) 424 := ((hm1.no hm2).no hN3.mod).mod ht4.mod (by omega)
  refine ⟨fun l' w' => match l' with | [.i _ x] => ∃ j : Nat, x = j ∧ j ≤ 5 ∧ Blk w' m (fill5 ((lShift k).take j)) 424 ∧ Mod (fun y => y = m) w4 w' | _ => False, fun l' _ => match l' with | [.i _ x] => (5 - x).toNat | _ => 0, ⟨0, rfl, by omega, hmb4, Mod.refl _ _⟩, ?_⟩
  rintro x w5 ⟨j, rfl, hj, hmb5, hm5⟩
  have hl5 : Blk w5 l (us lLimbs) 424 := hl4.mod hm5 (by omega)
  have htl : ((lShift k).take j).length = j := by rw [List.length_take, lShift_len]; omega
  refine condK_i (fun hlt => ?_) fun hge => ?_
  · have hj' : j < 5 := by simp at hlt; omega
    simp only [ek, Int.toNat_natCast]
    refine ⟨⟨by omega, by omega⟩, lLimbs.getD j 0, rda hl5 (lLimbs_at hj'), by omega, ⟨by omega, by omega⟩, ?_⟩
    refine semU_at (b := m) (n := j) (by kernel_rfl) (by kernel_rfl) rfl hmb5 (by rw [fill5_len (by omega)]; omega) fun w6 ht6 hmb6 => ?_
    have hq := fill5_next (ws := (lShift k).take j) (x := shlU64 (lLimbs.getD j 0) k) (by omega)
    rw [htl] at hq
    rw [hq] at hmb6
    have hm6 := hm5.tr ht6.mod
    refine ⟨fun l' w' => match l' with | [.b t] => t = decide (0 < j ∧ 0 < k) ∧ w' = w6 | _ => False, condK_i (fun h => ⟨?_, rfl⟩) fun h => ⟨?_, rfl⟩, ?_⟩
    · have : 0 < j := by simp at h; omega
      rw [ek0]; simp [this]
    · have : ¬ 0 < j := by simp at h; omega
      simp [this]
    rintro t w7 ⟨rfl, rfl⟩
    have hd := lShift_take (k := k) hj'
    refine condK_i (fun h => ?_) fun h => ?_
    · have h' : 0 < j ∧ 0 < k := by simpa using h
      rw [if_pos h'] at hd
      have e1 : IntKind.i64.wrap ((j : Int) - 1) = ((j - 1 : Nat) : Int) := by rw [wrap_i64 (by omega)]; omega
      rw [e1]
      simp only [ek64, Int.toNat_natCast]
      have hat := fill5_at (ws := (lShift k).take j) (x := shlU64 (lLimbs.getD j 0) k) (by omega)
      rw [htl] at hat
      have hl7 : Blk w7 l (us lLimbs) 424 := hl4.mod hm6 (by omega)
      refine ⟨fun w' => w' = w7.drew, rfl, ⟨by omega, by omega⟩, ⟨by omega, by omega⟩, _, fun w' hw => by rw [hw]; exact rda hmb6.drew hat, lLimbs.getD (j - 1) 0, fun w' hw => by rw [hw]; exact rda hl7.drew (lLimbs_at (by omega)), by omega, ⟨by omega, by omega⟩, ?_, trivial⟩
      refine semU_at (b := m) (n := j) (by kernel_rfl) (by kernel_rfl) rfl hmb6.drew (by rw [fill5_len (by simp; omega)]; omega) fun w8 ht8 hmb8 => ⟨⟨j + 1, wrap_nat (by omega), by omega, ?_, ?_⟩, ?_⟩
      · have hq2 := fill5_put (ws := (lShift k).take j) (x := shlU64 (lLimbs.getD j 0) k) (y := shlU64 (lLimbs.getD j 0) k ||| shrU64 (lLimbs.getD (j - 1) 0) (64 - k)) (by omega)
        rw [htl] at hq2
        rw [hq2, ← hd] at hmb8
        exact hmb8
      · exact hm6.dr.tr ht8.mod
      · rw [wrap_nat (by omega)]; (try simp only []); omega
    · have h' : ¬ (0 < j ∧ 0 < k) := by simpa using h
      rw [if_neg h'] at hd
      rw [← hd] at hmb6
      refine ⟨⟨j + 1, wrap_nat (by omega), by omega, hmb6, hm6⟩, ?_⟩
      rw [wrap_nat (by omega)]; (try simp only []); omega
  · have hj5 : j = 5 := by simp at hge; omega
    subst hj5
    rw [List.take_of_length_le (by rw [lShift_len]; omega), fill5_full (lShift_len k)] at hmb5
    have hM5 : Mod NoB w w5 := hM4.fresh hm5 fun x hx => by omega
    have hr5 := hr.no hM5
    obtain ⟨n0, n1, n2, n3, n4, en⟩ := list5 hn
    obtain ⟨m0, m1, m2, m3, m4, em⟩ := list5 (lShift_len k)
    have hrd : ∀ w', Mod NoB w5 w' → Rd w' ((⟨rb, 0, none⟩ : Addr).add 0) [.int .u64 n0.toNat, .int .u64 n1.toNat, .int .u64 n2.toNat, .int .u64 n3.toNat, .int .u64 n4.toNat] := fun w' hm => by
      rw [addl]; exact (hr5.no hm).rd (o := 0 + 0) (fun j v hv => by rw [en]; simp only [Nat.zero_add]; exact hv)
    refine ⟨fun w' => Mod NoB w5 w', Mod.drew _ _, n0, n1, n2, n3, n4, hrd, m0, m1, m2, m3, m4, fun w' hm => (hmb5.no hm).rd (o := 0) (fun j v hv => by rw [em]; simp only [Nat.zero_add]; exact hv), ?_, trivial⟩
    refine callK_ret (c_less hn (lShift_len k) en em) ?_
    rintro v w9 ⟨rfl, hm9⟩
    have hm9' : Mod NoB w5 w9 := (Mod.drew _ _).tr hm9
    have hM9 := hM5.tr hm9'
    rw [lShift_val (by omega)]
    refine ⟨_, rfl, condK_i (fun h => ⟨rfl, n, hr5.no hm9', hn, ?_, hM9.mono fun _ _ h => h.elim⟩) fun h => ?_⟩
    · rw [if_pos (by simpa using h)]
    have hge : ¬ val64 n < LO * 2 ^ k := by simpa using h
    refine ⟨fun l' w' => match l' with | [.u64 b, .i _ x] => ∃ (j : Nat) (q : List UInt64), x = j ∧ j ≤ 5 ∧ q.length = j ∧ Blk w' rb (us (q ++ n.drop j)) T ∧ b.toNat ≤ 1 ∧ val64 (n.take j) + b.toNat * 18446744073709551616 ^ j = val64 q + val64 ((lShift k).take j) ∧ Mod (fun y => y = rb) w9 w' | _ => False,
      fun l' _ => match l' with | [.u64 _, .i _ x] => (5 - x).toNat | _ => 0, ⟨0, [], rfl, by omega, rfl, by simpa using hr5.no hm9', by decide, by simp [val64], Mod.refl _ _⟩, ?_⟩
    rintro b x w10 ⟨j, q, rfl, hj, hq, hr10, hb, hv, hm10⟩
    have hmb10 : Blk w10 m (us (lShift k)) 424 := (hmb5.no hm9').mod hm10 (by omega)
    refine condK_i (fun hlt => ?_) fun hge' => ?_
    · have hj' : j < 5 := by simp at hlt; omega
      simp only [Int.toNat_natCast]
      have ha : (us (q ++ n.drop j))[j]? = some (.int .u64 (n[j]'(by omega)).toNat) := by
        rw [us_app, List.getElem?_append_right (by simp [hq]), us_len, hq, Nat.sub_self, us_at (by simp; omega)]
        simp
      have hb' : (us (lShift k))[j]? = some (.int .u64 ((lShift k)[j]'(by rw [lShift_len]; omega)).toNat) := us_at (by rw [lShift_len]; omega)
      obtain ⟨d, b', hrun, hs, hb1⟩ := run_Sub64 (x := n[j]'(by omega)) (y := (lShift k)[j]'(by rw [lShift_len]; omega)) hb w10.drew
      refine ⟨fun w' => w' = w10.drew, rfl, ⟨by omega, by omega⟩, ⟨by omega, by omega⟩, _, fun w' hw => by rw [hw]; exact rda0 hr10.drew ha, _, fun w' hw => by rw [hw]; exact rda hmb10.drew hb', ⟨_, _, hrun, d, b', rfl, ⟨by omega, by omega⟩, ?_, trivial⟩, trivial⟩
      refine semU_at0 (b := rb) (n := j) (by kernel_rfl) (by kernel_rfl) rfl hr10.drew (by simp [hq]; omega) fun w12 ht12 hr12 => ⟨⟨j + 1, q ++ [d], wrap_nat (by omega), by omega, by simp [hq], ?_, hb1, sub_keep (by omega) (by rw [lShift_len]; omega) hq hv hs, hm10.dr.tr ht12.mod⟩, ?_⟩
      · have : (us (q ++ n.drop j)).set j (.int .u64 d.toNat) = us (q ++ [d] ++ n.drop (j + 1)) := by
          rw [List.drop_eq_getElem_cons (by omega : j < n.length), us_app, us_app, us_app]
          have e : us (n[j]'(by omega) :: n.drop (j + 1)) = .int .u64 (n[j]'(by omega)).toNat :: us (n.drop (j + 1)) := rfl
          rw [e, set_mid (by simp [hq])]
          simp [us]
        rw [this] at hr12
        exact hr12
      · rw [wrap_nat (by omega)]; (try simp only []); omega
    · have hj5 : j = 5 := by simp at hge'; omega
      subst hj5
      rw [List.drop_of_length_le (by omega), List.append_nil] at hr10
      rw [List.take_of_length_le (by omega), List.take_of_length_le (by rw [lShift_len]; omega), ← hn] at hv
      refine ⟨rfl, q, hr10, hq, ?_, hM9.no hm10⟩
      rw [if_neg hge, ← lShift_val (by omega)]
      exact sub_end (by rw [lShift_len, hn]) (by omega) hv (by rw [lShift_val (by omega)]; omega)
theorem times256_at {n : List UInt64} {c : UInt8} {i : Nat} (h0 : 0 < i) (h : i < 5) : (times256 n c)[i]'(by rw [times256_len]; omega) = shlU64 (n.getD i 0) 8 ||| shrU64 (n.getD (i - 1) 0) 56 := by
  have : i ≠ 0 := by omega
  simp [times256, this]
theorem getD_at {α : Type} {l : List α} {i : Nat} {d : α} (h : i < l.length) : l[i] = l.getD i d := by rw [List.getD, List.getElem?_eq_getElem h]; rfl
theorem c_add {w : World} {rb : Nat} {n : List UInt64} {T : TypeId} {c : UInt8} (hr : Blk w rb (us n) T) (hn : n.length = 5) (hv : val64 n < LO) :
    Calls prog 320 #[.pointer (some ⟨rb, 0, none⟩), .int .u8 c.toNat] w (Ret fun v w' => v = .tuple #[] ∧ ∃ n', Blk w' rb (us n') T ∧ n'.length = 5 ∧ val64 n' = (256 * val64 n + c.toNat) % LO ∧ Mod (fun x => x = rb) w w') := by
  refine call320 _ _ ?_
  unfold sh320
  have htl := times256_len n c
  refine ⟨fun l' w' => match l' with | [.i _ x] => ∃ k : Nat, x = k ∧ k ≤ 4 ∧ Blk w' rb (us (n.take (k + 1) ++ (times256 n c).drop (k + 1))) T ∧ Mod (fun y => y = rb) w w' | _ => False, fun l' _ => match l' with | [.i _ x] => x.toNat | _ => 0,
    ⟨4, rfl, by omega, by rw [List.take_of_length_le (by omega), List.drop_of_length_le (by omega), List.append_nil]; exact hr, Mod.refl _ _⟩, ?_⟩
  rintro x w1 ⟨k, rfl, hk, hr1, hm1⟩
  have hlen : (us (n.take (k + 1) ++ (times256 n c).drop (k + 1))).length = 5 := by simp [hn, htl]; omega
  have hat : ∀ i, i < k + 1 → (us (n.take (k + 1) ++ (times256 n c).drop (k + 1)))[i]? = some (.int .u64 (n.getD i 0).toNat) := fun i hi => by
    rw [us_app, List.getElem?_append_left (by simp; omega), us_getD (by simp; omega)]
    simp [List.getD, List.getElem?_take, hi]
  refine condK_i (fun hgt => ?_) fun hle => ?_
  · have hk0 : 0 < k := by simp at hgt; omega
    have e1 : IntKind.i64.wrap ((k : Int) - 1) = ((k - 1 : Nat) : Int) := by rw [wrap_i64 (by omega)]; omega
    rw [e1]
    simp only [Int.toNat_natCast]
    refine ⟨fun w' => w' = w1.drew, rfl, ⟨by omega, by omega⟩, ⟨by omega, by omega⟩, n.getD k 0, fun w' hw => by rw [hw]; exact rda0 hr1.drew (hat k (by omega)), by omega, n.getD (k - 1) 0, fun w' hw => by rw [hw]; exact rda0 hr1.drew (hat (k - 1) (by omega)), by omega, ⟨by omega, by omega⟩, ?_, trivial⟩
    refine semU_at0 (b := rb) (n := k) (by kernel_rfl) (by kernel_rfl) rfl hr1.drew (by omega) fun w2 ht2 hr2 => ⟨⟨k - 1, rfl, by omega, ?_, hm1.dr.tr ht2.mod⟩, by omega⟩
    have hr2' : Blk w2 rb ((us (n.take (k + 1) ++ (times256 n c).drop (k + 1))).set k (.int .u64 (shlU64 (n.getD k 0) 8 ||| shrU64 (n.getD (k - 1) 0) 56).toNat)) T := hr2
    rw [us_set, take_snoc (by omega : k < n.length), List.append_assoc, List.singleton_append, set_mid (by simp; omega), ← times256_at hk0 (by omega), ← List.drop_eq_getElem_cons (by omega : k < (times256 n c).length)] at hr2'
    rw [Nat.sub_add_cancel hk0]
    exact hr2'
  · have hk0 : k = 0 := by simp at hle; omega
    subst hk0
    refine ⟨fun w' => w' = w1.drew, rfl, ⟨by omega, by omega⟩, n.getD 0 0, fun w' hw => by rw [hw]; exact rda0 (n := 0) hr1.drew (hat 0 (by omega)), by omega, ⟨by omega, by omega⟩, ?_, trivial⟩
    refine semU_at0 (b := rb) (n := 0) (by kernel_rfl) (by kernel_rfl) rfl hr1.drew (by omega) fun w3 ht3 hr3 => ?_
    have e2 : (us (n.take (0 + 1) ++ (times256 n c).drop (0 + 1))).set 0 (.int .u64 (shlU64 (n.getD 0 0) 8 ||| c.toUInt64).toNat) = us (times256 n c) := by
      obtain ⟨a, b, d, g, f, rfl⟩ := list5 hn
      rfl
    have hr3 : Blk w3 rb (us (times256 n c)) T := e2 ▸ hr3
    have hM3 := hm1.dr.tr ht3.mod
    have hLO : LO * 2 ^ 9 < 2 ^ 312 := by decide +kernel
    have hval : val64 (times256 n c) = 256 * val64 n + c.toNat := times256_val hn (by omega)
    have hc := c.toNat_lt
    refine ⟨fun l' w' => match l' with | [.i _ x] => ∃ (k : Nat) (n' : List UInt64), x = (k : Int) - 1 ∧ k ≤ 9 ∧ Blk w' rb (us n') T ∧ n'.length = 5 ∧ val64 n' % LO = (256 * val64 n + c.toNat) % LO ∧ val64 n' < LO * 2 ^ k ∧ Mod (fun y => y = rb) w w' | _ => False, fun l' _ => match l' with | [.i _ x] => (x + 1).toNat | _ => 0,
      ⟨9, times256 n c, rfl, by omega, hr3, htl, by rw [hval], by rw [hval]; omega, hM3⟩, ?_⟩
    rintro x w4 ⟨k, n', rfl, hk, hr4, hn4, hv4, hb4, hm4⟩
    refine condK_i (fun hge => ?_) fun hlt => ?_
    · have hk0 : 0 < k := by simp at hge; omega
      have e4 : u64OfInt ((k : Int) - 1) = UInt64.ofNat (k - 1) := by rw [show ((k : Int) - 1) = ((k - 1 : Nat) : Int) by omega, u64_nat]
      rw [e4]
      refine callK_ret (c_minus hr4 hn4 (by omega)) ?_
      rintro v w5 ⟨rfl, n5, hr5, hn5, hv5, hm5⟩
      have := mod_step (k := k - 1) hv4 (by rw [Nat.sub_add_cancel hk0]; exact hb4) hv5
      refine ⟨rfl, ⟨k - 1, n5, by rw [wrap_i64 (by omega)]; omega, by omega, hr5, hn5, this.1, this.2, hm4.tr hm5⟩, ?_⟩
      rw [wrap_i64 (by omega)]; (try simp only []); omega
    · have hk0 : k = 0 := by simp at hlt; omega
      subst hk0
      refine ⟨rfl, n', hr4, hn4, ?_, hm4⟩
      rw [← hv4, Nat.mod_eq_of_lt (by simpa using hb4)]
theorem c_backFn {w : World} {s : Slc} : Calls prog 319 #[.slice s.a s.len s.cap] w (Ret fun v w' => ∃ p, v = .func (.func 359) #[] #[.pointer (some ⟨p, 0, none⟩)] ∧ (∃ T, Blk w' p [s.val] T) ∧ w.heap.size ≤ p ∧ Mod NoB w w') := by
  refine call319 _ ?_
  unfold sh319
  refine sem_box (l := [s.val]) rfl fun p w1 hN1 hb1 => ⟨_, rfl, ?_⟩
  have h1 := hN1.at_
  exact ⟨p, rfl, ⟨_, hb1⟩, by omega, hN1.mod⟩
theorem c_back {w : World} {ll p : Nat} {s : Slc} {l : List UInt8} {I : Nat → World → Prop} (hl : l.length = s.len) (hn : l.length ≤ 1000000000000000) (hp : ∃ T, Blk w p [s.val] T) (h0 : I l.length w)
    (hI : ∀ k w1, k < l.length → I (k + 1) w1 → Rd w1 ⟨p, 0, none⟩ [s.val] ∧ SlRd w1 s 1 (bys l) ∧ ∀ h : k < l.length, yieldK prog ll [.int .i64 k, .int .u8 l[k].toNat] w1 fun v w2 => v = .bool true ∧ I k w2) :
    Calls prog 359 #[.func (.yield ll) #[] #[], .pointer (some ⟨p, 0, none⟩)] w (Ret fun v w' => v = .tuple #[] ∧ I 0 w') := by
  refine call359 _ _ ?_
  unfold sh359
  obtain ⟨T, hp⟩ := hp
  refine ⟨s, hp.rd1 rfl, ?_⟩
  refine ⟨fun l' w' => match l' with | [.i _ x] => ∃ k : Nat, x = (k : Int) - 1 ∧ k ≤ l.length ∧ I k w' | _ => False, fun l' _ => match l' with | [.i _ x] => (x + 1).toNat | _ => 0, ⟨l.length, by rw [wrap_i64 (by omega), hl], by omega, h0⟩, ?_⟩
  rintro i w1 ⟨k, rfl, hk, hI1⟩
  refine condK_i (fun hge => ?_) fun hlt => ?_
  · have hk0 : 0 < k := by simp at hge; omega
    obtain ⟨hr1, hr2, hy⟩ := hI (k - 1) w1 (by omega) (by rw [Nat.sub_add_cancel hk0]; exact hI1)
    obtain ⟨a, ea, hra⟩ := rd_u8 hr2 (i := k - 1) (by omega)
    have e1 : ((k : Int) - 1) = ((k - 1 : Nat) : Int) := by omega
    rw [e1]
    refine ⟨s, hr1, ⟨by omega, by omega⟩, ?_⟩
    rw [ea]
    refine ⟨_, hra, ?_⟩
    show yieldK _ _ _ _ _
    obtain ⟨f, tmps, assign, body, g1, g2⟩ := hy (by omega)
    refine ⟨f, tmps, assign, body, g1, RoundIn.mono g2 fun e w2 he => ?_⟩
    obtain ⟨v, rfl, rfl, hI2⟩ := he
    refine ⟨_, rfl, true, rfl, ?_⟩
    refine condK_i (fun e => by cases e) fun _ => ⟨⟨k - 1, by rw [wrap_i64 (by omega)], by omega, hI2⟩, ?_⟩
    rw [wrap_i64 (by omega)]; (try simp only []); omega
  · have : k = 0 := by simp at hlt; omega
    subst this
    exact ⟨rfl, hI1⟩
theorem le_cons_drop {l : List UInt8} {k : Nat} (h : k < l.length) : le (l.drop k) = l[k].toNat + 256 * le (l.drop (k + 1)) := by
  rw [List.drop_eq_getElem_cons h]; rfl
theorem mod_snoc (a b m : Nat) : (256 * (a % m) + b) % m = (b + 256 * a) % m := by
  rw [Nat.add_comm, Nat.add_mod, Nat.mul_mod, Nat.mod_mod, ← Nat.mul_mod, ← Nat.add_mod]
theorem c_reduced {w : World} {s : Slc} {l : List UInt8} (hs : SlRd w s 1 (bys l)) (hsl : ∀ x, s.blk = some x → x < w.heap.size) (hn : l.length ≤ 1000000000000000) :
    Calls prog 258 #[.slice s.a s.len s.cap] w (Ret fun v w' => ∃ x : Slc, v = x.val ∧ Sh.Own w' x 1 (bys (redN (le l))) ∧ x.len = 32 ∧ x.cap = 32 ∧ FB w x ∧ Mod NoB w w') := by
  refine call258 _ ?_
  unfold sh258
  obtain ⟨ir, hr1, hr2, hr3, hr4⟩ := iRest
  obtain ⟨i5', h51, h52, h53, h54⟩ := i5
  have hlen := rd_len8 hs
  refine sem_alloc (l := us [0, 0, 0, 0, 0]) hr1 hr2 (by simp [Value.cells]) fun rb w1 hN1 hb1 => ⟨_, rfl, ?_⟩
  have a1 := hN1.at_; have a2 := hN1.size
  refine callK_ret c_backFn ?_
  rintro v w2 ⟨p, rfl, ⟨T, hp⟩, hps, hm2⟩
  refine ⟨_, rfl, 359, #[], #[.pointer (some ⟨p, 0, none⟩)], rfl, by kernel_rfl, ?_⟩
  rintro rec dd ll w3 hdd hll hw3 hY
  have hM3 : Mod NoB w2 w3 := by rw [hw3]; exact (alloc_mod _ _).tr (alloc_mod _ _)
  have hsz3 : w3.heap.size = ll + 1 := by rw [hw3]; simp; omega
  have hld3 : w3.heap[ll]? = some (rec .ready none) := by
    rw [hw3, hll, hdd]
    have := heap_alloc_new (w2.alloc (.deferred (some []))) (rec .ready none)
    simpa using this
  have hdd3 : w3.heap[dd]? = some (.deferred (some [])) := by
    rw [hw3, hdd, heap_alloc_old _ _ (by simp)]
    exact heap_alloc_new _ _
  have hpl := hp.lt; have s2 := hm2.size
  have hMw3 : Mod NoB w w3 := (hN1.mod.tr hm2).tr hM3
  have hrb3 : Blk w3 rb (us [0, 0, 0, 0, 0]) 426 := (hb1.no hm2).no hM3
  let I : Nat → World → Prop := fun k w' => w'.heap[ll]? = some (rec .ready none) ∧ ∃ n, Blk w' rb (us n) 426 ∧ n.length = 5 ∧ val64 n = le (l.drop k) % LO ∧ Mod (fun x => x = rb ∨ x = ll) w3 w'
  have hseq := c_back (w := w3) (ll := ll) (p := p) (s := s) (l := l) (I := I) hlen hn ⟨T, hp.no hM3⟩
    ⟨hld3, [0, 0, 0, 0, 0], hrb3, rfl, by rw [List.drop_length]; rfl, Mod.refl _ _⟩ (by
      rintro k w4 hk ⟨hl4, n, hb4, hn4, hv4, hm4⟩
      refine ⟨((hp.no hM3).mod hm4 (by omega)).rd1 rfl, (hs.no hMw3).mod hm4 (fun x hx e => by have := hsl x hx; omega), fun hk' => ?_⟩
      refine hY _ _ w4 _ hl4 ⟨hl4, ?_⟩
      have hll4 := lt_of_get hl4
      obtain ⟨hmp, hgp, hsp⟩ := put_mod (o := rec .busy none) hll4
      have hrl := hb4.lt
      refine callK_ret (c_add (c := l[k]) (hb4.mod hmp (by omega)) hn4 (by rw [hv4]; exact Nat.mod_lt _ LO_pos)) ?_
      rintro v w5 ⟨rfl, n5, hb5, hn5, hv5, hm5⟩
      have hl5 : w5.heap[ll]? = some (rec .busy none) := by rw [hm5.block ll (by omega) (by omega)]; exact hgp
      refine ⟨rfl, hl5, rfl, ?_⟩
      have hll5 := lt_of_get hl5
      obtain ⟨hmq, hgq, hsq⟩ := put_mod (o := rec .ready none) hll5
      refine ⟨hgq, n5, hb5.mod hmq (by omega), hn5, ?_, ?_⟩
      · rw [hv5, hv4, mod_snoc, le_cons_drop hk]
      · exact ((hm4.tr (hmp.mono fun x _ e => .inr e)).tr (hm5.mono fun x _ e => .inl e)).tr (hmq.mono fun x _ e => .inr e))
  refine callK_of hseq ?_ (fun _ _ h => h.elim) (fun _ h => h)
  rintro v w4 ⟨rfl, hl4, n, hb4, hn4, hv4, hm4⟩
  left
  refine ⟨hl4, ?_⟩
  rw [List.drop_zero] at hv4
  have hll4 := lt_of_get hl4
  obtain ⟨hmp, hgp, hsp⟩ := put_mod (o := rec .exhausted none) hll4
  have hb5 := hb4.mod hmp (show ¬ rb = ll by omega)
  have hM5 : Mod NoB w (w4.putObj ll (rec .exhausted none)) := (hMw3.fresh hm4 fun x e => by omega).fresh hmp fun x e => by omega
  refine sem_makeSlice (l := 32) (c := 32) u26 h51 h52 h53 rfl h54 rfl rfl (by omega) (by omega) (by omega) fun e w7 hN7 hbe hoe => ⟨⟨_, _, _⟩, rfl, ?_⟩
  have b1 := hN7.at_; have b2 := hN7.size; have b3 := hM5.size
  have b4 : dd < (w4.putObj ll (rec .exhausted none)).heap.size := by omega
  have hdd5 : (w4.putObj ll (rec .exhausted none)).heap[dd]? = some (.deferred (some [])) := by
    rw [hmp.block dd (by omega) (by omega), hm4.block dd (by omega) (by omega)]; exact hdd3
  rw [bys_rep] at hoe
  refine ⟨fun l' w' => match l' with | [.i _ x] => ∃ k : Nat, x = k ∧ k ≤ 32 ∧ Sh.Own w' ⟨some ⟨e, 0, none⟩, 32, 32⟩ 1 (bys ((redN (le l)).take k ++ List.replicate (32 - k) 0)) ∧ Mod (fun y => y = e) w7 w' | _ => False, fun l' _ => match l' with | [.i _ x] => (32 - x).toNat | _ => 0,
    ⟨0, rfl, by omega, by simpa using hoe, Mod.refl _ _⟩, ?_⟩
  rintro x w8 ⟨k, rfl, hk, ho8, hm8⟩
  have hb8 : Blk w8 rb (us n) 426 := (hb5.no hN7.mod).mod hm8 (by have := hb5.lt; omega)
  refine condK_i (fun hlt => ?_) fun hge => ?_
  · have hk' : k < 32 := by simp at hlt; omega
    have e1 : IntKind.i64.wrap (Int.tdiv (k : Int) 8) = ((k / 8 : Nat) : Int) := by
      rw [show Int.tdiv (k : Int) 8 = ((k / 8 : Nat) : Int) from rfl, wrap_i64 (by omega)]
    have e2 : IntKind.i64.wrap (8 * Int.tmod (k : Int) 8) = ((8 * (k % 8) : Nat) : Int) := by
      rw [show Int.tmod (k : Int) 8 = ((k % 8 : Nat) : Int) from rfl, wrap_i64 (by omega)]; omega
    rw [e1, e2]
    refine ⟨by omega, ⟨by omega, by omega⟩, n.getD (k / 8) 0, rda0 hb8 (us_getD (by omega)), by omega, by omega, ⟨by omega, by show (k : Int) < ((32 : Nat) : Int); omega⟩, ?_⟩
    simp only [Int.toNat_natCast]
    have hbyte : (shrU64 (n.getD (k / 8) 0) (8 * (k % 8))).toUInt8 = (redN (le l))[k]'(by simp; omega) := by
      rw [limb_byte (by omega), hv4]
      have := leb_at 32 (le l % LO) k hk'
      rw [← redN, List.getElem?_eq_getElem (by simp; omega)] at this
      exact (Option.some.inj this).symm
    rw [hbyte]
    refine semU_own1 (by kernel_rfl) (by kernel_rfl) rfl ho8 rfl hk' fun w9 ho9 hm9 hs9 => ⟨⟨k + 1, wrap_nat (by omega), by omega, ?_, hm8.tr (hm9.mono fun x _ hx => by rw [Slc.blk_mk, if_neg (by omega)] at hx; cases hx; rfl)⟩, ?_⟩
    · rw [bys_set, fill_set (by simp; omega) hk'] at ho9
      exact ho9
    · rw [wrap_nat (by omega)]; (try simp only []); omega
  · have hk' : k = 32 := by simp at hge; omega
    subst hk'
    rw [List.take_of_length_le (by simp), Nat.sub_self, List.replicate_zero, List.append_nil] at ho8
    have hdd8 : w8.heap[dd]? = some (.deferred (some [])) := by rw [hm8.block dd (by omega) (by omega), hN7.mod.block dd b4 (fun h => h)]; exact hdd5
    have hddl := lt_of_get hdd8
    obtain ⟨hmd, -, -⟩ := put_mod (w := w8) (o := .deferred none) hddl
    have hM8 : Mod NoB w w8 := (hM5.tr hN7.mod).fresh hm8 fun x hx => by omega
    refine ⟨hdd8, ⟨some ⟨e, 0, none⟩, 32, 32⟩, rfl, ho8.mod hmd (fun x hx => by rw [Slc.blk_mk, if_neg (by omega)] at hx; cases hx; omega), rfl, rfl, FB.new (by omega), hM8.fresh hmd fun x hx => by omega⟩
def redT (l : List UInt8) : List UInt8 := if l.length > 64 then [] else redN (le l)
theorem c_reduce {w : World} {s : Slc} {l : List UInt8} (hs : SlRd w s 1 (bys l)) (hsl : ∀ x, s.blk = some x → x < w.heap.size) :
    Calls prog 242 #[.slice s.a s.len s.cap] w (Ret fun v w' => ∃ x : Slc, v = x.val ∧ Sh.Own w' x 1 (bys (redT l)) ∧ x.cap = x.len ∧ FB w x ∧ Mod NoB w w') := by
  refine call242 _ ?_
  unfold sh242
  have hlen := rd_len8 hs
  refine condK_i (fun h => ?_) fun h => ?_
  · have : l.length > 64 := by simp at h; omega
    exact ⟨⟨none, 0, 0⟩, rfl, by rw [redT, if_pos this]; exact own_nil _ _, rfl, FB.nil _, Mod.refl _ _⟩
  · have h' : ¬ l.length > 64 := by simp at h; omega
    refine callK_ret (c_reduced hs hsl (by omega)) ?_
    rintro v w1 ⟨x, rfl, ho, hl, hc, hf, hm⟩
    exact ⟨x, rfl, x, rfl, by rw [redT, if_neg h']; exact ho, by omega, hf, hm⟩
end Go.Proofs.YthaefcgpbccmbaaGreatDoor
end
section
namespace Go.Sh
open Go
theorem le_take_succ {l : List UInt8} {k : Nat} (h : k < l.length) : le (l.take (k + 1)) = le (l.take k) + 256 ^ k * l[k].toNat := by
  rw [List.take_succ_eq_append_getElem h, le_append, List.length_take, Nat.min_eq_left (by omega)]
  simp [le]
theorem val256_take_succ {l : List UInt64} {k : Nat} (h : k < l.length) : val256 (l.take (k + 1)) = val256 (l.take k) + 256 ^ k * l[k].toNat := by
  rw [List.take_succ_eq_append_getElem h, val256_append, List.length_take, Nat.min_eq_left (by omega)]
  simp [val256]
theorem val256_add {t : List UInt64} {k d : Nat} {x : UInt64} (h : k < t.length) (hx : x.toNat = (t.getD k 0).toNat + d) : val256 (t.set k x) = val256 t + 256 ^ k * d := by
  have := val256_set t k x h
  rw [hx, Nat.mul_add] at this
  omega
theorem u64_add_small {x : UInt64} {y : UInt64} (h : x.toNat + y.toNat < 18446744073709551616) : (x + y).toNat = x.toNat + y.toNat := by
  rw [UInt64.toNat_add]; exact Nat.mod_eq_of_lt h
theorem u8_mul (x y : UInt8) : (x.toUInt64 * y.toUInt64).toNat = x.toNat * y.toNat := by
  have hx := x.toNat_lt; have hy := y.toNat_lt
  have : x.toNat * y.toNat ≤ 255 * 255 := Nat.mul_le_mul (by omega) (by omega)
  rw [UInt64.toNat_mul]
  simp only [UInt8.toNat_toUInt64]
  exact Nat.mod_eq_of_lt (by omega)
structure Words (t : List UInt64) (i k : Nat) (la lb lc : List UInt8) : Prop where
  len : t.length = 66
  val : val256 t = le (lc.take i) + le (la.take i) * le lb + 256 ^ i * ((lc.getD i 0).toNat + (la.getD i 0).toNat * le (lb.take k))
  bound : ∀ j, (t.getD j 0).toNat ≤ if j < i + k then (i + 1) * 65280 else i * 65280 + 255
structure Words0 (t : List UInt64) (i : Nat) (la lb lc : List UInt8) : Prop where
  len : t.length = 66
  val : val256 t = le (lc.take i) + le (la.take i) * le lb
  bound : ∀ j, (t.getD j 0).toNat ≤ i * 65280
theorem getD_zeros (n j : Nat) : (List.replicate n (0 : UInt64)).getD j 0 = 0 := by
  rw [List.getD, List.getElem?_replicate]; split <;> rfl
theorem words0_start (la lb lc : List UInt8) : Words0 (List.replicate 66 0) 0 la lb lc :=
  ⟨by simp, by rw [val256_zeros]; simp [le], fun j => by rw [getD_zeros]; exact Nat.zero_le _⟩
theorem getD_set_same {t : List UInt64} {k : Nat} {x : UInt64} (h : k < t.length) : (t.set k x).getD k 0 = x := by simp [List.getD, h]
theorem getD_set_other {t : List UInt64} {k j : Nat} {x : UInt64} (h : k ≠ j) : (t.set k x).getD j 0 = t.getD j 0 := by simp [List.getD, List.getElem?_set_ne h]
theorem words_c {t : List UInt64} {i : Nat} {la lb lc : List UInt8} (h : Words0 t i la lb lc) (hi : i < 32) : Words (t.set i (t.getD i 0 + (lc.getD i 0).toUInt64)) i 0 la lb lc := by
  have hb := h.bound i
  have hc := (lc.getD i 0).toNat_lt
  have hx : (t.getD i 0 + (lc.getD i 0).toUInt64).toNat = (t.getD i 0).toNat + (lc.getD i 0).toNat := by
    rw [u64_add_small (by simp only [UInt8.toNat_toUInt64]; omega), UInt8.toNat_toUInt64]
  have hlen := h.len
  refine ⟨by rw [List.length_set]; exact hlen, ?_, fun j => ?_⟩
  · rw [val256_add (by omega) hx, h.val, List.take_zero]; simp only [le, Nat.mul_zero, Nat.add_zero]
  · by_cases hj : i = j
    · subst hj
      rw [getD_set_same (by omega), hx, if_neg (by omega)]; omega
    · rw [getD_set_other hj]
      have := h.bound j
      split
      · exact Nat.le_trans this (Nat.mul_le_mul_right _ (Nat.le_succ i))
      · exact Nat.le_trans this (Nat.le_add_right _ _)
theorem words_ab {t : List UInt64} {i k : Nat} {la lb lc : List UInt8} (h : Words t i k la lb lc) (hi : i < 32) (hk : k < 32) (hlb : lb.length = 32) :
    Words (t.set (i + k) (t.getD (i + k) 0 + (la.getD i 0).toUInt64 * (lb.getD k 0).toUInt64)) i (k + 1) la lb lc := by
  have hb := h.bound (i + k)
  rw [if_neg (by omega)] at hb
  have hm : (la.getD i 0).toNat * (lb.getD k 0).toNat ≤ 255 * 255 := Nat.mul_le_mul (by have := (la.getD i 0).toNat_lt; omega) (by have := (lb.getD k 0).toNat_lt; omega)
  have hx : (t.getD (i + k) 0 + (la.getD i 0).toUInt64 * (lb.getD k 0).toUInt64).toNat = (t.getD (i + k) 0).toNat + (la.getD i 0).toNat * (lb.getD k 0).toNat := by
    rw [u64_add_small (by rw [u8_mul]; omega), u8_mul]
  have hlen := h.len
  refine ⟨by rw [List.length_set]; exact hlen, ?_, fun j => ?_⟩
  · rw [val256_add (by omega) hx, h.val, le_take_succ (by omega)]
    have e : lb[k]'(by omega) = lb.getD k 0 := by rw [List.getD, List.getElem?_eq_getElem (by omega)]; rfl
    rw [e, Nat.pow_add, Nat.mul_add, Nat.mul_add, Nat.mul_add]
    have e2 : 256 ^ i * 256 ^ k * ((la.getD i 0).toNat * (lb.getD k 0).toNat) = 256 ^ i * ((la.getD i 0).toNat * (256 ^ k * (lb.getD k 0).toNat)) := by
      rw [Nat.mul_assoc]; congr 1; rw [← Nat.mul_assoc, Nat.mul_comm (256 ^ k), Nat.mul_assoc]
    rw [e2, Nat.mul_add]
    omega
  · by_cases hj : i + k = j
    · subst hj
      rw [getD_set_same (by omega), hx, if_pos (by omega)]; omega
    · rw [getD_set_other hj]
      have := h.bound j
      by_cases h1 : j < i + k
      · rw [if_pos h1] at this; rw [if_pos (by omega)]; exact this
      · rw [if_neg h1] at this; rw [if_neg (by omega)]; exact this
theorem words_row {t : List UInt64} {i : Nat} {la lb lc : List UInt8} (h : Words t i 32 la lb lc) (hi : i < 32) (hla : la.length = 32) (hlb : lb.length = 32) (hlc : lc.length = 32) : Words0 t (i + 1) la lb lc := by
  refine ⟨h.len, ?_, fun j => ?_⟩
  · have e1 : la[i]'(by omega) = la.getD i 0 := by rw [List.getD, List.getElem?_eq_getElem (by omega)]; rfl
    have e2 : lc[i]'(by omega) = lc.getD i 0 := by rw [List.getD, List.getElem?_eq_getElem (by omega)]; rfl
    rw [h.val, le_take_succ (l := lc) (k := i) (by omega), le_take_succ (l := la) (k := i) (by omega), e1, e2, List.take_of_length_le (l := lb) (by omega), Nat.add_mul, Nat.mul_add, Nat.mul_assoc]
    omega
  · have := h.bound j
    split at this <;> omega
theorem carry_step {t : List UInt64} {k : Nat} {ob : List UInt8} {c : UInt64} (hk : k < t.length) (ho : ob.length = k) (hv : le ob + 256 ^ k * c.toNat = val256 (t.take k)) (hc : c.toNat ≤ 4194304) (hb : (t.getD k 0).toNat ≤ 4194304) :
    le (ob ++ [(c + t.getD k 0).toUInt8]) + 256 ^ (k + 1) * (shrU64 (c + t.getD k 0) 8).toNat = val256 (t.take (k + 1)) ∧ (shrU64 (c + t.getD k 0) 8).toNat ≤ 4194304 := by
  have e1 : (c + t.getD k 0).toNat = c.toNat + (t.getD k 0).toNat := u64_add_small (by omega)
  have e2 : (shrU64 (c + t.getD k 0) 8).toNat = (c.toNat + (t.getD k 0).toNat) / 256 := by
    have : shrU64 (c + t.getD k 0) 8 = (c + t.getD k 0) >>> 8 := rfl
    rw [this, UInt64.toNat_shiftRight, e1, Nat.shiftRight_eq_div_pow]; rfl
  have e3 : (c + t.getD k 0).toUInt8.toNat = (c.toNat + (t.getD k 0).toNat) % 256 := by rw [UInt64.toNat_toUInt8, e1]
  have e4 : t[k] = t.getD k 0 := by rw [List.getD, List.getElem?_eq_getElem hk]; rfl
  refine ⟨?_, by omega⟩
  rw [le_append, val256_take_succ hk, e4, ho, ← hv, e2]
  simp only [le, e3, Nat.mul_zero, Nat.add_zero, Nat.pow_succ, Nat.mul_assoc]
  have h := Nat.mod_add_div (c.toNat + (t.getD k 0).toNat) 256
  have h2 := congrArg (256 ^ k * ·) h
  simp only [Nat.mul_add] at h2
  omega
theorem carry_end {t : List UInt64} {ob : List UInt8} {c : UInt64} {la lb lc : List UInt8} (h : Words0 t 32 la lb lc) (hla : la.length = 32) (hlb : lb.length = 32) (hlc : lc.length = 32) (ho : ob.length = 66) (hv : le ob + 256 ^ 66 * c.toNat = val256 t) : le ob = le la * le lb + le lc := by
  have h1 := h.val
  rw [List.take_of_length_le (by omega), List.take_of_length_le (by omega)] at h1
  have a1 := le_lt la; have a2 := le_lt lb; have a3 := le_lt lc
  rw [hla] at a1; rw [hlb] at a2; rw [hlc] at a3
  have h2 : le la * le lb < 256 ^ 32 * 256 ^ 32 := Nat.mul_lt_mul'' a1 a2
  have h3 : (256 : Nat) ^ 66 = 65536 * (256 ^ 32 * 256 ^ 32) := by decide +kernel
  have h4 : (256 : Nat) ^ 32 ≤ 256 ^ 32 * 256 ^ 32 := by decide +kernel
  rw [h3] at hv
  generalize (256 : Nat) ^ 32 * 256 ^ 32 = Q at *
  rcases Nat.eq_zero_or_pos c.toNat with e | e
  · rw [e] at hv; omega
  · have h5 : 65536 * Q ≤ 65536 * Q * c.toNat := Nat.le_mul_of_pos_right _ e
    omega
def bitOf (l : List UInt8) (i : Nat) : Bool := (shrU8 (l.getD (i / 8) 0) (i % 8) &&& 1) == 1
def bitsT (l : List UInt8) : List Bool := if l.length = 32 then (List.range 256).map (bitOf l) else []
def mulT (a b c : List UInt8) : List UInt8 := if a.length = 32 ∧ b.length = 32 ∧ c.length = 32 then redN (le a * le b + le c) else []
end Go.Sh
end
section
namespace Go.Proofs.YthaefcgpbccmbaaGreatDoor
open Go Go.Sh
open Go.Proofs.Tryz
theorem c_scalars {w : World} {x : Slc} {ss : List Slc} (hx : SlRd w x 1 (ss.map Slc.val)) (hn : ss.length ≤ 1000000000) :
    Calls prog 257 #[.slice x.a x.len x.cap] w (Ret fun v w' => v = .bool (ss.all fun s => s.len == 32) ∧ w' = w) := by
  have hlen : ss.length = x.len := by have := hx.1; simp at this; omega
  refine call257 _ ?_
  unfold sh257
  have idx : Calls prog 358 #[.slice x.a x.len x.cap, .func (.func 318) #[] #[]] w (Ret fun v w' => ∃ n : Int, v = .int .i64 n ∧ decide (n ≥ 0) = !(ss.all fun s => s.len == 32) ∧ w' = w) := by
    refine call358 _ _ ?_
    unfold sh358
    refine ⟨fun l' w' => match l' with | [.i _ y] => ∃ k : Nat, y = k ∧ k ≤ ss.length ∧ (ss.take k).all (fun s => s.len == 32) = true ∧ w' = w | _ => False, fun l' _ => match l' with | [.i _ y] => (ss.length - y).toNat | _ => 0, ⟨0, rfl, by omega, rfl, rfl⟩, ?_⟩
    rintro y w1 ⟨k, rfl, hk, hall, rfl⟩
    refine condK_i (fun hlt => ?_) fun hge => ?_
    · have hk' : k < ss.length := by simp at hlt; omega
      obtain ⟨a, ea, hra⟩ := rd_slc hx hk'
      rw [ea]
      refine ⟨⟨by omega, by omega⟩, _, hra, ?_⟩
      refine callFV_of (by kernel_rfl) ?_
      refine callK_ret (Q := fun v w' => v = .bool ((ss[k].len : Int) != 32) ∧ w' = w1) (call318 _ ⟨rfl, rfl⟩) ?_
      rintro v w2 ⟨rfl, rfl⟩
      refine ⟨_, rfl, condK_i (fun h => ⟨_, rfl, ?_, rfl⟩) fun h => ⟨⟨k + 1, wrap_nat (by omega), by omega, ?_, rfl⟩, ?_⟩⟩
      · have hne : ¬ ss[k].len = 32 := by simp at h; omega
        have : ss.all (fun s => s.len == 32) = false := by
          rw [List.all_eq_false]
          exact ⟨ss[k], List.getElem_mem hk', by simpa using hne⟩
        rw [this]; simp
      · rw [take_snoc hk', List.all_append, hall]
        have : ss[k].len = 32 := by simp at h; omega
        simp [this]
      · rw [wrap_nat (by omega)]; (try simp only []); omega
    · have : k = ss.length := by simp at hge; omega
      subst this
      rw [List.take_length] at hall
      exact ⟨-1, rfl, by rw [hall]; rfl, rfl⟩
  refine callK_ret (Q := fun v w' => v = .bool (!(ss.all fun s => s.len == 32)) ∧ w' = w) ?_ ?_
  · refine call317 _ _ ?_
    unfold sh317
    refine callK_ret idx ?_
    rintro v w1 ⟨n, rfl, h, rfl⟩
    exact ⟨_, rfl, by rw [h], rfl⟩
  · rintro v w1 ⟨rfl, rfl⟩
    exact ⟨_, rfl, by simp, rfl⟩
theorem c_mulAdd {w : World} {a b c : Slc} {la lb lc : List UInt8} (ha : SlRd w a 1 (bys la)) (hal : ∀ x, a.blk = some x → x < w.heap.size) (hb : SlRd w b 1 (bys lb)) (hbl : ∀ x, b.blk = some x → x < w.heap.size) (hc : SlRd w c 1 (bys lc)) (hcl : ∀ x, c.blk = some x → x < w.heap.size) :
    Calls prog 192 #[.slice a.a a.len a.cap, .slice b.a b.len b.cap, .slice c.a c.len c.cap] w (Ret fun v w' => ∃ x : Slc, v = x.val ∧ Sh.Own w' x 1 (bys (mulT la lb lc)) ∧ x.cap = x.len ∧ FB w x ∧ Mod NoB w w') := by
  refine call192 _ _ _ ?_
  unfold sh192
  obtain ⟨i5', h51, h52, h53, h54⟩ := i5
  obtain ⟨i44', h441, h442, h443, h444⟩ := i44
  have hna := rd_len8 ha; have hnb := rd_len8 hb; have hnc := rd_len8 hc
  refine sem_rows [a, b, c] (by rfl) rfl (by decide) (by decide) fun x e w1 hN1 hx hbx hox => ⟨x, rfl, ?_⟩
  refine callK_ret (c_scalars hox.rd (by simp)) ?_
  rintro v w2 ⟨rfl, rfl⟩
  refine ⟨_, rfl, condK_i (fun h => ?_) fun h => ?_⟩
  · have : ¬ (la.length = 32 ∧ lb.length = 32 ∧ lc.length = 32) := by
      rintro ⟨h1, h2, h3⟩
      have e1 : a.len = 32 := by omega
      have e2 : b.len = 32 := by omega
      have e3 : c.len = 32 := by omega
      simp [e1, e2, e3] at h
    exact ⟨⟨none, 0, 0⟩, rfl, by rw [mulT, if_neg this]; exact own_nil _ _, rfl, FB.nil _, hN1.mod⟩
  have h32 : la.length = 32 ∧ lb.length = 32 ∧ lc.length = 32 := by
    simp at h; omega
  obtain ⟨ha32, hb32, hc32⟩ := h32
  have hM1 := hN1.mod
  refine sem_makeSlice (l := 66) (c := 66) u40 h441 h442 h443 rfl h444 rfl rfl (by omega) (by omega) (by omega) fun t w3 hN3 hbt hot => ⟨⟨_, _, _⟩, rfl, ?_⟩
  have a1 := hN1.at_; have a2 := hN1.size; have a3 := hN3.at_; have a4 := hN3.size
  have hM3 := hM1.tr hN3.mod
  have hzero : List.replicate 66 z64 = us (List.replicate 66 0) := by simp [us, z64]
  rw [hzero] at hbt
  have hra : ∀ w', Mod (fun y => y = t) w3 w' → SlRd w' a 1 (bys la) := fun w' hm => (ha.no hM3).mod hm fun x hx e => by have := hal x hx; omega
  have hrb : ∀ w', Mod (fun y => y = t) w3 w' → SlRd w' b 1 (bys lb) := fun w' hm => (hb.no hM3).mod hm fun x hx e => by have := hbl x hx; omega
  have hrc : ∀ w', Mod (fun y => y = t) w3 w' → SlRd w' c 1 (bys lc) := fun w' hm => (hc.no hM3).mod hm fun x hx e => by have := hcl x hx; omega
  refine ⟨fun l' w' => match l' with | [.i _ x] => ∃ (i : Nat) (tl : List UInt64), x = i ∧ i ≤ 32 ∧ Blk w' t (us tl) 188 ∧ Words0 tl i la lb lc ∧ Mod (fun y => y = t) w3 w' | _ => False, fun l' _ => match l' with | [.i _ x] => (32 - x).toNat | _ => 0,
    ⟨0, _, rfl, by omega, hbt, words0_start la lb lc, Mod.refl _ _⟩, ?_⟩
  rintro x1 w4 ⟨i, tl, rfl, hi, hb4, hw4, hm4⟩
  have htl := hw4.len
  refine condK_i (fun hlt => ?_) fun hge => ?_
  · have hi' : i < 32 := by simp at hlt; omega
    simp only [Int.toNat_natCast]
    obtain ⟨ac, eac, hrac⟩ := rd_u8 ((hrc w4 hm4).drew) (i := i) (by omega)
    rw [getD_at (d := 0) (by omega : i < lc.length)] at hrac
    rw [eac]
    refine ⟨fun w' => w' = w4.drew, rfl, ⟨by omega, by show (i : Int) < ((66 : Nat) : Int); omega⟩, ⟨by omega, by omega⟩, tl.getD i 0, fun w' hw => by rw [hw]; exact rda hb4.drew (us_getD (by omega)), _, fun w' hw => by rw [hw]; exact hrac, ⟨by omega, by show (i : Int) < ((66 : Nat) : Int); omega⟩, ?_, trivial⟩
    refine semU_at (b := t) (n := i) (by kernel_rfl) (by kernel_rfl) rfl hb4.drew (by simp; omega) fun w5 ht5 hb5 => ?_
    rw [us_set] at hb5
    have hw5 := words_c hw4 hi'
    have hm5 := hm4.dr.tr ht5.mod
    refine ⟨fun l' w' => match l' with | [.i _ x] => ∃ (k : Nat) (tl : List UInt64), x = k ∧ k ≤ 32 ∧ Blk w' t (us tl) 188 ∧ Words tl i k la lb lc ∧ Mod (fun y => y = t) w3 w' | _ => False, fun l' _ => match l' with | [.i _ x] => (32 - x).toNat | _ => 0,
      ⟨0, _, rfl, by omega, hb5, hw5, hm5⟩, ?_⟩
    rintro x2 w6 ⟨k, tk, rfl, hk, hb6, hw6, hm6⟩
    have htk := hw6.len
    refine condK_i (fun hlt2 => ?_) fun hge2 => ?_
    · have hk' : k < 32 := by simp at hlt2; omega
      have e1 : IntKind.i64.wrap ((i : Int) + (k : Int)) = ((i + k : Nat) : Int) := by rw [wrap_i64 (by omega)]; omega
      rw [e1]
      simp only [Int.toNat_natCast]
      obtain ⟨aa, eaa, hraa⟩ := rd_u8 ((hra w6 hm6).drew) (i := i) (by omega)
      obtain ⟨ab, eab, hrab⟩ := rd_u8 ((hrb w6 hm6).drew) (i := k) (by omega)
      rw [getD_at (d := 0) (by omega : i < la.length)] at hraa
      rw [getD_at (d := 0) (by omega : k < lb.length)] at hrab
      rw [eaa, eab]
      refine ⟨fun w' => w' = w6.drew, rfl, ⟨by omega, by show ((i + k : Nat) : Int) < ((66 : Nat) : Int); omega⟩, ⟨by omega, by omega⟩, ⟨by omega, by omega⟩, tk.getD (i + k) 0, fun w' hw => by rw [hw]; exact rda hb6.drew (us_getD (by omega)), _, fun w' hw => by rw [hw]; exact hraa, _, fun w' hw => by rw [hw]; exact hrab, ⟨by omega, by show ((i + k : Nat) : Int) < ((66 : Nat) : Int); omega⟩, ?_, trivial⟩
      refine semU_at (b := t) (n := i + k) (by kernel_rfl) (by kernel_rfl) rfl hb6.drew (by simp; omega) fun w7 ht7 hb7 => ?_
      rw [us_set] at hb7
      refine ⟨⟨k + 1, _, wrap_nat (by omega), by omega, hb7, words_ab hw6 hi' hk' hb32, hm6.dr.tr ht7.mod⟩, ?_⟩
      rw [wrap_nat (by omega)]; (try simp only []); omega
    · have hk' : k = 32 := by simp at hge2; omega
      subst hk'
      refine ⟨⟨i + 1, tk, wrap_nat (by omega), by omega, hb6, words_row hw6 hi' ha32 hb32 hc32, hm6⟩, ?_⟩
      rw [wrap_nat (by omega)]; (try simp only []); omega
  · have hi' : i = 32 := by simp at hge; omega
    subst hi'
    have hM4 : Mod NoB w w4 := hM3.fresh hm4 fun x hx => by omega
    have hs4 := hm4.size
    refine sem_makeSlice (l := 66) (c := 66) u26 h51 h52 h53 rfl h54 rfl rfl (by omega) (by omega) (by omega) fun o w8 hN8 hbo hoo => ⟨⟨_, _, _⟩, rfl, ?_⟩
    have b1 := hN8.at_; have b2 := hN8.size
    have hb8 := hb4.no hN8.mod
    rw [bys_rep] at hbo
    refine ⟨fun l' w' => match l' with | [.u64 cy, .i _ x] => ∃ (k : Nat) (ob : List UInt8), x = k ∧ k ≤ 66 ∧ ob.length = k ∧ Blk w' o (bys (ob ++ List.replicate (66 - k) 0)) 5 ∧ le ob + 256 ^ k * cy.toNat = val256 (tl.take k) ∧ cy.toNat ≤ 4194304 ∧ Mod (fun y => y = o) w8 w' | _ => False, fun l' _ => match l' with | [.u64 _, .i _ x] => (66 - x).toNat | _ => 0,
      ⟨0, [], rfl, by omega, rfl, by simpa using hbo, by simp [le, val256], by decide, Mod.refl _ _⟩, ?_⟩
    rintro cy x3 w9 ⟨k, ob, rfl, hk, hob, hb9, hv9, hc9, hm9⟩
    have hb9t : Blk w9 t (us tl) 188 := hb8.mod hm9 (by have := hb4.lt; omega)
    refine condK_i (fun hlt => ?_) fun hge => ?_
    · have hk' : k < 66 := by have h : (k : Int) < ((66 : Nat) : Int) := by simpa using hlt
                              omega
      simp only [Int.toNat_natCast]
      refine ⟨⟨by omega, by show (k : Int) < ((66 : Nat) : Int); omega⟩, tl.getD k 0, rda hb9t (us_getD (by omega)), ⟨by omega, by show (k : Int) < ((66 : Nat) : Int); omega⟩, ?_⟩
      refine semU_at (b := o) (n := k) (by kernel_rfl) (by kernel_rfl) rfl hb9 (by simp [hob]; omega) fun w10 ht10 hb10 => ?_
      rw [bys_set] at hb10
      have hbd := hw4.bound k
      have hst := carry_step (t := tl) (k := k) (by omega) hob hv9 hc9 (by omega)
      have e2 : (ob ++ List.replicate (66 - k) 0).set k (cy + tl.getD k 0).toUInt8 = (ob ++ [(cy + tl.getD k 0).toUInt8]) ++ List.replicate (66 - (k + 1)) 0 := by
        rw [show 66 - k = (66 - (k + 1)) + 1 by omega, List.replicate_succ, set_mid hob.symm, List.append_assoc]; rfl
      rw [e2] at hb10
      refine ⟨by omega, ⟨k + 1, _, wrap_nat (by omega), by omega, by simp [hob], hb10, hst.1, hst.2, hm9.tr ht10.mod⟩, ?_⟩
      rw [wrap_nat (by omega)]; (try simp only []); omega
    · have hk' : k = 66 := by have h : ¬ (k : Int) < ((66 : Nat) : Int) := by simpa using hge
                              omega
      subst hk'
      rw [Nat.sub_self, List.replicate_zero, List.append_nil] at hb9
      rw [List.take_of_length_le (by omega)] at hv9
      have hM9 : Mod NoB w w9 := (hM4.tr hN8.mod).fresh hm9 fun x hx => by omega
      have hro : SlRd w9 ⟨some ⟨o, 0, none⟩, 66, 66⟩ 1 (bys ob) := (own_whole (n := 66) (k := 1) hb9 (by simp [hob])).rd
      refine callK_ret (c_reduced hro (fun x hx => by rw [Slc.blk_mk, if_neg (by omega)] at hx; cases hx; exact hb9.lt) (by omega)) ?_
      rintro v w11 ⟨y, rfl, hoy, hyl, hyc, hfy, hm11⟩
      rw [carry_end hw4 ha32 hb32 hc32 hob hv9] at hoy
      exact ⟨y, rfl, y, rfl, by rw [mulT, if_pos ⟨ha32, hb32, hc32⟩]; exact hoy, by omega, hfy.le hM9.size, hM9.tr hm11⟩
def bls (l : List Bool) : List Value := l.map .bool
@[simp] theorem bls_len (l : List Bool) : (bls l).length = l.length := by simp [bls]
theorem bls_one (l : List Bool) : ∀ y ∈ bls l, y.oneCell' = true := by
  intro y hy; obtain ⟨x, _, rfl⟩ := List.mem_map.1 hy; rfl
theorem bls_app (a b : List Bool) : bls (a ++ b) = bls a ++ bls b := by simp [bls]
theorem rd_bool {w : World} {s : Slc} {l : List Bool} (h : SlRd w s 1 (bls l)) {i : Nat} (hi : i < l.length) : ∃ a, s.a = some a ∧ Rd w (a.add (i * 1)) [.bool l[i]] :=
  h.at (by have := h.1; simp at this; omega) (by omega) fun j u hu => by
    cases j with
    | zero => simp at hu; subst hu; simp [bls, hi]
    | succ j => simp at hu
theorem rd_lenB {w : World} {s : Slc} {l : List Bool} (h : SlRd w s 1 (bls l)) : l.length = s.len := by have := h.1; simpa using this
theorem uBools : prog.underlying 191 = some (.slice 4) := by kernel_rfl
theorem iBool : ∃ i, prog.info? 4 = some i ∧ i.zero = some (.bool false) ∧ i.size = 1 ∧ i.bytes = 1 := info_of (by kernel_rfl) (by kernel_rfl) (by kernel_rfl)
section
variable {K : Slc → World → Prop} {w : World}
theorem sem_truth {s : Slc} {l : List Bool} {c : Bool} (hs : Sh.Own w s 1 (bls l)) (hn : l.length ≤ 2000000000)
    (hK : ∀ (s' : Slc) w', Sh.Own w' s' 1 (bls (l ++ [c])) → s'.len = s.len + 1 → Mod (fun x => s.blk = some x) w w' → (s'.blk = s.blk ∨ ∃ x, s'.blk = some x ∧ w.heap.size ≤ x) → K s' w') :
    semK prog (Instr.buildSlice 191 1 #[(0, (.bool c))]) w fun v w2 => ∃ x1 : Slc, v = (.slice x1.a x1.len x1.cap) ∧ semK prog (Builtin.append_ #[191, 191] 191 #[(.slice s.a s.len s.cap), (.slice x1.a x1.len x1.cap)]) w2 fun v1 w3 => ∃ x2 : Slc, v1 = (.slice x2.a x2.len x2.cap) ∧ K x2 w3 := by
  obtain ⟨i5', h51, h52, h53, h54⟩ := iBool
  have hl := rd_lenB hs.rd
  refine sem_lit (l := [.bool c]) [.bool c] uBools h51 h52 h53 (by decide) rfl (by decide) (by decide) rfl (by simp [Value.cells]) rfl fun b w1 hN hb => ⟨⟨_, _, _⟩, rfl, ?_⟩
  have a1 := hN.at_; have a2 := hN.size
  refine sem_append uBools h51 h52 h53 rfl h54 (hs.no hN.mod) (own_whole (n := 1) (k := 1) hb rfl).rd (bls_one [c]) (by simp only []; omega) (by simp only []; omega) fun s' w2 ho hlen hblk hm2 => ⟨s', rfl, hK s' w2 ?_ hlen ((hN.mod.mono fun _ _ h => h.elim).tr hm2) ?_⟩
  · rw [bls_app]; exact ho
  · rcases hblk with h | h
    · exact .inl h
    · exact .inr ⟨_, h, by omega⟩
end
theorem c_bitsS {w : World} {b : Slc} {l : List UInt8} (hb : SlRd w b 1 (bys l)) (hbl : ∀ x, b.blk = some x → x < w.heap.size) :
    Calls prog 251 #[.slice b.a b.len b.cap] w (Ret fun v w' => ∃ x : Slc, v = x.val ∧ Sh.Own w' x 1 (bls (bitsT l)) ∧ FB w x ∧ Mod NoB w w') := by
  refine call251 _ ?_
  unfold sh251
  have hn := rd_len8 hb
  refine condK_i (fun h => ?_) fun h => ?_
  · have : ¬ l.length = 32 := by simp at h; omega
    exact ⟨⟨none, 0, 0⟩, rfl, by rw [bitsT, if_neg this]; exact own_nil _ _, FB.nil _, Mod.refl _ _⟩
  have h32 : l.length = 32 := by simp at h; omega
  refine callK_ret (Q := fun v w' => ∃ p, v = .func (.func 355) #[] #[.pointer (some ⟨p, 0, none⟩)] ∧ (∃ T, Blk w' p [b.val] T) ∧ w.heap.size ≤ p ∧ Mod NoB w w') ?_ ?_
  · refine call307 _ ?_
    unfold sh307
    refine sem_box (l := [b.val]) rfl fun p w1 hN1 hb1 => ⟨_, rfl, ?_⟩
    have h1 := hN1.at_
    exact ⟨p, rfl, ⟨_, hb1⟩, by omega, hN1.mod⟩
  rintro v w1 ⟨p, rfl, ⟨T, hp⟩, hps, hm1⟩
  refine ⟨_, rfl, ?_⟩
  suffices hc : Calls prog 354 #[.slice none 0 0, .func (.func 355) #[] #[.pointer (some ⟨p, 0, none⟩)]] w1 (Ret fun v w' => ∃ x : Slc, v = x.val ∧ Sh.Own w' x 1 (bls (bitsT l)) ∧ FB w1 x ∧ Mod NoB w1 w') by
    refine callK_ret (Q := fun v w' => ∃ x : Slc, v = x.val ∧ Sh.Own w' x 1 (bls (bitsT l)) ∧ FB w1 x ∧ Mod NoB w1 w') ?_ ?_
    · refine call306 _ ?_
      unfold sh306
      refine callK_ret hc ?_
      rintro v w2 ⟨x, rfl, h⟩
      exact ⟨x, rfl, x, rfl, h⟩
    · rintro v w2 ⟨x, rfl, ho, hf, hm2⟩
      exact ⟨x, rfl, x, rfl, ho, hf.le hm1.size, hm1.tr hm2⟩
  refine call354 ⟨none, 0, 0⟩ _ ?_
  unfold sh354
  refine sem_box (l := [.slice none 0 0]) rfl fun q w2 hN2 hq2 => ⟨_, rfl, 355, #[], #[.pointer (some ⟨p, 0, none⟩)], rfl, by kernel_rfl, ?_⟩
  rintro rec dd ll w3 hdd hll hw3 hY
  have a1 := hN2.at_; have a2 := hN2.size
  have hM3 : Mod NoB w2 w3 := by rw [hw3]; exact (alloc_mod _ _).tr (alloc_mod _ _)
  have hsz3 : w3.heap.size = ll + 1 := by rw [hw3]; simp; omega
  have hld3 : w3.heap[ll]? = some (rec .ready none) := by
    rw [hw3, hll, hdd]
    have := heap_alloc_new (w2.alloc (.deferred (some []))) (rec .ready none)
    simpa using this
  have hdd3 : w3.heap[dd]? = some (.deferred (some [])) := by
    rw [hw3, hdd, heap_alloc_old _ _ (by simp)]
    exact heap_alloc_new _ _
  have hpl := hp.lt
  have hM13 : Mod NoB w1 w3 := hN2.mod.tr hM3
  have hb3 : SlRd w3 b 1 (bys l) := (hb.no hm1).no hM13
  have hm1s := hm1.size
  let I : Nat → World → Prop := fun k w' => w'.heap[ll]? = some (rec .ready none) ∧ ∃ s, Blk w' q [s.val] 191 ∧ Sh.Own w' s 1 (bls ((List.range k).map (bitOf l))) ∧ FB w3 s ∧ Mod (fun x => x = q ∨ x = ll) w3 w'
  have hseq : Calls prog 355 #[.func (.yield ll) #[] #[], .pointer (some ⟨p, 0, none⟩)] w3 (Ret fun v w' => I 256 w') := by
    refine call355 _ _ ?_
    unfold sh355
    have e0 : IntKind.i64.wrap (8 * (b.len : Int)) = 256 := by rw [wrap_i64 (by omega)]; omega
    refine ⟨b, (hp.no hM13).rd1 rfl, ?_⟩
    rw [e0]
    refine ⟨fun l' w' => match l' with | [.i _ x] => ∃ k : Nat, x = k ∧ k ≤ 256 ∧ I k w' | _ => False, fun l' _ => match l' with | [.i _ x] => (256 - x).toNat | _ => 0, ⟨0, rfl, by omega, hld3, ⟨none, 0, 0⟩, hq2.no hM3, own_nil _ _, FB.nil _, Mod.refl _ _⟩, ?_⟩
    rintro x w4 ⟨k, rfl, hk, hI4⟩
    refine condK_i (fun hlt => ?_) fun hge => ?_
    · have hk' : k < 256 := by simp at hlt; omega
      have hI4' := hI4
      obtain ⟨hl4, s, hq4, ho4, hf4, hm4⟩ := hI4
      have hne : ∀ x, x < w2.heap.size → x ≠ q → ¬ (x = q ∨ x = ll) := fun x hx hxq e => by omega
      have hp4 : Blk w4 p [b.val] T := (hp.no hM13).mod hm4 (hne p (by omega) (by omega))
      have hb4 : SlRd w4 b 1 (bys l) := hb3.mod hm4 fun x hx e => by have := hbl x hx; omega
      have e1 : IntKind.i64.wrap (Int.tdiv (k : Int) 8) = ((k / 8 : Nat) : Int) := by
        rw [show Int.tdiv (k : Int) 8 = ((k / 8 : Nat) : Int) from rfl, wrap_i64 (by omega)]
      have e2 : Int.tmod (k : Int) 8 = ((k % 8 : Nat) : Int) := rfl
      obtain ⟨ab, eab, hrb⟩ := rd_u8 hb4 (i := k / 8) (by omega)
      rw [e1, e2]
      refine ⟨b, hp4.rd1 rfl, by omega, ⟨by omega, by omega⟩, ?_⟩
      rw [eab]
      refine ⟨_, hrb, by omega, by omega, ?_⟩
      show yieldK _ _ _ _ _
      simp only [Int.toNat_natCast]
      have e3 : ((shrU8 l[k / 8] (k % 8) &&& 1) == 1) = bitOf l k := by
        unfold bitOf
        rw [← getD_at (d := 0) (by omega : k / 8 < l.length)]
      rw [e3]
      refine hY _ w4 _ hl4 ⟨hl4, ?_⟩
      have hll4 := lt_of_get hl4
      obtain ⟨hmp, hgp, hsp⟩ := put_mod (o := rec .busy none) hll4
      have hql := hq4.lt
      have hsl : ∀ x, s.blk = some x → x ≠ ll := fun x hx e => by have := hf4 x hx; omega
      have hq5 := hq4.mod hmp (show ¬ q = ll by omega)
      have ho5 := ho4.mod hmp hsl
      refine ⟨s, hq5.rd1 rfl, ?_⟩
      refine sem_truth (s := s) ho5 (by simp; omega) fun s' w5 ho6 hlen6 hm6 hbk6 => ?_
      have hsq : ∀ x, s.blk = some x → x ≠ q := fun x hx e => by have := hf4 x hx; omega
      have hq6 : Blk w5 q [s.val] 191 := hq5.mod hm6 fun e => hsq q e rfl
      refine semU_store1 (b := q) (o := 0) (l := [s.val]) (by kernel_rfl) (by kernel_rfl) rfl hq6 (by simp) fun w6 ht7 hq7 => ?_
      have hf6 : FB w3 s' := fun x hx => by
        rcases hbk6 with h | ⟨y, h, hy⟩
        · exact hf4 x (by rw [← h]; exact hx)
        · rw [h] at hx; cases hx; omega
      have hl7 : w6.heap[ll]? = some (rec .busy none) := by
        rw [ht7.mod.block ll (by have := hm6.size; omega) (by omega), hm6.block ll (by omega) (fun e => hsl ll e rfl)]; exact hgp
      refine ⟨hl7, ?_⟩
      have hll7 := lt_of_get hl7
      obtain ⟨hmr, hgr, hsr⟩ := put_mod (o := rec .ready none) hll7
      refine ⟨true, rfl, ?_⟩
      show condK false _ _
      refine condK_i (fun e => by cases e) fun _ => ⟨⟨k + 1, wrap_nat (by omega), by omega, hgr, s', ?_, ?_, hf6, ?_⟩, ?_⟩
      · have h7 : Blk w6 q [s'.val] 191 := hq7
        exact h7.mod hmr (by omega)
      · have h8 := (ho6.mod ht7.mod fun x hx e => by have := hf6 x hx; omega).mod hmr fun x hx e => by have := hf6 x hx; omega
        rw [List.range_succ, List.map_append]
        exact h8
      · have m1 : Mod (fun x => x = q ∨ x = ll) w3 (w4.putObj ll (rec .busy none)) := hm4.tr (hmp.mono fun x _ e => .inr e)
        have m2 : Mod (fun x => x = q ∨ x = ll) w3 w5 := m1.trans hm6 (fun _ _ h => h) fun x hx e => by have := hf4 x e; omega
        exact (m2.tr (ht7.mod.mono fun x _ e => .inl e)).tr (hmr.mono fun x _ e => .inr e)
      · rw [wrap_nat (by omega)]; (try simp only []); omega
    · have : k = 256 := by simp at hge; omega
      subst this
      exact hI4
  refine callK_of hseq ?_ (fun _ _ h => h.elim) (fun _ h => h)
  rintro v w4 ⟨hl4, s, hq4, ho4, hf4, hm4⟩
  left
  refine ⟨hl4, ?_⟩
  have hll4 := lt_of_get hl4
  obtain ⟨hmp, hgp, hsp⟩ := put_mod (o := rec .exhausted none) hll4
  have hql := hq4.lt
  have hq5 := hq4.mod hmp (show ¬ q = ll by omega)
  have ho5 := ho4.mod hmp fun x hx e => by have := hf4 x hx; omega
  have hm4s := hm4.size
  have hdd5 : (w4.putObj ll (rec .exhausted none)).heap[dd]? = some (.deferred (some [])) := by
    rw [hmp.block dd (by omega) (by omega), hm4.block dd (by omega) (by omega)]; exact hdd3
  refine ⟨s, hq5.rd1 rfl, hdd5, ?_⟩
  have hddl := lt_of_get hdd5
  obtain ⟨hmd, -, -⟩ := put_mod (w := w4.putObj ll (rec .exhausted none)) (o := .deferred none) hddl
  have hbt : (List.range 256).map (bitOf l) = bitsT l := by rw [bitsT, if_pos h32]
  rw [hbt] at ho5
  have hM4 := (hM13.fresh hm4 fun x e => by omega).fresh hmp fun x e => by omega
  exact ⟨s, rfl, ho5.mod hmd (fun x hx e => by have := hf4 x hx; omega), fun x hx => by have := hf4 x hx; have := hM13.size; omega, hM4.fresh hmd fun x e => by omega⟩
def sh255 (b : Slc) (w : World) (R : RW) : Prop :=
  semK prog (Instr.alloc 287 true (.tuple #[])) w fun v w1 => ∃ x : Option Addr, v = (.pointer x) ∧ condK ((b.len : Int) != (32 : Int)) (onSome x fun a => semU prog (storeVar 287 a (.agg #[.int .u64 ((0 : UInt64)).toNat, .int .u64 ((0 : UInt64)).toNat, .int .u64 ((0 : UInt64)).toNat, .int .u64 ((0 : UInt64)).toNat, .int .u64 ((0 : UInt64)).toNat, .int .u64 ((0 : UInt64)).toNat, .int .u64 ((0 : UInt64)).toNat, .int .u64 ((0 : UInt64)).toNat, .int .u64 ((0 : UInt64)).toNat, .int .u64 ((0 : UInt64)).toNat, .int .u64 ((0 : UInt64)).toNat, .int .u64 ((0 : UInt64)).toNat, .int .u64 ((0 : UInt64)).toNat, .int .u64 ((0 : UInt64)).toNat, .int .u64 ((0 : UInt64)).toNat, .int .u64 ((0 : UInt64)).toNat, .int .u64 ((0 : UInt64)).toNat, .int .u64 ((0 : UInt64)).toNat, .int .u64 ((0 : UInt64)).toNat, .int .u64 ((0 : UInt64)).toNat])) w1 fun w2 => onSome x fun a1 => ∃ xaa xab xac xad xae xba xbb xbc xbd xbe xca xcb xcc xcd xce xda xdb xdc xdd xde : UInt64, Rd w2 a1 (l20 xaa xab xac xad xae xba xbb xbc xbd xbe xca xcb xcc xcd xce xda xdb xdc xdd xde) ∧ R (.returned (.tuple #[e20 xaa xab xac xad xae xba xbb xbc xbd xbe xca xcb xcc xcd xce xda xdb xdc xdd xde, .bool false])) w2) (callK prog 186 [zS b] w1 (panR R) fun v1 w3 => ∃ x1 : Slc, v1 = (zS x1) ∧ ((0 ≤ (31 : Int) ∧ (31 : Int) < (x1.len : Nat)) ∧ onSome x1.a fun a2 => ∃ x2 : UInt8, Rd w3 (a2.add (((31 : Int)).toNat * 1)) [.int .u8 x2.toNat] ∧ ((0 ≤ (31 : Int) ∧ (31 : Int) < (x1.len : Nat)) ∧ onSome x1.a fun a3 => ∃ x3 : UInt8, Rd w3 (a3.add (((31 : Int)).toNat * 1)) [.int .u8 x3.toNat] ∧ ((0 ≤ (31 : Int) ∧ (31 : Int) < (x1.len : Nat)) ∧ onSome x1.a fun a4 => semU prog (storeVar 5 (a4.add (((31 : Int)).toNat * 1)) (.int .u8 ((x3 &&& ~~~(128 : UInt8))).toNat)) w3 fun w4 => callK prog 314 [zS x1] w4 (panR R) fun v2 w5 => ∃ xaa1 xab1 xac1 xad1 xae1 : UInt64, ∃ xb : Bool, v2 = (.tuple #[e5 xaa1 xab1 xac1 xad1 xae1, .bool xb]) ∧ semK prog (Instr.alloc 285 true (.tuple #[])) w5 fun v3 w6 => ∃ y : Option Addr, v3 = (.pointer y) ∧ onSome y fun a5 => semU prog (storeVar 285 a5 (e5 xaa1 xab1 xac1 xad1 xae1)) w6 fun w7 => onSome y fun a6 => ∃ xa xb1 xc xd xe : UInt64, Rd w7 a6 (l5 xa xb1 xc xd xe) ∧ callK prog 308 [e5 xa xb1 xc xd xe] w7 (panR R) fun v4 w8 => ∃ xa1 xb2 xc1 xd1 xe1 : UInt64, v4 = (e5 xa1 xb2 xc1 xd1 xe1) ∧ semK prog (Instr.alloc 285 true (.tuple #[])) w8 fun v5 w9 => ∃ yy : Option Addr, v5 = (.pointer yy) ∧ onSome yy fun a7 => semU prog (storeVar 285 a7 (e5 xa1 xb2 xc1 xd1 xe1)) w9 fun w10 => ∃ j : List TV → World → Prop, (∃ sx : World → Prop, sx w10.drew ∧ onSome yy fun a8 => ∃ xa2 xb3 xc2 xd2 xe2 : UInt64, (∀ w', sx w' → Rd w' a8 (l5 xa2 xb3 xc2 xd2 xe2)) ∧ ∃ xa3 xb4 xc3 xd3 xe3 : UInt64, (∀ w', sx w' → Rd w' (⟨2, 0, none⟩ : Addr) (l5 xa3 xb4 xc3 xd3 xe3)) ∧ onSome yy fun a9 => ∃ xa4 xb5 xc4 xd4 xe4 : UInt64, (∀ w', sx w' → Rd w' a9 (l5 xa4 xb5 xc4 xd4 xe4)) ∧ ((callK prog 304 [] w10.drew (panR R) fun v6 w11 => ∃ xa5 xb6 xc5 xd5 xe5 : UInt64, v6 = (e5 xa5 xb6 xc5 xd5 xe5) ∧ (sx w11 ∧ ((callK prog 310 [e5 xa2 xb3 xc2 xd2 xe2, e5 xa5 xb6 xc5 xd5 xe5] w11 (panR R) fun v7 w12 => ∃ xa6 xb7 xc6 xd6 xe6 : UInt64, v7 = (e5 xa6 xb7 xc6 xd6 xe6) ∧ (sx w12 ∧ ((callK prog 247 [e5 xa3 xb4 xc3 xd3 xe3, e5 xa4 xb5 xc4 xd4 xe4] w12 (panR R) fun v8 w13 => ∃ xa7 xb8 xc7 xd7 xe7 : UInt64, v8 = (e5 xa7 xb8 xc7 xd7 xe7) ∧ (sx w13 ∧ ((callK prog 304 [] w13 (panR R) fun v9 w14 => ∃ xa8 xb9 xc8 xd8 xe8 : UInt64, v9 = (e5 xa8 xb9 xc8 xd8 xe8) ∧ (sx w14 ∧ ((callK prog 309 [e5 xa7 xb8 xc7 xd7 xe7, e5 xa8 xb9 xc8 xd8 xe8] w14 (panR R) fun v10 w15 => ∃ xa9 xb10 xc9 xd9 xe9 : UInt64, v10 = (e5 xa9 xb10 xc9 xd9 xe9) ∧ (sx w15 ∧ ((callK prog 315 [e5 xa6 xb7 xc6 xd6 xe6, e5 xa9 xb10 xc9 xd9 xe9] w15 (panR R) fun v11 w16 => ∃ xaa2 xab2 xac2 xad2 xae2 : UInt64, ∃ xb11 : Bool, v11 = (.tuple #[e5 xaa2 xab2 xac2 xad2 xae2, .bool xb11]) ∧ (sx w16 ∧ ((semK prog (Instr.alloc 285 true (.tuple #[])) w16 fun v12 w17 => ∃ x4 : Option Addr, v12 = (.pointer x4) ∧ (sx w17 ∧ ((onSome x4 fun a10 => semU prog (storeVar 285 a10 (e5 xaa2 xab2 xac2 xad2 xae2)) w17 fun w18 => j [.p x4, .b xb11] w18) ∧ True))) ∧ True))) ∧ (semK prog (Instr.alloc 285 true (.tuple #[])) w15 fun v13 w19 => ∃ x5 : Option Addr, v13 = (.pointer x5) ∧ (sx w19 ∧ ((callK prog 315 [e5 xa6 xb7 xc6 xd6 xe6, e5 xa9 xb10 xc9 xd9 xe9] w19 (panR R) fun v14 w20 => ∃ xaa3 xab3 xac3 xad3 xae3 : UInt64, ∃ xb12 : Bool, v14 = (.tuple #[e5 xaa3 xab3 xac3 xad3 xae3, .bool xb12]) ∧ (sx w20 ∧ ((onSome x5 fun a11 => semU prog (storeVar 285 a11 (e5 xaa3 xab3 xac3 xad3 xae3)) w20 fun w21 => j [.p x5, .b xb12] w21) ∧ True))) ∧ True))) ∧ True))) ∧ (semK prog (Instr.alloc 285 true (.tuple #[])) w14 fun v15 w22 => ∃ x6 : Option Addr, v15 = (.pointer x6) ∧ (sx w22 ∧ ((callK prog 309 [e5 xa7 xb8 xc7 xd7 xe7, e5 xa8 xb9 xc8 xd8 xe8] w22 (panR R) fun v16 w23 => ∃ xa10 xb13 xc10 xd10 xe10 : UInt64, v16 = (e5 xa10 xb13 xc10 xd10 xe10) ∧ (sx w23 ∧ ((callK prog 315 [e5 xa6 xb7 xc6 xd6 xe6, e5 xa10 xb13 xc10 xd10 xe10] w23 (panR R) fun v17 w24 => ∃ xaa4 xab4 xac4 xad4 xae4 : UInt64, ∃ xb14 : Bool, v17 = (.tuple #[e5 xaa4 xab4 xac4 xad4 xae4, .bool xb14]) ∧ (sx w24 ∧ ((onSome x6 fun a12 => semU prog (storeVar 285 a12 (e5 xaa4 xab4 xac4 xad4 xae4)) w24 fun w25 => j [.p x6, .b xb14] w25) ∧ True))) ∧ True))) ∧ True))) ∧ True))) ∧ (semK prog (Instr.alloc 285 true (.tuple #[])) w13 fun v18 w26 => ∃ x7 : Option Addr, v18 = (.pointer x7) ∧ (sx w26 ∧ ((callK prog 304 [] w26 (panR R) fun v19 w27 => ∃ xa11 xb15 xc11 xd11 xe11 : UInt64, v19 = (e5 xa11 xb15 xc11 xd11 xe11) ∧ (sx w27 ∧ ((callK prog 309 [e5 xa7 xb8 xc7 xd7 xe7, e5 xa11 xb15 xc11 xd11 xe11] w27 (panR R) fun v20 w28 => ∃ xa12 xb16 xc12 xd12 xe12 : UInt64, v20 = (e5 xa12 xb16 xc12 xd12 xe12) ∧ (sx w28 ∧ ((callK prog 315 [e5 xa6 xb7 xc6 xd6 xe6, e5 xa12 xb16 xc12 xd12 xe12] w28 (panR R) fun v21 w29 => ∃ xaa5 xab5 xac5 xad5 xae5 : UInt64, ∃ xb17 : Bool, v21 = (.tuple #[e5 xaa5 xab5 xac5 xad5 xae5, .bool xb17]) ∧ (sx w29 ∧ ((onSome x7 fun a13 => semU prog (storeVar 285 a13 (e5 xaa5 xab5 xac5 xad5 xae5)) w29 fun w30 => j [.p x7, .b xb17] w30) ∧ True))) ∧ True))) ∧ True))) ∧ True))) ∧ True))) ∧ (semK prog (Instr.alloc 285 true (.tuple #[])) w12 fun v22 w31 => ∃ x8 : Option Addr, v22 = (.pointer x8) ∧ (sx w31 ∧ ((callK prog 247 [e5 xa3 xb4 xc3 xd3 xe3, e5 xa4 xb5 xc4 xd4 xe4] w31 (panR R) fun v23 w32 => ∃ xa13 xb18 xc13 xd13 xe13 : UInt64, v23 = (e5 xa13 xb18 xc13 xd13 xe13) ∧ (sx w32 ∧ ((callK prog 304 [] w32 (panR R) fun v24 w33 => ∃ xa14 xb19 xc14 xd14 xe14 : UInt64, v24 = (e5 xa14 xb19 xc14 xd14 xe14) ∧ (sx w33 ∧ ((callK prog 309 [e5 xa13 xb18 xc13 xd13 xe13, e5 xa14 xb19 xc14 xd14 xe14] w33 (panR R) fun v25 w34 => ∃ xa15 xb20 xc15 xd15 xe15 : UInt64, v25 = (e5 xa15 xb20 xc15 xd15 xe15) ∧ (sx w34 ∧ ((callK prog 315 [e5 xa6 xb7 xc6 xd6 xe6, e5 xa15 xb20 xc15 xd15 xe15] w34 (panR R) fun v26 w35 => ∃ xaa6 xab6 xac6 xad6 xae6 : UInt64, ∃ xb21 : Bool, v26 = (.tuple #[e5 xaa6 xab6 xac6 xad6 xae6, .bool xb21]) ∧ (sx w35 ∧ ((onSome x8 fun a14 => semU prog (storeVar 285 a14 (e5 xaa6 xab6 xac6 xad6 xae6)) w35 fun w36 => j [.p x8, .b xb21] w36) ∧ True))) ∧ True))) ∧ True))) ∧ True))) ∧ True))) ∧ True))) ∧ (semK prog (Instr.alloc 285 true (.tuple #[])) w11 fun v27 w37 => ∃ x9 : Option Addr, v27 = (.pointer x9) ∧ (sx w37 ∧ ((callK prog 310 [e5 xa2 xb3 xc2 xd2 xe2, e5 xa5 xb6 xc5 xd5 xe5] w37 (panR R) fun v28 w38 => ∃ xa16 xb22 xc16 xd16 xe16 : UInt64, v28 = (e5 xa16 xb22 xc16 xd16 xe16) ∧ (sx w38 ∧ ((callK prog 247 [e5 xa3 xb4 xc3 xd3 xe3, e5 xa4 xb5 xc4 xd4 xe4] w38 (panR R) fun v29 w39 => ∃ xa17 xb23 xc17 xd17 xe17 : UInt64, v29 = (e5 xa17 xb23 xc17 xd17 xe17) ∧ (sx w39 ∧ ((callK prog 304 [] w39 (panR R) fun v30 w40 => ∃ xa18 xb24 xc18 xd18 xe18 : UInt64, v30 = (e5 xa18 xb24 xc18 xd18 xe18) ∧ (sx w40 ∧ ((callK prog 309 [e5 xa17 xb23 xc17 xd17 xe17, e5 xa18 xb24 xc18 xd18 xe18] w40 (panR R) fun v31 w41 => ∃ xa19 xb25 xc19 xd19 xe19 : UInt64, v31 = (e5 xa19 xb25 xc19 xd19 xe19) ∧ (sx w41 ∧ ((callK prog 315 [e5 xa16 xb22 xc16 xd16 xe16, e5 xa19 xb25 xc19 xd19 xe19] w41 (panR R) fun v32 w42 => ∃ xaa7 xab7 xac7 xad7 xae7 : UInt64, ∃ xb26 : Bool, v32 = (.tuple #[e5 xaa7 xab7 xac7 xad7 xae7, .bool xb26]) ∧ (sx w42 ∧ ((onSome x9 fun a15 => semU prog (storeVar 285 a15 (e5 xaa7 xab7 xac7 xad7 xae7)) w42 fun w43 => j [.p x9, .b xb26] w43) ∧ True))) ∧ True))) ∧ True))) ∧ True))) ∧ True))) ∧ True))) ∧ True))) ∧ (semK prog (Instr.alloc 285 true (.tuple #[])) w10.drew fun v33 w44 => ∃ x10 : Option Addr, v33 = (.pointer x10) ∧ (sx w44 ∧ ((callK prog 304 [] w44 (panR R) fun v34 w45 => ∃ xa20 xb27 xc20 xd20 xe20 : UInt64, v34 = (e5 xa20 xb27 xc20 xd20 xe20) ∧ (sx w45 ∧ ((callK prog 310 [e5 xa2 xb3 xc2 xd2 xe2, e5 xa20 xb27 xc20 xd20 xe20] w45 (panR R) fun v35 w46 => ∃ xa21 xb28 xc21 xd21 xe21 : UInt64, v35 = (e5 xa21 xb28 xc21 xd21 xe21) ∧ (sx w46 ∧ ((callK prog 247 [e5 xa3 xb4 xc3 xd3 xe3, e5 xa4 xb5 xc4 xd4 xe4] w46 (panR R) fun v36 w47 => ∃ xa22 xb29 xc22 xd22 xe22 : UInt64, v36 = (e5 xa22 xb29 xc22 xd22 xe22) ∧ (sx w47 ∧ ((callK prog 304 [] w47 (panR R) fun v37 w48 => ∃ xa23 xb30 xc23 xd23 xe23 : UInt64, v37 = (e5 xa23 xb30 xc23 xd23 xe23) ∧ (sx w48 ∧ ((callK prog 309 [e5 xa22 xb29 xc22 xd22 xe22, e5 xa23 xb30 xc23 xd23 xe23] w48 (panR R) fun v38 w49 => ∃ xa24 xb31 xc24 xd24 xe24 : UInt64, v38 = (e5 xa24 xb31 xc24 xd24 xe24) ∧ (sx w49 ∧ ((callK prog 315 [e5 xa21 xb28 xc21 xd21 xe21, e5 xa24 xb31 xc24 xd24 xe24] w49 (panR R) fun v39 w50 => ∃ xaa8 xab8 xac8 xad8 xae8 : UInt64, ∃ xb32 : Bool, v39 = (.tuple #[e5 xaa8 xab8 xac8 xad8 xae8, .bool xb32]) ∧ (sx w50 ∧ ((onSome x10 fun a16 => semU prog (storeVar 285 a16 (e5 xaa8 xab8 xac8 xad8 xae8)) w50 fun w51 => j [.p x10, .b xb32] w51) ∧ True))) ∧ True))) ∧ True))) ∧ True))) ∧ True))) ∧ True))) ∧ True))) ∧ True)) ∧ (∀ x11 : Option Addr, ∀ is : Bool, ∀ w52 : World, j [.p x11, .b is] w52 → ∃ j1 : List TV → World → Prop, (∃ j2 : List TV → World → Prop, (condK (!xb) (j2 [.b true] w52) (condK (!is) (j2 [.b true] w52) (condK ((x2 &&& (128 : UInt8)) != (0 : UInt8)) (onSome x11 fun a17 => ∃ xa25 xb33 xc25 xd25 xe25 : UInt64, Rd w52 a17 (l5 xa25 xb33 xc25 xd25 xe25) ∧ callK prog 316 [e5 xa25 xb33 xc25 xd25 xe25] w52 (panR R) fun v40 w53 => ∃ x12 : Bool, v40 = (.bool x12) ∧ j2 [.b x12] w53) (j2 [.b false] w52)))) ∧ (∀ x13 : Bool, ∀ w54 : World, j2 [.b x13] w54 → condK x13 (onSome x fun a18 => semU prog (storeVar 287 a18 (.agg #[.int .u64 ((0 : UInt64)).toNat, .int .u64 ((0 : UInt64)).toNat, .int .u64 ((0 : UInt64)).toNat, .int .u64 ((0 : UInt64)).toNat, .int .u64 ((0 : UInt64)).toNat, .int .u64 ((0 : UInt64)).toNat, .int .u64 ((0 : UInt64)).toNat, .int .u64 ((0 : UInt64)).toNat, .int .u64 ((0 : UInt64)).toNat, .int .u64 ((0 : UInt64)).toNat, .int .u64 ((0 : UInt64)).toNat, .int .u64 ((0 : UInt64)).toNat, .int .u64 ((0 : UInt64)).toNat, .int .u64 ((0 : UInt64)).toNat, .int .u64 ((0 : UInt64)).toNat, .int .u64 ((0 : UInt64)).toNat, .int .u64 ((0 : UInt64)).toNat, .int .u64 ((0 : UInt64)).toNat, .int .u64 ((0 : UInt64)).toNat, .int .u64 ((0 : UInt64)).toNat])) w54 fun w55 => onSome x fun a19 => ∃ xaa9 xab9 xac9 xad9 xae9 xba1 xbb1 xbc1 xbd1 xbe1 xca1 xcb1 xcc1 xcd1 xce1 xda1 xdb1 xdc1 xdd1 xde1 : UInt64, Rd w55 a19 (l20 xaa9 xab9 xac9 xad9 xae9 xba1 xbb1 xbc1 xbd1 xbe1 xca1 xcb1 xcc1 xcd1 xce1 xda1 xdb1 xdc1 xdd1 xde1) ∧ R (.returned (.tuple #[e20 xaa9 xab9 xac9 xad9 xae9 xba1 xbb1 xbc1 xbd1 xbe1 xca1 xcb1 xcc1 xcd1 xce1 xda1 xdb1 xdc1 xdd1 xde1, .bool false])) w55) (condK ((x2 &&& (128 : UInt8)) != (0 : UInt8)) (onSome x11 fun a20 => ∃ xa26 xb34 xc26 xd26 xe26 : UInt64, Rd w54 a20 (l5 xa26 xb34 xc26 xd26 xe26) ∧ callK prog 312 [e5 xa26 xb34 xc26 xd26 xe26] w54 (panR R) fun v41 w56 => ∃ xa27 xb35 xc27 xd27 xe27 : UInt64, v41 = (e5 xa27 xb35 xc27 xd27 xe27) ∧ onSome x11 fun a21 => semU prog (storeVar 285 a21 (e5 xa27 xb35 xc27 xd27 xe27)) w56 fun w57 => j1 [] w57) (j1 [] w54)))) ∧ (∀ w58 : World, j1 [] w58 → ∃ sx1 : World → Prop, sx1 w58.drew ∧ onSome x11 fun a22 => ∃ xa28 xb36 xc28 xd28 xe28 : UInt64, (∀ w', sx1 w' → Rd w' a22 (l5 xa28 xb36 xc28 xd28 xe28)) ∧ onSome y fun a23 => ∃ xa29 xb37 xc29 xd29 xe29 : UInt64, (∀ w', sx1 w' → Rd w' a23 (l5 xa29 xb37 xc29 xd29 xe29)) ∧ onSome x11 fun a24 => ∃ xa30 xb38 xc30 xd30 xe30 : UInt64, (∀ w', sx1 w' → Rd w' a24 (l5 xa30 xb38 xc30 xd30 xe30)) ∧ onSome y fun a25 => ∃ xa31 xb39 xc31 xd31 xe31 : UInt64, (∀ w', sx1 w' → Rd w' a25 (l5 xa31 xb39 xc31 xd31 xe31)) ∧ ((callK prog 304 [] w58.drew (panR R) fun v42 w59 => ∃ xa32 xb40 xc32 xd32 xe32 : UInt64, v42 = (e5 xa32 xb40 xc32 xd32 xe32) ∧ (sx1 w59 ∧ ((callK prog 247 [e5 xa30 xb38 xc30 xd30 xe30, e5 xa31 xb39 xc31 xd31 xe31] w59 (panR R) fun v43 w60 => ∃ xa33 xb41 xc33 xd33 xe33 : UInt64, v43 = (e5 xa33 xb41 xc33 xd33 xe33) ∧ (sx1 w60 ∧ ((onSome x fun a26 => semU prog (storeVar 287 a26 (e20 xa28 xb36 xc28 xd28 xe28 xa29 xb37 xc29 xd29 xe29 xa32 xb40 xc32 xd32 xe32 xa33 xb41 xc33 xd33 xe33)) w60 fun w61 => onSome x fun a27 => ∃ xaa10 xab10 xac10 xad10 xae10 xba2 xbb2 xbc2 xbd2 xbe2 xca2 xcb2 xcc2 xcd2 xce2 xda2 xdb2 xdc2 xdd2 xde2 : UInt64, Rd w61 a27 (l20 xaa10 xab10 xac10 xad10 xae10 xba2 xbb2 xbc2 xbd2 xbe2 xca2 xcb2 xcc2 xcd2 xce2 xda2 xdb2 xdc2 xdd2 xde2) ∧ R (.returned (.tuple #[e20 xaa10 xab10 xac10 xad10 xae10 xba2 xbb2 xbc2 xbd2 xbe2 xca2 xcb2 xcc2 xcd2 xce2 xda2 xdb2 xdc2 xdd2 xde2, .bool true])) w61) ∧ True))) ∧ True))) ∧ True)))))))
theorem call255 (b : Slc) {w : World} {R : RW} (hden : sh255 b w R) : Calls prog 255 #[zS b] w R :=
  calls_of_form (q0 .z (q0 (q0 .z (.cond (q0 .z .z) .z)) (q0 .z (q0 .z (q0 .z (q0 .z (q0 .z (.seq (some [(9, .p), (10, .b)]) (.draw 1 (.take 0 (.take 3 (.take 4 (.all [(1, (.all [(2, (.all [(5, (.all [(6, (.all [(7, (.all [(8, (.take 9 (.take 10 (.take 11 (.all [(12, (.all [(13, (.take 14 .done))]))]))))), (12, (.all [(8, (.take 9 (.take 10 (.take 11 (.all [(13, (.take 14 .done))])))))]))])), (12, (.all [(7, (.all [(8, (.take 9 (.take 10 (.take 11 (.all [(13, (.take 14 .done))])))))]))]))])), (12, (.all [(6, (.all [(7, (.all [(8, (.take 9 (.take 10 (.take 11 (.all [(13, (.take 14 .done))])))))]))]))]))])), (12, (.all [(5, (.all [(6, (.all [(7, (.all [(8, (.take 9 (.take 10 (.take 11 (.all [(13, (.take 14 .done))])))))]))]))]))]))])), (12, (.all [(2, (.all [(5, (.all [(6, (.all [(7, (.all [(8, (.take 9 (.take 10 (.take 11 (.all [(13, (.take 14 .done))])))))]))]))]))]))]))])), (12, (.all [(1, (.all [(2, (.all [(5, (.all [(6, (.all [(7, (.all [(8, (.take 9 (.take 10 (.take 11 (.all [(13, (.take 14 .done))])))))]))]))]))]))]))]))]))))) (.seq (some []) (.block none (.seq (some [(46, .b)]) (q0 .z (.cond .z (q0 .z (.cond .z .z)))) (.cond (q0 .z .z) (q0 .z (.cond .z .z))))) (q0 (.draw 1 (.take 0 (.take 1 (.take 3 (.take 4 (.all [(2, (.all [(5, (.take 6 (.all [(7, (.take 8 .done))])))]))])))))) .z)))))))))) func255 (by kernel_rfl) [.sl b] (by kernel_rfl) (by kernel_rfl) hden
def sh250 (s : Slc) (w : World) (R : RW) : Prop :=
  semK prog (Instr.box 191 (zS s)) w fun v w1 => ∃ s1 : Option Addr, v = (.pointer s1) ∧ R (.returned (.func (.func 305) #[] #[.pointer s1])) w1
theorem call250 (s : Slc) {w : World} {R : RW} (hden : sh250 s w R) : Calls prog 250 #[zS s] w R :=
  calls_of_form (q0 .z (q0 .z .z)) func250 (by kernel_rfl) [.sl s] (by kernel_rfl) (by kernel_rfl) hden
def sh305 (yield : Value) (c : Option Addr) (w : World) (R : RW) : Prop :=
  onSome c fun a => ∃ x : Slc, Rd w a [zS x] ∧ ∃ (inv : List TV → World → Prop) (mu : List TV → World → Nat), inv [.i .i64 (IntKind.i64.wrap ((x.len : Int) - (1 : Int)))] w ∧ (∀ i : Int, ∀ w1 : World, inv [.i .i64 i] w1 → condK (decide (i ≥ (0 : Int))) (onSome c fun a1 => ∃ x1 : Slc, Rd w1 a1 [zS x1] ∧ ((0 ≤ i ∧ i < (x1.len : Nat)) ∧ onSome x1.a fun a2 => ∃ x2 : Bool, Rd w1 (a2.add (i.toNat * 1)) [.bool x2] ∧ callFV prog yield [.int .i64 i, .bool x2] w1 (panR R) fun v w2 => ∃ x3 : Bool, v = (.bool x3) ∧ condK (!x3) (R (.returned (.tuple #[])) w2) ((inv [.i .i64 (IntKind.i64.wrap (i - (1 : Int)))] w2 ∧ mu [.i .i64 (IntKind.i64.wrap (i - (1 : Int)))] w2 < mu [.i .i64 i] w1)))) (R (.returned (.tuple #[])) w1))
theorem call305 (yield : Value) (c : Option Addr) {w : World} {R : RW} (hden : sh305 yield c w R) : Calls prog 305 #[yield, .pointer c] w R :=
  calls_of_form (q0 .z (.block none (.loop [(3, (.i .i64))] (q0 (q0 .z (.cond .z .z)) (q0 (.block none (q0 .z (.cond .z .z))) .z))))) func305 (by kernel_rfl) [.v yield, .p c] (by kernel_rfl) (by kernel_rfl) hden
def sh254 (x : Slc) (count : Int) (w : World) (R : RW) : Prop :=
  ∃ j : List TV → World → Prop, (condK (decide (count < (0 : Int))) ((panR R) [{ v := (.iface 9 (.string ⟨([99, 97, 110, 110, 111, 116, 32, 98, 101, 32, 110, 101, 103, 97, 116, 105, 118, 101]).toArray⟩)), recovered := false }] w) (j [] w)) ∧ (∀ w1 : World, j [] w1 → callK prog 313 [.int .u64 ((u64OfInt (x.len : Int))).toNat, .int .u64 ((u64OfInt count)).toNat] w1 (panR R) fun v w2 => ∃ xa xb : UInt64, v = (.tuple #[.int .u64 xa.toNat, .int .u64 xb.toNat]) ∧ ∃ j1 : List TV → World → Prop, (condK (decide ((0 : UInt64) < xa)) ((panR R) [{ v := (.iface 9 (.string ⟨([116, 104, 101, 32, 114, 101, 115, 117, 108, 116, 32, 111, 102, 32, 40, 108, 101, 110, 40, 120, 41, 32, 42, 32, 99, 111, 117, 110, 116, 41, 32, 111, 118, 101, 114, 102, 108, 111, 119, 115]).toArray⟩)), recovered := false }] w2) (condK (decide ((9223372036854775807 : UInt64) < xb)) ((panR R) [{ v := (.iface 9 (.string ⟨([116, 104, 101, 32, 114, 101, 115, 117, 108, 116, 32, 111, 102, 32, 40, 108, 101, 110, 40, 120, 41, 32, 42, 32, 99, 111, 117, 110, 116, 41, 32, 111, 118, 101, 114, 102, 108, 111, 119, 115]).toArray⟩)), recovered := false }] w2) (j1 [] w2))) ∧ (∀ w3 : World, j1 [] w3 → semK prog (Instr.makeSlice 38 (.int .i64 (IntKind.i64.wrap (xb.toNat : Int))) (.int .i64 (IntKind.i64.wrap (xb.toNat : Int)))) w3 fun v1 w4 => ∃ x1 : Slc, v1 = (zS x1) ∧ semK prog (Builtin.copy_ #[38, 38] 3 #[zS x1, zS x]) w4 fun v2 w5 => ∃ x2 : Int, v2 = (.int .i64 x2) ∧ ∃ (inv : List TV → World → Prop) (mu : List TV → World → Nat), inv [.i .i64 x2] w5 ∧ (∀ n : Int, ∀ w6 : World, inv [.i .i64 n] w6 → condK (decide (n < (x1.len : Int))) (((0 ≤ n ∧ n ≤ (x1.len : Nat)) ∧ ((0 ≤ n ∧ n ≤ (x1.cap : Nat)) ∧ ((semK prog (Builtin.copy_ #[38, 38] 3 #[.slice (cutSl x1 1 (n.toNat) x1.len x1.cap).a (cutSl x1 1 (n.toNat) x1.len x1.cap).len (cutSl x1 1 (n.toNat) x1.len x1.cap).cap, .slice (cutSl x1 1 0 (n.toNat) x1.cap).a (cutSl x1 1 0 (n.toNat) x1.cap).len (cutSl x1 1 0 (n.toNat) x1.cap).cap]) w6.drew fun v3 w7 => ∃ x3 : Int, v3 = (.int .i64 x3) ∧ (inv [.i .i64 (IntKind.i64.wrap (n + x3))] w7 ∧ mu [.i .i64 (IntKind.i64.wrap (n + x3))] w7 < mu [.i .i64 n] w6)) ∧ True)))) (R (.returned (zS x1)) w6))))
theorem call254 (x : Slc) (count : Int) {w : World} {R : RW} (hden : sh254 x count w R) : Calls prog 254 #[zS x, .int .i64 count] w R :=
  calls_of_form (q0 .z (.seq (some []) (q0 .z (.cond .z .z)) (q0 .z (.seq (some []) (q0 .z (.cond .z .z)) (q0 .z (q0 .z (q0 (.block none (.loop [(8, (.i .i64))] (q0 (q0 .z (.cond .z .z)) (.block none (.draw 0 (.take 0 (.take 1 (.take 2 (.take 3 (.take 4 (.take 5 (.take 6 (.all [(7, (.take 8 (.take 9 .done)))]))))))))))))) (q0 .z .z)))))))) func254 (by kernel_rfl) [.sl x, .i .i64 count] (by kernel_rfl) (by kernel_rfl) hden
def sh188 (paa pab pac pad pae pba pbb pbc pbd pbe pca pcb pcc pcd pce pda pdb pdc pdd pde : UInt64) (w : World) (R : RW) : Prop :=
  semK prog (Instr.box 287 (e20 paa pab pac pad pae pba pbb pbc pbd pbe pca pcb pcc pcd pce pda pdb pdc pdd pde)) w fun v w1 => ∃ p : Option Addr, v = (.pointer p) ∧ onSome p fun a => ∃ xa xb xc xd xe : UInt64, Rd w1 (a.add 10) (l5 xa xb xc xd xe) ∧ callK prog 245 [e5 xa xb xc xd xe] w1 (panR R) fun v1 w2 => ∃ xa1 xb1 xc1 xd1 xe1 : UInt64, v1 = (e5 xa1 xb1 xc1 xd1 xe1) ∧ semK prog (Instr.alloc 285 true (.tuple #[])) w2 fun v2 w3 => ∃ z : Option Addr, v2 = (.pointer z) ∧ onSome z fun a1 => semU prog (storeVar 285 a1 (e5 xa1 xb1 xc1 xd1 xe1)) w3 fun w4 => onSome p fun a2 => ∃ xa2 xb2 xc2 xd2 xe2 : UInt64, Rd w4 (a2.add 5) (l5 xa2 xb2 xc2 xd2 xe2) ∧ onSome z fun a3 => ∃ xa3 xb3 xc3 xd3 xe3 : UInt64, Rd w4 a3 (l5 xa3 xb3 xc3 xd3 xe3) ∧ callK prog 247 [e5 xa2 xb2 xc2 xd2 xe2, e5 xa3 xb3 xc3 xd3 xe3] w4 (panR R) fun v3 w5 => ∃ xa4 xb4 xc4 xd4 xe4 : UInt64, v3 = (e5 xa4 xb4 xc4 xd4 xe4) ∧ callK prog 246 [e5 xa4 xb4 xc4 xd4 xe4] w5 (panR R) fun v4 w6 => ∃ x : Slc, v4 = (zS x) ∧ onSome p fun a4 => ∃ xa5 xb5 xc5 xd5 xe5 : UInt64, Rd w6 (a4.add 0) (l5 xa5 xb5 xc5 xd5 xe5) ∧ onSome z fun a5 => ∃ xa6 xb6 xc6 xd6 xe6 : UInt64, Rd w6 a5 (l5 xa6 xb6 xc6 xd6 xe6) ∧ callK prog 247 [e5 xa5 xb5 xc5 xd5 xe5, e5 xa6 xb6 xc6 xd6 xe6] w6 (panR R) fun v5 w7 => ∃ xa7 xb7 xc7 xd7 xe7 : UInt64, v5 = (e5 xa7 xb7 xc7 xd7 xe7) ∧ callK prog 248 [e5 xa7 xb7 xc7 xd7 xe7] w7 (panR R) fun v6 w8 => ∃ x1 : Bool, v6 = (.bool x1) ∧ condK x1 (((0 ≤ (31 : Int) ∧ (31 : Int) < (x.len : Nat)) ∧ onSome x.a fun a6 => ∃ x2 : UInt8, Rd w8 (a6.add (((31 : Int)).toNat * 1)) [.int .u8 x2.toNat] ∧ ((0 ≤ (31 : Int) ∧ (31 : Int) < (x.len : Nat)) ∧ onSome x.a fun a7 => semU prog (storeVar 5 (a7.add (((31 : Int)).toNat * 1)) (.int .u8 ((x2 ||| (128 : UInt8))).toNat)) w8 fun w9 => R (.returned (zS x)) w9))) (R (.returned (zS x)) w8)
theorem call188 (paa pab pac pad pae pba pbb pbc pbd pbe pca pcb pcc pcd pce pda pdb pdc pdd pde : UInt64) {w : World} {R : RW} (hden : sh188 paa pab pac pad pae pba pbb pbc pbd pbe pca pcb pcc pcd pce pda pdb pdc pdd pde w R) : Calls prog 188 #[e20 paa pab pac pad pae pba pbb pbc pbd pbe pca pcb pcc pcd pce pda pdb pdc pdd pde] w R :=
  calls_of_form (q0 .z (q0 .z (q0 .z (q0 (q0 .z (.cond .z .z)) (q0 .z .z))))) func188 (by kernel_rfl) [.agg [.agg [.u64 paa, .u64 pab, .u64 pac, .u64 pad, .u64 pae], .agg [.u64 pba, .u64 pbb, .u64 pbc, .u64 pbd, .u64 pbe], .agg [.u64 pca, .u64 pcb, .u64 pcc, .u64 pcd, .u64 pce], .agg [.u64 pda, .u64 pdb, .u64 pdc, .u64 pdd, .u64 pde]]] (by kernel_rfl) (by kernel_rfl) hden
def sh189 (a : Slc) (paa pab pac pad pae pba pbb pbc pbd pbe pca pcb pcc pcd pce pda pdb pdc pdd pde : UInt64) (w : World) (R : RW) : Prop :=
  semK prog (Instr.box 287 (e20 paa pab pac pad pae pba pbb pbc pbd pbe pca pcb pcc pcd pce pda pdb pdc pdd pde)) w fun v w1 => ∃ p : Option Addr, v = (.pointer p) ∧ semK prog (Instr.alloc 287 true (.tuple #[])) w1 fun v1 w2 => ∃ x : Option Addr, v1 = (.pointer x) ∧ callK prog 249 [] w2 (panR R) fun v2 w3 => ∃ xaa xab xac xad xae xba xbb xbc xbd xbe xca xcb xcc xcd xce xda xdb xdc xdd xde : UInt64, v2 = (e20 xaa xab xac xad xae xba xbb xbc xbd xbe xca xcb xcc xcd xce xda xdb xdc xdd xde) ∧ semK prog (Instr.alloc 355 true (.tuple #[])) w3 fun v3 w4 => ∃ s : Option Addr, v3 = (.pointer s) ∧ onSome s fun a1 => semU prog (storeVar 355 a1 (e20 xaa xab xac xad xae xba xbb xbc xbd xbe xca xcb xcc xcd xce xda xdb xdc xdd xde)) w4 fun w5 => callK prog 251 [zS a] w5 (panR R) fun v4 w6 => ∃ x1 : Slc, v4 = (zS x1) ∧ callK prog 250 [zS x1] w6 (panR R) fun v5 w7 => ∃ x2 : Value, v5 = x2 ∧ ∃ (fn : FuncId) (first cap : Array Value), x2 = .func (.func fn) first cap ∧ enters prog fn = true ∧ ∀ (rec : LoopState → Option Code → Obj) (dd ll : Nat) (w8 : World), dd = w7.heap.size → ll = dd + 1 → w8 = (w7.alloc (.deferred (some []))).alloc (rec .ready none) → (∀ x3 : Int, ∀ x4 : Bool, ∀ (w9 : World) (kk : Value → World → Prop), w9.heap[ll]? = some (rec .ready none) → ((w9.heap[ll]? = some (rec .ready none) ∧ callK prog 252 [.pointer s] (w9.putObj ll (rec .busy none)) (fun _ _ => False) fun v6 w10 => v6 = (.tuple #[]) ∧ condK x4 (onSome p fun a2 => ∃ xaa1 xab1 xac1 xad1 xae1 xba1 xbb1 xbc1 xbd1 xbe1 xca1 xcb1 xcc1 xcd1 xce1 xda1 xdb1 xdc1 xdd1 xde1 : UInt64, Rd w10 a2 (l20 xaa1 xab1 xac1 xad1 xae1 xba1 xbb1 xbc1 xbd1 xbe1 xca1 xcb1 xcc1 xcd1 xce1 xda1 xdb1 xdc1 xdd1 xde1) ∧ callK prog 253 [.pointer s, e20 xaa1 xab1 xac1 xad1 xae1 xba1 xbb1 xbc1 xbd1 xbe1 xca1 xcb1 xcc1 xcd1 xce1 xda1 xdb1 xdc1 xdd1 xde1] w10 (fun _ _ => False) fun v7 w11 => v7 = (.tuple #[]) ∧ (w11.heap[ll]? = some (rec .busy none) ∧ kk (.bool true) (w11.putObj ll (rec .ready none)))) ((w10.heap[ll]? = some (rec .busy none) ∧ kk (.bool true) (w10.putObj ll (rec .ready none)))))) → yieldK prog ll [.int .i64 x3, .bool x4] w9 kk) → callK prog fn (first.toList ++ [.func (.yield ll) #[] #[]] ++ cap.toList) w8 (panRK R [(mkD dd)]) fun _ w12 => (w12.heap[ll]? = some (rec .ready none) ∧ onSome s fun a3 => ∃ xaa2 xab2 xac2 xad2 xae2 xba2 xbb2 xbc2 xbd2 xbe2 xca2 xcb2 xcc2 xcd2 xce2 xda2 xdb2 xdc2 xdd2 xde2 : UInt64, Rd (w12.putObj ll (rec .exhausted none)) (a3.add 0) (l20 xaa2 xab2 xac2 xad2 xae2 xba2 xbb2 xbc2 xbd2 xbe2 xca2 xcb2 xcc2 xcd2 xce2 xda2 xdb2 xdc2 xdd2 xde2) ∧ onSome x fun a4 => semU prog (storeVar 287 a4 (e20 xaa2 xab2 xac2 xad2 xae2 xba2 xbb2 xbc2 xbd2 xbe2 xca2 xcb2 xcc2 xcd2 xce2 xda2 xdb2 xdc2 xdd2 xde2)) (w12.putObj ll (rec .exhausted none)) fun w13 => (w13.heap[dd]? = some (.deferred (some [])) ∧ onSome x fun a5 => ∃ xaa3 xab3 xac3 xad3 xae3 xba3 xbb3 xbc3 xbd3 xbe3 xca3 xcb3 xcc3 xcd3 xce3 xda3 xdb3 xdc3 xdd3 xde3 : UInt64, Rd (w13.putObj dd (.deferred none)) a5 (l20 xaa3 xab3 xac3 xad3 xae3 xba3 xbb3 xbc3 xbd3 xbe3 xca3 xcb3 xcc3 xcd3 xce3 xda3 xdb3 xdc3 xdd3 xde3) ∧ R (.returned (e20 xaa3 xab3 xac3 xad3 xae3 xba3 xbb3 xbc3 xbd3 xbe3 xca3 xcb3 xcc3 xcd3 xce3 xda3 xdb3 xdc3 xdd3 xde3)) (w13.putObj dd (.deferred none)))) ∨ False ∨ False
theorem call189 (a : Slc) (paa pab pac pad pae pba pbb pbc pbd pbe pca pcb pcc pcd pce pda pdb pdc pdd pde : UInt64) {w : World} {R : RW} (hden : sh189 a paa pab pac pad pae pba pbb pbc pbd pbe pca pcb pcc pcd pce pda pdb pdc pdd pde w R) : Calls prog 189 #[zS a, e20 paa pab pac pad pae pba pbb pbc pbd pbe pca pcb pcc pcd pce pda pdb pdc pdd pde] w R :=
  calls_of_form (q0 .z (q0 .z (q0 (q0 .z (.block none (.rf false [] [(.i .i64), .b] .z (.block none (q0 .z (q0 .z (.cond .z .z))))))) (q0 .z .z)))) func189 (by kernel_rfl) [.sl a, .agg [.agg [.u64 paa, .u64 pab, .u64 pac, .u64 pad, .u64 pae], .agg [.u64 pba, .u64 pbb, .u64 pbc, .u64 pbd, .u64 pbe], .agg [.u64 pca, .u64 pcb, .u64 pcc, .u64 pcd, .u64 pce], .agg [.u64 pda, .u64 pdb, .u64 pdc, .u64 pdd, .u64 pde]]] (by kernel_rfl) (by kernel_rfl) hden
def sh190 (w : World) (R : RW) : Prop :=
  semK prog (Instr.alloc 287 true (.tuple #[])) w fun v w1 => ∃ x : Option Addr, v = (.pointer x) ∧ semK prog (Instr.buildSlice 38 1 #[(0, (.int .u8 ((102 : UInt8)).toNat))]) w1 fun v1 w2 => ∃ x1 : Slc, v1 = (zS x1) ∧ callK prog 254 [zS x1, .int .i64 (32 : Int)] w2 (panR R) fun v2 w3 => ∃ x2 : Slc, v2 = (zS x2) ∧ ((0 ≤ (0 : Int) ∧ (0 : Int) < (x2.len : Nat)) ∧ onSome x2.a fun a => semU prog (storeVar 5 (a.add (((0 : Int)).toNat * 1)) (.int .u8 ((88 : UInt8)).toNat)) w3 fun w4 => callK prog 255 [zS x2] w4 (panR R) fun v3 w5 => ∃ xaaa xaab xaac xaad xaae xaba xabb xabc xabd xabe xaca xacb xacc xacd xace xada xadb xadc xadd xade : UInt64, ∃ xb : Bool, v3 = (.tuple #[e20 xaaa xaab xaac xaad xaae xaba xabb xabc xabd xabe xaca xacb xacc xacd xace xada xadb xadc xadd xade, .bool xb]) ∧ semK prog (Instr.alloc 287 true (.tuple #[])) w5 fun v4 w6 => ∃ p : Option Addr, v4 = (.pointer p) ∧ onSome p fun a1 => semU prog (storeVar 287 a1 (e20 xaaa xaab xaac xaad xaae xaba xabb xabc xabd xabe xaca xacb xacc xacd xace xada xadb xadc xadd xade)) w6 fun w7 => onSome p fun a2 => ∃ xaa xab xac xad xae xba xbb xbc xbd xbe xca xcb xcc xcd xce xda xdb xdc xdd xde : UInt64, Rd w7 a2 (l20 xaa xab xac xad xae xba xbb xbc xbd xbe xca xcb xcc xcd xce xda xdb xdc xdd xde) ∧ onSome x fun a3 => semU prog (storeVar 287 a3 (e20 xaa xab xac xad xae xba xbb xbc xbd xbe xca xcb xcc xcd xce xda xdb xdc xdd xde)) w7 fun w8 => onSome x fun a4 => ∃ xaa1 xab1 xac1 xad1 xae1 xba1 xbb1 xbc1 xbd1 xbe1 xca1 xcb1 xcc1 xcd1 xce1 xda1 xdb1 xdc1 xdd1 xde1 : UInt64, Rd w8 a4 (l20 xaa1 xab1 xac1 xad1 xae1 xba1 xbb1 xbc1 xbd1 xbe1 xca1 xcb1 xcc1 xcd1 xce1 xda1 xdb1 xdc1 xdd1 xde1) ∧ R (.returned (e20 xaa1 xab1 xac1 xad1 xae1 xba1 xbb1 xbc1 xbd1 xbe1 xca1 xcb1 xcc1 xcd1 xce1 xda1 xdb1 xdc1 xdd1 xde1)) w8)
theorem call190 {w : World} {R : RW} (hden : sh190 w R) : Calls prog 190 #[] w R :=
  calls_of_form (q0 .z (q0 .z (q0 .z (q0 .z (q0 .z .z))))) func190 (by kernel_rfl) [] (by kernel_rfl) (by kernel_rfl) hden
def sh313 (x y : UInt64) (w : World) (R : RW) : Prop :=
  callK prog 302 [.int .u64 x.toNat, .int .u64 y.toNat] w (panR R) fun v w1 => ∃ xa xb : UInt64, v = (.tuple #[.int .u64 xa.toNat, .int .u64 xb.toNat]) ∧ R (.returned (.tuple #[.int .u64 xa.toNat, .int .u64 xb.toNat])) w1
theorem call313 (x y : UInt64) {w : World} {R : RW} (hden : sh313 x y w R) : Calls prog 313 #[.int .u64 x.toNat, .int .u64 y.toNat] w R :=
  calls_of_form (q0 .z (q0 (.cond (q0 .z (q0 .z .z)) .z) (q0 .z (q0 .z .z)))) func313 (by kernel_rfl) [.u64 x, .u64 y] (by kernel_rfl) (by kernel_rfl) hden
def sh183 (seed : Slc) (w : World) (R : RW) : Prop :=
  condK ((seed.len : Int) != (32 : Int)) (R (.returned (.tuple #[.pointer none, .bool false])) w) (semK prog (Instr.buildSlice 77 1 #[(0, (zS seed))]) w fun v w1 => ∃ x : Slc, v = (zS x) ∧ callK prog 241 [zS x] w1 (panR R) fun v1 w2 => ∃ x1 : Slc, v1 = (zS x1) ∧ ((0 ≤ (32 : Int) ∧ (32 : Int) ≤ (32 : Int) ∧ (32 : Int) ≤ (x1.cap : Nat)) ∧ ((0 ≤ (0 : Int) ∧ (0 : Int) < ((cutSl x1 1 0 (((32 : Int)).toNat) (((32 : Int)).toNat)).len : Nat)) ∧ onSome (cutSl x1 1 0 (((32 : Int)).toNat) (((32 : Int)).toNat)).a fun a => ∃ x2 : UInt8, Rd w2 (a.add (((0 : Int)).toNat * 1)) [.int .u8 x2.toNat] ∧ ((0 ≤ (0 : Int) ∧ (0 : Int) < ((cutSl x1 1 0 (((32 : Int)).toNat) (((32 : Int)).toNat)).len : Nat)) ∧ onSome (cutSl x1 1 0 (((32 : Int)).toNat) (((32 : Int)).toNat)).a fun a1 => semU prog (storeVar 5 (a1.add (((0 : Int)).toNat * 1)) (.int .u8 ((x2 &&& ~~~(7 : UInt8))).toNat)) w2 fun w3 => ((0 ≤ (31 : Int) ∧ (31 : Int) < ((cutSl x1 1 0 (((32 : Int)).toNat) (((32 : Int)).toNat)).len : Nat)) ∧ onSome (cutSl x1 1 0 (((32 : Int)).toNat) (((32 : Int)).toNat)).a fun a2 => ∃ x3 : UInt8, Rd w3 (a2.add (((31 : Int)).toNat * 1)) [.int .u8 x3.toNat] ∧ ((0 ≤ (31 : Int) ∧ (31 : Int) < ((cutSl x1 1 0 (((32 : Int)).toNat) (((32 : Int)).toNat)).len : Nat)) ∧ onSome (cutSl x1 1 0 (((32 : Int)).toNat) (((32 : Int)).toNat)).a fun a3 => semU prog (storeVar 5 (a3.add (((31 : Int)).toNat * 1)) (.int .u8 (((x3 &&& (63 : UInt8)) ||| (64 : UInt8))).toNat)) w3 fun w4 => ((0 ≤ (32 : Int) ∧ (32 : Int) ≤ (x1.len : Nat)) ∧ ((callK prog 190 [] w4.drew (panR R) fun v2 w5 => ∃ xaa xab xac xad xae xba xbb xbc xbd xbe xca xcb xcc xcd xce xda xdb xdc xdd xde : UInt64, v2 = (e20 xaa xab xac xad xae xba xbb xbc xbd xbe xca xcb xcc xcd xce xda xdb xdc xdd xde) ∧ ((callK prog 189 [.slice (cutSl x1 1 0 (((32 : Int)).toNat) (((32 : Int)).toNat)).a (cutSl x1 1 0 (((32 : Int)).toNat) (((32 : Int)).toNat)).len (cutSl x1 1 0 (((32 : Int)).toNat) (((32 : Int)).toNat)).cap, e20 xaa xab xac xad xae xba xbb xbc xbd xbe xca xcb xcc xcd xce xda xdb xdc xdd xde] w5 (panR R) fun v3 w6 => ∃ xaa1 xab1 xac1 xad1 xae1 xba1 xbb1 xbc1 xbd1 xbe1 xca1 xcb1 xcc1 xcd1 xce1 xda1 xdb1 xdc1 xdd1 xde1 : UInt64, v3 = (e20 xaa1 xab1 xac1 xad1 xae1 xba1 xbb1 xbc1 xbd1 xbe1 xca1 xcb1 xcc1 xcd1 xce1 xda1 xdb1 xdc1 xdd1 xde1) ∧ ((semK prog (Instr.box 289 (.agg #[.int .u64 xaa1.toNat, .int .u64 xab1.toNat, .int .u64 xac1.toNat, .int .u64 xad1.toNat, .int .u64 xae1.toNat, .int .u64 xba1.toNat, .int .u64 xbb1.toNat, .int .u64 xbc1.toNat, .int .u64 xbd1.toNat, .int .u64 xbe1.toNat, .int .u64 xca1.toNat, .int .u64 xcb1.toNat, .int .u64 xcc1.toNat, .int .u64 xcd1.toNat, .int .u64 xce1.toNat, .int .u64 xda1.toNat, .int .u64 xdb1.toNat, .int .u64 xdc1.toNat, .int .u64 xdd1.toNat, .int .u64 xde1.toNat, .slice (cutSl x1 1 0 (((32 : Int)).toNat) (((32 : Int)).toNat)).a (cutSl x1 1 0 (((32 : Int)).toNat) (((32 : Int)).toNat)).len (cutSl x1 1 0 (((32 : Int)).toNat) (((32 : Int)).toNat)).cap, .slice (cutSl x1 1 (((32 : Int)).toNat) x1.len x1.cap).a (cutSl x1 1 (((32 : Int)).toNat) x1.len x1.cap).len (cutSl x1 1 (((32 : Int)).toNat) x1.len x1.cap).cap])) w6 fun v4 w7 => ∃ x4 : Option Addr, v4 = (.pointer x4) ∧ R (.returned (.tuple #[.pointer x4, .bool true])) w7) ∧ True)) ∧ True)) ∧ True))))))))
theorem call183 (seed : Slc) {w : World} {R : RW} (hden : sh183 seed w R) : Calls prog 183 #[zS seed] w R :=
  calls_of_form (q0 .z (q0 (q0 .z (.cond (q0 .z .z) .z)) (q0 .z (q0 .z (q0 .z (q0 .z (q0 (.draw 0 (.take 0 (.take 3 (.take 4 (.take 5 (.all [(1, (.all [(2, (.take 6 (.all [(7, (.take 8 (.take 9 .done)))])))]))])))))) .z))))))) func183 (by kernel_rfl) [.sl seed] (by kernel_rfl) (by kernel_rfl) hden
def sh184 (o : Option Addr) (w : World) (R : RW) : Prop :=
  onSome o fun a => ∃ xaa xab xac xad xae xba xbb xbc xbd xbe xca xcb xcc xcd xce xda xdb xdc xdd xde : UInt64, Rd w (a.add 0) (l20 xaa xab xac xad xae xba xbb xbc xbd xbe xca xcb xcc xcd xce xda xdb xdc xdd xde) ∧ callK prog 188 [e20 xaa xab xac xad xae xba xbb xbc xbd xbe xca xcb xcc xcd xce xda xdb xdc xdd xde] w (panR R) fun v w1 => ∃ x : Slc, v = (zS x) ∧ R (.returned (zS x)) w1
theorem call184 (o : Option Addr) {w : World} {R : RW} (hden : sh184 o w R) : Calls prog 184 #[.pointer o] w R :=
  calls_of_form (q0 .z (q0 .z .z)) func184 (by kernel_rfl) [.p o] (by kernel_rfl) (by kernel_rfl) hden
def sh187 (first parts : Slc) (w : World) (R : RW) : Prop :=
  callK prog 244 [zS parts] w (panR R) fun v w1 => ∃ x : Slc, v = (zS x) ∧ semK prog (Instr.buildSlice 77 1 #[(0, (zS first))]) w1 fun v1 w2 => ∃ x1 : Slc, v1 = (zS x1) ∧ callK prog 243 [zS x, .int .i64 (0 : Int), zS x1] w2 (panR R) fun v2 w3 => ∃ x2 : Slc, v2 = (zS x2) ∧ callK prog 241 [zS x2] w3 (panR R) fun v3 w4 => ∃ x3 : Slc, v3 = (zS x3) ∧ callK prog 242 [zS x3] w4 (panR R) fun v4 w5 => ∃ x4 : Slc, v4 = (zS x4) ∧ R (.returned (zS x4)) w5
theorem call187 (first parts : Slc) {w : World} {R : RW} (hden : sh187 first parts w R) : Calls prog 187 #[zS first, zS parts] w R :=
  calls_of_form (q0 .z (q0 .z .z)) func187 (by kernel_rfl) [.sl first, .sl parts] (by kernel_rfl) (by kernel_rfl) hden
def sh193 (point public0 text : Slc) (w : World) (R : RW) : Prop :=
  callK prog 244 [zS text] w (panR R) fun v w1 => ∃ x : Slc, v = (zS x) ∧ semK prog (Instr.buildSlice 77 1 #[(0, (zS public0))]) w1 fun v1 w2 => ∃ x1 : Slc, v1 = (zS x1) ∧ callK prog 243 [zS x, .int .i64 (0 : Int), zS x1] w2 (panR R) fun v2 w3 => ∃ x2 : Slc, v2 = (zS x2) ∧ callK prog 187 [zS point, zS x2] w3 (panR R) fun v3 w4 => ∃ x3 : Slc, v3 = (zS x3) ∧ R (.returned (zS x3)) w4
theorem call193 (point public0 text : Slc) {w : World} {R : RW} (hden : sh193 point public0 text w R) : Calls prog 193 #[zS point, zS public0, zS text] w R :=
  calls_of_form (q0 .z (q0 .z .z)) func193 (by kernel_rfl) [.sl point, .sl public0, .sl text] (by kernel_rfl) (by kernel_rfl) hden
def sh110 (seed : Slc) (w : World) (R : RW) : Prop :=
  callK prog 183 [zS seed] w (panR R) fun v w1 => ∃ xa : Option Addr, ∃ xb : Bool, v = (.tuple #[.pointer xa, .bool xb]) ∧ condK (!xb) (R (.returned (.slice none 0 0)) w1) (callK prog 184 [.pointer xa] w1 (panR R) fun v1 w2 => ∃ x : Slc, v1 = (zS x) ∧ R (.returned (zS x)) w2)
theorem call110 (seed : Slc) {w : World} {R : RW} (hden : sh110 seed w R) : Calls prog 110 #[zS seed] w R :=
  calls_of_form (q0 .z (q0 .z (q0 (q0 .z (.cond (q0 .z .z) .z)) (q0 .z .z)))) func110 (by kernel_rfl) [.sl seed] (by kernel_rfl) (by kernel_rfl) hden
def sh112 (seed text : Slc) (w : World) (R : RW) : Prop :=
  callK prog 183 [zS seed] w (panR R) fun v w1 => ∃ xa : Option Addr, ∃ xb : Bool, v = (.tuple #[.pointer xa, .bool xb]) ∧ condK (!xb) (R (.returned (.slice none 0 0)) w1) (onSome xa fun a => ∃ x : Slc, Rd w1 (a.add 21) [zS x] ∧ callK prog 187 [zS x, zS text] w1 (panR R) fun v1 w2 => ∃ x1 : Slc, v1 = (zS x1) ∧ callK prog 190 [] w2 (panR R) fun v2 w3 => ∃ xaa xab xac xad xae xba xbb xbc xbd xbe xca xcb xcc xcd xce xda xdb xdc xdd xde : UInt64, v2 = (e20 xaa xab xac xad xae xba xbb xbc xbd xbe xca xcb xcc xcd xce xda xdb xdc xdd xde) ∧ callK prog 189 [zS x1, e20 xaa xab xac xad xae xba xbb xbc xbd xbe xca xcb xcc xcd xce xda xdb xdc xdd xde] w3 (panR R) fun v3 w4 => ∃ xaa1 xab1 xac1 xad1 xae1 xba1 xbb1 xbc1 xbd1 xbe1 xca1 xcb1 xcc1 xcd1 xce1 xda1 xdb1 xdc1 xdd1 xde1 : UInt64, v3 = (e20 xaa1 xab1 xac1 xad1 xae1 xba1 xbb1 xbc1 xbd1 xbe1 xca1 xcb1 xcc1 xcd1 xce1 xda1 xdb1 xdc1 xdd1 xde1) ∧ callK prog 188 [e20 xaa1 xab1 xac1 xad1 xae1 xba1 xbb1 xbc1 xbd1 xbe1 xca1 xcb1 xcc1 xcd1 xce1 xda1 xdb1 xdc1 xdd1 xde1] w4 (panR R) fun v4 w5 => ∃ x2 : Slc, v4 = (zS x2) ∧ ∃ sx : World → Prop, sx w5.drew ∧ onSome xa fun a1 => ∃ x3 : Slc, (∀ w', sx w' → Rd w' (a1.add 20) [zS x3]) ∧ ((callK prog 184 [.pointer xa] w5.drew (panR R) fun v5 w6 => ∃ x4 : Slc, v5 = (zS x4) ∧ (sx w6 ∧ ((callK prog 193 [zS x2, zS x4, zS text] w6 (panR R) fun v6 w7 => ∃ x5 : Slc, v6 = (zS x5) ∧ (sx w7 ∧ ((callK prog 192 [zS x5, zS x3, zS x1] w7 (panR R) fun v7 w8 => ∃ x6 : Slc, v7 = (zS x6) ∧ ((semK prog (Instr.buildSlice 77 2 #[(0, (zS x2)), (1, (zS x6))]) w8 fun v8 w9 => ∃ x7 : Slc, v8 = (zS x7) ∧ (sx w9 ∧ ((callK prog 191 [zS x7] w9 (panR R) fun v9 w10 => ∃ x8 : Slc, v9 = (zS x8) ∧ (sx w10 ∧ R (.returned (zS x8)) w10)) ∧ True))) ∧ True)) ∧ True))) ∧ True))) ∧ True))
theorem call112 (seed text : Slc) {w : World} {R : RW} (hden : sh112 seed text w R) : Calls prog 112 #[zS seed, zS text] w R :=
  calls_of_form (q0 .z (q0 .z (q0 (q0 .z (.cond (q0 .z .z) .z)) (q0 .z (q0 .z (q0 (.draw 1 (.take 0 (.take 1 (.take 2 (.take 4 (.take 6 (.take 7 (.take 8 (.take 10 (.take 9 (.all [(3, (.all [(5, (.all [(11, (.all [(12, (.all [(13, (.take 14 .done))]))]))]))]))]))))))))))) .z)))))) func112 (by kernel_rfl) [.sl seed, .sl text] (by kernel_rfl) (by kernel_rfl) hden
def sh244 (s : Slc) (w : World) (R : RW) : Prop :=
  pureSem prog (do eqGuard .eql 77 (.tmp 3) (.const (.slice none 0 0)) (zS s) (.slice none 0 0); binOp .eql 77 (zS s) (.slice none 0 0)) fun v => ∃ x : Bool, v = (.bool x) ∧ condK x (R (.returned (.slice none 0 0)) w) (semK prog (Instr.buildSlice 77 0 #[]) w fun v1 w1 => ∃ x1 : Slc, v1 = (zS x1) ∧ semK prog (Builtin.append_ #[77, 77] 77 #[zS x1, zS s]) w1 fun v2 w2 => ∃ x2 : Slc, v2 = (zS x2) ∧ R (.returned (zS x2)) w2)
theorem call244 (s : Slc) {w : World} {R : RW} (hden : sh244 s w R) : Calls prog 244 #[zS s] w R :=
  calls_of_form (q0 .z (q0 (q0 .z (.cond (q0 .z .z) .z)) (q0 .z .z))) func244 (by kernel_rfl) [.sl s] (by kernel_rfl) (by kernel_rfl) hden
def sh243 (s : Slc) (i : Int) (v : Slc) (w : World) (R : RW) : Prop :=
  ((0 ≤ i ∧ i ≤ (s.len : Nat)) ∧ condK ((v.len : Int) == (0 : Int)) (R (.returned (zS s)) w) (condK (i == (s.len : Int)) (semK prog (Builtin.append_ #[77, 77] 77 #[zS s, zS v]) w fun v1 w1 => ∃ x : Slc, v1 = (zS x) ∧ R (.returned (zS x)) w1) (condK (decide ((IntKind.i64.wrap ((s.len : Int) + (v.len : Int))) > (s.cap : Int))) (((0 ≤ i ∧ i ≤ (s.cap : Nat)) ∧ semK prog (Builtin.append_ #[77, 3] 77 #[.slice (cutSl s 1 0 (i.toNat) s.cap).a (cutSl s 1 0 (i.toNat) s.cap).len (cutSl s 1 0 (i.toNat) s.cap).cap, .int .i64 (IntKind.i64.wrap ((IntKind.i64.wrap ((s.len : Int) + (v.len : Int))) - i))]) w fun v2 w2 => ∃ x1 : Slc, v2 = (zS x1) ∧ ((0 ≤ i ∧ i ≤ (x1.len : Nat)) ∧ semK prog (Builtin.copy_ #[77, 77] 3 #[.slice (cutSl x1 1 (i.toNat) x1.len x1.cap).a (cutSl x1 1 (i.toNat) x1.len x1.cap).len (cutSl x1 1 (i.toNat) x1.len x1.cap).cap, zS v]) w2 fun v3 w3 => ∃ x2 : Int, v3 = (.int .i64 x2) ∧ ((0 ≤ (IntKind.i64.wrap (i + (v.len : Int))) ∧ (IntKind.i64.wrap (i + (v.len : Int))) ≤ (x1.len : Nat)) ∧ ((0 ≤ i ∧ i ≤ (s.len : Nat)) ∧ ((semK prog (Builtin.copy_ #[77, 77] 3 #[.slice (cutSl x1 1 (((IntKind.i64.wrap (i + (v.len : Int)))).toNat) x1.len x1.cap).a (cutSl x1 1 (((IntKind.i64.wrap (i + (v.len : Int)))).toNat) x1.len x1.cap).len (cutSl x1 1 (((IntKind.i64.wrap (i + (v.len : Int)))).toNat) x1.len x1.cap).cap, .slice (cutSl s 1 (i.toNat) s.len s.cap).a (cutSl s 1 (i.toNat) s.len s.cap).len (cutSl s 1 (i.toNat) s.len s.cap).cap]) w3.drew fun v4 w4 => ∃ x3 : Int, v4 = (.int .i64 x3) ∧ R (.returned (zS x1)) w4) ∧ True)))))) (((0 ≤ (IntKind.i64.wrap ((s.len : Int) + (v.len : Int))) ∧ (IntKind.i64.wrap ((s.len : Int) + (v.len : Int))) ≤ (s.cap : Nat)) ∧ ((0 ≤ (IntKind.i64.wrap (i + (v.len : Int))) ∧ (IntKind.i64.wrap (i + (v.len : Int))) ≤ ((cutSl s 1 0 (((IntKind.i64.wrap ((s.len : Int) + (v.len : Int)))).toNat) s.cap).len : Nat)) ∧ ∃ v5 w5, (callFunc 296 #[zS v, .slice (cutSl (cutSl s 1 0 (((IntKind.i64.wrap ((s.len : Int) + (v.len : Int)))).toNat) s.cap) 1 (((IntKind.i64.wrap (i + (v.len : Int)))).toNat) ((cutSl s 1 0 (((IntKind.i64.wrap ((s.len : Int) + (v.len : Int)))).toNat) s.cap).len) ((cutSl s 1 0 (((IntKind.i64.wrap ((s.len : Int) + (v.len : Int)))).toNat) s.cap).cap)).a (cutSl (cutSl s 1 0 (((IntKind.i64.wrap ((s.len : Int) + (v.len : Int)))).toNat) s.cap) 1 (((IntKind.i64.wrap (i + (v.len : Int)))).toNat) ((cutSl s 1 0 (((IntKind.i64.wrap ((s.len : Int) + (v.len : Int)))).toNat) s.cap).len) ((cutSl s 1 0 (((IntKind.i64.wrap ((s.len : Int) + (v.len : Int)))).toNat) s.cap).cap)).len (cutSl (cutSl s 1 0 (((IntKind.i64.wrap ((s.len : Int) + (v.len : Int)))).toNat) s.cap) 1 (((IntKind.i64.wrap (i + (v.len : Int)))).toNat) ((cutSl s 1 0 (((IntKind.i64.wrap ((s.len : Int) + (v.len : Int)))).toNat) s.cap).len) ((cutSl s 1 0 (((IntKind.i64.wrap ((s.len : Int) + (v.len : Int)))).toNat) s.cap).cap)).cap]).run prog w = .ok (.value v5) w5 ∧ ∃ x4 : Bool, v5 = (.bool x4) ∧ condK (!x4) (((0 ≤ (IntKind.i64.wrap (i + (v.len : Int))) ∧ (IntKind.i64.wrap (i + (v.len : Int))) ≤ ((cutSl s 1 0 (((IntKind.i64.wrap ((s.len : Int) + (v.len : Int)))).toNat) s.cap).len : Nat)) ∧ ((0 ≤ i ∧ i ≤ ((cutSl s 1 0 (((IntKind.i64.wrap ((s.len : Int) + (v.len : Int)))).toNat) s.cap).len : Nat)) ∧ ((semK prog (Builtin.copy_ #[77, 77] 3 #[.slice (cutSl (cutSl s 1 0 (((IntKind.i64.wrap ((s.len : Int) + (v.len : Int)))).toNat) s.cap) 1 (((IntKind.i64.wrap (i + (v.len : Int)))).toNat) ((cutSl s 1 0 (((IntKind.i64.wrap ((s.len : Int) + (v.len : Int)))).toNat) s.cap).len) ((cutSl s 1 0 (((IntKind.i64.wrap ((s.len : Int) + (v.len : Int)))).toNat) s.cap).cap)).a (cutSl (cutSl s 1 0 (((IntKind.i64.wrap ((s.len : Int) + (v.len : Int)))).toNat) s.cap) 1 (((IntKind.i64.wrap (i + (v.len : Int)))).toNat) ((cutSl s 1 0 (((IntKind.i64.wrap ((s.len : Int) + (v.len : Int)))).toNat) s.cap).len) ((cutSl s 1 0 (((IntKind.i64.wrap ((s.len : Int) + (v.len : Int)))).toNat) s.cap).cap)).len (cutSl (cutSl s 1 0 (((IntKind.i64.wrap ((s.len : Int) + (v.len : Int)))).toNat) s.cap) 1 (((IntKind.i64.wrap (i + (v.len : Int)))).toNat) ((cutSl s 1 0 (((IntKind.i64.wrap ((s.len : Int) + (v.len : Int)))).toNat) s.cap).len) ((cutSl s 1 0 (((IntKind.i64.wrap ((s.len : Int) + (v.len : Int)))).toNat) s.cap).cap)).cap, .slice (cutSl (cutSl s 1 0 (((IntKind.i64.wrap ((s.len : Int) + (v.len : Int)))).toNat) s.cap) 1 (i.toNat) ((cutSl s 1 0 (((IntKind.i64.wrap ((s.len : Int) + (v.len : Int)))).toNat) s.cap).len) ((cutSl s 1 0 (((IntKind.i64.wrap ((s.len : Int) + (v.len : Int)))).toNat) s.cap).cap)).a (cutSl (cutSl s 1 0 (((IntKind.i64.wrap ((s.len : Int) + (v.len : Int)))).toNat) s.cap) 1 (i.toNat) ((cutSl s 1 0 (((IntKind.i64.wrap ((s.len : Int) + (v.len : Int)))).toNat) s.cap).len) ((cutSl s 1 0 (((IntKind.i64.wrap ((s.len : Int) + (v.len : Int)))).toNat) s.cap).cap)).len (cutSl (cutSl s 1 0 (((IntKind.i64.wrap ((s.len : Int) + (v.len : Int)))).toNat) s.cap) 1 (i.toNat) ((cutSl s 1 0 (((IntKind.i64.wrap ((s.len : Int) + (v.len : Int)))).toNat) s.cap).len) ((cutSl s 1 0 (((IntKind.i64.wrap ((s.len : Int) + (v.len : Int)))).toNat) s.cap).cap)).cap]) w5.drew fun v6 w6 => ∃ x5 : Int, v6 = (.int .i64 x5) ∧ ((0 ≤ i ∧ i ≤ ((cutSl s 1 0 (((IntKind.i64.wrap ((s.len : Int) + (v.len : Int)))).toNat) s.cap).len : Nat)) ∧ semK prog (Builtin.copy_ #[77, 77] 3 #[.slice (cutSl (cutSl s 1 0 (((IntKind.i64.wrap ((s.len : Int) + (v.len : Int)))).toNat) s.cap) 1 (i.toNat) ((cutSl s 1 0 (((IntKind.i64.wrap ((s.len : Int) + (v.len : Int)))).toNat) s.cap).len) ((cutSl s 1 0 (((IntKind.i64.wrap ((s.len : Int) + (v.len : Int)))).toNat) s.cap).cap)).a (cutSl (cutSl s 1 0 (((IntKind.i64.wrap ((s.len : Int) + (v.len : Int)))).toNat) s.cap) 1 (i.toNat) ((cutSl s 1 0 (((IntKind.i64.wrap ((s.len : Int) + (v.len : Int)))).toNat) s.cap).len) ((cutSl s 1 0 (((IntKind.i64.wrap ((s.len : Int) + (v.len : Int)))).toNat) s.cap).cap)).len (cutSl (cutSl s 1 0 (((IntKind.i64.wrap ((s.len : Int) + (v.len : Int)))).toNat) s.cap) 1 (i.toNat) ((cutSl s 1 0 (((IntKind.i64.wrap ((s.len : Int) + (v.len : Int)))).toNat) s.cap).len) ((cutSl s 1 0 (((IntKind.i64.wrap ((s.len : Int) + (v.len : Int)))).toNat) s.cap).cap)).cap, zS v]) w6 fun v7 w7 => ∃ x6 : Int, v7 = (.int .i64 x6) ∧ R (.returned (.slice (cutSl s 1 0 (((IntKind.i64.wrap ((s.len : Int) + (v.len : Int)))).toNat) s.cap).a (cutSl s 1 0 (((IntKind.i64.wrap ((s.len : Int) + (v.len : Int)))).toNat) s.cap).len (cutSl s 1 0 (((IntKind.i64.wrap ((s.len : Int) + (v.len : Int)))).toNat) s.cap).cap)) w7)) ∧ True)))) (((0 ≤ (s.len : Int) ∧ (s.len : Int) ≤ ((cutSl s 1 0 (((IntKind.i64.wrap ((s.len : Int) + (v.len : Int)))).toNat) s.cap).len : Nat)) ∧ semK prog (Builtin.copy_ #[77, 77] 3 #[.slice (cutSl (cutSl s 1 0 (((IntKind.i64.wrap ((s.len : Int) + (v.len : Int)))).toNat) s.cap) 1 (((s.len : Int)).toNat) ((cutSl s 1 0 (((IntKind.i64.wrap ((s.len : Int) + (v.len : Int)))).toNat) s.cap).len) ((cutSl s 1 0 (((IntKind.i64.wrap ((s.len : Int) + (v.len : Int)))).toNat) s.cap).cap)).a (cutSl (cutSl s 1 0 (((IntKind.i64.wrap ((s.len : Int) + (v.len : Int)))).toNat) s.cap) 1 (((s.len : Int)).toNat) ((cutSl s 1 0 (((IntKind.i64.wrap ((s.len : Int) + (v.len : Int)))).toNat) s.cap).len) ((cutSl s 1 0 (((IntKind.i64.wrap ((s.len : Int) + (v.len : Int)))).toNat) s.cap).cap)).len (cutSl (cutSl s 1 0 (((IntKind.i64.wrap ((s.len : Int) + (v.len : Int)))).toNat) s.cap) 1 (((s.len : Int)).toNat) ((cutSl s 1 0 (((IntKind.i64.wrap ((s.len : Int) + (v.len : Int)))).toNat) s.cap).len) ((cutSl s 1 0 (((IntKind.i64.wrap ((s.len : Int) + (v.len : Int)))).toNat) s.cap).cap)).cap, zS v]) w5 fun v8 w8 => ∃ x7 : Int, v8 = (.int .i64 x7) ∧ ((0 ≤ i ∧ i ≤ ((cutSl s 1 0 (((IntKind.i64.wrap ((s.len : Int) + (v.len : Int)))).toNat) s.cap).len : Nat)) ∧ callK prog 297 [.slice (cutSl (cutSl s 1 0 (((IntKind.i64.wrap ((s.len : Int) + (v.len : Int)))).toNat) s.cap) 1 (i.toNat) ((cutSl s 1 0 (((IntKind.i64.wrap ((s.len : Int) + (v.len : Int)))).toNat) s.cap).len) ((cutSl s 1 0 (((IntKind.i64.wrap ((s.len : Int) + (v.len : Int)))).toNat) s.cap).cap)).a (cutSl (cutSl s 1 0 (((IntKind.i64.wrap ((s.len : Int) + (v.len : Int)))).toNat) s.cap) 1 (i.toNat) ((cutSl s 1 0 (((IntKind.i64.wrap ((s.len : Int) + (v.len : Int)))).toNat) s.cap).len) ((cutSl s 1 0 (((IntKind.i64.wrap ((s.len : Int) + (v.len : Int)))).toNat) s.cap).cap)).len (cutSl (cutSl s 1 0 (((IntKind.i64.wrap ((s.len : Int) + (v.len : Int)))).toNat) s.cap) 1 (i.toNat) ((cutSl s 1 0 (((IntKind.i64.wrap ((s.len : Int) + (v.len : Int)))).toNat) s.cap).len) ((cutSl s 1 0 (((IntKind.i64.wrap ((s.len : Int) + (v.len : Int)))).toNat) s.cap).cap)).cap, .int .i64 (v.len : Int)] w8 (panR R) fun v9 w9 => v9 = (.tuple #[]) ∧ R (.returned (.slice (cutSl s 1 0 (((IntKind.i64.wrap ((s.len : Int) + (v.len : Int)))).toNat) s.cap).a (cutSl s 1 0 (((IntKind.i64.wrap ((s.len : Int) + (v.len : Int)))).toNat) s.cap).len (cutSl s 1 0 (((IntKind.i64.wrap ((s.len : Int) + (v.len : Int)))).toNat) s.cap).cap)) w9)))))))))
theorem call243 (s : Slc) (i : Int) (v : Slc) {w : World} {R : RW} (hden : sh243 s i v w R) : Calls prog 243 #[zS s, .int .i64 i, zS v] w R :=
  calls_of_form (q0 .z (q0 .z (q0 .z (q0 (q0 .z (.cond (q0 .z .z) .z)) (q0 .z (q0 (q0 .z (.cond (q0 .z .z) .z)) (q0 (q0 .z (.cond (q0 .z (q0 .z (q0 (.draw 0 (.take 0 (.take 1 (.take 2 (.take 3 (.take 4 (.take 5 (.take 6 (.take 7 (.all [(8, .done)])))))))))) (q0 .z .z)))) .z)) (q0 .z (q0 (q0 .z (.cond (q0 (.draw 0 (.take 0 (.take 1 (.take 2 (.take 3 (.take 4 (.take 5 (.take 6 (.take 7 (.all [(8, .done)])))))))))) (q0 .z (q0 .z .z))) .z)) (q0 .z (q0 .z (q0 .z .z)))))))))))) func243 (by kernel_rfl) [.sl s, .i .i64 i, .sl v] (by kernel_rfl) (by kernel_rfl) hden
def sh191 (slices : Slc) (w : World) (R : RW) : Prop :=
  ∃ (inv : List TV → World → Prop) (mu : List TV → World → Nat), inv [.i .i64 (0 : Int), .i .i64 (0 : Int)] w ∧ (∀ size x : Int, ∀ w1 : World, inv [.i .i64 size, .i .i64 x] w1 → condK (decide (x < (slices.len : Int))) (((0 ≤ x ∧ x < (slices.len : Nat)) ∧ onSome slices.a fun a => ∃ x1 : Slc, Rd w1 (a.add (x.toNat * 1)) [zS x1] ∧ condK (decide ((IntKind.i64.wrap (size + (x1.len : Int))) < (0 : Int))) ((panR R) [{ v := (.iface 9 (.string ⟨([108, 101, 110, 32, 111, 117, 116, 32, 111, 102, 32, 114, 97, 110, 103, 101]).toArray⟩)), recovered := false }] w1) ((inv [.i .i64 (IntKind.i64.wrap (size + (x1.len : Int))), .i .i64 (IntKind.i64.wrap (x + (1 : Int)))] w1 ∧ mu [.i .i64 (IntKind.i64.wrap (size + (x1.len : Int))), .i .i64 (IntKind.i64.wrap (x + (1 : Int)))] w1 < mu [.i .i64 size, .i .i64 x] w1)))) (callK prog 256 [.slice none 0 0, .int .i64 size] w1 (panR R) fun v w2 => ∃ x2 : Slc, v = (zS x2) ∧ ∃ (inv1 : List TV → World → Prop) (mu1 : List TV → World → Nat), inv1 [.sl x2, .i .i64 (0 : Int)] w2 ∧ (∀ newslice : Slc, ∀ x3 : Int, ∀ w3 : World, inv1 [.sl newslice, .i .i64 x3] w3 → condK (decide (x3 < (slices.len : Int))) (((0 ≤ x3 ∧ x3 < (slices.len : Nat)) ∧ onSome slices.a fun a1 => ∃ x4 : Slc, Rd w3 (a1.add (x3.toNat * 1)) [zS x4] ∧ semK prog (Builtin.append_ #[38, 38] 38 #[zS newslice, zS x4]) w3 fun v1 w4 => ∃ x5 : Slc, v1 = (zS x5) ∧ (inv1 [.sl x5, .i .i64 (IntKind.i64.wrap (x3 + (1 : Int)))] w4 ∧ mu1 [.sl x5, .i .i64 (IntKind.i64.wrap (x3 + (1 : Int)))] w4 < mu1 [.sl newslice, .i .i64 x3] w3))) (R (.returned (zS newslice)) w3))))
theorem call191 (slices : Slc) {w : World} {R : RW} (hden : sh191 slices w R) : Calls prog 191 #[zS slices] w R :=
  calls_of_form (q0 .z (q0 .z (q0 (q0 .z (.block none (.loop [(3, (.i .i64)), (11, (.i .i64))] (q0 .z (q0 (.cond .z .z) (q0 (.block none (q0 .z (q0 .z (q0 .z (.cond .z .z))))) .z)))))) (q0 .z (q0 (q0 .z (.block none (.loop [(6, .sl), (27, (.i .i64))] (q0 .z (q0 (.cond .z .z) (q0 (.block none (q0 .z .z)) .z)))))) (q0 .z .z)))))) func191 (by kernel_rfl) [.sl slices] (by kernel_rfl) (by kernel_rfl) hden
def sh256 (s : Slc) (n : Int) (w : World) (R : RW) : Prop :=
  ∃ j : List TV → World → Prop, (condK (decide (n < (0 : Int))) ((panR R) [{ v := (.iface 9 (.string ⟨([99, 97, 110, 110, 111, 116, 32, 98, 101, 32, 110, 101, 103, 97, 116, 105, 118, 101]).toArray⟩)), recovered := false }] w) (j [] w)) ∧ (∀ w1 : World, j [] w1 → condK (decide ((IntKind.i64.wrap (n - (IntKind.i64.wrap ((s.cap : Int) - (s.len : Int))))) > (0 : Int))) (((0 ≤ (s.cap : Int) ∧ (s.cap : Int) ≤ (s.cap : Nat)) ∧ semK prog (Builtin.append_ #[38, 3] 38 #[.slice (cutSl s 1 0 (((s.cap : Int)).toNat) s.cap).a (cutSl s 1 0 (((s.cap : Int)).toNat) s.cap).len (cutSl s 1 0 (((s.cap : Int)).toNat) s.cap).cap, .int .i64 (IntKind.i64.wrap (n - (IntKind.i64.wrap ((s.cap : Int) - (s.len : Int)))))]) w1 fun v w2 => ∃ x : Slc, v = (zS x) ∧ ((0 ≤ (s.len : Int) ∧ (s.len : Int) ≤ (x.cap : Nat)) ∧ R (.returned (.slice (cutSl x 1 0 (((s.len : Int)).toNat) x.cap).a (cutSl x 1 0 (((s.len : Int)).toNat) x.cap).len (cutSl x 1 0 (((s.len : Int)).toNat) x.cap).cap)) w2))) (R (.returned (zS s)) w1))
theorem call256 (s : Slc) (n : Int) {w : World} {R : RW} (hden : sh256 s n w R) : Calls prog 256 #[zS s, .int .i64 n] w R :=
  calls_of_form (q0 .z (.seq (some []) (q0 .z (.cond .z .z)) (q0 (q0 .z (q0 .z (.cond .z .z))) (q0 .z .z)))) func256 (by kernel_rfl) [.sl s, .i .i64 n] (by kernel_rfl) (by kernel_rfl) hden
def sh185 (s : Slc) (w : World) (R : RW) : Prop :=
  pureSem prog (do eqGuard .eql 37 (.tmp 3) (.const (.slice none 0 0)) (zS s) (.slice none 0 0); binOp .eql 37 (zS s) (.slice none 0 0)) fun v => ∃ x : Bool, v = (.bool x) ∧ condK x (R (.returned (.slice none 0 0)) w) (semK prog (Instr.buildSlice 37 0 #[]) w fun v1 w1 => ∃ x1 : Slc, v1 = (zS x1) ∧ semK prog (Builtin.append_ #[37, 37] 37 #[zS x1, zS s]) w1 fun v2 w2 => ∃ x2 : Slc, v2 = (zS x2) ∧ R (.returned (zS x2)) w2)
theorem call185 (s : Slc) {w : World} {R : RW} (hden : sh185 s w R) : Calls prog 185 #[zS s] w R :=
  calls_of_form (q0 .z (q0 (q0 .z (.cond (q0 .z .z) .z)) (q0 .z .z))) func185 (by kernel_rfl) [.sl s] (by kernel_rfl) (by kernel_rfl) hden
section
variable {w w0 : World}
theorem callR32 {Z : Nat → Prop} {L : List (Nat × Nat × Bool)} {g : FuncId} {args : List Value} {pan : List PanicEntry → World → Prop} {K : Slc → World → Prop} (hc : Calls prog g args.toArray w (Ret (R32 w))) (h : J Z w0 L w) (hK : ∀ b l w', l.length = 32 → Blk w' b (bys l) 5 → w.heap.size ≤ b → J Z w0 L w' → Mod NoB w w' → K ⟨some ⟨b, 0, none⟩, 32, 32⟩ w') :
    callK prog g args w pan fun v w' => ∃ x : Slc, v = .slice x.a x.len x.cap ∧ K x w' :=
  callK_ret hc fun v w' ⟨b, l, hv, h1, h2, h3, hm⟩ => ⟨⟨some ⟨b, 0, none⟩, 32, 32⟩, hv, hK b l w' h1 h2 h3 (h.mod hm) hm⟩
theorem rdLast {w1 w' : World} {b : Nat} {l : List UInt8} (hb : Blk w1 b (bys l) 5) (hl : l.length = 32) (hm : Mod NoB w1 w') {K : UInt8 → Prop} (hK : ∀ x, K x) : ∃ x : UInt8, Rd w' ((⟨b, 0, none⟩ : Addr).add ((31 : Int).toNat * 1)) [.int .u8 x.toNat] ∧ K x :=
  ⟨l[31]'(by omega), rda (n := 31) (hb.no hm) (bys_at (by omega)), hK _⟩
theorem stLast {w1 w' wx : World} {b : Nat} {l : List UInt8} {y : UInt8} (hb : Blk w1 b (bys l) 5) (hl : l.length = 32) (hm : Mod NoB w1 w') (hw : Mod NoB w w') (hs : wx.heap.size ≤ b) (hx : Mod NoB w wx) : semU prog (storeVar 5 ((⟨b, 0, none⟩ : Addr).add ((31 : Int).toNat * 1)) (.int .u8 y.toNat)) w' fun w'' => R32 w (.slice (some ⟨b, 0, none⟩) 32 32) w'' :=
  semU_at (b := b) (n := 31) (by kernel_rfl) (by kernel_rfl) rfl (hb.no hm) (by simp [bys, hl]) fun w'' ht hb' => by
    rw [bys_set] at hb'
    exact ⟨b, _, rfl, by simp [hl], hb', Nat.le_trans hx.size hs, hw.fresh ht.mod fun x e => by subst e; exact Nat.le_trans hx.size hs⟩
theorem fin32 {w1 w' wx : World} {b : Nat} {l : List UInt8} (hb : Blk w1 b (bys l) 5) (hl : l.length = 32) (hs : wx.heap.size ≤ b) (hm : Mod NoB w1 w') (hw : Mod NoB w w') (hx : Mod NoB w wx) : R32 w (.slice (some ⟨b, 0, none⟩) 32 32) w' := ⟨b, l, rfl, hl, hb.no hm, Nat.le_trans hx.size hs, hw⟩
theorem c_ePut {x0 x1 x2 x3 x4 x5 x6 x7 x8 x9 x10 x11 x12 x13 x14 x15 x16 x17 x18 x19 : UInt64} : Calls prog 188 #[e20 x0 x1 x2 x3 x4 x5 x6 x7 x8 x9 x10 x11 x12 x13 x14 x15 x16 x17 x18 x19] w (Ret (R32 w)) := by
  refine call188 _ _ _ _ _ _ _ _ _ _ _ _ _ _ _ _ _ _ _ _ ?_
  unfold sh188
  have hJ0 := J.start w
  repeat' (first | (refine allocJ (by first | exact zi5 | exact zi2 | exact zi10 | exact zi20) (by assumption) fun p w' hJ hM => ?_) | (refine rdJ5 (by assumption) (by (try simp only [addl, add0, Nat.zero_add]); rfl) (by (repeat first | exact List.mem_cons_self | assumption | apply List.mem_cons_of_mem); first | done | fail) (by first | omega | (simp only []; omega)) fun a b c d e => ?_) | (refine stJ5 (by assumption) (by (try simp only [addl, add0, Nat.zero_add]); rfl) (by (repeat first | exact List.mem_cons_self | assumption | apply List.mem_cons_of_mem); first | done | fail) (by kernel_rfl) (by kernel_rfl) (by omega) fun w' hJ hT => ?_) | (refine callE c_Mul (by assumption) fun a b c d e w' hJ hM => ?_) | (refine callE c_Invert (by assumption) fun a b c d e w' hJ hM => ?_) | (refine callB c_Odd (by assumption) fun t w' hJ hM => ?_) | (refine boxJ20 (by assumption) fun p w' hJ hM => ?_) | (refine callR32 c_fPut (by assumption) fun b l w' hl hb hs hJ hM => ?_) | (refine rdLast (by assumption) (by assumption) (by first | assumption | exact Mod.refl _ _ | ((first | refine Mod.tr ?_ (by assumption) | refine Mod.fresh ?_ (by assumption) (by rintro x rfl; assumption)); first | assumption | exact Mod.refl _ _ | ((first | refine Mod.tr ?_ (by assumption) | refine Mod.fresh ?_ (by assumption) (by rintro x rfl; assumption)); first | assumption | exact Mod.refl _ _ | ((first | refine Mod.tr ?_ (by assumption) | refine Mod.fresh ?_ (by assumption) (by rintro x rfl; assumption)); first | assumption | exact Mod.refl _ _ | ((first | refine Mod.tr ?_ (by assumption) | refine Mod.fresh ?_ (by assumption) (by rintro x rfl; assumption)); first | assumption | exact Mod.refl _ _ | ((first | refine Mod.tr ?_ (by assumption) | refine Mod.fresh ?_ (by assumption) (by rintro x rfl; assumption)); first | assumption | exact Mod.refl _ _ | ((first | refine Mod.tr ?_ (by assumption) | refine Mod.fresh ?_ (by assumption) (by rintro x rfl; assumption)); first | assumption | exact Mod.refl _ _ | ((first | refine Mod.tr ?_ (by assumption) | refine Mod.fresh ?_ (by assumption) (by rintro x rfl; assumption)); first | assumption | exact Mod.refl _ _ | ((first | refine Mod.tr ?_ (by assumption) | refine Mod.fresh ?_ (by assumption) (by rintro x rfl; assumption)); first | assumption | exact Mod.refl _ _ | ((first | refine Mod.tr ?_ (by assumption) | refine Mod.fresh ?_ (by assumption) (by rintro x rfl; assumption)); first | assumption | exact Mod.refl _ _ | ((first | refine Mod.tr ?_ (by assumption) | refine Mod.fresh ?_ (by assumption) (by rintro x rfl; assumption)); first | assumption | exact Mod.refl _ _ | ((first | refine Mod.tr ?_ (by assumption) | refine Mod.fresh ?_ (by assumption) (by rintro x rfl; assumption)); first | assumption | exact Mod.refl _ _ | ((first | refine Mod.tr ?_ (by assumption) | refine Mod.fresh ?_ (by assumption) (by rintro x rfl; assumption)); first | assumption | exact Mod.refl _ _ | ((first | refine Mod.tr ?_ (by assumption) | refine Mod.fresh ?_ (by assumption) (by rintro x rfl; assumption)); first | assumption | exact Mod.refl _ _ | ((first | refine Mod.tr ?_ (by assumption) | refine Mod.fresh ?_ (by assumption) (by rintro x rfl; assumption)); first | assumption | exact Mod.refl _ _))))))))))))))) fun x => ?_) | exact stLast (by assumption) (by assumption) (by first | assumption | exact Mod.refl _ _ | ((first | refine Mod.tr ?_ (by assumption) | refine Mod.fresh ?_ (by assumption) (by rintro x rfl; assumption)); first | assumption | exact Mod.refl _ _ | ((first | refine Mod.tr ?_ (by assumption) | refine Mod.fresh ?_ (by assumption) (by rintro x rfl; assumption)); first | assumption | exact Mod.refl _ _ | ((first | refine Mod.tr ?_ (by assumption) | refine Mod.fresh ?_ (by assumption) (by rintro x rfl; assumption)); first | assumption | exact Mod.refl _ _ | ((first | refine Mod.tr ?_ (by assumption) | refine Mod.fresh ?_ (by assumption) (by rintro x rfl; assumption)); first | assumption | exact Mod.refl _ _ | ((first | refine Mod.tr ?_ (by assumption) | refine Mod.fresh ?_ (by assumption) (by rintro x rfl; assumption)); first | assumption | exact Mod.refl _ _ | ((first | refine Mod.tr ?_ (by assumption) | refine Mod.fresh ?_ (by assumption) (by rintro x rfl; assumption)); first | assumption | exact Mod.refl _ _ | ((first | refine Mod.tr ?_ (by assumption) | refine Mod.fresh ?_ (by assumption) (by rintro x rfl; assumption)); first | assumption | exact Mod.refl _ _ | ((first | refine Mod.tr ?_ (by assumption) | refine Mod.fresh ?_ (by assumption) (by rintro x rfl; assumption)); first | assumption | exact Mod.refl _ _ | ((first | refine Mod.tr ?_ (by assumption) | refine Mod.fresh ?_ (by assumption) (by rintro x rfl; assumption)); first | assumption | exact Mod.refl _ _ | ((first | refine Mod.tr ?_ (by assumption) | refine Mod.fresh ?_ (by assumption) (by rintro x rfl; assumption)); first | assumption | exact Mod.refl _ _ | ((first | refine Mod.tr ?_ (by assumption) | refine Mod.fresh ?_ (by assumption) (by rintro x rfl; assumption)); first | assumption | exact Mod.refl _ _ | ((first | refine Mod.tr ?_ (by assumption) | refine Mod.fresh ?_ (by assumption) (by rintro x rfl; assumption)); first | assumption | exact Mod.refl _ _ | ((first | refine Mod.tr ?_ (by assumption) | refine Mod.fresh ?_ (by assumption) (by rintro x rfl; assumption)); first | assumption | exact Mod.refl _ _ | ((first | refine Mod.tr ?_ (by assumption) | refine Mod.fresh ?_ (by assumption) (by rintro x rfl; assumption)); first | assumption | exact Mod.refl _ _))))))))))))))) (J.m (by assumption)) (by assumption) (J.m (by assumption)) | exact fin32 (by assumption) (by assumption) (by assumption) (by first | assumption | exact Mod.refl _ _ | ((first | refine Mod.tr ?_ (by assumption) | refine Mod.fresh ?_ (by assumption) (by rintro x rfl; assumption)); first | assumption | exact Mod.refl _ _ | ((first | refine Mod.tr ?_ (by assumption) | refine Mod.fresh ?_ (by assumption) (by rintro x rfl; assumption)); first | assumption | exact Mod.refl _ _ | ((first | refine Mod.tr ?_ (by assumption) | refine Mod.fresh ?_ (by assumption) (by rintro x rfl; assumption)); first | assumption | exact Mod.refl _ _ | ((first | refine Mod.tr ?_ (by assumption) | refine Mod.fresh ?_ (by assumption) (by rintro x rfl; assumption)); first | assumption | exact Mod.refl _ _ | ((first | refine Mod.tr ?_ (by assumption) | refine Mod.fresh ?_ (by assumption) (by rintro x rfl; assumption)); first | assumption | exact Mod.refl _ _ | ((first | refine Mod.tr ?_ (by assumption) | refine Mod.fresh ?_ (by assumption) (by rintro x rfl; assumption)); first | assumption | exact Mod.refl _ _ | ((first | refine Mod.tr ?_ (by assumption) | refine Mod.fresh ?_ (by assumption) (by rintro x rfl; assumption)); first | assumption | exact Mod.refl _ _ | ((first | refine Mod.tr ?_ (by assumption) | refine Mod.fresh ?_ (by assumption) (by rintro x rfl; assumption)); first | assumption | exact Mod.refl _ _ | ((first | refine Mod.tr ?_ (by assumption) | refine Mod.fresh ?_ (by assumption) (by rintro x rfl; assumption)); first | assumption | exact Mod.refl _ _ | ((first | refine Mod.tr ?_ (by assumption) | refine Mod.fresh ?_ (by assumption) (by rintro x rfl; assumption)); first | assumption | exact Mod.refl _ _ | ((first | refine Mod.tr ?_ (by assumption) | refine Mod.fresh ?_ (by assumption) (by rintro x rfl; assumption)); first | assumption | exact Mod.refl _ _ | ((first | refine Mod.tr ?_ (by assumption) | refine Mod.fresh ?_ (by assumption) (by rintro x rfl; assumption)); first | assumption | exact Mod.refl _ _ | ((first | refine Mod.tr ?_ (by assumption) | refine Mod.fresh ?_ (by assumption) (by rintro x rfl; assumption)); first | assumption | exact Mod.refl _ _ | ((first | refine Mod.tr ?_ (by assumption) | refine Mod.fresh ?_ (by assumption) (by rintro x rfl; assumption)); first | assumption | exact Mod.refl _ _))))))))))))))) (J.m (by assumption)) (J.m (by assumption)) | (refine condK_i (fun hb => ?_) fun hb => ?_ <;> try simp at hb) | (refine And.intro (by first | omega | (simp only []; omega)) ?_))
theorem c_eGet {x : Slc} {l : List UInt8} (hx : SlRd w x 1 (bys l)) (hg : TR w (2, 5)) : Calls prog 255 #[.slice x.a x.len x.cap] w (Ret (RPB w)) := by
  refine call255 _ ?_
  unfold sh255
  have hJ0 : J NoB w [(2, 5, false)] w := ⟨Mod.refl _ _, fun q hq => by simp at hq; subst hq; exact ⟨fun h => (by cases h), hg⟩⟩
  have hl := rd_len8 hx
  refine allocJ zi20 hJ0 fun p w1 hJ1 hM1 => ?_
  refine condK_i (fun _ => ?_) fun hb => ?_
  · refine stJ20 (x0 := 0) (x1 := 0) (x2 := 0) (x3 := 0) (x4 := 0) (x5 := 0) (x6 := 0) (x7 := 0) (x8 := 0) (x9 := 0) (x10 := 0) (x11 := 0) (x12 := 0) (x13 := 0) (x14 := 0) (x15 := 0) (x16 := 0) (x17 := 0) (x18 := 0) (x19 := 0) hJ1 (o := 0) rfl List.mem_cons_self (by kernel_rfl) (by kernel_rfl) (by omega) fun w' hJ hT => ?_
    repeat' (first | (refine rdJ20 (by assumption) (by (try simp only [addl, add0, Nat.zero_add]); rfl) (by (repeat first | exact List.mem_cons_self | assumption | apply List.mem_cons_of_mem); first | done | fail) (by omega) fun x0 x1 x2 x3 x4 x5 x6 x7 x8 x9 x10 x11 x12 x13 x14 x15 x16 x17 x18 x19 => ?_) | exact ⟨_, _, _, _, _, _, _, _, _, _, _, _, _, _, _, _, _, _, _, _, _, rfl, J.m (by assumption)⟩)
  · have hb : x.len = 32 := by have := hb; simp at this; omega
    refine callK_ret (c_clone (hx.no hM1) (by omega)) ?_
    rintro v w2 ⟨y, rfl, ho, hf, hm2⟩
    have hJ2 := hJ1.mod hm2
    have hyl := rd_len8 ho.rd
    refine ⟨y, rfl, ⟨by omega, by omega⟩, ?_⟩
    obtain ⟨ya, yl, yc⟩ := y
    simp only [] at hyl
    obtain ⟨A, hA, hr⟩ := rd_u8 ho.rd (i := 31) (by omega)
    simp only [] at hA
    subst hA
    refine ⟨_, hr, ⟨by omega, by show (31 : Int) < (yl : Int); omega⟩, _, hr, ⟨by omega, by show (31 : Int) < (yl : Int); omega⟩, ?_⟩
    have hyn : ∀ z, Slc.blk ⟨some A, yl, yc⟩ = some z → w1.heap.size ≤ z := fun z hz => by
      rcases hf with hf | ⟨u, hu, hu'⟩
      · rw [hf] at hz; cases hz
      · rw [hu] at hz; cases hz; exact hu'
    refine semU_own1 (by kernel_rfl) (by kernel_rfl) rfl ho rfl (i := 31) (by show 31 < yl; omega) fun w3 ho3 hm3 hsz3 => ?_
    rw [bys_set] at ho3
    have hJ3 : J NoB w [(p, 20, true), (2, 5, false)] w3 := hJ2.other hm3 (fun z hz => Nat.le_trans hM1.size (hyn z hz)) fun q hq hz => by
      have h1 := hyn _ hz
      have h2 := (hJ1.2 q hq).2.1
      simp only [] at h2; omega
    refine callG (c_Get ho3.rd) hJ3 fun a b c d e t w4 hJ4 hM4 => ?_
    repeat' (first | (refine allocJ (by first | exact zi5 | exact zi2 | exact zi10 | exact zi20) (by assumption) fun p w' hJ hM => ?_) | (refine rdJ5 (by assumption) (by (try simp only [addl, add0, Nat.zero_add]); rfl) (by (repeat first | exact List.mem_cons_self | assumption | apply List.mem_cons_of_mem); first | done | fail) (by first | omega | (simp only []; omega)) fun a b c d e => ?_) | (refine rdqJ5 (by assumption) (by (try simp only [addl, add0, Nat.zero_add]); rfl) (by (repeat first | exact List.mem_cons_self | assumption | apply List.mem_cons_of_mem); first | done | fail) (by first | omega | (simp only []; omega)) fun a b c d e => ?_) | (refine stJ5 (by assumption) (by (try simp only [addl, add0, Nat.zero_add]); rfl) (by (repeat first | exact List.mem_cons_self | assumption | apply List.mem_cons_of_mem); first | done | fail) (by kernel_rfl) (by kernel_rfl) (by omega) fun w' hJ hT => ?_) | (refine callE c_Mul (by assumption) fun a b c d e w' hJ hM => ?_) | (refine callE c_Square (by assumption) fun a b c d e w' hJ hM => ?_) | (refine callE c_Add (by assumption) fun a b c d e w' hJ hM => ?_) | (refine callE c_Sub (by assumption) fun a b c d e w' hJ hM => ?_) | (refine callE c_Neg (by assumption) fun a b c d e w' hJ hM => ?_) | (refine callE c_One (by assumption) fun a b c d e w' hJ hM => ?_) | (refine callB c_Zero (by assumption) fun t w' hJ hM => ?_) | (refine rdJ20 (by assumption) (by (try simp only [addl, add0, Nat.zero_add]); rfl) (by (repeat first | exact List.mem_cons_self | assumption | apply List.mem_cons_of_mem); first | done | fail) (by omega) fun x0 x1 x2 x3 x4 x5 x6 x7 x8 x9 x10 x11 x12 x13 x14 x15 x16 x17 x18 x19 => ?_) | (refine stJ20 (by assumption) (by (try simp only [addl, add0, Nat.zero_add]); rfl) (by (repeat first | exact List.mem_cons_self | assumption | apply List.mem_cons_of_mem); first | done | fail) (by kernel_rfl) (by kernel_rfl) (by omega) fun w' hJ hT => ?_) | exact ⟨_, _, _, _, _, _, _, _, _, _, _, _, _, _, _, _, _, _, _, _, _, rfl, J.m (by assumption)⟩ | (refine callG c_Root (by assumption) fun a b c d e t w' hJ hM => ?_) | (refine condK_i (fun hb => ?_) fun hb => ?_ <;> try simp at hb) | (refine And.intro ?_ trivial) | (refine And.intro (by first | omega | (simp only []; omega)) ?_) | (refine quietJ (by assumption) fun hJ => ?_) | (refine And.intro (by (repeat first | assumption | exact Mod.refl _ _ | refine Mod.tr ?_ (by assumption) | refine Mod.fresh ?_ (by assumption) (by rintro x rfl; assumption)); first | done | fail) ?_) | assumption | (simp (disch := omega) only [wrap_i64]) | (refine joinP (by assumption) ?_ fun b t w' hJ => ?_) | exact ⟨_, rfl, J.sub (by assumption) (by intro q hq; first | ((repeat first | exact hq | apply List.mem_cons_of_mem); first | done | fail) | (rcases List.mem_cons.1 hq with rfl | hq; (first | exact List.mem_cons_self | (apply List.mem_cons_of_mem; exact List.mem_cons_self)); ((repeat first | exact hq | apply List.mem_cons_of_mem); first | done | fail)))⟩ | (refine joinJ (by assumption) ?_ ?_) | (refine fun (w : World) (hJ : J _ _ _ w) => ?_) | (refine fun (_ : Bool) (w : World) (hJ : J _ _ _ w) => ?_) | (refine And.intro ?_ ?_))
end
section
variable {w w0 : World}
theorem c_bMul : Calls prog 313 #[.int .u64 (UInt64.toNat (u64OfInt (1 : Nat))), .int .u64 (UInt64.toNat (u64OfInt 32))] w (Ret fun v w' => v = .tuple #[.int .u64 ((0 : UInt64)).toNat, .int .u64 ((32 : UInt64)).toNat] ∧ w' = w) := by
  refine call313 _ _ ?_
  unfold sh313
  refine callK_ret (Q := fun v w' => v = .tuple #[.int .u64 ((0 : UInt64)).toNat, .int .u64 ((32 : UInt64)).toNat] ∧ w' = w) ?_ ?_
  · refine call302 _ _ ?_
    unfold sh302
    refine ⟨Int.natCast_nonneg _, Int.natCast_nonneg _, Int.natCast_nonneg _, Int.natCast_nonneg _, Int.natCast_nonneg _, ?_, rfl⟩
    rfl
  · rintro v w' ⟨rfl, rfl⟩
    exact ⟨_, _, rfl, rfl, rfl⟩
theorem put_bys {l m : List UInt8} {o : Nat} : putAt (bys l) o (bys m) = bys (l.take o ++ m ++ l.drop (o + m.length)) := by simp [putAt, bys, List.map_take, List.map_drop]
theorem c_Repeat {x : Slc} {c : UInt8} (hx : SlRd w x 1 (bys [c])) (hxl : ∀ z, x.blk = some z → z < w.heap.size) : Calls prog 254 #[.slice x.a x.len x.cap, .int .i64 32] w (Ret (R32 w)) := by
  refine call254 _ _ ?_
  unfold sh254
  obtain ⟨i5', h51, h52, h53, h54⟩ := i5
  have hl : x.len = 1 := by have := rd_len8 hx; simpa using this.symm
  obtain ⟨xa, xl, xc⟩ := x
  simp only [] at hl
  subst hl
  refine ⟨fun l w' => w' = w, condK_i (fun h => by simp at h) fun _ => rfl, ?_⟩
  rintro w1 rfl
  refine callK_ret c_bMul ?_
  rintro v w2 ⟨rfl, rfl⟩
  refine ⟨_, _, rfl, fun l w' => w' = w2, condK_i (fun h => absurd h (by decide)) fun _ => condK_i (fun h => absurd h (by decide)) fun _ => rfl, ?_⟩
  rintro w3 rfl
  have e32 : IntKind.i64.wrap (((32 : UInt64)).toNat : Int) = ((32 : Nat) : Int) := by decide
  rw [e32]
  refine sem_makeSlice u26 h51 h52 h53 rfl h54 (l := 32) (c := 32) rfl rfl (by omega) (by omega) (by omega) fun q w4 hN hb ho => ⟨⟨some ⟨q, 0, none⟩, 32, 32⟩, rfl, ?_⟩
  rw [bys_rep] at hb
  have hqs := hN.at_
  have hx4 := hx.no hN.mod
  refine sem_copy (d := ⟨some ⟨q, 0, none⟩, 32, 32⟩) (o := 0) u26 h51 h53 rfl hb (by simp [bys]) hx4 (bys_one _) fun w5 hb5 hm5 hsz5 => ⟨_, rfl, ?_⟩
  have ey : (bys [c]).take (min 1 32 * 1) = bys [c] := rfl
  have ey' : (bys [c]).take (min (Slc.len ⟨xa, 1, xc⟩) (Slc.len ⟨some ⟨q, 0, none⟩, 32, 32⟩) * 1) = bys [c] := rfl
  rw [ey', put_bys] at hb5
  refine ⟨fun l' w' => match l' with | [.i _ x] => ∃ n : Nat, x = (n : Int) ∧ 1 ≤ n ∧ n ≤ 32 ∧ ∃ l, l.length = 32 ∧ Blk w' q (bys l) 5 ∧ Mod (fun y => y = q) w4 w' | _ => False, fun l' _ => match l' with | [.i _ x] => (32 - x).toNat | _ => 0,
    ⟨1, rfl, by omega, by omega, _, by simp, hb5, hm5⟩, ?_⟩
  rintro i w6 ⟨n, rfl, h1, h2, l, hl, hbl, hm⟩
  refine condK_i (fun hlt => ?_) fun _ => ⟨q, l, rfl, hl, hbl, by omega, hN.mod.fresh hm fun y e => by omega⟩
  have hlt : n < 32 := by have := hlt; simp at this; omega
  refine ⟨⟨by omega, by show (n : Int) ≤ ((32 : Nat) : Int); omega⟩, ⟨by omega, by show (n : Int) ≤ ((32 : Nat) : Int); omega⟩, ?_, trivial⟩
  have ec : cutSl ⟨some ⟨q, 0, none⟩, 32, 32⟩ 1 n 32 32 = ⟨some ⟨q, n, none⟩, 32 - n, 32 - n⟩ := by unfold cutSl; rw [if_neg (by omega)]; simp
  have ec0 : cutSl ⟨some ⟨q, 0, none⟩, 32, 32⟩ 1 0 n 32 = ⟨some ⟨q, 0, none⟩, n, 32⟩ := by unfold cutSl; rw [if_neg (by omega)]; simp
  simp only [Int.toNat_natCast, ec, ec0]
  have hrd : SlRd w6.drew ⟨some ⟨q, 0, none⟩, n, 32⟩ 1 (bys (l.take n)) := ⟨by simp [bys]; omega, by simp only []; omega, .inr ⟨_, rfl, hbl.drew.rd fun j v hj => by
    simp only [bys, List.getElem?_map, List.getElem?_take, Nat.zero_add] at hj ⊢
    split at hj
    · exact hj
    · cases hj⟩⟩
  refine sem_copy (d := ⟨some ⟨q, n, none⟩, 32 - n, 32 - n⟩) (o := n) u26 h51 h53 rfl hbl.drew (by simp [bys]; omega) hrd (bys_one _) fun w7 hb7 hm7 hsz7 => ⟨_, rfl, ?_⟩
  have e1 : IntKind.i64.wrap ((n : Int) + ((min n (32 - n) : Nat) : Int)) = ((n + min n (32 - n) : Nat) : Int) := by rw [wrap_i64 (by omega)]; omega
  show (∃ m : Nat, IntKind.i64.wrap ((n : Int) + ((min n (32 - n) : Nat) : Int)) = (m : Int) ∧ _) ∧ (32 - IntKind.i64.wrap ((n : Int) + ((min n (32 - n) : Nat) : Int))).toNat < _
  have et : (bys (l.take n)).take (min n (32 - n) * 1) = bys ((l.take n).take (min n (32 - n))) := by simp [bys, List.map_take]
  rw [e1]
  simp only [] at hb7
  rw [et, put_bys] at hb7
  exact ⟨⟨_, rfl, by omega, by omega, _, by simp; omega, hb7, (hm.tr (Mod.drew _ _)).tr hm7⟩, by omega⟩
theorem c_Base (hg : TR w (2, 5)) : Calls prog 190 #[] w (Ret (RP w)) := by
  refine call190 ?_
  unfold sh190
  have hJ0 : J NoB w [(2, 5, false)] w := ⟨Mod.refl _ _, fun q hq => by simp at hq; subst hq; exact ⟨fun h => (by cases h), hg⟩⟩
  refine allocJ zi20 hJ0 fun p w1 hJ1 hM1 => ?_
  refine sem_bytes [102] rfl rfl (by omega) (by omega) fun x b w2 hN2 ex hb2 ho2 => ⟨x, rfl, ?_⟩
  have hJ2 := hJ1.mod hN2.mod
  refine callR32 (c_Repeat ho2.rd fun z hz => by subst ex; rw [Slc.blk_mk] at hz; simp at hz; subst hz; exact hb2.lt) hJ2 fun b' l w3 hl hb3 hs hJ3 hM3 => ?_
  refine ⟨⟨by omega, by show (0 : Int) < ((32 : Nat) : Int); omega⟩, ?_⟩
  refine semU_at (b := b') (n := 0) (by kernel_rfl) (by kernel_rfl) rfl hb3 (by simp [bys, hl]) fun w4 ht hb4 => ?_
  rw [bys_set] at hb4
  have hJ4 : J NoB w [(p, 20, true), (2, 5, false)] w4 := hJ3.other ht.mod (fun z e => by subst e; exact Nat.le_trans hJ2.m.size hs) fun q hq e => by
    have h2 := (hJ2.2 q hq).2.1
    simp only [] at h2; omega
  refine callPB (c_eGet (own_whole (n := 32) (k := 1) hb4 (by simp [bys, hl])).rd (hJ4.tr (f := false) (List.mem_cons_of_mem _ List.mem_cons_self))) hJ4 fun x0 x1 x2 x3 x4 x5 x6 x7 x8 x9 x10 x11 x12 x13 x14 x15 x16 x17 x18 x19 t w5 hJ5 hM5 => ?_
  repeat' (first | (refine allocJ (by first | exact zi5 | exact zi2 | exact zi10 | exact zi20) (by assumption) fun p w' hJ hM => ?_) | (refine rdJ20 (by assumption) (by (try simp only [addl, add0, Nat.zero_add]); rfl) (by (repeat first | exact List.mem_cons_self | assumption | apply List.mem_cons_of_mem); first | done | fail) (by omega) fun x0 x1 x2 x3 x4 x5 x6 x7 x8 x9 x10 x11 x12 x13 x14 x15 x16 x17 x18 x19 => ?_) | (refine stJ20 (by assumption) (by (try simp only [addl, add0, Nat.zero_add]); rfl) (by (repeat first | exact List.mem_cons_self | assumption | apply List.mem_cons_of_mem); first | done | fail) (by kernel_rfl) (by kernel_rfl) (by omega) fun w' hJ hT => ?_) | exact ⟨_, _, _, _, _, _, _, _, _, _, _, _, _, _, _, _, _, _, _, _, rfl, J.m (by assumption)⟩)
theorem c_backFB {s : Slc} : Calls prog 250 #[.slice s.a s.len s.cap] w (Ret fun v w' => ∃ p, v = .func (.func 305) #[] #[.pointer (some ⟨p, 0, none⟩)] ∧ (∃ T, Blk w' p [s.val] T) ∧ w.heap.size ≤ p ∧ Mod NoB w w') := by
  refine call250 _ ?_
  unfold sh250
  refine sem_box (l := [s.val]) rfl fun p w1 hN1 hb1 => ⟨_, rfl, ?_⟩
  have h1 := hN1.at_
  exact ⟨p, rfl, ⟨_, hb1⟩, by omega, hN1.mod⟩
theorem c_backB {ll p : Nat} {s : Slc} {l : List Bool} {I : Nat → World → Prop} (hl : l.length = s.len) (hn : l.length ≤ 1000000000000000) (hp : ∃ T, Blk w p [s.val] T) (h0 : I l.length w)
    (hI : ∀ k w1, k < l.length → I (k + 1) w1 → Rd w1 ⟨p, 0, none⟩ [s.val] ∧ SlRd w1 s 1 (bls l) ∧ ∀ h : k < l.length, yieldK prog ll [.int .i64 k, .bool l[k]] w1 fun v w2 => v = .bool true ∧ I k w2) :
    Calls prog 305 #[.func (.yield ll) #[] #[], .pointer (some ⟨p, 0, none⟩)] w (Ret fun v w' => v = .tuple #[] ∧ I 0 w') := by
  refine call305 _ _ ?_
  unfold sh305
  obtain ⟨T, hp⟩ := hp
  refine ⟨s, hp.rd1 rfl, ?_⟩
  refine ⟨fun l' w' => match l' with | [.i _ x] => ∃ k : Nat, x = (k : Int) - 1 ∧ k ≤ l.length ∧ I k w' | _ => False, fun l' _ => match l' with | [.i _ x] => (x + 1).toNat | _ => 0, ⟨l.length, by rw [wrap_i64 (by omega), hl], by omega, h0⟩, ?_⟩
  rintro i w1 ⟨k, rfl, hk, hI1⟩
  refine condK_i (fun hge => ?_) fun hlt => ?_
  · have hk0 : 0 < k := by simp at hge; omega
    obtain ⟨hr1, hr2, hy⟩ := hI (k - 1) w1 (by omega) (by rw [Nat.sub_add_cancel hk0]; exact hI1)
    obtain ⟨a, ea, hra⟩ := rd_bool hr2 (i := k - 1) (by omega)
    have e1 : ((k : Int) - 1) = ((k - 1 : Nat) : Int) := by omega
    rw [e1]
    refine ⟨s, hr1, ⟨by omega, by omega⟩, ?_⟩
    rw [ea]
    refine ⟨_, hra, ?_⟩
    show yieldK _ _ _ _ _
    obtain ⟨f, tmps, assign, body, g1, g2⟩ := hy (by omega)
    refine ⟨f, tmps, assign, body, g1, RoundIn.mono g2 fun e w2 he => ?_⟩
    obtain ⟨v, rfl, rfl, hI2⟩ := he
    refine ⟨_, rfl, true, rfl, ?_⟩
    refine condK_i (fun e => by cases e) fun _ => ⟨⟨k - 1, by rw [wrap_i64 (by omega)], by omega, hI2⟩, ?_⟩
    rw [wrap_i64 (by omega)]; (try simp only []); omega
  · have : k = 0 := by simp at hlt; omega
    subst this
    exact ⟨rfl, hI1⟩
theorem J_obj {Z : Nat → Prop} {w' : World} {L : List (Nat × Nat × Bool)} {b : Nat} (h : J Z w0 L w) (hm : Mod (fun x => x = b) w w') (h1 : w0.heap.size ≤ b) (h2 : ∀ q ∈ L, q.1 ≠ b) : J Z w0 L w' := h.other hm (fun x e => by subst e; exact h1) fun q hq e => h2 q hq e
theorem c_eMul {a : Slc} {l : List UInt8} {x0 x1 x2 x3 x4 x5 x6 x7 x8 x9 x10 x11 x12 x13 x14 x15 x16 x17 x18 x19 : UInt64} (ha : SlRd w a 1 (bys l)) (hal : ∀ x, a.blk = some x → x < w.heap.size) (hg : TR w (1, 5)) : Calls prog 189 #[.slice a.a a.len a.cap, e20 x0 x1 x2 x3 x4 x5 x6 x7 x8 x9 x10 x11 x12 x13 x14 x15 x16 x17 x18 x19] w (Ret (RP w)) := by
  refine call189 _ _ _ _ _ _ _ _ _ _ _ _ _ _ _ _ _ _ _ _ _ ?_
  unfold sh189
  have hJ0 : J NoB w [(1, 5, false)] w := ⟨Mod.refl _ _, fun q hq => by simp at hq; subst hq; exact ⟨fun h => (by cases h), hg⟩⟩
  refine boxJ20 hJ0 fun p w1 hJ1 hM1 => ?_
  refine allocJ zi20 hJ1 fun x w2 hJ2 hM2 => ?_
  refine callP c_eZero hJ2 fun x0 x1 x2 x3 x4 x5 x6 x7 x8 x9 x10 x11 x12 x13 x14 x15 x16 x17 x18 x19 w3 hJ3 hM3 => ?_
  refine allocJ zi20' hJ3 fun s w4 hJ4 hM4 => ?_
  refine stJ20 hJ4 (o := 0) rfl List.mem_cons_self (by kernel_rfl) (by kernel_rfl) (by omega) fun w5 hJ5 hT5 => ?_
  refine callK_ret (c_bitsS (ha.mod hJ5.m fun _ _ h => h) fun z hz => Nat.lt_of_lt_of_le (hal z hz) hJ5.m.size) ?_
  rintro v w6 ⟨y, rfl, hoy, hfy, hm6⟩
  have hJ6 := hJ5.mod hm6
  refine ⟨y, rfl, ?_⟩
  refine callK_ret c_backFB ?_
  rintro v w7 ⟨pb, rfl, ⟨T, hpb⟩, hps, hm7⟩
  have hJ7 := hJ6.mod hm7
  refine ⟨_, rfl, 305, #[], #[.pointer (some ⟨pb, 0, none⟩)], rfl, by kernel_rfl, ?_⟩
  rintro rec dd ll w8 hdd hll hw8 hY
  have hM8 : Mod NoB w7 w8 := by rw [hw8]; exact (alloc_mod _ _).tr (alloc_mod _ _)
  have hsz8 : w8.heap.size = ll + 1 := by rw [hw8]; simp; omega
  have hld8 : w8.heap[ll]? = some (rec .ready none) := by
    rw [hw8, hll, hdd]
    have := heap_alloc_new (w7.alloc (.deferred (some []))) (rec .ready none)
    simpa using this
  have hdd8 : w8.heap[dd]? = some (.deferred (some [])) := by
    rw [hw8, hdd, heap_alloc_old _ _ (by simp)]
    exact heap_alloc_new _ _
  have hJ8 := hJ7.mod hM8
  have hs7 := hJ7.m.size
  have hlt7 : ∀ q ∈ [(s, 20, true), (x, 20, true), (p, 20, true), (1, 5, false)], q.1 < w7.heap.size := fun q hq => (hJ7.2 q hq).2.1
  have hls : s ≠ ll ∧ s ≠ dd := by have := hlt7 _ List.mem_cons_self; simp only [] at this; omega
  have hl1 : ∀ q ∈ [(s, 20, true), (x, 20, true), (p, 20, true), (1, 5, false)], q.1 ≠ ll := fun q hq => by have := hlt7 q hq; omega
  have hl2 : ∀ q ∈ [(s, 20, true), (x, 20, true), (p, 20, true), (1, 5, false)], q.1 ≠ dd := fun q hq => by have := hlt7 q hq; omega
  have hyl := rd_lenB hoy.rd
  have hy7 : SlRd w7 y 1 (bls (bitsT l)) := (hoy.no hm7).rd
  have hsb : ∀ z, y.blk = some z → w5.heap.size ≤ z ∧ z < w7.heap.size := fun z hz => ⟨hfy z hz, Nat.lt_of_lt_of_le (hoy.lt hz) hm7.size⟩
  have hs5 : s < w5.heap.size := (hJ5.2 _ List.mem_cons_self).2.1
  have hpbl := hpb.lt
  have hpbs : s < pb := by have := hm6.size; omega
  let I : Nat → World → Prop := fun k w' => w'.heap[ll]? = some (rec .ready none) ∧ J NoB w [(s, 20, true), (x, 20, true), (p, 20, true), (1, 5, false)] w' ∧ Mod (fun z => z = s ∨ z = ll) w8 w'
  have hseq := c_backB (w := w8) (ll := ll) (p := pb) (s := y) (l := bitsT l) (I := I) hyl (by rw [bitsT]; split <;> simp) ⟨T, hpb.no hM8⟩ ⟨hld8, hJ8, Mod.refl _ _⟩ (by
    rintro k w9 hk ⟨hl9, hJ9, hm9⟩
    refine ⟨((hpb.no hM8).mod hm9 (by omega)).rd1 rfl, (hy7.mod hM8 fun _ _ h => h).mod hm9 (fun z hz e => by have := hsb z hz; omega), fun hk' => ?_⟩
    refine hY _ _ w9 _ hl9 ⟨hl9, ?_⟩
    have hll9 := lt_of_get hl9
    obtain ⟨hmp, hgp, hsp⟩ := put_mod (o := rec .busy none) hll9
    have hJp := J_obj hJ9 hmp (by omega) hl1
    refine callU (c_double (hJp.tb List.mem_cons_self)) hJp List.mem_cons_self fun w10 hJ10 hT10 => ?_
    have hl10 : w10.heap[ll]? = some (rec .busy none) := by rw [hT10.block ll (by omega) (by omega)]; exact hgp
    have hm10 : Mod (fun z => z = s ∨ z = ll) w8 w10 := (hm9.tr (hmp.mono fun x _ e => .inr e)).tr (hT10.mono fun x _ e => .inl e)
    refine condK_i (fun _ => ?_) fun _ => ?_
    · refine rdJ20 hJ10 (o := 0) rfl (List.mem_cons_of_mem _ (List.mem_cons_of_mem _ List.mem_cons_self)) (by omega) fun x0 x1 x2 x3 x4 x5 x6 x7 x8 x9 x10 x11 x12 x13 x14 x15 x16 x17 x18 x19 => ?_
      refine callU (c_eadd (hJ10.tb List.mem_cons_self) (hJ10.tr (f := false) (List.mem_cons_of_mem _ (List.mem_cons_of_mem _ (List.mem_cons_of_mem _ List.mem_cons_self))))) hJ10 List.mem_cons_self fun w11 hJ11 hT11 => ?_
      have hl11 : w11.heap[ll]? = some (rec .busy none) := by rw [hT11.block ll (lt_of_get hl10) (by omega)]; exact hl10
      have hll11 := lt_of_get hl11
      obtain ⟨hmq, hgq, hsq⟩ := put_mod (o := rec .ready none) hll11
      exact ⟨hl11, rfl, hgq, J_obj hJ11 hmq (by omega) hl1, (hm10.tr (hT11.mono fun x _ e => .inl e)).tr (hmq.mono fun x _ e => .inr e)⟩
    · have hll10 := lt_of_get hl10
      obtain ⟨hmq, hgq, hsq⟩ := put_mod (o := rec .ready none) hll10
      exact ⟨hl10, rfl, hgq, J_obj hJ10 hmq (by omega) hl1, hm10.tr (hmq.mono fun x _ e => .inr e)⟩)
  refine callK_of hseq ?_ (fun _ _ h => h.elim) (fun _ h => h)
  rintro v w9 ⟨rfl, hl9, hJ9, hm9⟩
  left
  refine ⟨hl9, ?_⟩
  have hll9 := lt_of_get hl9
  obtain ⟨hmp, hgp, hsp⟩ := put_mod (o := rec .exhausted none) hll9
  have hJ10 := J_obj hJ9 hmp (by omega) hl1
  refine rdJ20 hJ10 (o := 0) rfl List.mem_cons_self (by omega) fun x0 x1 x2 x3 x4 x5 x6 x7 x8 x9 x10 x11 x12 x13 x14 x15 x16 x17 x18 x19 => ?_
  refine stJ20 hJ10 (o := 0) rfl (List.mem_cons_of_mem _ List.mem_cons_self) (by kernel_rfl) (by kernel_rfl) (by omega) fun w11 hJ11 hT11 => ?_
  have hxd : x ≠ dd := hl2 _ (List.mem_cons_of_mem _ List.mem_cons_self)
  have hd9 : w9.heap[dd]? = some (.deferred (some [])) := by rw [hm9.block dd (by omega) (by omega)]; exact hdd8
  have hd10 : (w9.putObj ll (rec .exhausted none)).heap[dd]? = some (.deferred (some [])) := by rw [hmp.block dd (lt_of_get hd9) (by omega)]; exact hd9
  have hd11 : w11.heap[dd]? = some (.deferred (some [])) := by rw [hT11.block dd (lt_of_get hd10) (fun e => hxd e.symm)]; exact hd10
  refine ⟨hd11, ?_⟩
  obtain ⟨hmd, hgd, hsd⟩ := put_mod (o := .deferred none) (lt_of_get hd11)
  have hJ12 := J_obj hJ11 hmd (by omega) hl2
  refine rdJ20 hJ12 (o := 0) rfl (List.mem_cons_of_mem _ List.mem_cons_self) (by omega) fun x0 x1 x2 x3 x4 x5 x6 x7 x8 x9 x10 x11 x12 x13 x14 x15 x16 x17 x18 x19 => ?_
  exact ⟨_, _, _, _, _, _, _, _, _, _, _, _, _, _, _, _, _, _, _, _, rfl, hJ12.m⟩
end
end Go.Proofs.YthaefcgpbccmbaaGreatDoor
end
