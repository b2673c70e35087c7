/- The shallow form of a translated function: typed values, the reading of code as a proposition over typed values, and its soundness with respect to the model's runs. Generic in the program. -/
import Derived.WalkKit
import Derived.OrdersHeld
import Derived.OrdersIn
import Derived.RangeFuncRecord
import Derived.RangeFuncCalls
set_option linter.unusedSimpArgs false
set_option linter.unusedVariables false
namespace Go.Sh
open Go

/-! ## typed values -/
structure Slc where
  a : Option Addr
  len : Nat
  cap : Nat

inductive TV where
  | i (k : IntKind) (n : Int)
  | u8 (x : UInt8)
  | u64 (x : UInt64)
  | b (x : Bool)
  | s (l : List UInt8)
  | p (a : Option Addr)
  | sl (s : Slc)
  | m (r : Option Nat)
  | v (x : Value)
  | agg (fs : List TV)
  | tup (fs : List TV)
  | bad

mutual
def TV.cells : TV → List Value
  | .i k n => [.int k n]
  | .u8 x => [.int .u8 x.toNat]
  | .u64 x => [.int .u64 x.toNat]
  | .b x => [.bool x]
  | .s l => [.string ⟨l.toArray⟩]
  | .p a => [.pointer a]
  | .sl s => [.slice s.a s.len s.cap]
  | .m r => [.map r]
  | .v x => [x]
  | .agg fs => cellsL fs
  | .tup fs => [.tuple (encL fs).toArray]
  | .bad => [undef]
def cellsL : List TV → List Value
  | [] => []
  | x :: r => x.cells ++ cellsL r
def TV.enc : TV → Value
  | .i k n => .int k n
  | .u8 x => .int .u8 x.toNat
  | .u64 x => .int .u64 x.toNat
  | .b x => .bool x
  | .s l => .string ⟨l.toArray⟩
  | .p a => .pointer a
  | .sl s => .slice s.a s.len s.cap
  | .m r => .map r
  | .v x => x
  | .agg fs => .agg (cellsL fs).toArray
  | .tup fs => .tuple (encL fs).toArray
  | .bad => undef
def encL : List TV → List Value
  | [] => []
  | x :: r => x.enc :: encL r
end

inductive Kd where
  | i (k : IntKind) | u8 | u64 | b | s | p | sl | m | v
  | agg (fs : List Kd)
  | la (n : Nat) (e : Kd)
  | tup (fs : List Kd)

def kindOf (P : Program) : Nat → TypeId → Kd
  | 0, _ => .v
  | f + 1, T => match P.underlying T with
    | some .bool => .b
    | some (.int .u8) => .u8
    | some (.int .u64) => .u64
    | some (.int k) => .i k
    | some .string => .s
    | some (.pointer _) => .p
    | some .unsafePointer => .p
    | some (.slice _) => .sl
    | some (.map _ _) => .m
    | some (.struct fs) => .agg (fs.toList.map fun x => kindOf P f x.type)
    | some (.array n e) => if n ≤ 16 then .agg (List.replicate n (kindOf P f e)) else .la n (kindOf P f e)
    | some (.tuple ts) => .tup (ts.toList.map fun x => kindOf P f x)
    | _ => .v

mutual
def exK : Kd → (TV → Prop) → Prop
  | .i k, K => ∃ n : Int, K (.i k n)
  | .u8, K => ∃ x : UInt8, K (.u8 x)
  | .u64, K => ∃ x : UInt64, K (.u64 x)
  | .b, K => ∃ x : Bool, K (.b x)
  | .s, K => ∃ l : List UInt8, K (.s l)
  | .p, K => ∃ a : Option Addr, K (.p a)
  | .sl, K => ∃ s : Slc, K (.sl s)
  | .m, K => ∃ r : Option Nat, K (.m r)
  | .v, K => ∃ x : Value, K (.v x)
  | .agg fs, K => exKs fs fun xs => K (.agg xs)
  | .la n .u64, K => ∃ l : List UInt64, l.length = n ∧ K (.agg (l.map .u64))
  | .la n .u8, K => ∃ l : List UInt8, l.length = n ∧ K (.agg (l.map .u8))
  | .la _ _, _ => False
  | .tup fs, K => exKs fs fun xs => K (.tup xs)
def exKs : List Kd → (List TV → Prop) → Prop
  | [], K => K []
  | k :: r, K => exK k fun x => exKs r fun xs => K (x :: xs)
end

mutual
def kdSize : Kd → Nat
  | .agg fs => kdSizes fs
  | .la n _ => n
  | _ => 1
def kdSizes : List Kd → Nat
  | [] => 0
  | k :: r => kdSize k + kdSizes r
end

def kdAgg : Kd → Bool
  | .agg _ => true
  | .la _ _ => true
  | _ => false
def isAggT (P : Program) (T : TypeId) : Bool :=
  match P.underlying T with
  | some (.struct _) => true
  | some (.array _ _) => true
  | _ => false
def TV.isAgg : TV → Bool
  | .agg _ => true
  | _ => false
def sizeAt (P : Program) (T : TypeId) : Nat := match P.info? T with | some i => i.size | none => 0
/-- the kind of a type is as long as the type, and a row of cells where the type is -/
def kdFit (P : Program) (T : TypeId) : Bool :=
  Nat.beq (kdSize (kindOf P 20 T)) (sizeAt P T) && (kdAgg (kindOf P 20 T) == isAggT P T) && (P.info? T).isSome && (P.underlying T).isSome

mutual
def allK : Kd → (TV → Prop) → Prop
  | .i k, K => ∀ n : Int, K (.i k n)
  | .u8, K => ∀ x : UInt8, K (.u8 x)
  | .u64, K => ∀ x : UInt64, K (.u64 x)
  | .b, K => ∀ x : Bool, K (.b x)
  | .s, K => ∀ l : List UInt8, K (.s l)
  | .p, K => ∀ a : Option Addr, K (.p a)
  | .sl, K => ∀ s : Slc, K (.sl s)
  | .m, K => ∀ r : Option Nat, K (.m r)
  | .v, K => ∀ x : Value, K (.v x)
  | .agg fs, K => allKs fs fun xs => K (.agg xs)
  | .la _ _, _ => False
  | .tup fs, K => allKs fs fun xs => K (.tup xs)
def allKs : List Kd → (List TV → Prop) → Prop
  | [], K => K []
  | k :: r, K => allK k fun x => allKs r fun xs => K (x :: xs)
end

mutual
def okK : Kd → TV → Bool
  | .i k, .i k' _ => k == k'
  | .u8, .u8 _ => true
  | .u64, .u64 _ => true
  | .b, .b _ => true
  | .s, .s _ => true
  | .p, .p _ => true
  | .sl, .sl _ => true
  | .m, .m _ => true
  | .v, .v _ => true
  | .agg fs, .agg xs => okKs fs xs
  | .tup fs, .tup xs => okKs fs xs
  | _, _ => false
def okKs : List Kd → List TV → Bool
  | [], [] => true
  | k :: r, x :: xs => okK k x && okKs r xs
  | _, _ => false
end

/-! ## environments: the last binding counts -/
abbrev Env := List (Nat × TV)
def look : Env → Nat → TV
  | [], _ => .bad
  | (t, x) :: r, u => if Nat.beq t u then x else look r u
def putD (env : Env) : Option Tmp → TV → Env
  | none, _ => env
  | some d, x => (d, x) :: env
def TV.isBad : TV → Bool
  | .bad => true
  | _ => false

def ofVal : Value → TV
  | .int .u8 n => if 0 ≤ n ∧ n < 256 then .u8 (UInt8.ofNat n.toNat) else .v (.int .u8 n)
  | .int .u64 n => if 0 ≤ n ∧ n < 18446744073709551616 then .u64 (UInt64.ofNat n.toNat) else .v (.int .u64 n)
  | .int k n => .i k n
  | .bool x => .b x
  | .string s => .s s.data.toList
  | .pointer a => .p a
  | .slice a l c => .sl ⟨a, l, c⟩
  | .map r => .m r
  | x => .v x
def ev (env : Env) : Operand → TV
  | .tmp t => look env t
  | .const v => ofVal v
  | .global g => .p (some ⟨g, 0, none⟩)
  | .func f => .v (.func (.func f) #[] #[])

/-! ## pieces of propositions -/
/-- the cells from a on read so -/
def Rd (w : World) (a : Addr) (cs : List Value) : Prop := ∀ j v, cs[j]? = some v → w.cell? (a.add j) = some v
@[reducible] def onSome {α : Type} (o : Option α) (K : α → Prop) : Prop := match o with | some x => K x | none => False
@[reducible] def condK (b : Bool) (x y : Prop) : Prop := match b with | true => x | false => y
def semK (P : Program) (s : Sem Value) (w : World) (K : Value → World → Prop) : Prop := ∃ v w', s.run P w = .ok v w' ∧ K v w'
def semU (P : Program) (s : Sem Unit) (w : World) (K : World → Prop) : Prop := ∃ w', s.run P w = .ok () w' ∧ K w'
def callK (P : Program) (f : FuncId) (args : List Value) (w : World) (pan : List PanicEntry → World → Prop) (K : Value → World → Prop) : Prop :=
  Calls P f args.toArray w fun
    | .returned v, w' => K v w'
    | .panicked c, w' => pan c w'
    | .outgrown, _ => False
def enters (P : Program) (f : FuncId) : Bool :=
  match P.funcs[f]? with
  | some fn => !(fn.name == "runtime.NumGoroutine") && fn.body.isSome
  | none => false
/-- a call of a function value -/
def callV (P : Program) (fv : Value) (args : List Value) (w : World) (pan : List PanicEntry → World → Prop) (K : Value → World → Prop) : Prop :=
  ∃ f first cap, fv = .func (.func f) first cap ∧ enters P f = true ∧ callK P f (first.toList ++ args ++ cap.toList) w pan K

def shlU64 (x : UInt64) (n : Nat) : UInt64 := if n < 64 then x <<< UInt64.ofNat n else 0
def shrU64 (x : UInt64) (n : Nat) : UInt64 := if n < 64 then x >>> UInt64.ofNat n else 0
def shlU8 (x : UInt8) (n : Nat) : UInt8 := if n < 8 then x <<< UInt8.ofNat n else 0
def shrU8 (x : UInt8) (n : Nat) : UInt8 := if n < 8 then x >>> UInt8.ofNat n else 0
def u8OfInt (n : Int) : UInt8 := UInt8.ofNat (n % 256).toNat
def u64OfInt (n : Int) : UInt64 := UInt64.ofNat (n % 18446744073709551616).toNat

def TV.num : TV → Option Int
  | .i _ n => some n
  | .u8 x => some x.toNat
  | .u64 x => some x.toNat
  | _ => none

def cmpB (op : BinOp) (x y : Int) : Option Bool :=
  match op with
  | .eql => some (x == y) | .neq => some (x != y) | .lss => some (decide (x < y)) | .leq => some (decide (x ≤ y))
  | .gtr => some (decide (x > y)) | .geq => some (decide (x ≥ y)) | _ => none

def binI (op : BinOp) (k : IntKind) (x y : Int) (next : TV → Prop) : Prop :=
  match op with
  | .add => next (.i k (k.wrap (x + y)))
  | .sub => next (.i k (k.wrap (x - y)))
  | .mul => next (.i k (k.wrap (x * y)))
  | .quo => y ≠ 0 ∧ next (.i k (k.wrap (x.tdiv y)))
  | .rem => y ≠ 0 ∧ next (.i k (x.tmod y))
  | .eql => next (.b (x == y))
  | .neq => next (.b (x != y))
  | .lss => next (.b (decide (x < y)))
  | .leq => next (.b (decide (x ≤ y)))
  | .gtr => next (.b (decide (x > y)))
  | .geq => next (.b (decide (x ≥ y)))
  | _ => False
def bin8 (op : BinOp) (x y : UInt8) (next : TV → Prop) : Prop :=
  match op with
  | .add => next (.u8 (x + y))
  | .sub => next (.u8 (x - y))
  | .mul => next (.u8 (x * y))
  | .and => next (.u8 (x &&& y))
  | .or => next (.u8 (x ||| y))
  | .xor => next (.u8 (x ^^^ y))
  | .andNot => next (.u8 (x &&& ~~~y))
  | .eql => next (.b (x == y))
  | .neq => next (.b (x != y))
  | .lss => next (.b (decide (x < y)))
  | .leq => next (.b (decide (x ≤ y)))
  | .gtr => next (.b (decide (y < x)))
  | .geq => next (.b (decide (y ≤ x)))
  | _ => False
def bin64 (op : BinOp) (x y : UInt64) (next : TV → Prop) : Prop :=
  match op with
  | .add => next (.u64 (x + y))
  | .sub => next (.u64 (x - y))
  | .mul => next (.u64 (x * y))
  | .quo => y ≠ 0 ∧ next (.u64 (x / y))
  | .rem => y ≠ 0 ∧ next (.u64 (x % y))
  | .and => next (.u64 (x &&& y))
  | .or => next (.u64 (x ||| y))
  | .xor => next (.u64 (x ^^^ y))
  | .andNot => next (.u64 (x &&& ~~~y))
  | .eql => next (.b (x == y))
  | .neq => next (.b (x != y))
  | .lss => next (.b (decide (x < y)))
  | .leq => next (.b (decide (x ≤ y)))
  | .gtr => next (.b (decide (y < x)))
  | .geq => next (.b (decide (y ≤ x)))
  | _ => False
def binS (op : BinOp) (x y : List UInt8) (next : TV → Prop) : Prop :=
  match op with
  | .add => ((x.length + y.length : Nat) : Int) ≤ 9223372036854775807 ∧ next (.s (x ++ y))
  | .eql => next (.b (x == y))
  | .neq => next (.b (!(x == y)))
  | .lss => next (.b (Op.bytesLess x y))
  | .leq => next (.b (Op.bytesLess x y || x == y))
  | .gtr => next (.b (!(Op.bytesLess x y || x == y)))
  | .geq => next (.b (!Op.bytesLess x y))
  | _ => False
def isShift : BinOp → Bool
  | .shl | .shr => true
  | _ => false
def isBits : BinOp → Bool
  | .and | .or | .xor | .andNot => true
  | _ => false
/-- a shift; the count as a number -/
def shK (op : BinOp) (x : TV) (c : Int) (next : TV → Prop) : Prop :=
  match op, x with
  | .shl, .i k n => 0 ≤ c ∧ next (.i k (k.wrap (n * 2 ^ (min c.toNat k.bits))))
  | .shr, .i k n => 0 ≤ c ∧ next (.i k (n.fdiv (2 ^ (min c.toNat k.bits))))
  | .shl, .u8 n => 0 ≤ c ∧ next (.u8 (shlU8 n c.toNat))
  | .shr, .u8 n => 0 ≤ c ∧ next (.u8 (shrU8 n c.toNat))
  | .shl, .u64 n => 0 ≤ c ∧ next (.u64 (shlU64 n c.toNat))
  | .shr, .u64 n => 0 ≤ c ∧ next (.u64 (shrU64 n c.toNat))
  | _, _ => False

/-- an operation on two operands that no rule below takes -/
def pureSem (P : Program) (s : Sem Value) (next : Value → Prop) : Prop := ∃ v, (∀ w, s.run P w = .ok v w) ∧ next v

def binK (P : Program) (op : BinOp) (T : TypeId) (ox oy : Operand) (x y : TV) (κ : Kd) (next : TV → Prop) : Prop :=
  if isShift op then
    match y.num with
    | some c => shK op x c next
    | none => False
  else
  match x, y with
  | .i k a, .i k' b => bif isBits op then pureSem P (do eqGuard op T ox oy (.int k a) (.int k' b); binOp op T (.int k a) (.int k' b)) fun v => exK κ fun t => v = t.enc ∧ next t else if k = k' then binI op k a b next else False
  | .u8 a, .u8 b => bin8 op a b next
  | .u64 a, .u64 b => bin64 op a b next
  | .s a, .s b => binS op a b next
  | .bad, _ => False
  | _, .bad => False
  | x, y => pureSem P (do eqGuard op T ox oy x.enc y.enc; binOp op T x.enc y.enc) fun v => exK κ fun t => v = t.enc ∧ next t

def convI (dst : Option TypeDesc) (x : TV) (next : TV → Prop) : Prop :=
  match dst, x with
  | some (.int .u8), .i _ n => next (.u8 (u8OfInt n))
  | some (.int .u8), .u8 n => next (.u8 n)
  | some (.int .u8), .u64 n => next (.u8 n.toUInt8)
  | some (.int .u64), .i _ n => next (.u64 (u64OfInt n))
  | some (.int .u64), .u8 n => next (.u64 n.toUInt64)
  | some (.int .u64), .u64 n => next (.u64 n)
  | some (.int k), .i _ n => next (.i k (k.wrap n))
  | some (.int .i64), .u8 n => next (.i .i64 n.toNat)
  | some (.int k), .u8 n => next (.i k (k.wrap n.toNat))
  | some (.int k), .u64 n => next (.i k (k.wrap n.toNat))
  | some .string, .s l => next (.s l)
  | _, _ => False

def fieldsOf (P : Program) (T : TypeId) : Option (Array Field) :=
  match P.underlying T with
  | some (.struct fs) => some fs
  | _ => none

def numOk (n : Option Int) (K : Int → Prop) : Prop := match n with | some x => K x | none => False

/-- bounds of a slice expression -/
def boundK (len cap : Nat) (lo hi mx : Option Int) (K : Nat → Nat → Nat → Prop) : Prop :=
  match mx with
  | none =>
    match hi with
    | none =>
      match lo with
      | none => K 0 len cap
      | some l => (0 ≤ l ∧ l ≤ len) ∧ K l.toNat len cap
    | some h =>
      match lo with
      | none => (0 ≤ h ∧ h ≤ cap) ∧ K 0 h.toNat cap
      | some l => (0 ≤ l ∧ l ≤ h ∧ h ≤ cap) ∧ K l.toNat h.toNat cap
  | some m =>
    match hi with
    | none => False
    | some h =>
      match lo with
      | none => (0 ≤ h ∧ h ≤ m ∧ m ≤ cap) ∧ K 0 h.toNat m.toNat
      | some l => (0 ≤ l ∧ l ≤ h ∧ h ≤ m ∧ m ≤ cap) ∧ K l.toNat h.toNat m.toNat
def cutSl (s : Slc) (size l h m : Nat) : Slc := ⟨if m = l then s.a else s.a.map (·.add (l * size)), h - l, m - l⟩

def optNum (env : Env) : Option Operand → Option (Option Int)
  | none => some none
  | some x => match (ev env x).num with | some n => some (some n) | none => none

def idxK (i : Int) (len : Nat) (a : Option Addr) (size : Nat) (next : TV → Prop) : Prop :=
  (0 ≤ i ∧ i < len) ∧ onSome a fun ad => next (.p (some (ad.add (i.toNat * size))))

structure Pt where
  off : Nat
  size : Nat
  ag : Bool
def okT (P : Program) (T : TypeId) : Bool := (P.info? T).isSome && (P.underlying T).isSome
def partsOf (P : Program) (T : TypeId) : Option (List Pt) :=
  match P.underlying T with
  | some (.struct fs) => bif fs.toList.all fun f => okT P f.type then some (fs.toList.map fun f => ⟨f.offset, sizeAt P f.type, isAggT P f.type⟩) else none
  | some (.array n e) => bif okT P e then some ((List.range n).map fun i => ⟨i * sizeAt P e, sizeAt P e, isAggT P e⟩) else none
  | _ => none
/-- the fields' cells lie one behind the other, each as long as its typed value -/
def fitsAt : Nat → List Pt → List TV → Bool
  | _, [], [] => true
  | o, q :: r, x :: xs => Nat.beq q.off o && Nat.beq q.size x.cells.length && (x.isAgg == q.ag) && !x.isBad && fitsAt (o + q.size) r xs
  | _, _, _ => false
def ofValK : Kd → Value → TV
  | .i k, .int _ n => .i k n
  | .u8, _ => .u8 0
  | .u64, _ => .u64 0
  | .b, _ => .b false
  | .s, _ => .s []
  | .p, _ => .p none
  | .sl, _ => .sl ⟨none, 0, 0⟩
  | .m, _ => .m none
  | _, x => .v x

mutual
/-- the typed zero value, if it is known to be that of the cells given -/
def zeroOf : Kd → List Value → Option (TV × List Value)
  | .i k, .int k' 0 :: r => if k = k' then some (.i k 0, r) else none
  | .u8, .int .u8 0 :: r => some (.u8 0, r)
  | .u64, .int .u64 0 :: r => some (.u64 0, r)
  | .b, .bool false :: r => some (.b false, r)
  | .s, .string s :: r => if s.data.size = 0 then some (.s [], r) else none
  | .p, .pointer none :: r => some (.p none, r)
  | .sl, .slice none 0 0 :: r => some (.sl ⟨none, 0, 0⟩, r)
  | .m, .map none :: r => some (.m none, r)
  | .v, .nilFunc :: r => some (.v .nilFunc, r)
  | .v, .nilIface :: r => some (.v .nilIface, r)
  | .agg fs, l => match zerosOf fs l with | some (xs, r) => some (.agg xs, r) | none => none
  | _, _ => none
def zerosOf : List Kd → List Value → Option (List TV × List Value)
  | [], l => some ([], l)
  | k :: ks, l => match zeroOf k l with
    | some (x, r) => match zerosOf ks r with | some (xs, r') => some (x :: xs, r') | none => none
    | none => none
end
def zeroTV (P : Program) (T : TypeId) : Option TV :=
  match P.info? T with
  | some i => match i.zero with
    | some z => match zeroOf (kindOf P 20 T) z.cells.toList with
      | some (x, []) => some x
      | _ => none
    | none => none
  | none => none

/-- the parts, laid one by one -/
def setParts (ps : List Pt) (env : Env) : List TV → List (Nat × Operand) → Option (List TV)
  | fs, [] => some fs
  | fs, (i, x) :: r => bif Nat.blt i fs.length && fitsAt 0 ps (fs.set i (ev env x)) then setParts ps env (fs.set i (ev env x)) r else none
/-- a raw value is one cell -/
def solidK : List TV → Prop → Prop
  | [], K => K
  | .v x :: r, K => x.oneCell' = true ∧ solidK r K
  | _ :: r, K => solidK r K

def buildK (P : Program) (T : TypeId) (parts : Array (Nat × Operand)) (env : Env) (next : TV → Prop) : Prop :=
  match zeroTV P T with
  | some (.agg zs) =>
    match partsOf P T with
    | some ps => bif fitsAt 0 ps zs then
        match setParts ps env zs parts.toList with
        | some fs => solidK (parts.toList.map fun q => ev env q.2) (next (.agg fs))
        | none => False
      else False
    | none => False
  | _ => False

def isIface (P : Program) (T : TypeId) : Bool := match P.underlying T with | some (.interface _) => true | none => true | _ => false

def fieldOff (P : Program) (T : TypeId) (f : Nat) : Option Nat :=
  match P.underlying T with
  | some (.struct fs) => match fs[f]? with
    | some x => bif Nat.beq (sizeAt P x.type) 0 || !(P.info? x.type).isSome then none else some x.offset
    | none => none
  | _ => none

def evs (env : Env) (xs : Array Operand) : List Value := xs.toList.map fun x => (ev env x).enc
def allGood (env : Env) (xs : Array Operand) : Bool := xs.toList.all fun x => !(ev env x).isBad

def lenK (P : Program) (T : TypeId) (x : TV) (next : TV → Prop) : Prop :=
  match P.underlying T, x with
  | some .string, .s l => next (.i .i64 l.length)
  | some (.slice _), .sl s => next (.i .i64 s.len)
  | some (.array n _), .agg _ => next (.i .i64 n)
  | some (.pointer e), .p _ => match P.underlying e with
    | some (.array n _) => next (.i .i64 n)
    | _ => False
  | _, _ => False
def capK (P : Program) (T : TypeId) (x : TV) (next : TV → Prop) : Prop :=
  match P.underlying T, x with
  | some (.slice _), .sl s => next (.i .i64 s.cap)
  | _, _ => False
def min2 : List TV → Option TV
  | [.i k a, .i k' b] => if k = k' then some (.i k (if b < a then b else a)) else none
  | [.i k a, .i k' b, .i k'' c] => if k = k' ∧ k = k'' then some (.i k (if c < (if b < a then b else a) then c else (if b < a then b else a))) else none
  | _ => none
def max2 : List TV → Option TV
  | [.i k a, .i k' b] => if k = k' then some (.i k (if b > a then b else a)) else none
  | [.i k a, .i k' b, .i k'' c] => if k = k' ∧ k = k'' then some (.i k (if c > (if b > a then b else a) then c else (if b > a then b else a))) else none
  | _ => none

/-- operations whose value hangs on their operands alone -/
def isPure (P : Program) (o : Oper) : Bool :=
  match o.op with
  | .move _ | .assign _ | .pick _ _ _ | .nilCheck _ | .binOp _ _ _ _ _ | .unOp _ _ _ | .makeInterface _ _ | .makeFunc _ _ _ | .fieldAddr _ _ _
  | .field _ _ _ | .indexAddr _ _ _ | .index _ _ _ | .slice _ _ _ _ _ | .extract _ _ | .build _ _ => true
  | .convert s d _ => match P.underlying s, P.underlying d with
    | some (.int _), some (.int _) => true
    | some .string, some .string => true
    | _, _ => false
  | .call { callee := .builtin .len, argTypes, .. } => match P.underlying (argTypes.getD 0 0) with | some (.map _ _) => false | _ => true
  | .call { callee := .builtin .cap, .. } => true
  | .call { callee := .builtin .min, .. } => true
  | .call { callee := .builtin .max, .. } => true
  | _ => false

def pureK (P : Program) (o : Oper) (env : Env) (next : TV → Prop) : Prop :=
  match o.op with
  | .move x | .assign x => next (ev env x)
  | .pick c a b => match ev env c with
    | .b t => condK t (next (ev env a)) (next (ev env b))
    | _ => False
  | .nilCheck x => match ev env x with
    | .p a => onSome a fun ad => next (.p (some ad))
    | .v (.func (.func f) first cap) => next (.v (.func (.func f) first cap))
    | _ => False
  | .binOp op T x y _ => binK P op T x y (ev env x) (ev env y) (kindOf P 20 o.type) next
  | .unOp op _ x => match op, ev env x with
    | .not, .b t => next (.b (!t))
    | .neg, .i k n => next (.i k (k.wrap (0 - n)))
    | .xor, .u64 n => next (.u64 (~~~n))
    | .xor, .u8 n => next (.u8 (~~~n))
    | _, _ => False
  | .convert s d x => match P.underlying s with
    | some _ => convI (P.underlying d) (ev env x) next
    | none => False
  | .makeInterface T x => bif isIface P T || (ev env x).isBad then False else next (.v (.iface T (ev env x).enc))
  | .makeFunc fn first captured => bif allGood env first && allGood env captured then next (.v (.func fn (evs env first).toArray (evs env captured).toArray)) else False
  | .fieldAddr T x f => match fieldOff P T f, ev env x with
    | some off, .p a => onSome a fun ad => next (.p (some (ad.add off)))
    | _, _ => False
  | .field T x f => match ev env x, partsOf P T with
    | .agg fs, some ps => match fs[f]? with
      | some y => bif fitsAt 0 ps fs && (fieldsOf P T).isSome then next y else False
      | none => False
    | _, _ => False
  | .indexAddr T x i => match P.underlying T with
    | some (.slice e) => match ev env x, (ev env i).num with
      | .sl s, some n => bif (P.info? e).isSome then idxK n s.len s.a (sizeAt P e) next else False
      | _, _ => False
    | some (.array len e) => match ev env x, (ev env i).num with
      | .p a, some n => bif (P.info? e).isSome then idxK n len a (sizeAt P e) next else False
      | _, _ => False
    | _ => False
  | .index T x i => match P.underlying T with
    | some .string => match ev env x, (ev env i).num with
      | .s l, some n => 0 ≤ n ∧ ∃ c : UInt8, l[n.toNat]? = some c ∧ next (.u8 c)
      | _, _ => False
    | some (.array len e) => match ev env x, (ev env i).num with
      | .agg fs, some n => bif kdFit P e then (0 ≤ n ∧ n < len) ∧ (∀ z ∈ fs, z.cells.length = sizeAt P e) ∧ exK (kindOf P 20 e) fun y => fs[n.toNat]? = some y ∧ next y else False
      | _, _ => False
    | _ => False
  | .slice T x lo hi mx => match optNum env lo, optNum env hi, optNum env mx with
    | some l, some h, some m => match P.underlying T, ev env x with
      | some .string, .s s => match m with
        | none => boundK s.length s.length l h none fun l h _ => next (.s ((s.take h).drop l))
        | some _ => False
      | some (.slice e), .sl s => bif (P.info? e).isSome then boundK s.len s.cap l h m fun l h m => next (.sl (cutSl s (sizeAt P e) l h m)) else False
      | some (.array n e), .p a => bif (P.info? e).isSome && m.isNone then onSome a fun ad => boundK n n l h none fun l h m => next (.sl (cutSl ⟨some ad, n, n⟩ (sizeAt P e) l h m)) else False
      | _, _ => False
    | _, _, _ => False
  | .extract t i => match ev env t with
    | .tup fs => match fs[i]? with
      | some y => next y
      | none => False
    | .v x => ∃ vs : Array Value, x = .tuple vs ∧ exK (kindOf P 20 o.type) fun y => vs[i]? = some y.enc ∧ next y
    | _ => False
  | .build T parts => buildK P T parts env next
  | .call { callee := .builtin .len, args, argTypes } => match args.toList, argTypes.toList with
    | [x], [T] => lenK P T (ev env x) next
    | _, _ => False
  | .call { callee := .builtin .cap, args, argTypes } => match args.toList, argTypes.toList with
    | [x], [T] => capK P T (ev env x) next
    | _, _ => False
  | .call { callee := .builtin .min, args, .. } => match min2 (args.toList.map (ev env)) with
    | some y => next y
    | none => False
  | .call { callee := .builtin .max, args, .. } => match max2 (args.toList.map (ev env)) with
    | some y => next y
    | none => False
  | _ => False

/-- what hands back a value of a kind -/
def resK (κ : Kd) (v : Value) (next : TV → Prop) : Prop := exK κ fun t => v = t.enc ∧ next t

/-- a call of a loop's yield -/
def yieldK (P : Program) (l : Nat) (args : List Value) (w : World) (K : Value → World → Prop) : Prop :=
  ∃ f tmps assign body, (Instr.yield l args.toArray).run P w = .ok (.round l f tmps assign body) w ∧ RoundIn Fence.wide 0 P l f tmps assign body w fun e w' => ∃ v, e = .returned v ∧ K v w'

def callFV (P : Program) (fv : Value) (args : List Value) (w : World) (pan : List PanicEntry → World → Prop) (K : Value → World → Prop) : Prop :=
  match fv with
  | .func (.func f) first cap => bif enters P f then callK P f (first.toList ++ args ++ cap.toList) w pan K
      else ∃ v w', (callFunc f (first ++ args.toArray ++ cap)).run P w = .ok (.value v) w' ∧ K v w'
  | .func (.yield l) first cap => yieldK P l (first.toList ++ args) w K
  | .func fn first cap => ∃ f args', (invoke (.fn fn cap) (first ++ args.toArray)).run P w = .ok (.enter f args') w ∧ callK P f args'.toList w pan K
  | _ => False

def stateK (P : Program) (o : Oper) (env : Env) (w : World) (pan : List PanicEntry → World → Prop) (next : TV → World → Prop) : Prop :=
  let κ := kindOf P 20 o.type
  let semk (κ : Kd) (s : Sem Value) : Prop := semK P s w fun v w' => resK κ v fun t => next t w'
  let sem (s : Sem Value) : Prop := semK P s w fun v w' => resK κ v fun t => next t w'
  let semu (s : Sem Unit) : Prop := semU P s w fun w' => next .bad w'
  let e (x : Operand) : Value := (ev env x).enc
  let g (x : Operand) : Bool := !(ev env x).isBad
  match o.op with
  | .load T a => match ev env a with
    | .p q => onSome q fun ad => bif kdFit P T then exK (kindOf P 20 T) fun t => Rd w ad t.cells ∧ next t w else False
    | _ => False
  | .store T a x => match ev env a with
    | .p q => onSome q fun ad => bif g x then semu (storeVar T ad (e x)) else False
    | _ => False
  | .alloc T => semk .p (Instr.alloc T true (.tuple #[]))
  | .box T x => bif g x then semk .p (Instr.box T (e x)) else False
  | .buildSlice T n parts => bif parts.toList.all (fun q => g q.2) then semk .sl (Instr.buildSlice T n (parts.map fun (i, x) => (i, e x))) else False
  | .convert s d x => bif g x then semk (kindOf P 20 d) (convert s d (e x)) else False
  | .makeMap T r => match r with
    | none => semk .m (Instr.makeMap T none)
    | some x => bif g x then semk .m (Instr.makeMap T (some (e x))) else False
  | .makeSlice T l c => bif g l && g c then semk .sl (Instr.makeSlice T (e l) (e c)) else False
  | .lookup T x i ok => bif g x && g i then sem (Instr.lookup T (e x) (e i) ok) else False
  | .mapUpdate T m k x | .insert T m k x => bif g m && g k && g x then semu (Instr.mapUpdate T (e m) (e k) (e x)) else False
  | .mapEntry T m k => bif g m && g k then sem (Instr.mapEntry T (e m) (e k)) else False
  | .entryStore T m s x => bif g m && g s && g x then semu (Instr.entryStore T (e m) (e s) (e x)) else False
  | .range T x => bif g x then semk .p (Instr.range T (e x)) else False
  | .next it isS => bif g it then semk .v (Instr.next (e it) isS o.type) else False
  | .entry it => bif g it then semk .v (Instr.entry (e it)) else False
  | .typeAssert x T a ok => bif g x then sem (Instr.typeAssert (e x) T a ok) else False
  | .panic x => match ev env x with
    | .v (.iface T y) => pan [{ v := .iface T y, recovered := false }] w
    | _ => False
  | .call c => bif allGood env c.args then
      match c.callee with
      | .builtin .append => semk .sl (Builtin.append_ c.argTypes o.type (evs env c.args).toArray)
      | .builtin .copy => semk (.i .i64) (Builtin.copy_ c.argTypes o.type (evs env c.args).toArray)
      | .builtin .delete => semk (.tup []) (Builtin.delete_ c.argTypes o.type (evs env c.args).toArray)
      | .builtin .clear => semk (.tup []) (Builtin.clear_ c.argTypes o.type (evs env c.args).toArray)
      | .builtin .len => semk (.i .i64) (Builtin.len_ c.argTypes o.type (evs env c.args).toArray)
      | .builtin .unsafeSliceData => sem (Builtin.unsafeSliceData_ c.argTypes o.type (evs env c.args).toArray)
      | .builtin .unsafeString => sem (Builtin.unsafeString_ c.argTypes o.type (evs env c.args).toArray)
      | .builtin _ => False
      | .value f => match ev env f with
        | .v fv => callFV P fv (evs env c.args) w pan fun v w' => resK κ v fun t => next t w'
        | _ => False
      | .invoke r name => match ev env r with
        | .v rv => ∃ f args', (invoke (.fn (.method name) #[]) (#[rv] ++ (evs env c.args).toArray)).run P w = .ok (.enter f args') w ∧
            callK P f args'.toList w pan fun v w' => resK κ v fun t => next t w'
        | _ => False
    else False
  | _ => False

def runOp (P : Program) (o : Oper) (env : Env) (w : World) (pan : List PanicEntry → World → Prop) (next : TV → World → Prop) : Prop :=
  bif isPure P o then pureK P o env fun t => next t w else stateK P o env w pan next

structure Kt where
  nrm : List Deferred → Env → World → Prop
  ext : Nat → List Deferred → Env → World → Prop
  ret : List Deferred → Env → World → Prop
  pan : List Deferred → List PanicEntry → World → Prop

def isLoadOp (o : Oper) : Bool := match o.op with | .load _ _ => true | _ => false
/-- an operation that waits for every load of the region -/
def late (ops : Array Oper) (j : Nat) : Bool :=
  match ops[j]? with
  | some o => (List.range ops.size).all fun i => match ops[i]? with
    | some x => !isLoadOp x || o.after.any fun e => Region.binds .any e && Nat.beq e.on i
    | none => true
  | none => false
/-- an operation that may turn the world -/
def eff (P : Program) (ops : Array Oper) (j : Nat) : Bool := match ops[j]? with | some o => !isPure P o && !isLoadOp o | none => true
def isDefer : Op → Bool
  | .defer _ => true
  | _ => false

def slotOf (ops : List Oper) (j : Nat) : Option Nat := match ops[j]? with | some o => o.dst | none => none

/-- an operation under its guard -/
def guardK (ops : List Oper) (o : Oper) (env : Env) (yes : Env → Prop) (no : Env → Prop) : Prop :=
  match o.guard with
  | none => yes env
  | some (j, want) =>
    match slotOf ops j with
    | some d => match look env d with
      | .b t => condK t (bif want then yes ((d, .b true) :: env) else no ((d, .b true) :: env)) (bif want then no ((d, .b false) :: env) else yes ((d, .b false) :: env))
      | .tup _ => no env
      | _ => False
    | none => False

def inRange (N : Nat) : Option Tmp → Bool
  | none => true
  | some d => Nat.blt d N

mutual
def noLa : Kd → Bool
  | .la _ _ => false
  | .agg fs => noLas fs
  | .tup fs => noLas fs
  | _ => true
def noLas : List Kd → Bool
  | [] => true
  | k :: r => noLa k && noLas r
end
/-- a call laid aside -/
def deferK (o : Oper) (env : Env) (next : Deferred → Prop) : Prop :=
  match o.op with
  | .defer { callee := .value f, args, .. } => bif allGood env args then
      match ev env f with
      | .v (.func fn first cap) => next { target := .fn fn cap, args := first ++ (evs env args).toArray }
      | _ => False
    else False
  | _ => False

def denOps (P : Program) (N : Nat) (r : Option Nat) (ops : List Oper) (pan : List Deferred → List PanicEntry → World → Prop) : List Oper → (List Deferred → Env → World → Prop) → List Deferred → Env → World → Prop
  | [], k, ds, env, w => k ds env w
  | o :: q, k, ds, env, w => bif inRange N o.dst then
      bif isDefer o.op then
        bif o.guard.isNone && r.isNone && o.dst.isNone then deferK o env fun d => denOps P N r ops pan q k (d :: ds) env w else False
      else
      guardK ops o env (fun env => runOp P o env w (pan ds) fun t w' => denOps P N r ops pan q k ds (putD env o.dst t) w')
        (fun env => denOps P N r ops pan q k ds (putD env o.dst (.tup [])) w)
    else False

/-- how the orders of a region that draws its order are gone through -/
inductive DS where
  | done
  | take (i : Nat) (r : DS)
  | all (rs : List (Nat × DS))

mutual
def denDraw (P : Program) (N : Nat) (ops : Array Oper) (S : World → Prop) (LD : Addr → List Value → Prop) (pan : List PanicEntry → World → Prop) (k : Env → World → Prop) : DS → Nat → Array Bool → Env → World → Prop
  | .done, _, listed, env, w => bif (Region.ready .any ops listed).isEmpty then k env w else False
  | .take _ _, 0, _, _, _ => False
  | .take i r, f + 1, listed, env, w =>
    match ops[i]? with
    | none => False
    | some o => bif inRange N o.dst && Region.free .any ops listed i && (Region.ready .any ops listed).contains i then
        bif isPure P o then
          guardK ops.toList o env (fun env => pureK P o env fun t => denDraw P N ops S LD pan k r f (listed.setIfInBounds i true) (putD env o.dst t) w)
            (fun env => denDraw P N ops S LD pan k r f (listed.setIfInBounds i true) (putD env o.dst (.tup [])) w)
        else
          match o.op with
          | .load T a =>
            guardK ops.toList o env (fun env => match ev env a with
                | .p q => onSome q fun ad => bif kdFit P T then exK (kindOf P 20 T) fun t => LD ad t.cells ∧
                    denDraw P N ops S LD pan k r f (listed.setIfInBounds i true) (putD env o.dst t) w else False
                | _ => False)
              (fun env => denDraw P N ops S LD pan k r f (listed.setIfInBounds i true) (putD env o.dst (.tup [])) w)
          | _ => False
      else False
  | .all _, 0, _, _, _ => False
  | .all rs, f + 1, listed, env, w => bif Region.ready .any ops listed == rs.map (·.1) && !rs.isEmpty then denDraws P N ops S LD pan k rs f listed env w else False
def denDraws (P : Program) (N : Nat) (ops : Array Oper) (S : World → Prop) (LD : Addr → List Value → Prop) (pan : List PanicEntry → World → Prop) (k : Env → World → Prop) : List (Nat × DS) → Nat → Array Bool → Env → World → Prop
  | [], _, _, _, _ => True
  | (i, r) :: rs, f, listed, env, w =>
    (match ops[i]? with
    | none => False
    | some o => bif inRange N o.dst then
        guardK ops.toList o env (fun env => runOp P o env w pan fun t w' => bif eff P ops i && !late ops i then S w' ∧ denDraw P N ops S LD pan k r f (listed.setIfInBounds i true) (putD env o.dst t) w' else denDraw P N ops S LD pan k r f (listed.setIfInBounds i true) (putD env o.dst t) w')
          (fun env => bif eff P ops i && !late ops i then S w ∧ denDraw P N ops S LD pan k r f (listed.setIfInBounds i true) (putD env o.dst (.tup [])) w else denDraw P N ops S LD pan k r f (listed.setIfInBounds i true) (putD env o.dst (.tup [])) w)
      else False) ∧ denDraws P N ops S LD pan k rs f listed env w
end

inductive Ann where
  | z
  | seq (j : Option (List (Nat × Kd))) (a b : Ann)
  | cond (a b : Ann)
  | block (j : Option (List (Nat × Kd))) (a : Ann)
  | loop (vs : List (Nat × Kd)) (a : Ann)
  | unroll (n : Nat) (a : Ann)
  | rf (hasRet : Bool) (ids : List Nat) (ks : List Kd) (a b : Ann)
  | draw (fl : Nat) (d : DS)

def opsWrite : List Oper → List Nat
  | [] => []
  | o :: r => match o.dst with | some d => d :: opsWrite r | none => opsWrite r
def writes : Code → List Nat
  | .region _ ops _ => opsWrite ops.toList
  | .seq a b => writes a ++ writes b
  | .cond _ a b => writes a ++ writes b
  | .block _ a => writes a
  | .loop a => writes a
  | _ => []
def poison (ts : List Nat) (env : Env) : Env := ts.map (fun t => (t, TV.bad)) ++ env
def vals (env : Env) (vs : List (Nat × Kd)) : List TV := vs.map fun v => look env v.1
def binds (vs : List (Nat × Kd)) (xs : List TV) : Env := List.zipWith (fun v x => (v.1, x)) vs xs
def kinds (vs : List (Nat × Kd)) : List Kd := vs.map (·.2)
def slotsIn (N : Nat) (vs : List (Nat × Kd)) : Bool := vs.all fun v => Nat.blt v.1 N
def subB (env : Env) : Operand → Bool → Env
  | .tmp t, x => (t, .b x) :: env
  | _, _ => env

def opsDefer (l : List Oper) : Bool := l.any fun o => isDefer o.op
/-- no call is laid aside in it, no range over a function -/
def quiet : Code → Bool
  | .region _ ops _ => !opsDefer ops.toList
  | .seq a b => quiet a && quiet b
  | .cond _ a b => quiet a && quiet b
  | .block _ a => quiet a
  | .loop a => quiet a
  | .rangeFunc _ _ _ _ => false
  | .scope a => quiet a
  | _ => true
def unr : Nat → ((List Deferred → Env → World → Prop) → List Deferred → Env → World → Prop) → List Deferred → Env → World → Prop
  | 0, _, _, _, _ => False
  | n + 1, f, ds, env, w => f (fun ds env w => unr n f ds env w) ds env w
def bindPs : List Tmp → List TV → Env → Env
  | t :: ts, x :: xs, env => bindPs ts xs ((t, x) :: env)
  | _, _, env => env
abbrev mkD (D : Nat) : Deferred := { target := .collected D, args := #[] }
def orIds (p : Nat → Prop) : List Nat → Prop
  | [] => False
  | i :: r => p i ∨ orIds p r

def den (P : Program) (N : Nat) : Option Nat → Ann → Code → Kt → List Deferred → Env → World → Prop
  | _, _, .skip, k, ds, env, w => k.nrm ds env w
  | _, _, .ret, k, ds, env, w => k.ret ds env w
  | _, _, .exit id, k, ds, env, w => k.ext id ds env w
  | r, .seq none a b, .seq x y, k, ds, env, w => den P N r a x { k with nrm := fun ds env w => den P N r b y k ds env w } ds env w
  | r, .seq (some vs) a b, .seq x y, k, ds, env, w => bif quiet x then
    ∃ J : List TV → World → Prop, den P N r a x { k with nrm := fun _ env w => bif okKs (kinds vs) (vals env vs) then J (vals env vs) w else False } ds env w ∧
      allKs (kinds vs) fun xs => ∀ w, J xs w → den P N r b y k ds (binds vs xs ++ poison (writes x) env) w
    else False
  | r, .cond a b, .cond c x y, k, ds, env, w => match ev env c with
    | .b t => condK t (den P N r a x k ds (subB env c true) w) (den P N r b y k ds (subB env c false) w)
    | _ => False
  | r, .block none a, .block id x, k, ds, env, w => den P N r a x { k with ext := fun i ds env w => bif Nat.beq i id then k.nrm ds env w else k.ext i ds env w } ds env w
  | r, .block (some vs) a, .block id x, k, ds, env, w => bif quiet x then
    ∃ J : List TV → World → Prop, den P N r a x { k with
        nrm := fun _ env w => bif okKs (kinds vs) (vals env vs) then J (vals env vs) w else False
        ext := fun i ds env w => bif Nat.beq i id then (bif okKs (kinds vs) (vals env vs) then J (vals env vs) w else False) else k.ext i ds env w } ds env w ∧
      allKs (kinds vs) fun xs => ∀ w, J xs w → k.nrm ds (binds vs xs ++ poison (writes x) env) w
    else False
  | r, .loop vs a, .loop x, k, ds, env, w =>
    bif okKs (kinds vs) (vals env vs) && quiet x then
      ∃ (I : List TV → World → Prop) (μ : List TV → World → Nat), I (vals env vs) w ∧
        allKs (kinds vs) fun xs => ∀ w, I xs w → den P N r a x { k with
          nrm := fun _ env' w' => bif okKs (kinds vs) (vals env' vs) then I (vals env' vs) w' ∧ μ (vals env' vs) w' < μ xs w else False }
          ds (binds vs xs ++ poison (writes x) env) w
    else False
  | r, .unroll n a, .loop x, k, ds, env, w => unr n (fun nrm ds env w => den P N r a x { k with nrm := nrm } ds env w) ds env w
  | r, _, .region _ ops false, k, ds, env, w => denOps P N r ops.toList k.pan ops.toList k.nrm ds env w
  | r, .draw 0 d, .region _ ops true, k, ds, env, w => bif Region.noSelect ops && P.follows .mixedOrders && !opsDefer ops.toList then
      denDraw P N ops (fun _ => True) (fun _ _ => False) (k.pan ds) (k.nrm ds) d ops.size (Array.replicate ops.size false) env w.drew else False
  | r, .draw 1 d, .region _ ops true, k, ds, env, w => bif Region.noSelect ops && P.follows .mixedOrders && !opsDefer ops.toList then
      ∃ S : World → Prop, S w.drew ∧ denDraw P N ops S (fun ad cs => ∀ w', S w' → Rd w' ad cs) (k.pan ds) (k.nrm ds) d ops.size (Array.replicate ops.size false) env w.drew else False
  | r, .draw 2 d, .region _ ops true, k, ds, env, w => bif Region.noSelect ops && P.follows .mixedOrders && !opsDefer ops.toList then
      denDraw P N ops (fun w' => w' = w.drew) (fun ad cs => Rd w.drew ad cs) (k.pan ds) (k.nrm ds) d ops.size (Array.replicate ops.size false) env w.drew else False
  | none, .rf hasRet ids ks a b, .rangeFunc g ps assign body, k, ds, env, w =>
    match ev env g with
    | .v fv =>
      bif noLas ks && Nat.beq ps.size ks.length && ps.toList.all (fun t => Nat.blt t N) && quiet assign && quiet body then
        ∃ (f : FuncId) (first cap : Array Value), fv = .func (.func f) first cap ∧ enters P f = true ∧ ∀ (rec : LoopState → Option Code → Obj) (D l : Nat) (w1 : World), D = w.heap.size → l = D + 1 → w1 = (w.alloc (.deferred (some []))).alloc (rec .ready none) →
          (allKs ks fun xs => ∀ (w2 : World) (K : Value → World → Prop), w2.heap[l]? = some (rec .ready none) →
            den P N (some l) a assign (Kt.mk (fun _ env w3 => w3.heap[l]? = some (rec .ready none) ∧ den P N (some l) b body (Kt.mk
                (fun _ _ w4 => w4.heap[l]? = some (rec .busy none) ∧ K (.bool true) (w4.putObj l (rec .ready none)))
                (fun id _ _ w4 => w4.heap[l]? = some (rec .busy none) ∧ K (.bool false) (w4.putObj l (rec .done (some (.exit id)))))
                (fun _ _ w4 => w4.heap[l]? = some (rec .busy none) ∧ K (.bool false) (w4.putObj l (rec .done (some .ret))))
                (fun _ _ _ => False)) [] env (w3.putObj l (rec .busy none)))
              (fun _ _ _ _ => False) (fun _ _ _ => False) (fun _ _ _ => False)) [] (bindPs ps.toList xs env) w2 → yieldK P l (encL xs) w2 K) →
          callK P f (first.toList ++ [.func (.yield l) #[] #[]] ++ cap.toList) w1 (k.pan (mkD D :: ds)) fun _ w6 =>
            (w6.heap[l]? = some (rec .ready none) ∧ k.nrm (mkD D :: ds) env (w6.putObj l (rec .exhausted none))) ∨
            (bif hasRet then (w6.heap[l]? = some (rec .done (some .ret)) ∧ k.ret (mkD D :: ds) env (w6.putObj l (rec .exhausted (some .ret)))) else False) ∨
            orIds (fun id => w6.heap[l]? = some (rec .done (some (.exit id))) ∧ k.ext id (mkD D :: ds) env (w6.putObj l (rec .exhausted (some (.exit id))))) ids
      else False
    | _ => False
  | _, _, _, _, _, _, _ => False

/-! ## the end of a function -/
def retVals (env : Env) : List ResultVar → Option (List TV)
  | [] => some []
  | .tmp t :: r => match retVals env r with | some xs => some (look env t :: xs) | none => none
  | .cell _ _ :: _ => none
def packV : List TV → TV
  | [x] => x
  | xs => .tup xs
/-- results that lie in variables in memory -/
def retK (P : Program) (env : Env) (w : World) : List ResultVar → List TV → (TV → Prop) → Prop
  | [], acc, K => K (packV acc.reverse)
  | .tmp t :: r, acc, K => bif (look env t).isBad then False else retK P env w r (look env t :: acc) K
  | .cell t T :: r, acc, K => match look env t with
    | .p q => onSome q fun ad => bif kdFit P T then exK (kindOf P 20 T) fun x => Rd w ad x.cells ∧ retK P env w r (x :: acc) K else False
    | _ => False
/-- what was laid aside is gone through -/
def leaveK : List Deferred → World → (World → Prop) → Prop
  | [], w, K => K w
  | d :: ds, w, K => match d.target with
    | .collected D => w.heap[D]? = some (.deferred (some [])) ∧ leaveK ds (w.putObj D (.deferred none)) K
    | _ => False
def retR (P : Program) (fn : Func) (R : Ending → World → Prop) (ds : List Deferred) (env : Env) (w : World) : Prop :=
  leaveK ds w fun w => retK P env w fn.results.toList [] fun t => R (.returned t.enc) w
def panRK (R : Ending → World → Prop) (ds : List Deferred) (c : List PanicEntry) (w : World) : Prop := leaveK ds w fun w => R (.panicked c) w
def ktOf (P : Program) (fn : Func) (R : Ending → World → Prop) : Kt where
  nrm := retR P fn R
  ext := fun _ _ _ _ => False
  ret := retR P fn R
  pan := panRK R
/-- the environment of a call -/
def envOf : Nat → List TV → Env
  | _, [] => []
  | i, x :: r => (i, x) :: envOf (i + 1) r

end Go.Sh
