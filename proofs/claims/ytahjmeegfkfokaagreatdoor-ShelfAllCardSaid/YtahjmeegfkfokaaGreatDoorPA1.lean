/- The forms of the translated functions,their contracts and the plain laws behind them,put together by a program. -/
import Derived.WalkKit
import Derived.OrdersHeld
import Derived.OrdersIn
import Derived.RangeFuncRecord
import Derived.RangeFuncCalls
import Derived.DefersIn
set_option linter.unusedSimpArgs false
set_option linter.unusedVariables false
set_option maxRecDepth 100000
set_option maxHeartbeats 4000000
section
namespace Go.Sh
open Go
abbrev RW:=Ending→World→Prop
structure Slc where
 a:Option Addr
 len:Nat
 cap:Nat
inductive TV where
 | i (k:IntKind) (n:Int)
 | u8 (x:UInt8)
 | u64 (x:UInt64)
 | b (x:Bool)
 | s (l:List UInt8)
 | p (a:Option Addr)
 | sl (s:Slc)
 | m (r:Option Nat)
 | v (x:Value)
 | agg (fs:List TV)
 | tup (fs:List TV)
 | bad
mutual
def TV.cells:TV→List Value
 | .i k n=>[.int k n]
 | .u8 x=>[.int .u8 x.toNat]
 | .u64 x=>[.int .u64 x.toNat]
 | .b x=>[.bool x]
 | .s l=>[.string ⟨l.toArray⟩]
 | .p a=>[.pointer a]
 | .sl s=>[.slice s.a s.len s.cap]
 | .m r=>[.map r]
 | .v x=>[x]
 | .agg fs=>bO fs
 | .tup fs=>[.tuple (dQ fs).toArray]
 | .bad=>[undef]
def bO:List TV→List Value
 | []=>[]
 | x :: r=>x.cells++bO r
def TV.enc:TV→Value
 | .i k n=>.int k n
 | .u8 x=>.int .u8 x.toNat
 | .u64 x=>.int .u64 x.toNat
 | .b x=>.bool x
 | .s l=>.string ⟨l.toArray⟩
 | .p a=>.pointer a
 | .sl s=>.slice s.a s.len s.cap
 | .m r=>.map r
 | .v x=>x
 | .agg fs=>.agg (bO fs).toArray
 | .tup fs=>.tuple (dQ fs).toArray
 | .bad=>undef
def dQ:List TV→List Value
 | []=>[]
 | x :: r=>x.enc :: dQ r
end
inductive Kd where
 | i (k:IntKind) | u8 | u64 | b | s | p | sl | m | v
 | agg (fs:List Kd)
 | la (n:Nat) (e:Kd)
 | tup (fs:List Kd)
def kindOf (P:Program):Nat→TypeId→Kd
 | 0,_=>.v
 | f+1,T=>match P.underlying T with
   | some .bool=>.b
   | some (.int .u8)=>.u8
   | some (.int .u64)=>.u64
   | some (.int k)=>.i k
   | some .string=>.s
   | some (.pointer _)=>.p
   | some .unsafePointer=>.p
   | some (.slice _)=>.sl
   | some (.map _ _)=>.m
   | some (.struct fs)=>.agg (fs.toList.map fun x=>kindOf P f x.type)
   | some (.array n e)=>if n≤16 then .agg (List.replicate n (kindOf P f e)) else .la n (kindOf P f e)
   | some (.tuple ts)=>.tup (ts.toList.map fun x=>kindOf P f x)
   | _=>.v
mutual
def exK:Kd→(TV→Prop)→Prop
 | .i k,K=>∃ n:Int,K (.i k n)
 | .u8,K=>∃ x:UInt8,K (.u8 x)
 | .u64,K=>∃ x:UInt64,K (.u64 x)
 | .b,K=>∃ x:Bool,K (.b x)
 | .s,K=>∃ l:List UInt8,K (.s l)
 | .p,K=>∃ a:Option Addr,K (.p a)
 | .sl,K=>∃ s:Slc,K (.sl s)
 | .m,K=>∃ r:Option Nat,K (.m r)
 | .v,K=>∃ x:Value,K (.v x)
 | .agg fs,K=>qEY fs fun xs=>K (.agg xs)
 | .la n .u64,K=>∃ l:List UInt64,l.length=n∧K (.agg (l.map .u64))
 | .la n .u8,K=>∃ l:List UInt8,l.length=n∧K (.agg (l.map .u8))
 | .la _ _,_=>False
 | .tup fs,K=>qEY fs fun xs=>K (.tup xs)
def qEY:List Kd→(List TV→Prop)→Prop
 | [],K=>K []
 | k :: r,K=>exK k fun x=>qEY r fun xs=>K (x :: xs)
end
mutual
def jO:Kd→Nat
 | .agg fs=>pO fs
 | .la n _=>n
 | _=>1
def pO:List Kd→Nat
 | []=>0
 | k :: r=>jO k+pO r
end
def qBA:Kd→Bool
 | .agg _=>true
 | .la _ _=>true
 | _=>false
def mF (P:Program) (T:TypeId):Bool:=
 match P.underlying T with
 | some (.struct _)=>true
 | some (.array _ _)=>true
 | _=>false
def TV.isAgg:TV→Bool
 | .agg _=>true
 | _=>false
def bF (P:Program) (T:TypeId):Nat:=match P.info? T with | some i=>i.size | none=>0
def gB (P:Program) (T:TypeId):Bool:=
 Nat.beq (jO (kindOf P 20 T)) (bF P T)&&(qBA (kindOf P 20 T)==mF P T)&&(P.info? T).isSome&&(P.underlying T).isSome
mutual
def gX:Kd→(TV→Prop)→Prop
 | .i k,K=>∀ n:Int,K (.i k n)
 | .u8,K=>∀ x:UInt8,K (.u8 x)
 | .u64,K=>∀ x:UInt64,K (.u64 x)
 | .b,K=>∀ x:Bool,K (.b x)
 | .s,K=>∀ l:List UInt8,K (.s l)
 | .p,K=>∀ a:Option Addr,K (.p a)
 | .sl,K=>∀ s:Slc,K (.sl s)
 | .m,K=>∀ r:Option Nat,K (.m r)
 | .v,K=>∀ x:Value,K (.v x)
 | .agg fs,K=>iO fs fun xs=>K (.agg xs)
 | .la _ _,_=>False
 | .tup fs,K=>iO fs fun xs=>K (.tup xs)
def iO:List Kd→(List TV→Prop)→Prop
 | [],K=>K []
 | k :: r,K=>gX k fun x=>iO r fun xs=>K (x :: xs)
end
mutual
def okK:Kd→TV→Bool
 | .i k,.i k' _=>k==k'
 | .u8,.u8 _=>true
 | .u64,.u64 _=>true
 | .b,.b _=>true
 | .s,.s _=>true
 | .p,.p _=>true
 | .sl,.sl _=>true
 | .m,.m _=>true
 | .v,.v _=>true
 | .agg fs,.agg xs=>eB fs xs
 | .tup fs,.tup xs=>eB fs xs
 | _,_=>false
def eB:List Kd→List TV→Bool
 | [],[]=>true
 | k :: r,x :: xs=>okK k x&&eB r xs
 | _,_=>false
end
abbrev Env:=List (Nat×TV)
def look:Env→Nat→TV
 | [],_=>.bad
 | (t,x) :: r,u=>if Nat.beq t u then x else look r u
def gZ (env:Env):Option Tmp→TV→Env
 | none,_=>env
 | some d,x=>(d,x) :: env
def TV.isBad:TV→Bool
 | .bad=>true
 | _=>false
def qBG:Value→TV
 | .int .u8 n=>if 0≤n∧n<256 then .u8 (UInt8.ofNat n.toNat) else .v (.int .u8 n)
 | .int .u64 n=>if 0≤n∧n<18446744073709551616 then .u64 (UInt64.ofNat n.toNat) else .v (.int .u64 n)
 | .int k n=>.i k n
 | .bool x=>.b x
 | .string s=>.s s.data.toList
 | .pointer a=>.p a
 | .slice a l c=>.sl ⟨a,l,c⟩
 | .map r=>.m r
 | x=>.v x
def ev (env:Env):Operand→TV
 | .tmp t=>look env t
 | .const v=>qBG v
 | .global g=>.p (some ⟨g,0,none⟩)
 | .func f=>.v (.func (.func f) #[] #[])
def Rd (w:World) (a:Addr) (cs:List Value):Prop:=∀ j v,cs[j]? = some v→w.cell? (a.add j)=some v
@[reducible] def aA {α:Type} (o:Option α) (K:α→Prop):Prop:=match o with | some x=>K x | none=>False
@[reducible] def aH (b:Bool) (x y:Prop):Prop:=match b with | true=>x | false=>y
def aI (P:Program) (s:Sem Value) (w:World) (K:Value→World→Prop):Prop:=∃ v w',s.run P w = .ok v w'∧K v w'
def aJ (P:Program) (s:Sem Unit) (w:World) (K:World→Prop):Prop:=∃ w',s.run P w = .ok () w'∧K w'
def aD (P:Program) (f:FuncId) (args:List Value) (w:World) (pan:List PanicEntry→World→Prop) (K:Value→World→Prop):Prop:=
 Calls P f args.toArray w fun
  | .returned v,w'=>K v w'
  | .panicked c,w'=>pan c w'
  | .outgrown,_=>False
def enters (P:Program) (f:FuncId):Bool:=
 match P.funcs[f]? with
 | some fn=>!(fn.name== "runtime.NumGoroutine")&&fn.body.isSome
 | none=>false
def dO (x:UInt64) (n:Nat):UInt64:=if n<64 then x <<< UInt64.ofNat n else 0
def aM (x:UInt64) (n:Nat):UInt64:=if n<64 then x >>> UInt64.ofNat n else 0
def qCF (x:UInt8) (n:Nat):UInt8:=if n<8 then x <<< UInt8.ofNat n else 0
def iF (x:UInt8) (n:Nat):UInt8:=if n<8 then x >>> UInt8.ofNat n else 0
def pL (n:Int):UInt8:=UInt8.ofNat (n % 256).toNat
def aN (n:Int):UInt64:=UInt64.ofNat (n % 18446744073709551616).toNat
def TV.num:TV→Option Int
 | .i _ n=>some n
 | .u8 x=>some x.toNat
 | .u64 x=>some x.toNat
 | _=>none
def qVU (op:BinOp) (k:IntKind) (x y:Int) (next:TV→Prop):Prop:=
 match op with
 | .add=>next (.i k (k.wrap (x+y)))
 | .sub=>next (.i k (k.wrap (x - y)))
 | .mul=>next (.i k (k.wrap (x*y)))
 | .quo=>y≠0∧next (.i k (k.wrap (x.tdiv y)))
 | .rem=>y≠0∧next (.i k (x.tmod y))
 | .eql=>next (.b (x==y))
 | .neq=>next (.b (x != y))
 | .lss=>next (.b (decide (x<y)))
 | .leq=>next (.b (decide (x≤y)))
 | .gtr=>next (.b (decide (x > y)))
 | .geq=>next (.b (decide (x≥y)))
 | _=>False
def qXB (op:BinOp) (x y:UInt8) (next:TV→Prop):Prop:=
 match op with
 | .add=>next (.u8 (x+y))
 | .sub=>next (.u8 (x - y))
 | .mul=>next (.u8 (x*y))
 | .and=>next (.u8 (x &&& y))
 | .or=>next (.u8 (x ||| y))
 | .xor=>next (.u8 (x ^^^ y))
 | .andNot=>next (.u8 (x &&& ~~~y))
 | .eql=>next (.b (x==y))
 | .neq=>next (.b (x != y))
 | .lss=>next (.b (decide (x<y)))
 | .leq=>next (.b (decide (x≤y)))
 | .gtr=>next (.b (decide (y<x)))
 | .geq=>next (.b (decide (y≤x)))
 | _=>False
def qHF (op:BinOp) (x y:UInt64) (next:TV→Prop):Prop:=
 match op with
 | .add=>next (.u64 (x+y))
 | .sub=>next (.u64 (x - y))
 | .mul=>next (.u64 (x*y))
 | .quo=>y≠0∧next (.u64 (x / y))
 | .rem=>y≠0∧next (.u64 (x % y))
 | .and=>next (.u64 (x &&& y))
 | .or=>next (.u64 (x ||| y))
 | .xor=>next (.u64 (x ^^^ y))
 | .andNot=>next (.u64 (x &&& ~~~y))
 | .eql=>next (.b (x==y))
 | .neq=>next (.b (x != y))
 | .lss=>next (.b (decide (x<y)))
 | .leq=>next (.b (decide (x≤y)))
 | .gtr=>next (.b (decide (y<x)))
 | .geq=>next (.b (decide (y≤x)))
 | _=>False
def qXY (op:BinOp) (x y:List UInt8) (next:TV→Prop):Prop:=
 match op with
 | .add=>((x.length+y.length:Nat):Int)≤9223372036854775807∧next (.s (x++y))
 | .eql=>next (.b (x==y))
 | .neq=>next (.b (!(x==y)))
 | .lss=>next (.b (Op.bytesLess x y))
 | .leq=>next (.b (Op.bytesLess x y || x==y))
 | .gtr=>next (.b (!(Op.bytesLess x y || x==y)))
 | .geq=>next (.b (!Op.bytesLess x y))
 | _=>False
def fE:BinOp→Bool
 | .shl | .shr=>true
 | _=>false
def qIP:BinOp→Bool
 | .and | .or | .xor | .andNot=>true
 | _=>false
def shK (op:BinOp) (x:TV) (c:Int) (next:TV→Prop):Prop:=
 match op,x with
 | .shl,.i k n=>0≤c∧next (.i k (k.wrap (n*2 ^ (min c.toNat k.bits))))
 | .shr,.i k n=>0≤c∧next (.i k (n.fdiv (2 ^ (min c.toNat k.bits))))
 | .shl,.u8 n=>0≤c∧next (.u8 (qCF n c.toNat))
 | .shr,.u8 n=>0≤c∧next (.u8 (iF n c.toNat))
 | .shl,.u64 n=>0≤c∧next (.u64 (dO n c.toNat))
 | .shr,.u64 n=>0≤c∧next (.u64 (aM n c.toNat))
 | _,_=>False
def aU (P:Program) (s:Sem Value) (next:Value→Prop):Prop:=∃ v,(∀ w,s.run P w = .ok v w)∧next v
def qUZ (P:Program) (op:BinOp) (T:TypeId) (ox oy:Operand) (x y:TV) (κ:Kd) (next:TV→Prop):Prop:=
 if fE op then
  match y.num with
  | some c=>shK op x c next
  | none=>False
 else
 match x,y with
 | .i k a,.i k' b=>bif qIP op then aU P (do eqGuard op T ox oy (.int k a) (.int k' b); binOp op T (.int k a) (.int k' b)) fun v=>exK κ fun t=>v=t.enc∧next t else if k=k' then qVU op k a b next else False
 | .u8 a,.u8 b=>qXB op a b next
 | .u64 a,.u64 b=>qHF op a b next
 | .s a,.s b=>qXY op a b next
 | .bad,_=>False
 | _,.bad=>False
 | x,y=>aU P (do eqGuard op T ox oy x.enc y.enc; binOp op T x.enc y.enc) fun v=>exK κ fun t=>v=t.enc∧next t
def zV (dst:Option TypeDesc) (x:TV) (next:TV→Prop):Prop:=
 match dst,x with
 | some (.int .u8),.i _ n=>next (.u8 (pL n))
 | some (.int .u8),.u8 n=>next (.u8 n)
 | some (.int .u8),.u64 n=>next (.u8 n.toUInt8)
 | some (.int .u64),.i _ n=>next (.u64 (aN n))
 | some (.int .u64),.u8 n=>next (.u64 n.toUInt64)
 | some (.int .u64),.u64 n=>next (.u64 n)
 | some (.int k),.i _ n=>next (.i k (k.wrap n))
 | some (.int .i64),.u8 n=>next (.i .i64 n.toNat)
 | some (.int k),.u8 n=>next (.i k (k.wrap n.toNat))
 | some (.int k),.u64 n=>next (.i k (k.wrap n.toNat))
 | some .string,.s l=>next (.s l)
 | _,_=>False
def fieldsOf (P:Program) (T:TypeId):Option (Array Field):=
 match P.underlying T with
 | some (.struct fs)=>some fs
 | _=>none
def mH (len cap:Nat) (lo hi mx:Option Int) (K:Nat→Nat→Nat→Prop):Prop:=
 match mx with
 | none=>
   match hi with
   | none=>
     match lo with
     | none=>K 0 len cap
     | some l=>(0≤l∧l≤len)∧K l.toNat len cap
   | some h=>
     match lo with
     | none=>(0≤h∧h≤cap)∧K 0 h.toNat cap
     | some l=>(0≤l∧l≤h∧h≤cap)∧K l.toNat h.toNat cap
 | some m=>
   match hi with
   | none=>False
   | some h=>
     match lo with
     | none=>(0≤h∧h≤m∧m≤cap)∧K 0 h.toNat m.toNat
     | some l=>(0≤l∧l≤h∧h≤m∧m≤cap)∧K l.toNat h.toNat m.toNat
def aF (s:Slc) (size l h m:Nat):Slc:=⟨if m=l then s.a else s.a.map (·.add (l*size)),h - l,m - l⟩
def oP (env:Env):Option Operand→Option (Option Int)
 | none=>some none
 | some x=>match (ev env x).num with | some n=>some (some n) | none=>none
def qPK (i:Int) (len:Nat) (a:Option Addr) (size:Nat) (next:TV→Prop):Prop:=
 (0≤i∧i<len)∧aA a fun ad=>next (.p (some (ad.add (i.toNat*size))))
structure Pt where
 off:Nat
 size:Nat
 ag:Bool
def okT (P:Program) (T:TypeId):Bool:=(P.info? T).isSome&&(P.underlying T).isSome
def partsOf (P:Program) (T:TypeId):Option (List Pt):=
 match P.underlying T with
 | some (.struct fs)=>bif fs.toList.all fun f=>okT P f.type then some (fs.toList.map fun f=>⟨f.offset,bF P f.type,mF P f.type⟩) else none
 | some (.array n e)=>bif okT P e then some ((List.range n).map fun i=>⟨i*bF P e,bF P e,mF P e⟩) else none
 | _=>none
def fitsAt:Nat→List Pt→List TV→Bool
 | _,[],[]=>true
 | o,q :: r,x :: xs=>Nat.beq q.off o&&Nat.beq q.size x.cells.length&&(x.isAgg==q.ag)&&!x.isBad&&fitsAt (o+q.size) r xs
 | _,_,_=>false
def jFF:Kd→Value→TV
 | .i k,.int _ n=>.i k n
 | .u8,_=>.u8 0
 | .u64,_=>.u64 0
 | .b,_=>.b false
 | .s,_=>.s []
 | .p,_=>.p none
 | .sl,_=>.sl ⟨none,0,0⟩
 | .m,_=>.m none
 | _,x=>.v x
mutual
def zeroOf:Kd→List Value→Option (TV×List Value)
 | .i k,.int k' 0 :: r=>if k=k' then some (.i k 0,r) else none
 | .u8,.int .u8 0 :: r=>some (.u8 0,r)
 | .u64,.int .u64 0 :: r=>some (.u64 0,r)
 | .b,.bool false :: r=>some (.b false,r)
 | .s,.string s :: r=>if s.data.size=0 then some (.s [],r) else none
 | .p,.pointer none :: r=>some (.p none,r)
 | .sl,.slice none 0 0 :: r=>some (.sl ⟨none,0,0⟩,r)
 | .m,.map none :: r=>some (.m none,r)
 | .v,.nilFunc :: r=>some (.v .nilFunc,r)
 | .v,.nilIface :: r=>some (.v .nilIface,r)
 | .agg fs,l=>match jV fs l with | some (xs,r)=>some (.agg xs,r) | none=>none
 | _,_=>none
def jV:List Kd→List Value→Option (List TV×List Value)
 | [],l=>some ([],l)
 | k :: ks,l=>match zeroOf k l with
   | some (x,r)=>match jV ks r with | some (xs,r')=>some (x :: xs,r') | none=>none
   | none=>none
end
def zI (P:Program) (T:TypeId):Option TV:=
 match P.info? T with
 | some i=>match i.zero with
   | some z=>match zeroOf (kindOf P 20 T) z.cells.toList with
     | some (x,[])=>some x
     | _=>none
   | none=>none
 | none=>none
def jE (ps:List Pt) (env:Env):List TV→List (Nat×Operand)→Option (List TV)
 | fs,[]=>some fs
 | fs,(i,x) :: r=>bif Nat.blt i fs.length&&fitsAt 0 ps (fs.set i (ev env x)) then jE ps env (fs.set i (ev env x)) r else none
def tO:List TV→Prop→Prop
 | [],K=>K
 | .v x :: r,K=>x.oneCell'=true∧tO r K
 | _ :: r,K=>tO r K
def zA (P:Program) (T:TypeId) (parts:Array (Nat×Operand)) (env:Env) (next:TV→Prop):Prop:=
 match zI P T with
 | some (.agg zs)=>
   match partsOf P T with
   | some ps=>bif fitsAt 0 ps zs then
      match jE ps env zs parts.toList with
      | some fs=>tO (parts.toList.map fun q=>ev env q.2) (next (.agg fs))
      | none=>False
     else False
   | none=>False
 | _=>False
def isIface (P:Program) (T:TypeId):Bool:=match P.underlying T with | some (.interface _)=>true | none=>true | _=>false
def wC (P:Program) (T:TypeId) (f:Nat):Option Nat:=
 match P.underlying T with
 | some (.struct fs)=>match fs[f]? with
   | some x=>bif Nat.beq (bF P x.type) 0 || !(P.info? x.type).isSome then none else some x.offset
   | none=>none
 | _=>none
def evs (env:Env) (xs:Array Operand):List Value:=xs.toList.map fun x=>(ev env x).enc
def gF (env:Env) (xs:Array Operand):Bool:=xs.toList.all fun x=>!(ev env x).isBad
def qWA (P:Program) (T:TypeId) (x:TV) (next:TV→Prop):Prop:=
 match P.underlying T,x with
 | some .string,.s l=>next (.i .i64 l.length)
 | some (.slice _),.sl s=>next (.i .i64 s.len)
 | some (.array n _),.agg _=>next (.i .i64 n)
 | some (.pointer e),.p _=>match P.underlying e with
   | some (.array n _)=>next (.i .i64 n)
   | _=>False
 | _,_=>False
def qYF (P:Program) (T:TypeId) (x:TV) (next:TV→Prop):Prop:=
 match P.underlying T,x with
 | some (.slice _),.sl s=>next (.i .i64 s.cap)
 | _,_=>False
def min2:List TV→Option TV
 | [.i k a,.i k' b]=>if k=k' then some (.i k (if b<a then b else a)) else none
 | [.i k a,.i k' b,.i k'' c]=>if k=k'∧k=k'' then some (.i k (if c<(if b<a then b else a) then c else (if b<a then b else a))) else none
 | _=>none
def max2:List TV→Option TV
 | [.i k a,.i k' b]=>if k=k' then some (.i k (if b > a then b else a)) else none
 | [.i k a,.i k' b,.i k'' c]=>if k=k'∧k=k'' then some (.i k (if c > (if b > a then b else a) then c else (if b > a then b else a))) else none
 | _=>none
def gT (P:Program) (o:Oper):Bool:=
 match o.op with
 | .move _ | .assign _ | .pick _ _ _ | .nilCheck _ | .binOp _ _ _ _ _ | .unOp _ _ _ | .makeInterface _ _ | .makeFunc _ _ _ | .fieldAddr _ _ _
 | .field _ _ _ | .indexAddr _ _ _ | .index _ _ _ | .slice _ _ _ _ _ | .extract _ _ | .build _ _=>true
 | .convert s d _=>match P.underlying s,P.underlying d with
   | some (.int _),some (.int _)=>true
   | some .string,some .string=>true
   | _,_=>false
 | .call {callee:=.builtin .len,argTypes,..}=>match P.underlying (argTypes.getD 0 0) with | some (.map _ _)=>false | _=>true
 | .call {callee:=.builtin .cap,..}=>true
 | .call {callee:=.builtin .min,..}=>true
 | .call {callee:=.builtin .max,..}=>true
 | _=>false
def sP (P:Program) (o:Oper) (env:Env) (next:TV→Prop):Prop:=
 match o.op with
 | .move x | .assign x=>next (ev env x)
 | .pick c a b=>match ev env c with
   | .b t=>aH t (next (ev env a)) (next (ev env b))
   | _=>False
 | .nilCheck x=>match ev env x with
   | .p a=>aA a fun ad=>next (.p (some ad))
   | .v (.func (.func f) first cap)=>next (.v (.func (.func f) first cap))
   | _=>False
 | .binOp op T x y _=>qUZ P op T x y (ev env x) (ev env y) (kindOf P 20 o.type) next
 | .unOp op _ x=>match op,ev env x with
   | .not,.b t=>next (.b (!t))
   | .neg,.i k n=>next (.i k (k.wrap (0 - n)))
   | .xor,.u64 n=>next (.u64 (~~~n))
   | .xor,.u8 n=>next (.u8 (~~~n))
   | _,_=>False
 | .convert s d x=>match P.underlying s with
   | some _=>zV (P.underlying d) (ev env x) next
   | none=>False
 | .makeInterface T x=>bif isIface P T || (ev env x).isBad then False else next (.v (.iface T (ev env x).enc))
 | .makeFunc fn first captured=>bif gF env first&&gF env captured then next (.v (.func fn (evs env first).toArray (evs env captured).toArray)) else False
 | .fieldAddr T x f=>match wC P T f,ev env x with
   | some off,.p a=>aA a fun ad=>next (.p (some (ad.add off)))
   | _,_=>False
 | .field T x f=>match ev env x,partsOf P T with
   | .agg fs,some ps=>match fs[f]? with
     | some y=>bif fitsAt 0 ps fs&&(fieldsOf P T).isSome then next y else False
     | none=>False
   | _,_=>False
 | .indexAddr T x i=>match P.underlying T with
   | some (.slice e)=>match ev env x,(ev env i).num with
     | .sl s,some n=>bif (P.info? e).isSome then qPK n s.len s.a (bF P e) next else False
     | _,_=>False
   | some (.array len e)=>match ev env x,(ev env i).num with
     | .p a,some n=>bif (P.info? e).isSome then qPK n len a (bF P e) next else False
     | _,_=>False
   | _=>False
 | .index T x i=>match P.underlying T with
   | some .string=>match ev env x,(ev env i).num with
     | .s l,some n=>0≤n∧∃ c:UInt8,l[n.toNat]? = some c∧next (.u8 c)
     | _,_=>False
   | some (.array len e)=>match ev env x,(ev env i).num with
     | .agg fs,some n=>bif gB P e then (0≤n∧n<len)∧(∀ z∈fs,z.cells.length=bF P e)∧exK (kindOf P 20 e) fun y=>fs[n.toNat]? = some y∧next y else False
     | _,_=>False
   | _=>False
 | .slice T x lo hi mx=>match oP env lo,oP env hi,oP env mx with
   | some l,some h,some m=>match P.underlying T,ev env x with
     | some .string,.s s=>match m with
       | none=>mH s.length s.length l h none fun l h _=>next (.s ((s.take h).drop l))
       | some _=>False
     | some (.slice e),.sl s=>bif (P.info? e).isSome then mH s.len s.cap l h m fun l h m=>next (.sl (aF s (bF P e) l h m)) else False
     | some (.array n e),.p a=>bif (P.info? e).isSome&&m.isNone then aA a fun ad=>mH n n l h none fun l h m=>next (.sl (aF ⟨some ad,n,n⟩ (bF P e) l h m)) else False
     | _,_=>False
   | _,_,_=>False
 | .extract t i=>match ev env t with
   | .tup fs=>match fs[i]? with
     | some y=>next y
     | none=>False
   | .v x=>∃ vs:Array Value,x = .tuple vs∧exK (kindOf P 20 o.type) fun y=>vs[i]? = some y.enc∧next y
   | _=>False
 | .build T parts=>zA P T parts env next
 | .call {callee:=.builtin .len,args,argTypes}=>match args.toList,argTypes.toList with
   | [x],[T]=>qWA P T (ev env x) next
   | _,_=>False
 | .call {callee:=.builtin .cap,args,argTypes}=>match args.toList,argTypes.toList with
   | [x],[T]=>qYF P T (ev env x) next
   | _,_=>False
 | .call {callee:=.builtin .min,args,..}=>match min2 (args.toList.map (ev env)) with
   | some y=>next y
   | none=>False
 | .call {callee:=.builtin .max,args,..}=>match max2 (args.toList.map (ev env)) with
   | some y=>next y
   | none=>False
 | _=>False
def vK (κ:Kd) (v:Value) (next:TV→Prop):Prop:=exK κ fun t=>v=t.enc∧next t
def fF (P:Program) (l:Nat) (args:List Value) (w:World) (K:Value→World→Prop):Prop:=
 ∃ f tmps assign body,(Instr.yield l args.toArray).run P w = .ok (.round l f tmps assign body) w∧RoundIn Fence.wide 0 P l f tmps assign body w fun e w'=>∃ v,e = .returned v∧K v w'
def dL (P:Program) (fv:Value) (args:List Value) (w:World) (pan:List PanicEntry→World→Prop) (K:Value→World→Prop):Prop:=
 match fv with
 | .func (.func f) first cap=>bif enters P f then aD P f (first.toList++args++cap.toList) w pan K
    else ∃ v w',(callFunc f (first++args.toArray++cap)).run P w = .ok (.value v) w'∧K v w'
 | .func (.yield l) first cap=>fF P l (first.toList++args) w K
 | .func fn first cap=>∃ f args',(invoke (.fn fn cap) (first++args.toArray)).run P w = .ok (.enter f args') w∧aD P f args'.toList w pan K
 | _=>False
def wF (v:Value) (K:Value→Prop):Prop:=match v with | .iface T y=>K (.iface T y) | _=>False
def mG (P:Program) (o:Oper) (env:Env) (w:World) (pan:List PanicEntry→World→Prop) (next:TV→World→Prop):Prop:=
 let κ:=kindOf P 20 o.type
 let semk (κ:Kd) (s:Sem Value):Prop:=aI P s w fun v w'=>vK κ v fun t=>next t w'
 let sem (s:Sem Value):Prop:=aI P s w fun v w'=>vK κ v fun t=>next t w'
 let semu (s:Sem Unit):Prop:=aJ P s w fun w'=>next .bad w'
 let e (x:Operand):Value:=(ev env x).enc
 let g (x:Operand):Bool:=!(ev env x).isBad
 match o.op with
 | .load T a=>match ev env a with
   | .p q=>aA q fun ad=>bif gB P T then exK (kindOf P 20 T) fun t=>Rd w ad t.cells∧next t w else False
   | _=>False
 | .store T a x=>match ev env a with
   | .p q=>aA q fun ad=>bif g x then semu (storeVar T ad (e x)) else False
   | _=>False
 | .alloc T=>semk .p (Instr.alloc T true (.tuple #[]))
 | .box T x=>bif g x then semk .p (Instr.box T (e x)) else False
 | .buildSlice T n parts=>bif parts.toList.all (fun q=>g q.2) then semk .sl (Instr.buildSlice T n (parts.map fun (i,x)=>(i,e x))) else False
 | .convert s d x=>bif g x then semk (kindOf P 20 d) (convert s d (e x)) else False
 | .makeMap T r=>match r with
   | none=>semk .m (Instr.makeMap T none)
   | some x=>bif g x then semk .m (Instr.makeMap T (some (e x))) else False
 | .makeSlice T l c=>bif g l&&g c then semk .sl (Instr.makeSlice T (e l) (e c)) else False
 | .lookup T x i ok=>bif g x&&g i then sem (Instr.lookup T (e x) (e i) ok) else False
 | .mapUpdate T m k x | .insert T m k x=>bif g m&&g k&&g x then semu (Instr.mapUpdate T (e m) (e k) (e x)) else False
 | .mapEntry T m k=>bif g m&&g k then sem (Instr.mapEntry T (e m) (e k)) else False
 | .entryStore T m s x=>bif g m&&g s&&g x then semu (Instr.entryStore T (e m) (e s) (e x)) else False
 | .range T x=>bif g x then semk .p (Instr.range T (e x)) else False
 | .next it isS=>bif g it then semk .v (Instr.next (e it) isS o.type) else False
 | .entry it=>bif g it then semk .v (Instr.entry (e it)) else False
 | .typeAssert x T a ok=>bif g x then sem (Instr.typeAssert (e x) T a ok) else False
 | .panic x=>match ev env x with
   | .v y=>wF y fun z=>pan [{v:=z,recovered:=false}] w
   | _=>False
 | .call c=>bif gF env c.args then
    match c.callee with
    | .builtin .append=>semk .sl (Builtin.append_ c.argTypes o.type (evs env c.args).toArray)
    | .builtin .copy=>semk (.i .i64) (Builtin.copy_ c.argTypes o.type (evs env c.args).toArray)
    | .builtin .delete=>semk (.tup []) (Builtin.delete_ c.argTypes o.type (evs env c.args).toArray)
    | .builtin .clear=>semk (.tup []) (Builtin.clear_ c.argTypes o.type (evs env c.args).toArray)
    | .builtin .len=>semk (.i .i64) (Builtin.len_ c.argTypes o.type (evs env c.args).toArray)
    | .builtin .unsafeSliceData=>sem (Builtin.unsafeSliceData_ c.argTypes o.type (evs env c.args).toArray)
    | .builtin .unsafeString=>sem (Builtin.unsafeString_ c.argTypes o.type (evs env c.args).toArray)
    | .builtin _=>False
    | .value f=>match ev env f with
      | .v fv=>dL P fv (evs env c.args) w pan fun v w'=>vK κ v fun t=>next t w'
      | _=>False
    | .invoke r name=>match ev env r with
      | .v rv=>∃ f args',(invoke (.fn (.method name) #[]) (#[rv]++(evs env c.args).toArray)).run P w = .ok (.enter f args') w∧
         aD P f args'.toList w pan fun v w'=>vK κ v fun t=>next t w'
      | _=>False
   else False
 | _=>False
def rJ (P:Program) (o:Oper) (env:Env) (w:World) (pan:List PanicEntry→World→Prop) (next:TV→World→Prop):Prop:=
 bif gT P o then sP P o env fun t=>next t w else mG P o env w pan next
structure Kt where
 nrm:List Deferred→Env→World→Prop
 ext:Nat→List Deferred→Env→World→Prop
 ret:List Deferred→Env→World→Prop
 pan:List Deferred→Env→List PanicEntry→World→Prop
def cT (o:Oper):Bool:=match o.op with | .load _ _=>true | _=>false
def qDO (o:Oper):Bool:=match o.op with | .store ..=>true | _=>false
def jER (ops:Array Oper) (o:Oper) (i:Nat):Bool:=o.after.any fun e=>Region.binds .any e&&match ops[e.on]? with
 | some y=>y.after.any fun g=>Region.binds .any g&&Nat.beq g.on i
 | none=>false
def late (ops:Array Oper) (j:Nat):Bool:=
 match ops[j]? with
 | some o=>(List.range ops.size).all fun i=>match ops[i]? with
   | some x=>!cT x || (o.after.any fun e=>Region.binds .any e&&Nat.beq e.on i) || (qDO o&&jER ops o i)
   | none=>true
 | none=>false
def eff (P:Program) (ops:Array Oper) (j:Nat):Bool:=match ops[j]? with | some o=>!gT P o&&!cT o | none=>true
def bV:Op→Bool
 | .defer _=>true
 | _=>false
def tW (ops:List Oper) (j:Nat):Option Nat:=match ops[j]? with | some o=>o.dst | none=>none
def oM (ops:List Oper) (o:Oper) (env:Env) (yes:Env→Prop) (no:Env→Prop):Prop:=
 match o.guard with
 | none=>yes env
 | some (j,want)=>
   match tW ops j with
   | some d=>match look env d with
     | .b t=>aH t (bif want then yes ((d,.b true) :: env) else no ((d,.b true) :: env)) (bif want then no ((d,.b false) :: env) else yes ((d,.b false) :: env))
     | .tup _=>no env
     | _=>False
   | none=>False
def eE (N:Nat):Option Tmp→Bool
 | none=>true
 | some d=>Nat.blt d N
def yF (o:Oper) (env:Env) (next:Deferred→Prop):Prop:=
 match o.op with
 | .defer {callee:=.value f,args,..}=>bif gF env args then
    match ev env f with
    | .v (.func fn first cap)=>next {target:=.fn fn cap,args:=first++(evs env args).toArray}
    | _=>False
   else False
 | _=>False
def kR (P:Program) (N:Nat) (r:Option Nat) (ops:List Oper) (pan:List Deferred→List PanicEntry→World→Prop):List Oper→(List Deferred→Env→World→Prop)→List Deferred→Env→World→Prop
 | [],k,ds,env,w=>k ds env w
 | o :: q,k,ds,env,w=>bif eE N o.dst then
     bif bV o.op then
      bif o.guard.isNone&&r.isNone&&o.dst.isNone then yF o env fun d=>kR P N r ops pan q k (d :: ds) env w else False
     else
     oM ops o env (fun env=>rJ P o env w (pan ds) fun t w'=>kR P N r ops pan q k ds (gZ env o.dst t) w')
      (fun env=>kR P N r ops pan q k ds (gZ env o.dst (.tup [])) w)
   else False
mutual
def oE:Kd→Bool
 | .la _ _=>false
 | .agg fs=>nX fs
 | .tup fs=>nX fs
 | _=>true
def nX:List Kd→Bool
 | []=>true
 | k :: r=>oE k&&nX r
end
structure Mod (S:Nat→Prop) (w w':World):Prop where
 os:w'.os=w.os
 tape:w'.tape=w.tape
 output:w'.output=w.output
 size:w.heap.size≤w'.heap.size
 block : ∀ b,b<w.heap.size→¬ S b→w'.heap[b]? = w.heap[b]?
def NoB:Nat→Prop:=fun _=>False
theorem Mod.refl (S:Nat→Prop) (w:World):Mod S w w:=⟨rfl,rfl,rfl,Nat.le_refl _,fun _ _ _=>rfl⟩
theorem Mod.trans {S S' S'':Nat→Prop} {a b c:World} (h:Mod S a b) (h':Mod S' b c) (h1 : ∀ x,x<a.heap.size→S x→S'' x) (h2 : ∀ x,x<a.heap.size→S' x→S'' x):Mod S'' a c:=
 ⟨h'.os.trans h.os,h'.tape.trans h.tape,h'.output.trans h.output,Nat.le_trans h.size h'.size,
  fun x hx hn=>(h'.block x (Nat.lt_of_lt_of_le hx h.size) (fun e=>hn (h2 x hx e))).trans (h.block x hx (fun e=>hn (h1 x hx e)))⟩
theorem Mod.mono {S S':Nat→Prop} {a b:World} (h:Mod S a b) (h1 : ∀ x,x<a.heap.size→S x→S' x):Mod S' a b:=
 ⟨h.os,h.tape,h.output,h.size,fun x hx hn=>h.block x hx (fun e=>hn (h1 x hx e))⟩
theorem Mod.no {S:Nat→Prop} {a b c:World} (h:Mod NoB a b) (h':Mod S b c):Mod S a c:=h.trans h' (fun _ _ h=>h.elim) (fun _ _ h=>h)
theorem Mod.no' {S:Nat→Prop} {a b c:World} (h:Mod S a b) (h':Mod NoB b c):Mod S a c:=h.trans h' (fun _ _ h=>h) (fun _ _ h=>h.elim)
theorem Mod.tr {S:Nat→Prop} {a b c:World} (h:Mod S a b) (h':Mod S b c):Mod S a c:=h.trans h' (fun _ _ h=>h) (fun _ _ h=>h)
theorem Mod.drew (S:Nat→Prop) (w:World):Mod S w w.drew:=⟨rfl,rfl,rfl,Nat.le_refl _,fun _ _ _=>rfl⟩
theorem Mod.fresh {S S':Nat→Prop} {a b c:World} (h:Mod S a b) (h':Mod S' b c) (h2 : ∀ x,S' x→a.heap.size≤x):Mod S a c:=
 h.trans h' (fun _ _ h=>h) (fun x hx e=>by have:=h2 x e; omega)
inductive DS where
 | done
 | take (i:Nat) (r:DS)
 | all (rs:List (Nat×DS))
 | safe (is:List (Nat×Kd)) (r:DS)
def fU (P:Program) (o:Oper):Bool:=gT P o || cT o
def cO (o:Oper) (j:Nat):Bool:=o.after.any fun e=>Region.binds .any e&&Nat.beq e.on j
def cN (ops:Array Oper) (j:Nat):Option Tmp:=match ops[j]? with | some o=>o.dst | none=>none
def uX (P:Program) (ops:Array Oper) (listed:Array Bool) (is:List (Nat×Kd)):Bool:=
 (is.all fun q=>match ops[q.1]? with
  | none=>false
  | some o=>o.guard.isNone&&!bV o.op&&o.dst.isSome&&!(listed.getD q.1 true)&&(fU P o || oE q.2)
    && (is.all fun p=>Nat.beq p.1 q.1 || !(cN ops p.1==o.dst))
    && (is.all fun p=>cO o p.1 || !((o.looksAt ops).any fun t=>cN ops p.1==some t))
    && (o.after.all fun e=>!Region.binds .any e || (listed.getD e.on false || (is.any fun p=>Nat.beq p.1 e.on&&Nat.blt p.1 q.1)))
    && (is.all fun p=>Nat.blt p.1 q.1 || !cO o p.1))
 && (List.range ops.size).all fun k=>listed.getD k true || (is.any fun q=>Nat.beq q.1 k) ||
     match ops[k]? with
     | none=>false
     | some o=>(o.after.any fun e=>Region.binds .any e&&!(listed.getD e.on true)&&!(is.any fun q=>Nat.beq q.1 e.on)) || is.all fun q=>cO o q.1 || is.any fun p=>cO o p.1&&match ops[p.1]? with | some x=>cO x q.1 | none=>false
def uV (N:Nat) (ops:Array Oper) (is:List (Nat×Kd)):Bool:=is.all fun q=>match cN ops q.1 with | some d=>Nat.blt d N | none=>false
def qDC:List (Nat×Kd)→Bool
 | []=>true
 | [_]=>true
 | a :: b :: r=>Nat.blt a.1 b.1&&qDC (b :: r)
def dY (listed:Array Bool):List (Nat×Kd)→Array Bool
 | []=>listed
 | q :: r=>dY (listed.setIfInBounds q.1 true) r
def qAP (Ts:Nat→Value→World→Prop) (w:World):List (Nat×TV)→Prop→Prop
 | [],X=>X
 | (i,t) :: r,X=>Ts i t.enc w→qAP Ts w r X
def zF (P:Program) (N:Nat) (ops:Array Oper) (S:World→Prop) (LD:Addr→List Value→Prop) (Ts:Nat→Value→World→Prop) (pan:List PanicEntry→World→Prop) (w0:World) (fin:Env→World→Prop):List (Nat×Kd)→List (Nat×TV)→Env→Prop
 | [],hs,env=>∀ w,Mod NoB w0 w→S w→qAP Ts w hs (fin env w)
 | (i,κ) :: r,hs,env=>match ops[i]? with
   | none=>False
   | some o=>bif eE N o.dst then
      bif gT P o then sP P o env fun t=>zF P N ops S LD Ts pan w0 fin r hs (gZ env o.dst t)
      else bif cT o then match o.op with
       | .load T a=>match ev env a with
         | .p q=>aA q fun ad=>bif gB P T then exK (kindOf P 20 T) fun t=>LD ad t.cells∧zF P N ops S LD Ts pan w0 fin r hs (gZ env o.dst t) else False
         | _=>False
       | _=>False
      else (∀ w,Mod NoB w0 w→S w→qAP Ts w (hs.filter fun h=>cO o h.1) (rJ P o env w pan fun t w'=>bif okK κ t then Mod NoB w w'∧S w'∧Ts i t.enc w' else False))∧
       gX κ fun t=>zF P N ops S LD Ts pan w0 fin r ((i,t) :: hs) (gZ env o.dst t)
     else False
mutual
def bN (P:Program) (N:Nat) (ops:Array Oper) (S:World→Prop) (LD:Addr→List Value→Prop) (pan:List PanicEntry→World→Prop) (k:Env→World→Prop):DS→Nat→Array Bool→Env→World→Prop
 | .done,_,listed,env,w=>bif (Region.ready .any ops listed).isEmpty then k env w else False
 | .take _ _,0,_,_,_=>False
 | .take i r,f+1,listed,env,w=>
   match ops[i]? with
   | none=>False
   | some o=>bif eE N o.dst&&Region.free .any ops listed i&&(Region.ready .any ops listed).contains i then
      bif gT P o then
       oM ops.toList o env (fun env=>sP P o env fun t=>bN P N ops S LD pan k r f (listed.setIfInBounds i true) (gZ env o.dst t) w)
        (fun env=>bN P N ops S LD pan k r f (listed.setIfInBounds i true) (gZ env o.dst (.tup [])) w)
      else
       match o.op with
       | .load T a=>
         oM ops.toList o env (fun env=>match ev env a with
          | .p q=>aA q fun ad=>bif gB P T then exK (kindOf P 20 T) fun t=>LD ad t.cells∧
             bN P N ops S LD pan k r f (listed.setIfInBounds i true) (gZ env o.dst t) w else False
          | _=>False)
          (fun env=>bN P N ops S LD pan k r f (listed.setIfInBounds i true) (gZ env o.dst (.tup [])) w)
       | _=>False
     else False
 | .all _,0,_,_,_=>False
 | .safe is r,f,listed,env,w=>bif uX P ops listed is&&qDC is&&uV N ops is&&Nat.ble is.length f&&Nat.beq listed.size ops.size then
    ∃ Ts:Nat→Value→World→Prop,(∀ i v w1 w2,Mod NoB w1 w2→Ts i v w1→Ts i v w2)∧S w∧
      zF P N ops S LD Ts pan w (fun env w'=>bN P N ops S LD pan k r (f - is.length) (dY listed is) env w') is [] env
   else False
 | .all rs,f+1,listed,env,w=>bif Region.ready .any ops listed==rs.map (·.1)&&!rs.isEmpty then nU P N ops S LD pan k rs f listed env w else False
def nU (P:Program) (N:Nat) (ops:Array Oper) (S:World→Prop) (LD:Addr→List Value→Prop) (pan:List PanicEntry→World→Prop) (k:Env→World→Prop):List (Nat×DS)→Nat→Array Bool→Env→World→Prop
 | [],_,_,_,_=>True
 | (i,r) :: rs,f,listed,env,w=>
   (match ops[i]? with
   | none=>False
   | some o=>bif eE N o.dst then
      oM ops.toList o env (fun env=>rJ P o env w pan fun t w'=>bif eff P ops i&&!late ops i then S w'∧bN P N ops S LD pan k r f (listed.setIfInBounds i true) (gZ env o.dst t) w' else bN P N ops S LD pan k r f (listed.setIfInBounds i true) (gZ env o.dst t) w')
       (fun env=>bif eff P ops i&&!late ops i then S w∧bN P N ops S LD pan k r f (listed.setIfInBounds i true) (gZ env o.dst (.tup [])) w else bN P N ops S LD pan k r f (listed.setIfInBounds i true) (gZ env o.dst (.tup [])) w)
     else False)∧nU P N ops S LD pan k rs f listed env w
end
inductive Ann where
 | z
 | seq (j:Option (List (Nat×Kd))) (a b:Ann)
 | cond (a b:Ann)
 | block (j:Option (List (Nat×Kd))) (a:Ann)
 | loop (vs:List (Nat×Kd)) (a:Ann)
 | unroll (n:Nat) (a:Ann)
 | rf (hasRet:Bool) (ids:List Nat) (ks:List Kd) (a b:Ann)
 | draw (fl:Nat) (d:DS)
def aQ:List Oper→List Nat
 | []=>[]
 | o :: r=>match o.dst with | some d=>d :: aQ r | none=>aQ r
def writes:Code→List Nat
 | .region _ ops _=>aQ ops.toList
 | .seq a b=>writes a++writes b
 | .cond _ a b=>writes a++writes b
 | .block _ a=>writes a
 | .loop a=>writes a
 | _=>[]
def dK (ts:List Nat) (env:Env):Env:=ts.map (fun t=>(t,TV.bad))++env
def bH (env:Env) (vs:List (Nat×Kd)):List TV:=vs.map fun v=>look env v.1
def binds (vs:List (Nat×Kd)) (xs:List TV):Env:=List.zipWith (fun v x=>(v.1,x)) vs xs
def kinds (vs:List (Nat×Kd)):List Kd:=vs.map (·.2)
def yO (env:Env):Operand→Bool→Env
 | .tmp t,x=>(t,.b x) :: env
 | _,_=>env
def cS (l:List Oper):Bool:=l.any fun o=>bV o.op
def quiet:Code→Bool
 | .region _ ops _=>!cS ops.toList
 | .seq a b=>quiet a&&quiet b
 | .cond _ a b=>quiet a&&quiet b
 | .block _ a=>quiet a
 | .loop a=>quiet a
 | .rangeFunc _ _ _ _=>false
 | .scope a=>quiet a
 | _=>true
def unr:Nat→((List Deferred→Env→World→Prop)→List Deferred→Env→World→Prop)→List Deferred→Env→World→Prop
 | 0,_,_,_,_=>False
 | n+1,f,ds,env,w=>f (fun ds env w=>unr n f ds env w) ds env w
def oB:List Tmp→List TV→Env→Env
 | t :: ts,x :: xs,env=>oB ts xs ((t,x) :: env)
 | _,_,env=>env
abbrev mkD (D:Nat):Deferred:={target:=.collected D,args:=#[]}
def qGE (p:Nat→Prop):List Nat→Prop
 | []=>False
 | i :: r=>p i∨qGE p r
def den (P:Program) (N:Nat):Option Nat→Ann→Code→Kt→List Deferred→Env→World→Prop
 | _,_,.skip,k,ds,env,w=>k.nrm ds env w
 | _,_,.ret,k,ds,env,w=>k.ret ds env w
 | _,_,.exit id,k,ds,env,w=>k.ext id ds env w
 | r,.seq none a b,.seq x y,k,ds,env,w=>den P N r a x {k with nrm:=fun ds env w=>den P N r b y k ds env w} ds env w
 | r,.seq (some vs) a b,.seq x y,k,ds,env,w=>bif quiet x then
   ∃ J:List TV→World→Prop,den P N r a x {k with nrm:=fun _ env w=>bif eB (kinds vs) (bH env vs) then J (bH env vs) w else False} ds env w∧
     iO (kinds vs) fun xs=>∀ w,J xs w→den P N r b y k ds (binds vs xs++dK (writes x) env) w
   else False
 | r,.cond a b,.cond c x y,k,ds,env,w=>match ev env c with
   | .b t=>aH t (den P N r a x k ds (yO env c true) w) (den P N r b y k ds (yO env c false) w)
   | _=>False
 | r,.block none a,.block id x,k,ds,env,w=>den P N r a x {k with ext:=fun i ds env w=>bif Nat.beq i id then k.nrm ds env w else k.ext i ds env w} ds env w
 | r,.block (some vs) a,.block id x,k,ds,env,w=>bif quiet x then
   ∃ J:List TV→World→Prop,den P N r a x {k with
      nrm:=fun _ env w=>bif eB (kinds vs) (bH env vs) then J (bH env vs) w else False
      ext:=fun i ds env w=>bif Nat.beq i id then (bif eB (kinds vs) (bH env vs) then J (bH env vs) w else False) else k.ext i ds env w} ds env w∧
     iO (kinds vs) fun xs=>∀ w,J xs w→k.nrm ds (binds vs xs++dK (writes x) env) w
   else False
 | r,.loop vs a,.loop x,k,ds,env,w=>
   bif eB (kinds vs) (bH env vs)&&quiet x then
    ∃ (I:List TV→World→Prop) (μ:List TV→World→Nat),I (bH env vs) w∧
      iO (kinds vs) fun xs=>∀ w,I xs w→den P N r a x {k with
       nrm:=fun _ env' w'=>bif eB (kinds vs) (bH env' vs) then I (bH env' vs) w'∧μ (bH env' vs) w'<μ xs w else False}
       ds (binds vs xs++dK (writes x) env) w
   else False
 | r,.unroll n a,.loop x,k,ds,env,w=>unr n (fun nrm ds env w=>den P N r a x {k with nrm:=nrm} ds env w) ds env w
 | r,_,.region _ ops false,k,ds,env,w=>kR P N r ops.toList (fun ds c w=>k.pan ds (dK (aQ ops.toList) env) c w) ops.toList k.nrm ds env w
 | r,.draw 0 d,.region _ ops true,k,ds,env,w=>bif Region.noSelect ops&&P.follows .mixedOrders&&!cS ops.toList then
    bN P N ops (fun _=>True) (fun _ _=>False) (k.pan ds (dK (aQ ops.toList) env)) (k.nrm ds) d ops.size (Array.replicate ops.size false) env w.drew else False
 | r,.draw 1 d,.region _ ops true,k,ds,env,w=>bif Region.noSelect ops&&P.follows .mixedOrders&&!cS ops.toList then
    ∃ S:World→Prop,S w.drew∧bN P N ops S (fun ad cs=>∀ w',S w'→Rd w' ad cs) (k.pan ds (dK (aQ ops.toList) env)) (k.nrm ds) d ops.size (Array.replicate ops.size false) env w.drew else False
 | r,.draw 2 d,.region _ ops true,k,ds,env,w=>bif Region.noSelect ops&&P.follows .mixedOrders&&!cS ops.toList then
    bN P N ops (fun w'=>w'=w.drew) (fun ad cs=>Rd w.drew ad cs) (k.pan ds (dK (aQ ops.toList) env)) (k.nrm ds) d ops.size (Array.replicate ops.size false) env w.drew else False
 | none,.rf hasRet ids ks a b,.rangeFunc g ps assign body,k,ds,env,w=>
   match ev env g with
   | .v fv=>
     bif nX ks&&Nat.beq ps.size ks.length&&ps.toList.all (fun t=>Nat.blt t N)&&quiet assign&&quiet body then
      ∃ (f:FuncId) (first cap:Array Value),fv = .func (.func f) first cap∧enters P f=true∧∀ (rec:LoopState→Option Code→Obj) (D l:Nat) (w1:World),D=w.heap.size→l=D+1→w1=(w.alloc (.deferred (some []))).alloc (rec .ready none)→
        (iO ks fun xs=>∀ (w2:World) (K:Value→World→Prop),w2.heap[l]? = some (rec .ready none)→
         den P N (some l) a assign (Kt.mk (fun _ env w3=>w3.heap[l]? = some (rec .ready none)∧den P N (some l) b body (Kt.mk
             (fun _ _ w4=>w4.heap[l]? = some (rec .busy none)∧K (.bool true) (w4.putObj l (rec .ready none)))
             (fun id _ _ w4=>w4.heap[l]? = some (rec .busy none)∧K (.bool false) (w4.putObj l (rec .done (some (.exit id)))))
             (fun _ _ w4=>w4.heap[l]? = some (rec .busy none)∧K (.bool false) (w4.putObj l (rec .done (some .ret))))
             (fun _ _ _ _=>False)) [] env (w3.putObj l (rec .busy none)))
          (fun _ _ _ _=>False) (fun _ _ _=>False) (fun _ _ _ _=>False)) [] (oB ps.toList xs env) w2→fF P l (dQ xs) w2 K)→
        aD P f (first.toList++[.func (.yield l) #[] #[]]++cap.toList) w1 (k.pan (mkD D :: ds) env) fun _ w6=>
         (w6.heap[l]? = some (rec .ready none)∧k.nrm (mkD D :: ds) env (w6.putObj l (rec .exhausted none)))∨
         (bif hasRet then (w6.heap[l]? = some (rec .done (some .ret))∧k.ret (mkD D :: ds) env (w6.putObj l (rec .exhausted (some .ret)))) else False)∨
         qGE (fun id=>w6.heap[l]? = some (rec .done (some (.exit id)))∧k.ext id (mkD D :: ds) env (w6.putObj l (rec .exhausted (some (.exit id))))) ids
     else False
   | _=>False
 | _,_,_,_,_,_,_=>False
def zQ:List TV→TV
 | [x]=>x
 | xs=>.tup xs
def sB (P:Program) (env:Env) (w:World):List ResultVar→List TV→(TV→Prop)→Prop
 | [],acc,K=>K (zQ acc.reverse)
 | .tmp t :: r,acc,K=>bif (look env t).isBad then False else sB P env w r (look env t :: acc) K
 | .cell t T :: r,acc,K=>match look env t with
   | .p q=>aA q fun ad=>bif gB P T then exK (kindOf P 20 T) fun x=>Rd w ad x.cells∧sB P env w r (x :: acc) K else False
   | _=>False
def qHJ:List Deferred→World→(World→Prop)→Prop
 | [],w,K=>K w
 | d :: ds,w,K=>match d.target with
   | .collected D=>w.heap[D]? = some (.deferred (some []))∧qHJ ds (w.putObj D (.deferred none)) K
   | _=>False
def xN (R:Ending→World→Prop) (ds:List Deferred) (c:List PanicEntry) (w:World):Prop:=qHJ ds w fun w=>R (.panicked c) w
def dJ (P:Program) (f:FuncId) (args:Array Value) (u:FrameMode) (w:World) (K:FrameMode→World→Prop):Prop:=
 CallsDIn Fence.wide 0 P f args u w fun
  | .returned _,u',w'=>settle u'≠.run∧K (settle u') w'
  | .panicked c,u',w'=>raised u' c≠.run∧K (raised u' c) w'
  | .outgrown,_,_=>False
def oQ (P:Program):List Deferred→FrameMode→World→(FrameMode→World→Prop)→Prop
 | [],u,w,K=>K u w
 | d :: ds,u,w,K=>match d.target with
   | .collected D=>w.heap[D]? = some (.deferred (some []))∧oQ P ds u (w.putObj D (.deferred none)) K
   | .fn (.func f) cap=>bif enters P f then dJ P f (d.args++cap) u w fun u w=>oQ P ds u w K else False
   | _=>False
def eF (u:FrameMode) (x:Prop) (y:List PanicEntry→Prop):Prop:=match u with | .returning=>x | .panicking c=>y c | .run=>False
def jBE (P:Program) (fn:Func) (R:Ending→World→Prop) (env:Env) (u:FrameMode) (w:World):Prop:=
 eF u (sB P env w fn.results.toList [] fun t=>R (.returned t.enc) w) fun c=>R (.panicked c) w
def qZF (P:Program) (fn:Func) (R:Ending→World→Prop) (ds:List Deferred) (env:Env) (w:World):Prop:=oQ P ds .returning w (jBE P fn R env)
def jAP (P:Program) (fn:Func) (R:Ending→World→Prop):Kt where
 nrm:=qZF P fn R
 ext:=fun _ _ _ _=>False
 ret:=qZF P fn R
 pan:=fun ds env c w=>oQ P ds (.panicking c) w (jBE P fn R env)
def qUL:FrameMode→Option (Value×FrameMode)
 | .panicking ({v,recovered:=false,goexit:=false} :: older)=>some (v,.panicking ({v,recovered:=true} :: older))
 | _=>none
def zC (u:FrameMode) (next:Value→FrameMode→Prop):Prop:=match qUL u with | some p=>next p.1 p.2 | none=>next .nilIface u
def qAS:Op→Bool
 | .call {callee:=.builtin .recover,..}=>true
 | _=>false
def okS:Op→Bool
 | .store _ _ _ | .typeAssert _ _ _ _ | .panic _ | .alloc _ | .load _ _=>true
 | _=>false
structure KtS where
 nrm:FrameMode→Env→World→Prop
 ret:FrameMode→Env→World→Prop
 pan:FrameMode→List PanicEntry→World→Prop
def yP (P:Program) (N:Nat) (pan:FrameMode→List PanicEntry→World→Prop):List Oper→(FrameMode→Env→World→Prop)→FrameMode→Env→World→Prop
 | [],k,u,env,w=>k u env w
 | o :: q,k,u,env,w=>bif eE N o.dst&&o.guard.isNone then
     bif qAS o.op then zC u fun v u=>yP P N pan q k u (gZ env o.dst (.v v)) w
     else bif gT P o then sP P o env fun t=>yP P N pan q k u (gZ env o.dst t) w
     else bif okS o.op then mG P o env w (pan u) fun t w=>yP P N pan q k u (gZ env o.dst t) w else False
   else False
def fX (P:Program) (N:Nat):Code→KtS→FrameMode→Env→World→Prop
 | .skip,k,u,env,w=>k.nrm u env w
 | .ret,k,u,env,w=>k.ret u env w
 | .seq x y,k,u,env,w=>fX P N x {k with nrm:=fun u env w=>fX P N y k u env w} u env w
 | .cond c x y,k,u,env,w=>match ev env c with
   | .b t=>aH t (fX P N x k u (yO env c true) w) (fX P N y k u (yO env c false) w)
   | _=>False
 | .region _ ops false,k,u,env,w=>yP P N k.pan ops.toList k.nrm u env w
 | _,_,_,_,_=>False
def sK (P:Program) (fn:Func) (R:Ending→FrameMode→World→Prop):KtS where
 nrm:=fun u env w=>sB P env w fn.results.toList [] fun t=>R (.returned t.enc) u w
 ret:=fun u env w=>sB P env w fn.results.toList [] fun t=>R (.returned t.enc) u w
 pan:=fun u c w=>R (.panicked c) u w
def gY:Nat→List TV→Env
 | _,[]=>[]
 | i,x :: r=>(i,x) :: gY (i+1) r
theorem qDT (v:Value):(qBG v).isBad=false∧(qBG v).enc=v:=by
 unfold qBG
 split
 ·rename_i n
  by_cases h:0≤n∧n<256
  ·rw [if_pos h]
   refine ⟨rfl,?_⟩
   simp only [TV.enc]
   congr 1
   have:n.toNat<256:=by omega
   simp [UInt8.toNat_ofNat',Nat.mod_eq_of_lt this]
   omega
  ·rw [if_neg h]; exact ⟨rfl,rfl⟩
 ·rename_i n
  by_cases h:0≤n∧n<18446744073709551616
  ·rw [if_pos h]
   refine ⟨rfl,?_⟩
   simp only [TV.enc]
   congr 1
   have:n.toNat<18446744073709551616:=by omega
   simp [UInt64.toNat_ofNat',Nat.mod_eq_of_lt this]
   omega
  ·rw [if_neg h]; exact ⟨rfl,rfl⟩
 all_goals first | exact ⟨rfl,rfl⟩ | (refine ⟨rfl,?_⟩; simp [TV.enc])
mutual
theorem dG : ∀ (κ:Kd) (K:TV→Prop),exK κ K→∃ t,t.cells.length=jO κ∧t.isAgg=qBA κ∧t.isBad=false∧K t
 | .i k,K,⟨n,h⟩=>⟨_,rfl,rfl,rfl,h⟩
 | .u8,K,⟨n,h⟩=>⟨_,rfl,rfl,rfl,h⟩
 | .u64,K,⟨n,h⟩=>⟨_,rfl,rfl,rfl,h⟩
 | .b,K,⟨n,h⟩=>⟨_,rfl,rfl,rfl,h⟩
 | .s,K,⟨n,h⟩=>⟨_,rfl,rfl,rfl,h⟩
 | .p,K,⟨n,h⟩=>⟨_,rfl,rfl,rfl,h⟩
 | .sl,K,⟨n,h⟩=>⟨_,rfl,rfl,rfl,h⟩
 | .m,K,⟨n,h⟩=>⟨_,rfl,rfl,rfl,h⟩
 | .v,K,⟨n,h⟩=>⟨_,rfl,rfl,rfl,h⟩
 | .agg fs,K,h=>by
   unfold exK at h
   obtain ⟨xs,h1,h2⟩:=rU fs _ h
   exact ⟨_,by simpa [TV.cells,jO] using h1,rfl,rfl,h2⟩
 | .tup fs,K,h=>by
   unfold exK at h
   obtain ⟨xs,h1,h2⟩:=rU fs _ h
   exact ⟨_,by simp [TV.cells,jO],rfl,rfl,h2⟩
 | .la n .u64,K,h=>by
   unfold exK at h
   obtain ⟨l,h1,h2⟩:=h
   refine ⟨_,?_,rfl,rfl,h2⟩
   simp only [TV.cells,jO]
   rw [← h1]
   clear h1 h2
   induction l with
   | nil=>rfl
   | cons x r ih=>simp [bO,TV.cells,ih]
 | .la n .u8,K,h=>by
   unfold exK at h
   obtain ⟨l,h1,h2⟩:=h
   refine ⟨_,?_,rfl,rfl,h2⟩
   simp only [TV.cells,jO]
   rw [← h1]
   clear h1 h2
   induction l with
   | nil=>rfl
   | cons x r ih=>simp [bO,TV.cells,ih]
 | .la _ (.i _),_,h=>by simp [exK] at h
 | .la _ .b,_,h=>by simp [exK] at h
 | .la _ .s,_,h=>by simp [exK] at h
 | .la _ .p,_,h=>by simp [exK] at h
 | .la _ .sl,_,h=>by simp [exK] at h
 | .la _ .m,_,h=>by simp [exK] at h
 | .la _ .v,_,h=>by simp [exK] at h
 | .la _ (.agg _),_,h=>by simp [exK] at h
 | .la _ (.la _ _),_,h=>by simp [exK] at h
 | .la _ (.tup _),_,h=>by simp [exK] at h
theorem rU : ∀ (κs:List Kd) (K:List TV→Prop),qEY κs K→∃ xs,(bO xs).length=pO κs∧K xs
 | [],K,h=>⟨[],rfl,h⟩
 | k :: r,K,h=>by
   unfold qEY at h
   obtain ⟨x,h1,_,_,h2⟩:=dG k _ h
   obtain ⟨xs,h3,h4⟩:=rU r _ h2
   exact ⟨x :: xs,by simp [bO,pO,h1,h3],h4⟩
end
mutual
theorem qBM : ∀ (κ:Kd) (K:TV→Prop) (t:TV),gX κ K→okK κ t=true→K t
 | .i k,K,t,h,ho=>by cases t <;> simp [okK] at ho; subst ho; exact h _
 | .u8,K,t,h,ho=>by cases t <;> simp [okK] at ho; exact h _
 | .u64,K,t,h,ho=>by cases t <;> simp [okK] at ho; exact h _
 | .b,K,t,h,ho=>by cases t <;> simp [okK] at ho; exact h _
 | .s,K,t,h,ho=>by cases t <;> simp [okK] at ho; exact h _
 | .p,K,t,h,ho=>by cases t <;> simp [okK] at ho; exact h _
 | .sl,K,t,h,ho=>by cases t <;> simp [okK] at ho; exact h _
 | .m,K,t,h,ho=>by cases t <;> simp [okK] at ho; exact h _
 | .v,K,t,h,ho=>by cases t <;> simp [okK] at ho; exact h _
 | .agg fs,K,t,h,ho=>by
   cases t <;> simp [okK] at ho
   unfold gX at h
   exact iT fs _ _ h ho
 | .tup fs,K,t,h,ho=>by
   cases t <;> simp [okK] at ho
   unfold gX at h
   exact iT fs _ _ h ho
 | .la _ _,K,t,h,ho=>by cases t <;> simp [okK] at ho
theorem iT : ∀ (κs:List Kd) (K:List TV→Prop) (ts:List TV),iO κs K→eB κs ts=true→K ts
 | [],K,ts,h,ho=>by cases ts <;> simp [eB] at ho; exact h
 | k :: r,K,ts,h,ho=>by
   cases ts with
   | nil=>simp [eB] at ho
   | cons x xs=>
     simp [eB] at ho
     unfold iO at h
     exact iT r _ xs (qBM k _ x h ho.1) ho.2
end
def Sim (N:Nat) (env:Env) (tmps:Array Value):Prop:=
 tmps.size=N∧∀ t,(look env t).isBad=false→tmps[t]? = some (look env t).enc
theorem iX (t:Nat) (x:TV) (env:Env) (u:Nat):look ((t,x) :: env) u=if t=u then x else look env u:=by
 simp only [look]
 by_cases h:t=u
 ·subst h; simp [Nat.beq_refl]
 ·have:Nat.beq t u=false:=by
   cases hb:Nat.beq t u with
   | false=>rfl
   | true=>exact absurd (Nat.eq_of_beq_eq_true hb) h
  simp [this,h]
theorem Sim.put {N:Nat} {env:Env} {tmps:Array Value} (h:Sim N env tmps) {d:Nat} (hd:d<N) {x:TV} {v:Value} (hv:x.isBad=false→v=x.enc) :
 Sim N ((d,x) :: env) (tmps.setIfInBounds d v):=by
 refine ⟨by simpa using h.1,fun t ht=>?_⟩
 rw [iX] at ht ⊢
 by_cases e:d=t
 ·subst e
  simp only [↓reduceIte] at ht ⊢
  rw [← hv ht]
  simp [h.1,hd]
 ·simp only [e,↓reduceIte] at ht ⊢
  rw [Array.getElem?_setIfInBounds_ne e]
  exact h.2 t ht
theorem Sim.same {N:Nat} {env:Env} {tmps:Array Value} (h:Sim N env tmps) {t:Nat} {x:TV} (hx:look env t=x):Sim N ((t,x) :: env) tmps:=by
 refine ⟨h.1,fun u hu=>?_⟩
 rw [iX] at hu ⊢
 by_cases e:t=u
 ·subst e; simp only [↓reduceIte] at hu ⊢; rw [← hx] at hu ⊢; exact h.2 _ hu
 ·simp only [e,↓reduceIte] at hu ⊢; exact h.2 u hu
theorem Sim.eval {N:Nat} {env:Env} {a:Act} (h:Sim N env a.tmps) (x:Operand) (hx:(ev env x).isBad=false):a.eval x=(ev env x).enc:=by
 cases x with
 | tmp t=>simp only [ev] at hx ⊢; simp [Act.eval,h.2 t hx]
 | const v=>exact ((qDT v).2).symm
 | global g=>rfl
 | func f=>rfl
theorem w64 (n:Int):IntKind.u64.wrap n=n % 18446744073709551616:=by simp [IntKind.wrap,IntKind.bits,IntKind.signed]
theorem w8 (n:Int):IntKind.u8.wrap n=n % 256:=by simp [IntKind.wrap,IntKind.bits,IntKind.signed]
theorem qDQ (x:UInt64):x.toNat<18446744073709551616:=x.toNat_lt
theorem lt8 (x:UInt8):x.toNat<256:=x.toNat_lt
section
variable (x y:UInt64)
theorem jBB:IntKind.u64.wrap ((x.toNat:Int)+y.toNat)=((x+y).toNat:Int):=by
 rw [w64,UInt64.toNat_add]; omega
theorem jCZ:IntKind.u64.wrap ((x.toNat:Int) - y.toNat)=((x - y).toNat:Int):=by
 have:=qDQ x; have:=qDQ y
 rw [w64,UInt64.toNat_sub]; omega
theorem jEI:IntKind.u64.wrap ((x.toNat:Int)*y.toNat)=((x*y).toNat:Int):=by
 rw [w64,UInt64.toNat_mul]; simp
theorem gE:BitVec.ofInt 64 (x.toNat:Int)=x.toBitVec:=by
 apply BitVec.eq_of_toNat_eq
 have:=qDQ x
 simp [BitVec.toNat_ofInt]
theorem qM (r:BitVec 64):IntKind.u64.wrap (r.toNat:Int)=r.toNat:=by
 have:=r.isLt
 rw [w64]; omega
theorem jCH:IntKind.u64.wrap ((BitVec.ofInt 64 (x.toNat:Int) &&& BitVec.ofInt 64 (y.toNat:Int)).toNat:Int)=((x &&& y).toNat:Int):=by
 rw [qM,gE,gE]; rfl
theorem or64:IntKind.u64.wrap ((BitVec.ofInt 64 (x.toNat:Int) ||| BitVec.ofInt 64 (y.toNat:Int)).toNat:Int)=((x ||| y).toNat:Int):=by
 rw [qM,gE,gE]; rfl
theorem jAK:IntKind.u64.wrap ((BitVec.ofInt 64 (x.toNat:Int) ^^^ BitVec.ofInt 64 (y.toNat:Int)).toNat:Int)=((x ^^^ y).toNat:Int):=by
 rw [qM,gE,gE]; rfl
theorem qDZ:IntKind.u64.wrap ((BitVec.ofInt 64 (x.toNat:Int) &&& ~~~BitVec.ofInt 64 (y.toNat:Int)).toNat:Int)=((x &&& ~~~y).toNat:Int):=by
 rw [qM,gE,gE]; rfl
theorem jCL:IntKind.u64.wrap ((x.toNat:Int).tdiv y.toNat)=((x / y).toNat:Int):=by
 have:=qDQ x
 have h:x.toNat / y.toNat≤x.toNat:=Nat.div_le_self _ _
 have e:(x.toNat:Int).tdiv y.toNat=((x.toNat / y.toNat:Nat):Int):=rfl
 rw [w64,UInt64.toNat_div,e]
 generalize x.toNat / y.toNat=q at *
 clear e
 omega
theorem jBX:(x.toNat:Int).tmod y.toNat=((x % y).toNat:Int):=by
 rw [UInt64.toNat_mod]; rfl
theorem jDX:((x.toNat:Int)==y.toNat)=(x==y):=by
 rw [Bool.eq_iff_iff]; simp only [beq_iff_eq,← UInt64.toNat_inj]; omega
theorem ne64:((x.toNat:Int) != y.toNat)=(x != y):=by
 simp only [bne,jDX]
theorem qPY:decide ((x.toNat:Int)<y.toNat)=decide (x<y):=by
 rw [Bool.eq_iff_iff]; simp [UInt64.lt_iff_toNat_lt]
theorem qUI:decide ((x.toNat:Int)≤y.toNat)=decide (x≤y):=by
 rw [Bool.eq_iff_iff]; simp [UInt64.le_iff_toNat_le]
theorem jDK (c:Int):IntKind.u64.wrap ((x.toNat:Int)*2 ^ (min c.toNat 64))=((dO x c.toNat).toNat:Int):=by
 rw [w64]
 unfold dO
 by_cases h:c.toNat<64
 ·rw [if_pos h,Nat.min_eq_left (by omega)]
  rw [UInt64.toNat_shiftLeft]
  have e:(UInt64.ofNat c.toNat).toNat % 64=c.toNat:=by simp [UInt64.toNat_ofNat']; omega
  rw [e,Nat.shiftLeft_eq]
  simp
 ·rw [if_neg h,Nat.min_eq_right (by omega)]
  simp
theorem jCQ (c:Int):(x.toNat:Int).fdiv (2 ^ (min c.toNat 64))=((aM x c.toNat).toNat:Int):=by
 unfold aM
 by_cases h:c.toNat<64
 ·rw [if_pos h,Nat.min_eq_left (by omega)]
  rw [UInt64.toNat_shiftRight]
  have e:(UInt64.ofNat c.toNat).toNat % 64=c.toNat:=by simp [UInt64.toNat_ofNat']; omega
  rw [e,Nat.shiftRight_eq_div_pow]
  rw [Int.fdiv_eq_ediv_of_nonneg _ (by exact Int.le_of_lt (Int.pow_pos (by decide)))]
  simp
 ·rw [if_neg h,Nat.min_eq_right (by omega)]
  rw [Int.fdiv_eq_ediv_of_nonneg _ (by decide)]
  have:=qDQ x
  simp
  omega
theorem jCW:IntKind.u64.wrap ((BitVec.ofInt 64 (IntKind.u64.max) ^^^ BitVec.ofInt 64 (x.toNat:Int)).toNat:Int)=((~~~x).toNat:Int):=by
 rw [qM,gE]
 have:BitVec.ofInt 64 (IntKind.u64.max)=BitVec.allOnes 64:=by decide
 rw [this,BitVec.allOnes_xor]; rfl
end
section
variable (x y:UInt8)
theorem add8:IntKind.u8.wrap ((x.toNat:Int)+y.toNat)=((x+y).toNat:Int):=by
 rw [w8,UInt8.toNat_add]; omega
theorem sub8:IntKind.u8.wrap ((x.toNat:Int) - y.toNat)=((x - y).toNat:Int):=by
 have:=lt8 x; have:=lt8 y
 rw [w8,UInt8.toNat_sub]; omega
theorem mul8:IntKind.u8.wrap ((x.toNat:Int)*y.toNat)=((x*y).toNat:Int):=by
 rw [w8,UInt8.toNat_mul]; simp
theorem kF:BitVec.ofInt 8 (x.toNat:Int)=x.toBitVec:=by
 apply BitVec.eq_of_toNat_eq
 have:=lt8 x
 simp [BitVec.toNat_ofInt]
theorem vT (r:BitVec 8):IntKind.u8.wrap (r.toNat:Int)=r.toNat:=by
 have:=r.isLt
 rw [w8]; omega
theorem and8:IntKind.u8.wrap ((BitVec.ofInt 8 (x.toNat:Int) &&& BitVec.ofInt 8 (y.toNat:Int)).toNat:Int)=((x &&& y).toNat:Int):=by
 rw [vT,kF,kF]; rfl
theorem or8:IntKind.u8.wrap ((BitVec.ofInt 8 (x.toNat:Int) ||| BitVec.ofInt 8 (y.toNat:Int)).toNat:Int)=((x ||| y).toNat:Int):=by
 rw [vT,kF,kF]; rfl
theorem xor8:IntKind.u8.wrap ((BitVec.ofInt 8 (x.toNat:Int) ^^^ BitVec.ofInt 8 (y.toNat:Int)).toNat:Int)=((x ^^^ y).toNat:Int):=by
 rw [vT,kF,kF]; rfl
theorem qLF:IntKind.u8.wrap ((BitVec.ofInt 8 (x.toNat:Int) &&& ~~~BitVec.ofInt 8 (y.toNat:Int)).toNat:Int)=((x &&& ~~~y).toNat:Int):=by
 rw [vT,kF,kF]; rfl
theorem eq8:((x.toNat:Int)==y.toNat)=(x==y):=by
 rw [Bool.eq_iff_iff]; simp only [beq_iff_eq,← UInt8.toNat_inj]; omega
theorem ne8:((x.toNat:Int) != y.toNat)=(x != y):=by
 simp only [bne,eq8]
theorem jBM:decide ((x.toNat:Int)<y.toNat)=decide (x<y):=by
 rw [Bool.eq_iff_iff]; simp [UInt8.lt_iff_toNat_lt]
theorem jAW:decide ((x.toNat:Int)≤y.toNat)=decide (x≤y):=by
 rw [Bool.eq_iff_iff]; simp [UInt8.le_iff_toNat_le]
theorem shl8 (c:Int):IntKind.u8.wrap ((x.toNat:Int)*2 ^ (min c.toNat 8))=((qCF x c.toNat).toNat:Int):=by
 rw [w8]
 unfold qCF
 by_cases h:c.toNat<8
 ·rw [if_pos h,Nat.min_eq_left (by omega)]
  rw [UInt8.toNat_shiftLeft]
  have e:(UInt8.ofNat c.toNat).toNat % 8=c.toNat:=by simp [UInt8.toNat_ofNat']; omega
  rw [e,Nat.shiftLeft_eq]
  simp
 ·rw [if_neg h,Nat.min_eq_right (by omega)]
  simp
theorem shr8 (c:Int):(x.toNat:Int).fdiv (2 ^ (min c.toNat 8))=((iF x c.toNat).toNat:Int):=by
 unfold iF
 by_cases h:c.toNat<8
 ·rw [if_pos h,Nat.min_eq_left (by omega)]
  rw [UInt8.toNat_shiftRight]
  have e:(UInt8.ofNat c.toNat).toNat % 8=c.toNat:=by simp [UInt8.toNat_ofNat']; omega
  rw [e,Nat.shiftRight_eq_div_pow]
  rw [Int.fdiv_eq_ediv_of_nonneg _ (by exact Int.le_of_lt (Int.pow_pos (by decide)))]
  simp
 ·rw [if_neg h,Nat.min_eq_right (by omega)]
  rw [Int.fdiv_eq_ediv_of_nonneg _ (by decide)]
  have:=lt8 x
  simp
  omega
theorem not8:IntKind.u8.wrap ((BitVec.ofInt 8 (IntKind.u8.max) ^^^ BitVec.ofInt 8 (x.toNat:Int)).toNat:Int)=((~~~x).toNat:Int):=by
 rw [vT,kF]
 have:BitVec.ofInt 8 (IntKind.u8.max)=BitVec.allOnes 8:=by decide
 rw [this,BitVec.allOnes_xor]; rfl
end
theorem jDV (n:Int):IntKind.u8.wrap n=((pL n).toNat:Int):=by
 rw [w8]; unfold pL
 have:(n % 256).toNat<256:=by omega
 simp [UInt8.toNat_ofNat']; omega
theorem qVJ (n:Int):IntKind.u64.wrap n=((aN n).toNat:Int):=by
 rw [w64]; unfold aN
 have:(n % 18446744073709551616).toNat<18446744073709551616:=by omega
 simp [UInt64.toNat_ofNat']; omega
theorem qYX (x:UInt8):IntKind.u8.wrap (x.toNat:Int)=x.toNat:=by have:=lt8 x; rw [w8]; omega
theorem qHB (x:UInt64):IntKind.u64.wrap (x.toNat:Int)=x.toNat:=by have:=qDQ x; rw [w64]; omega
theorem qJM (x:UInt64):IntKind.u8.wrap (x.toNat:Int)=(x.toUInt8.toNat:Int):=by rw [w8,UInt64.toNat_toUInt8]; omega
theorem qNS (x:UInt8):IntKind.u64.wrap (x.toNat:Int)=(x.toUInt64.toNat:Int):=by have:=lt8 x; rw [w64,UInt8.toNat_toUInt64]; omega
theorem qUS (x:UInt8):IntKind.i64.wrap (x.toNat:Int)=x.toNat:=by
 have:=lt8 x
 simp [IntKind.wrap,IntKind.bits,IntKind.signed]; omega
theorem toL (l:List UInt8):(⟨l.toArray⟩:ByteArray).toList=l:=by
 have h : ∀ (bs:ByteArray),bs.toList=bs.data.toList:=by
  intro bs; exact ByteArray.toList_eq bs
 simp [h]
def qBX (P:Program) (s:Sem Next) (next:TV→Prop):Prop:=
 ∃ t v,(∀ w,s.run P w = .ok (.value v) w)∧(t.isBad=false→v=t.enc)∧next t
theorem qBX.of {P:Program} {s:Sem Next} {next:TV→Prop} {t:TV} (h : ∀ w,s.run P w = .ok (.value t.enc) w) (hn:next t):qBX P s next:=
 ⟨t,_,h,fun _=>rfl,hn⟩
theorem qGD {P:Program} {op:BinOp} {T:TypeId} {ox oy:Operand} {k:IntKind} {a b:Int} {next:TV→Prop} (hs:fE op=false) (h:qVU op k a b next) :
 ∃ t,(∀ w,(do eqGuard op T ox oy (.int k a) (.int k b); binOp op T (.int k a) (.int k b):Sem Value).run P w = .ok t.enc w)∧next t:=by
 cases op <;> simp only [qVU,fE] at h hs <;> first
  | exact h.elim
  | (obtain ⟨h0,h⟩:=h; exact ⟨_,fun w=>by simp [eqGuard,binOp,Op.intDiv,h0,TV.enc],h⟩)
  | exact ⟨_,fun w=>by simp [eqGuard,binOp,Op.intArith,Op.intCmp,TV.enc],h⟩
  | (exact absurd hs (by simp))
theorem qCV {P:Program} {op:BinOp} {T:TypeId} {ox oy:Operand} {a b:UInt64} {next:TV→Prop} (hs:fE op=false) (h:qHF op a b next) :
 ∃ t,(∀ w,(do eqGuard op T ox oy (.int .u64 a.toNat) (.int .u64 b.toNat); binOp op T (.int .u64 a.toNat) (.int .u64 b.toNat):Sem Value).run P w = .ok t.enc w)∧next t:=by
 cases op <;> simp only [qHF,fE] at h hs
 case add=>exact ⟨_,fun w=>by show Result.ok (Value.int .u64 (IntKind.u64.wrap ((a.toNat:Int)+(b.toNat:Int)))) w=_; rw [jBB]; rfl,h⟩
 case sub=>exact ⟨_,fun w=>by show Result.ok (Value.int .u64 (IntKind.u64.wrap ((a.toNat:Int) - (b.toNat:Int)))) w=_; rw [jCZ]; rfl,h⟩
 case mul=>exact ⟨_,fun w=>by show Result.ok (Value.int .u64 (IntKind.u64.wrap ((a.toNat:Int)*(b.toNat:Int)))) w=_; rw [jEI]; rfl,h⟩
 case quo=>
  obtain ⟨h0,h⟩:=h
  have hz : ¬ ((b.toNat:Int)=0):=by
   intro h1
   apply h0
   rw [← UInt64.toNat_inj]
   simp; omega
  refine ⟨_,fun w=>?_,h⟩
  show (if (b.toNat:Int)=0 then runtimePanic (.error "integer divide by zero") else (pure (Value.int .u64 (IntKind.u64.wrap (((a.toNat:Int)).tdiv (b.toNat:Int)))):Sem Value)).run P w=_
  rw [if_neg hz,jCL]; rfl
 case rem=>
  obtain ⟨h0,h⟩:=h
  have hz : ¬ ((b.toNat:Int)=0):=by
   intro h1
   apply h0
   rw [← UInt64.toNat_inj]
   simp; omega
  refine ⟨_,fun w=>?_,h⟩
  show (if (b.toNat:Int)=0 then runtimePanic (.error "integer divide by zero") else (pure (Value.int .u64 (((a.toNat:Int)).tmod (b.toNat:Int))):Sem Value)).run P w=_
  rw [if_neg hz,jBX]; rfl
 case and=>exact ⟨_,fun w=>by show Result.ok (Value.int .u64 (IntKind.u64.wrap ((BitVec.ofInt 64 (a.toNat:Int) &&& BitVec.ofInt 64 (b.toNat:Int)).toNat:Int))) w=_; rw [jCH]; rfl,h⟩
 case or=>exact ⟨_,fun w=>by show Result.ok (Value.int .u64 (IntKind.u64.wrap ((BitVec.ofInt 64 (a.toNat:Int) ||| BitVec.ofInt 64 (b.toNat:Int)).toNat:Int))) w=_; rw [or64]; rfl,h⟩
 case xor=>exact ⟨_,fun w=>by show Result.ok (Value.int .u64 (IntKind.u64.wrap ((BitVec.ofInt 64 (a.toNat:Int) ^^^ BitVec.ofInt 64 (b.toNat:Int)).toNat:Int))) w=_; rw [jAK]; rfl,h⟩
 case andNot=>exact ⟨_,fun w=>by show Result.ok (Value.int .u64 (IntKind.u64.wrap ((BitVec.ofInt 64 (a.toNat:Int) &&& ~~~ BitVec.ofInt 64 (b.toNat:Int)).toNat:Int))) w=_; rw [qDZ]; rfl,h⟩
 case eql=>exact ⟨_,fun w=>by show Result.ok (Value.bool ((a.toNat:Int)==(b.toNat:Int))) w=_; rw [jDX]; rfl,h⟩
 case neq=>exact ⟨_,fun w=>by show Result.ok (Value.bool ((a.toNat:Int) != (b.toNat:Int))) w=_; rw [ne64]; rfl,h⟩
 case lss=>exact ⟨_,fun w=>by show Result.ok (Value.bool (decide ((a.toNat:Int)<(b.toNat:Int)))) w=_; rw [qPY]; rfl,h⟩
 case leq=>exact ⟨_,fun w=>by show Result.ok (Value.bool (decide ((a.toNat:Int)≤(b.toNat:Int)))) w=_; rw [qUI]; rfl,h⟩
 case gtr=>exact ⟨_,fun w=>by show Result.ok (Value.bool (decide ((b.toNat:Int)<(a.toNat:Int)))) w=_; rw [qPY]; rfl,h⟩
 case geq=>exact ⟨_,fun w=>by show Result.ok (Value.bool (decide ((b.toNat:Int)≤(a.toNat:Int)))) w=_; rw [qUI]; rfl,h⟩
theorem qGO {P:Program} {op:BinOp} {T:TypeId} {ox oy:Operand} {a b:UInt8} {next:TV→Prop} (hs:fE op=false) (h:qXB op a b next) :
 ∃ t,(∀ w,(do eqGuard op T ox oy (.int .u8 a.toNat) (.int .u8 b.toNat); binOp op T (.int .u8 a.toNat) (.int .u8 b.toNat):Sem Value).run P w = .ok t.enc w)∧next t:=by
 cases op <;> simp only [qXB,fE] at h hs
 case add=>exact ⟨_,fun w=>by show Result.ok (Value.int .u8 (IntKind.u8.wrap ((a.toNat:Int)+(b.toNat:Int)))) w=_; rw [add8]; rfl,h⟩
 case sub=>exact ⟨_,fun w=>by show Result.ok (Value.int .u8 (IntKind.u8.wrap ((a.toNat:Int) - (b.toNat:Int)))) w=_; rw [sub8]; rfl,h⟩
 case mul=>exact ⟨_,fun w=>by show Result.ok (Value.int .u8 (IntKind.u8.wrap ((a.toNat:Int)*(b.toNat:Int)))) w=_; rw [mul8]; rfl,h⟩
 case and=>exact ⟨_,fun w=>by show Result.ok (Value.int .u8 (IntKind.u8.wrap ((BitVec.ofInt 8 (a.toNat:Int) &&& BitVec.ofInt 8 (b.toNat:Int)).toNat:Int))) w=_; rw [and8]; rfl,h⟩
 case or=>exact ⟨_,fun w=>by show Result.ok (Value.int .u8 (IntKind.u8.wrap ((BitVec.ofInt 8 (a.toNat:Int) ||| BitVec.ofInt 8 (b.toNat:Int)).toNat:Int))) w=_; rw [or8]; rfl,h⟩
 case xor=>exact ⟨_,fun w=>by show Result.ok (Value.int .u8 (IntKind.u8.wrap ((BitVec.ofInt 8 (a.toNat:Int) ^^^ BitVec.ofInt 8 (b.toNat:Int)).toNat:Int))) w=_; rw [xor8]; rfl,h⟩
 case andNot=>exact ⟨_,fun w=>by show Result.ok (Value.int .u8 (IntKind.u8.wrap ((BitVec.ofInt 8 (a.toNat:Int) &&& ~~~ BitVec.ofInt 8 (b.toNat:Int)).toNat:Int))) w=_; rw [qLF]; rfl,h⟩
 case eql=>exact ⟨_,fun w=>by show Result.ok (Value.bool ((a.toNat:Int)==(b.toNat:Int))) w=_; rw [eq8]; rfl,h⟩
 case neq=>exact ⟨_,fun w=>by show Result.ok (Value.bool ((a.toNat:Int) != (b.toNat:Int))) w=_; rw [ne8]; rfl,h⟩
 case lss=>exact ⟨_,fun w=>by show Result.ok (Value.bool (decide ((a.toNat:Int)<(b.toNat:Int)))) w=_; rw [jBM]; rfl,h⟩
 case leq=>exact ⟨_,fun w=>by show Result.ok (Value.bool (decide ((a.toNat:Int)≤(b.toNat:Int)))) w=_; rw [jAW]; rfl,h⟩
 case gtr=>exact ⟨_,fun w=>by show Result.ok (Value.bool (decide ((b.toNat:Int)<(a.toNat:Int)))) w=_; rw [jBM]; rfl,h⟩
 case geq=>exact ⟨_,fun w=>by show Result.ok (Value.bool (decide ((b.toNat:Int)≤(a.toNat:Int)))) w=_; rw [jAW]; rfl,h⟩
theorem qEN {P:Program} {op:BinOp} {T:TypeId} {ox oy:Operand} {a b:List UInt8} {next:TV→Prop} (h:qXY op a b next) :
 ∃ t,(∀ w,(do eqGuard op T ox oy (.string ⟨a.toArray⟩) (.string ⟨b.toArray⟩); binOp op T (.string ⟨a.toArray⟩) (.string ⟨b.toArray⟩):Sem Value).run P w = .ok t.enc w)∧next t:=by
 cases op <;> simp only [qXY] at h <;> first
  | exact h.elim
  | exact ⟨_,fun w=>by simp [eqGuard,binOp,Op.stringOp,toL,TV.enc],h⟩
  | (obtain ⟨h0,h⟩:=h
     refine ⟨_,fun w=>?_,h⟩
     have h1 : ¬ ((9223372036854775807:Int)<((ByteArray.mk a.toArray).size+(ByteArray.mk b.toArray).size:Nat)):=by
      have e1:(ByteArray.mk a.toArray).size=a.length:=by simp [ByteArray.size]
      have e2:(ByteArray.mk b.toArray).size=b.length:=by simp [ByteArray.size]
      rw [e1,e2]; omega
     have e3:(ByteArray.mk a.toArray++ByteArray.mk b.toArray)=ByteArray.mk (a++b).toArray:=by
      apply ByteArray.ext
      simp
     simp [eqGuard,binOp,Op.stringOp,TV.enc]
     simp at h1
     simp [e3]
     omega)
theorem qJA {P:Program} {op:BinOp} {T:TypeId} {ox oy:Operand} {x:TV} {yk:IntKind} {c:Int} {next:TV→Prop} (hs:fE op=true) (h:shK op x c next) :
 ∃ t,(∀ w,(do eqGuard op T ox oy x.enc (.int yk c); binOp op T x.enc (.int yk c):Sem Value).run P w = .ok t.enc w)∧next t:=by
 cases op <;> simp only [fE,Bool.false_eq_true] at hs
 all_goals
  cases x <;> simp only [shK] at h <;> first
   | exact h.elim
   | skip
 all_goals
  obtain ⟨h0,h⟩:=h
  have hn : ¬ c<0:=by omega
  refine ⟨_,fun w=>?_,h⟩
  first
   | (simp [eqGuard,binOp,Op.shift,hn,TV.enc]; done)
   | (simp only [TV.enc,← jDK,← jCQ,← shl8,← shr8]; simp [eqGuard,binOp,Op.shift,hn,IntKind.bits])
theorem qBE {x:TV} {c:Int} (h:x.num=some c) : ∃ k,x.enc = .int k c:=by
 cases x <;> simp [TV.num] at h <;> subst h <;> exact ⟨_,rfl⟩
theorem vY {x:TV} {c:Int} (h:x.num=some c):x.isBad=false:=by
 cases x <;> simp [TV.num] at h <;> rfl
theorem qHI {P:Program} {op:BinOp} {T:TypeId} {ox oy:Operand} {x y:TV} {κ:Kd} {next:TV→Prop} (h:qUZ P op T ox oy x y κ next) :
 x.isBad=false∧y.isBad=false∧∃ t,(∀ w,(do eqGuard op T ox oy x.enc y.enc; binOp op T x.enc y.enc:Sem Value).run P w = .ok t.enc w)∧next t:=by
 unfold qUZ at h
 by_cases hs:fE op=true
 ·rw [if_pos hs] at h
  cases hy:y.num with
  | none=>simp [hy] at h
  | some c=>
    simp only [hy] at h
    obtain ⟨k,hk⟩:=qBE hy
    refine ⟨?_,vY hy,?_⟩
    ·cases x <;> first | rfl | (exfalso; revert h; cases op <;> simp [shK])
    ·rw [hk]; exact qJA hs h
 ·have hs':fE op=false:=by simpa using hs
  rw [if_neg hs] at h
  split at h
  ·rename_i k a k' b
   cases hbt:qIP op with
   | true=>
     simp only [hbt,cond_true] at h
     obtain ⟨v,hv,h⟩:=h
     obtain ⟨t,_,_,_,ht,hn⟩:=dG _ _ h
     subst ht
     exact ⟨rfl,rfl,t,hv,hn⟩
   | false=>
     simp only [hbt,cond_false] at h
     by_cases hk:k=k'
     ·subst hk; simp only [↓reduceIte] at h
      exact ⟨rfl,rfl,qGD hs' h⟩
     ·simp [hk] at h
  ·exact ⟨rfl,rfl,qGO hs' h⟩
  ·exact ⟨rfl,rfl,qCV hs' h⟩
  ·exact ⟨rfl,rfl,qEN h⟩
  ·exact h.elim
  ·exact h.elim
  ·rename_i h1 h2
   obtain ⟨v,hv,h⟩:=h
   obtain ⟨t,_,_,_,ht,hn⟩:=dG _ _ h
   subst ht
   refine ⟨?_,?_,t,hv,hn⟩
   ·cases x <;> first | rfl | (exfalso; simp_all; done)
   ·cases y <;> first | rfl | (exfalso; simp_all; done)
theorem qDS {P:Program} {s d:TypeId} {ts td:TypeDesc} {x:TV} {next:TV→Prop} (h1:P.underlying s=some ts) (h2:P.underlying d=some td) (h:zV (some td) x next) :
 x.isBad=false∧∃ t,(∀ w,(convert s d x.enc).run P w = .ok t.enc w)∧next t:=by
 have hu : ∀ w,(underlying s).run P w = .ok ts w:=fun w=>run_underlying h1 w
 have hd : ∀ w,(underlying d).run P w = .ok td w:=fun w=>run_underlying h2 w
 have hi : ∀ (k k':IntKind) (n:Int) (w:World),td = .int k→(convert s d (.int k' n)).run P w = .ok (.int k (k.wrap n)) w:=by
  intro k k' n w e
  subst e
  simp [convert,hu,hd,Conv.intToInt]
 have go : ∀ (k k':IntKind) (n m:Int) (t:TV),td = .int k→x.enc = .int k' n→t.enc = .int k m→k.wrap n=m→x.isBad=false→next t→
  x.isBad=false∧∃ t,(∀ w,(convert s d x.enc).run P w = .ok t.enc w)∧next t:=by
  intro k k' n m t e1 e2 e3 e4 hb hn
  exact ⟨hb,t,fun w=>by rw [e2,hi k k' n w e1,e3,e4],hn⟩
 unfold zV at h
 split at h
 all_goals first
  | exact h.elim
  | (rename_i hx; simp only [Option.some.injEq] at hx; first
     | exact go _ _ _ _ _ hx rfl rfl (jDV _) rfl h
     | exact go _ _ _ _ _ hx rfl rfl (qYX _) rfl h
     | exact go _ _ _ _ _ hx rfl rfl (qJM _) rfl h
     | exact go _ _ _ _ _ hx rfl rfl (qVJ _) rfl h
     | exact go _ _ _ _ _ hx rfl rfl (qNS _) rfl h
     | exact go _ _ _ _ _ hx rfl rfl (qHB _) rfl h
     | exact go _ _ _ _ _ hx rfl rfl (qUS _) rfl h
     | exact go _ _ _ _ _ hx rfl rfl rfl rfl h
     | (subst hx; refine ⟨rfl,_,fun w=>?_,h⟩; simp [convert,hu,hd,TV.enc]; done))
  | (rename_i hx _; simp only [Option.some.injEq] at hx; first
     | exact go _ _ _ _ _ hx rfl rfl rfl rfl h)
  | (rename_i hx _ _; simp only [Option.some.injEq] at hx; first
     | exact go _ _ _ _ _ hx rfl rfl rfl rfl h)
theorem lH : ∀ (fs:List TV) (o:Nat) (ps:List Pt) (i:Nat) (y:TV),fitsAt o ps fs=true→fs[i]? = some y→
 ∃ q pre post,ps[i]? = some q∧bO fs=pre++y.cells++post∧o+pre.length=q.off∧y.cells.length=q.size∧y.isAgg=q.ag∧y.isBad=false
 | [],o,ps,i,y,h,hi=>by simp at hi
 | x :: xs,o,ps,i,y,h,hi=>by
   cases ps with
   | nil=>simp [fitsAt] at h
   | cons q r=>
     simp only [fitsAt,Bool.and_eq_true,beq_iff_eq,Nat.beq_eq] at h
     obtain ⟨⟨⟨⟨h1,h2⟩,h3⟩,h4⟩,h5⟩:=h
     cases i with
     | zero=>
       simp at hi; subst hi
       exact ⟨q,[],bO xs,rfl,by simp [bO],by simp [h1],h2.symm,h3,by simpa using h4⟩
     | succ i=>
       simp at hi
       obtain ⟨q',pre,post,e1,e2,e3,e4,e5,e6⟩:=lH xs (o+q.size) r i y h5 hi
       refine ⟨q',x.cells++pre,post,by simpa using e1,by simp [bO,e2],?_,e4,e5,e6⟩
       simp only [List.length_append]; omega
theorem nP {y:TV} (h1:y.isAgg=false) (h2:y.isBad=false):y.cells=[y.enc]:=by
 cases y <;> simp_all [TV.isAgg,TV.isBad,TV.cells,TV.enc]
theorem qBD {y:TV} (h1:y.isAgg=true):y.enc = .agg y.cells.toArray:=by
 cases y <;> simp_all [TV.isAgg,TV.cells,TV.enc]
section
variable {P:Program}
theorem run_sizeOf {T:TypeId} {i:TypeInfo} (h:P.info? T=some i) (w:World):(sizeOf T).run P w = .ok i.size w:=by
 simp [sizeOf,typeInfo,h]
theorem qDL {T:TypeId} {i:TypeInfo} (h:P.info? T=some i):bF P T=i.size:=by simp [bF,h]
theorem sQ {T:TypeId} (h:(P.info? T).isSome=true):P.info? T=some ((P.info? T).get h):=by simp
theorem cZ {T:TypeId} (h:(P.info? T).isSome=true) (w:World):(sizeOf T).run P w = .ok (bF P T) w:=by
 rw [run_sizeOf (sQ h),qDL (sQ h)]
theorem tG {T:TypeId} {d:TypeDesc} (h:P.underlying T=some d) (w:World):(isAgg T).run P w = .ok (mF P T) w:=by
 unfold mF
 cases d <;> simp [isAgg,run_underlying h,h]
theorem vC {T:TypeId} {d:TypeDesc} (hu:P.underlying T=some d) (hi:(P.info? T).isSome=true) {y:TV} {pre post:List Value} (hb:y.isBad=false)
 (hag:y.isAgg=mF P T) (hs:y.cells.length=bF P T) (w:World) :
 (part T (pre++y.cells++post).toArray pre.length).run P w = .ok y.enc w:=by
 unfold part
 simp only [Sem.run_bind,tG hu,Result.andThen_ok]
 cases hA:mF P T with
 | true=>
   rw [hA] at hag
   simp only [↓reduceIte,Sem.run_bind,cZ hi,Result.andThen_ok,Sem.run_pure]
   rw [qBD hag]
   congr 2
   apply Array.ext'
   simp [← hs]
 | false=>
   rw [hA] at hag
   rw [nP hag hb]
   simp
end
theorem yQ {env:Env} {x:Option Operand} {n:Option Int} (h:oP env x=some n) :
 (x=none∧n=none)∨∃ o c,x=some o∧n=some c∧(ev env o).num=some c:=by
 unfold oP at h
 split at h
 ·exact .inl ⟨rfl,by simpa using h.symm⟩
 ·rename_i o
  split at h
  ·rename_i c hc
   exact .inr ⟨o,c,rfl,by simpa using h.symm,hc⟩
  ·simp at h
theorem mJ {P:Program} {isS:Bool} {len cap:Nat} {lo hi mx:Option Int} {kl kh km:IntKind} {K:Nat→Nat→Nat→Prop} (h:mH len cap lo hi mx K) :
 ∃ l h' m,(∀ w,(Instr.sliceBounds isS len cap (lo.map (Value.int kl)) (hi.map (Value.int kh)) (mx.map (Value.int km))).run P w = .ok (l,h',m) w)∧K l h' m:=by
 cases mx with
 | none=>
   cases hi with
   | none=>
     cases lo with
     | none=>exact ⟨_,_,_,fun w=>by simp [Instr.sliceBounds],h⟩
     | some l=>
       obtain ⟨⟨h1,h2⟩,h⟩:=h
       exact ⟨_,_,_,fun w=>by simp [Instr.sliceBounds,Instr.sliceBound,asIntOf,h1,h2],h⟩
   | some hh=>
     cases lo with
     | none=>
       obtain ⟨⟨h1,h2⟩,h⟩:=h
       exact ⟨_,_,_,fun w=>by simp [Instr.sliceBounds,Instr.sliceBound,asIntOf,h1,h2],h⟩
     | some l=>
       obtain ⟨⟨h1,h2,h3⟩,h⟩:=h
       have e1:0≤hh:=by omega
       have e2:l≤max hh 0:=by omega
       exact ⟨_,_,_,fun w=>by simp [Instr.sliceBounds,Instr.sliceBound,asIntOf,h1,e2,h3,e1],h⟩
 | some m=>
   cases hi with
   | none=>exact h.elim
   | some hh=>
     cases lo with
     | none=>
       obtain ⟨⟨h1,h2,h3⟩,h⟩:=h
       have e1:0≤m:=by omega
       have e2:hh≤max m 0:=by omega
       exact ⟨_,_,_,fun w=>by simp [Instr.sliceBounds,Instr.sliceBound,asIntOf,h1,e2,h3,e1],h⟩
     | some l=>
       obtain ⟨⟨h1,h2,h3,h4⟩,h⟩:=h
       have e1:0≤m:=by omega
       have e0:0≤hh:=by omega
       have e2:hh≤max m 0:=by omega
       have e3:l≤max hh 0:=by omega
       exact ⟨_,_,_,fun w=>by simp [Instr.sliceBounds,Instr.sliceBound,asIntOf,h1,e2,e3,h4,e1,e0],h⟩
theorem wA (cs:List Value) : ∀ (i:Nat) (pre old post:List Value) (k:Nat),old.length=cs.length→k+i=pre.length→
 (cs.zipIdx i).foldl (fun a (cj:Value×Nat)=>a.setIfInBounds (k+cj.2) cj.1) (pre++old++post).toArray=(pre++cs++post).toArray:=by
 induction cs with
 | nil=>intro i pre old post k h _; have:old=[]:=List.eq_nil_of_length_eq_zero (by simpa using h); subst this; rfl
 | cons c cs ih=>
   intro i pre old post k h hk
   cases old with
   | nil=>simp at h
   | cons o old=>
     simp only [List.zipIdx_cons,List.foldl_cons]
     have e:((pre++o :: old++post).toArray).setIfInBounds (k+i) c=((pre++[c])++old++post).toArray:=by
      rw [hk]
      apply Array.ext'
      simp
     rw [e,ih (i+1) (pre++[c]) old post k (by simpa using h) (by simp; omega)]
     simp
theorem rC : ∀ (fs:List TV) (i:Nat) (x y:TV) (pre post:List Value),fs[i]? = some y→bO fs=pre++y.cells++post→pre.length=(bO (fs.take i)).length→
 bO (fs.set i x)=pre++x.cells++post
 | [],i,x,y,pre,post,h,_,_=>by simp at h
 | z :: zs,0,x,y,pre,post,h,he,hl=>by
   simp at h; subst h
   simp [bO] at hl
   subst hl
   simp [bO] at he ⊢
   exact he
 | z :: zs,i+1,x,y,pre,post,h,he,hl=>by
   simp at h
   simp only [List.take_succ_cons,bO,List.length_append] at hl
   simp only [bO,List.set_cons_succ] at he ⊢
   have hz:pre.take z.cells.length=z.cells:=by
    have:=congrArg (List.take z.cells.length) he
    simp [List.take_append_of_le_length,show z.cells.length≤pre.length by omega] at this
    exact this.symm
   obtain ⟨p2,rfl⟩ : ∃ p2,pre=z.cells++p2:=⟨pre.drop z.cells.length,(List.take_append_drop z.cells.length pre).symm.trans (by rw [hz])⟩
   simp only [List.append_assoc,List.append_cancel_left_eq] at he ⊢
   have:=rC zs i x y p2 post h (by simpa using he) (by simp at hl; omega)
   simpa using this
theorem sO : ∀ (fs:List TV) (o:Nat) (ps:List Pt) (i:Nat) (q:Pt),fitsAt o ps fs=true→ps[i]? = some q→q.off=o+(bO (fs.take i)).length
 | [],o,ps,i,q,h,hi=>by cases ps <;> simp_all [fitsAt]
 | x :: xs,o,ps,i,q,h,hi=>by
   cases ps with
   | nil=>simp at hi
   | cons p r=>
     simp only [fitsAt,Bool.and_eq_true,beq_iff_eq,Nat.beq_eq] at h
     obtain ⟨⟨⟨⟨h1,h2⟩,h3⟩,h4⟩,h5⟩:=h
     cases i with
     | zero=>simp at hi; subst hi; simp [bO,h1]
     | succ i=>
       simp at hi
       have:=sO xs (o+p.size) r i q h5 hi
       simp only [List.take_succ_cons,bO,List.length_append]; omega
theorem qIK {x:TV} (hb:x.isBad=false) (hs : ∀ v,x = .v v→v.oneCell'=true):x.enc.cells=x.cells.toArray:=by
 cases x with
 | v y=>
   have:=hs y rfl
   cases y <;> simp_all [Value.oneCell',TV.enc,TV.cells,Value.cells]
 | bad=>simp [TV.isBad] at hb
 | _=>simp [TV.enc,TV.cells,Value.cells]
theorem oD : ∀ (ts:List TV) (K:Prop),tO ts K→(∀ t∈ts,∀ v,t = .v v→v.oneCell'=true)∧K
 | [],K,h=>⟨by simp,h⟩
 | t :: r,K,h=>by
   cases t with
   | v y=>
     obtain ⟨h1,h2⟩:=h
     obtain ⟨h3,h4⟩:=oD r K h2
     refine ⟨fun t ht v hv=>?_,h4⟩
     cases ht with
     | head=>cases hv; exact h1
     | tail _ ht=>exact h3 t ht v hv
   | _=>
     obtain ⟨h3,h4⟩:=oD r K h
     refine ⟨fun t ht v hv=>?_,h4⟩
     cases ht with
     | head=>cases hv
     | tail _ ht=>exact h3 t ht v hv
theorem mP {N:Nat} {env:Env} {a:Act} (hsim:Sim N env a.tmps) {ps:List Pt} {place:Nat→Option (Nat×Nat)} (hp : ∀ i q,ps[i]? = some q→place i=some (q.off,q.size)) :
 ∀ (parts:List (Nat×Operand)) (fs out:List TV),fitsAt 0 ps fs=true→jE ps env fs parts=some out→(∀ t∈parts.map (fun q=>ev env q.2),∀ v,t = .v v→v.oneCell'=true)→
   Instr.fill place (bO fs).toArray (parts.map fun q=>(q.1,a.eval q.2))=some (bO out).toArray∧fitsAt 0 ps out=true
 | [],fs,out,hf,hs,_=>by
   simp only [jE,Option.some.injEq] at hs
   subst hs
   exact ⟨rfl,hf⟩
 | (i,x) :: r,fs,out,hf,hs,hso=>by
   simp only [jE] at hs
   cases hc:(Nat.blt i fs.length&&fitsAt 0 ps (fs.set i (ev env x))) with
   | false=>simp [hc] at hs
   | true=>
     simp only [hc,cond_true] at hs
     simp only [Bool.and_eq_true,Nat.blt_eq] at hc
     obtain ⟨hlt,hfit⟩:=hc
     have hy:(fs.set i (ev env x))[i]? = some (ev env x):=by simp [hlt]
     obtain ⟨q,pre2,post2,e1,e2,e3,e4,e5,e6⟩:=lH _ _ _ _ _ hfit hy
     obtain ⟨y,hyo⟩ : ∃ y,fs[i]? = some y:=⟨_,List.getElem?_eq_getElem hlt⟩
     obtain ⟨q',pre,post,f1,f2,f3,f4,f5,f6⟩:=lH _ _ _ _ _ hf hyo
     rw [e1] at f1
     cases f1
     have hev:=hsim.eval x e6
     have hcell:(a.eval x).cells=(ev env x).cells.toArray:=by
      rw [hev]; exact qIK e6 (fun v hv=>hso _ (by simp) v hv)
     have htake:=sO fs 0 ps i q hf e1
     have hset:=rC fs i (ev env x) y pre post hyo f2 (by omega)
     have ih:=mP hsim hp r (fs.set i (ev env x)) out hfit hs (fun t ht v hv=>hso t (by simp at ht ⊢; exact .inr ht) v hv)
     refine ⟨?_,ih.2⟩
     simp only [List.map_cons,Instr.fill,hp i q e1,hcell,List.size_toArray,e4]
     simp only [ne_eq,not_true,decide_false,Bool.false_or]
     have hle : ¬ (q.off+q.size > (bO fs).length):=by
      have:(bO fs).length=pre.length+y.cells.length+post.length:=by rw [f2]; simp [Nat.add_assoc]
      omega
     simp only [hle,decide_false,Bool.false_eq_true,↓reduceIte]
     have hfold:=wA (ev env x).cells 0 pre y.cells post pre.length (by omega) (by omega)
     rw [f2]
     have hoff:q.off=pre.length:=by omega
     rw [hoff]
     have e9:((ev env x).cells.toArray.zipIdx.foldl (fun cs (x:Value×Nat)=>cs.setIfInBounds (pre.length+x.2) x.1) (pre++y.cells++post).toArray)=(pre++(ev env x).cells++post).toArray:=by
      rw [← Array.foldl_toList]
      simpa using hfold
     rw [e9,← hset]
     exact ih.1
section
variable {P:Program} {N:Nat} {env:Env} {a:Act} {next:TV→Prop}
theorem uJ {T:TypeId} (h:okT P T=true):(P.info? T).isSome=true∧(P.underlying T).isSome=true:=by simpa [okT] using h
theorem cB {α:Type} {o:Option α} {K:α→Prop} (h:aA o K) : ∃ x,o=some x∧K x:=by
 cases o with
 | none=>exact h.elim
 | some x=>exact ⟨x,rfl,h⟩
theorem Sim.is (h:Sim N env a.tmps) {x:Operand} {t:TV} (hx:ev env x=t) (hb:t.isBad=false):a.eval x=t.enc:=by
 subst hx; exact h.eval x hb
theorem Sim.numIs (h:Sim N env a.tmps) {x:Operand} {c:Int} (hx:(ev env x).num=some c) : ∃ k,a.eval x = .int k c:=by
 obtain ⟨k,hk⟩:=qBE hx
 exact ⟨k,by rw [h.eval x (vY hx),hk]⟩
theorem qJE {k:IntKind} {n:Int} {len:Nat} {q:Option Addr} {T e:TypeId} (hu:P.underlying T=some (.slice e)) (hi:(P.info? e).isSome=true) {cap:Nat}
 (h:qPK n len q (bF P e) next) : ∃ t,(∀ w,(Instr.indexAt T (.slice q len cap) (.int k n)).run P w = .ok t.enc w)∧next t:=by
 obtain ⟨⟨h1,h2⟩,h⟩:=h
 obtain ⟨ad,rfl,h⟩:=cB h
 exact ⟨_,fun w=>by simp [Instr.indexAt,asIntOf,run_underlying hu,h1,h2,cZ hi,TV.enc],h⟩
theorem qHR {k:IntKind} {n:Int} {len:Nat} {q:Option Addr} {T e:TypeId} (hu:P.underlying T=some (.array len e)) (hi:(P.info? e).isSome=true)
 (h:qPK n len q (bF P e) next) : ∃ t,(∀ w,(Instr.indexAt T (.pointer q) (.int k n)).run P w = .ok t.enc w)∧next t:=by
 obtain ⟨⟨h1,h2⟩,h⟩:=h
 obtain ⟨ad,rfl,h⟩:=cB h
 exact ⟨_,fun w=>by simp [Instr.indexAt,asIntOf,run_underlying hu,h1,h2,cZ hi,TV.enc,Instr.sureAddr],h⟩
theorem bB {s:Sem Value} {t:TV} (h : ∀ w,s.run P w = .ok t.enc w) (hn:next t):qBX P (do let x ← s; pure (Next.value x):Sem Next) next:=
 .of (fun w=>by simp [h w]) hn
mutual
theorem nK : ∀ (κ:Kd) (l:List Value) (x:TV) (r:List Value),zeroOf κ l=some (x,r)→l=x.cells++r
 | .i k,l,x,r,h=>by
   unfold zeroOf at h
   split at h <;> (try split at h) <;> simp_all [TV.cells]
   all_goals (obtain ⟨h1,_⟩:=h; rw [← h1]; simp [TV.cells]; try rfl)
 | .u8,l,x,r,h=>by
   unfold zeroOf at h
   split at h <;> (try split at h) <;> simp_all [TV.cells]
   all_goals (obtain ⟨h1,_⟩:=h; rw [← h1]; simp [TV.cells]; try rfl)
 | .u64,l,x,r,h=>by
   unfold zeroOf at h
   split at h <;> (try split at h) <;> simp_all [TV.cells]
   all_goals (obtain ⟨h1,_⟩:=h; rw [← h1]; simp [TV.cells]; try rfl)
 | .b,l,x,r,h=>by
   unfold zeroOf at h
   split at h <;> (try split at h) <;> simp_all [TV.cells]
   all_goals (obtain ⟨h1,_⟩:=h; rw [← h1]; simp [TV.cells]; try rfl)
 | .s,l,x,r,h=>by
   unfold zeroOf at h
   split at h <;> (try split at h) <;> simp_all [TV.cells]
   all_goals (obtain ⟨h1,_⟩:=h; rw [← h1]; simp [TV.cells]; try rfl)
 | .p,l,x,r,h=>by
   unfold zeroOf at h
   split at h <;> (try split at h) <;> simp_all [TV.cells]
   all_goals (obtain ⟨h1,_⟩:=h; rw [← h1]; simp [TV.cells]; try rfl)
 | .sl,l,x,r,h=>by
   unfold zeroOf at h
   split at h <;> (try split at h) <;> simp_all [TV.cells]
   all_goals (obtain ⟨h1,_⟩:=h; rw [← h1]; simp [TV.cells]; try rfl)
 | .m,l,x,r,h=>by
   unfold zeroOf at h
   split at h <;> (try split at h) <;> simp_all [TV.cells]
   all_goals (obtain ⟨h1,_⟩:=h; rw [← h1]; simp [TV.cells]; try rfl)
 | .v,l,x,r,h=>by
   unfold zeroOf at h
   split at h <;> (try split at h) <;> simp_all [TV.cells]
   all_goals (obtain ⟨h1,_⟩:=h; rw [← h1]; simp [TV.cells]; try rfl)
 | .agg fs,l,x,r,h=>by
   unfold zeroOf at h
   cases hz:jV fs l with
   | none=>simp [hz] at h
   | some q=>
     obtain ⟨xs,r'⟩:=q
     simp [hz] at h
     obtain ⟨rfl,rfl⟩:=h
     exact mC fs l xs r' hz
 | .la _ _,l,x,r,h=>by simp [zeroOf] at h
 | .tup _,l,x,r,h=>by simp [zeroOf] at h
theorem mC : ∀ (κs:List Kd) (l:List Value) (xs:List TV) (r:List Value),jV κs l=some (xs,r)→l=bO xs++r
 | [],l,xs,r,h=>by simp [jV] at h; obtain ⟨rfl,rfl⟩:=h; rfl
 | k :: ks,l,xs,r,h=>by
   unfold jV at h
   cases hz:zeroOf k l with
   | none=>simp [hz] at h
   | some q=>
     obtain ⟨x,r1⟩:=q
     simp only [hz] at h
     cases hzs:jV ks r1 with
     | none=>simp [hzs] at h
     | some q'=>
       obtain ⟨ys,r2⟩:=q'
       simp [hzs] at h
       obtain ⟨rfl,rfl⟩:=h
       rw [nK k l x r1 hz,mC ks r1 ys r2 hzs]
       simp [bO]
end
theorem xY {T:TypeId} {x:TV} (h:zI P T=some x) : ∃ z,(∀ w,(zeroValue T).run P w = .ok z w)∧z.cells.toList=x.cells:=by
 unfold zI at h
 cases hi:P.info? T with
 | none=>simp [hi] at h
 | some i=>
   simp only [hi] at h
   cases hz:i.zero with
   | none=>simp [hz] at h
   | some z=>
     simp only [hz] at h
     refine ⟨z,fun w=>by simp [zeroValue,typeInfo,hi,hz],?_⟩
     split at h
     ·rename_i y hy
      simp at h; subst h
      have:=nK _ _ _ _ hy
      simpa using this
     ·simp at h
theorem yI (hsim:Sim N env a.tmps) {T:TypeId} {parts:Array (Nat×Operand)} (h:zA P T parts env next) :
 ∃ t,(∀ w,(Instr.build T (parts.map fun (i,x)=>(i,a.eval x))).run P w = .ok t.enc w)∧next t:=by
 unfold zA at h
 split at h
 ·rename_i zs hz
  cases hps:partsOf P T with
  | none=>simp [hps] at h
  | some ps=>
    simp only [hps] at h
    cases hf:fitsAt 0 ps zs with
    | false=>simp [hf] at h
    | true=>
      simp only [hf,cond_true] at h
      cases hs:jE ps env zs parts.toList with
      | none=>simp [hs] at h
      | some fs=>
        simp only [hs] at h
        obtain ⟨hso,h⟩:=oD _ _ h
        obtain ⟨z,hzr,hzc⟩:=xY hz
        have hzc':z.cells=(bO zs).toArray:=by
         apply Array.ext'
         rw [hzc]; rfl
        refine ⟨_,fun w=>?_,h⟩
        unfold partsOf at hps
        split at hps
        ·rename_i fields hu
         cases hall:(fields.toList.all fun f=>okT P f.type) with
         | false=>simp [hall] at hps
         | true=>
           simp only [hall,cond_true,Option.some.injEq] at hps
           subst hps
           have hm : ∀ w,(fields.mapM (fun f=>do pure (f.offset,← sizeOf f.type)):Sem (Array (Nat×Nat))).run P w = .ok (fields.map fun f=>(f.offset,bF P f.type)) w:=by
            intro w
            have hl : ∀ (l:List Field) (w:World),l.all (fun f=>okT P f.type)=true→(l.mapM (fun f=>Functor.map (Prod.mk f.offset) (sizeOf f.type)):Sem (List (Nat×Nat))).run P w = .ok (l.map fun f=>(f.offset,bF P f.type)) w:=by
             intro l
             induction l with
             | nil=>intro w _; rfl
             | cons f l ih=>
               intro w h
               simp only [List.all_cons,Bool.and_eq_true] at h
               simp [List.mapM_cons,cZ (uJ h.1).1,ih w h.2]
            rw [Array.mapM_eq_mapM_toList]
            simp [hl fields.toList w hall]
            apply Array.ext'
            simp
           have hfill:=mP hsim (place:=fun i=>(fields.map fun f=>(f.offset,bF P f.type))[i]?) (by
            intro i q hq
            simp at hq
            obtain ⟨f,hf1,rfl⟩:=hq
            simp [hf1]) parts.toList zs fs hf hs hso
           simp only [Instr.build,Sem.run_bind,hzr,Result.andThen_ok,run_underlying hu,hm,hzc']
           have e:(parts.map fun (x:Nat×Operand)=>(x.1,a.eval x.2)).toList=parts.toList.map fun q=>(q.1,a.eval q.2):=by simp
           rw [e,hfill.1]
           rfl
        ·rename_i n e hu
         cases hall:okT P e with
         | false=>simp [hall] at hps
         | true=>
           simp only [hall,cond_true,Option.some.injEq] at hps
           subst hps
           have hfill:=mP hsim (place:=fun i=>some (i*bF P e,bF P e)) (by
            intro i q hq
            simp only [List.getElem?_map,Option.map_eq_some_iff] at hq
            obtain ⟨j,hf1,rfl⟩:=hq
            have:=List.getElem?_range (show i<n from by
             have:=(List.getElem?_eq_some_iff.1 hf1).1
             simpa using this)
            rw [this] at hf1
            cases hf1
            rfl) parts.toList zs fs hf hs hso
           simp only [Instr.build,Sem.run_bind,hzr,Result.andThen_ok,run_underlying hu,cZ (uJ hall).1,hzc']
           have e:(parts.map fun (x:Nat×Operand)=>(x.1,a.eval x.2)).toList=parts.toList.map fun q=>(q.1,a.eval q.2):=by simp
           rw [e,hfill.1]
           rfl
        ·simp at hps
 ·exact h.elim
theorem qDH (hsim:Sim N env a.tmps) {T:TypeId} {x:Operand} {f:Nat} {fs:List TV} {ps:List Pt} {y:TV} (hx:ev env x = .agg fs) (hps:partsOf P T=some ps) (hf:fs[f]? = some y)
 (hfit:fitsAt 0 ps fs=true) (hfo:(fieldsOf P T).isSome=true) (hn:next y) : ∃ t,(∀ w,(Instr.field T (a.eval x) f).run P w = .ok t.enc w)∧next t:=by
 obtain ⟨q,pre,post,e1,e2,e3,e4,e5,e6⟩:=lH _ _ _ _ _ hfit hf
 refine ⟨y,fun w=>?_,hn⟩
 rw [hsim.is hx rfl]
 unfold partsOf at hps
 unfold fieldsOf at hfo
 split at hps
 ·rename_i fields hu
  cases hall:(fields.toList.all fun f=>okT P f.type) with
  | false=>simp [hall] at hps
  | true=>
    simp only [hall,cond_true,Option.some.injEq] at hps
    subst hps
    simp only [List.getElem?_map,Option.map_eq_some_iff] at e1
    obtain ⟨fd,g1,g2⟩:=e1
    subst g2
    have hfd:fields[f]? = some fd:=by simpa using g1
    have hok:=uJ (by simpa using List.all_eq_true.1 hall fd (List.mem_of_getElem? g1))
    have hpre:pre.length=fd.offset:=by simpa using e3
    simp only [Instr.field,Sem.run_bind,run_underlying hu,Result.andThen_ok,hfd,TV.enc,asAgg,Sem.run_pure]
    rw [e2,← hpre]
    exact vC (Option.some_get hok.2).symm hok.1 e6 e5 e4 w
 ·rename_i hu; simp [hu] at hfo
 ·simp at hps
theorem qCZ (hsim:Sim N env a.tmps) {T e:TypeId} {len:Nat} {x:Operand} {k:IntKind} {n:Int} {fs:List TV} {y:TV} (hu:P.underlying T=some (.array len e)) (hx:ev env x = .agg fs)
 (hk:gB P e=true) (hr:0≤n∧n<len) (hall : ∀ z∈fs,z.cells.length=bF P e) (hy:fs[n.toNat]? = some y) (hl:y.cells.length=jO (kindOf P 20 e)) (hag:y.isAgg=qBA (kindOf P 20 e)) (hb:y.isBad=false)
 (w:World):(Instr.index T (a.eval x) (.int k n)).run P w = .ok y.enc w:=by
 rw [hsim.is hx rfl]
 simp only [gB,Bool.and_eq_true,beq_iff_eq,Nat.beq_eq] at hk
 obtain ⟨⟨⟨k1,k2⟩,k3⟩,k4⟩:=hk
 have hc : ∀ (fs:List TV) (i:Nat),(∀ z∈fs,z.cells.length=bF P e)→fs[i]? = some y→∃ pre post,bO fs=pre++y.cells++post∧pre.length=i*bF P e:=by
  intro fs
  induction fs with
  | nil=>intro i _ h; simp at h
  | cons z zs ih=>
    intro i ha h
    cases i with
    | zero=>simp at h; subst h; exact ⟨[],bO zs,by simp [bO],by simp⟩
    | succ i=>
      simp at h
      obtain ⟨pre,post,h1,h2⟩:=ih i (fun z hz=>ha z (by simp [hz])) h
      refine ⟨z.cells++pre,post,by simp [bO,h1],?_⟩
      have:=ha z (by simp)
      rw [List.length_append,this,h2,Nat.add_mul]; omega
 obtain ⟨pre,post,h1,h2⟩:=hc fs n.toNat hall hy
 simp only [Instr.index,Sem.run_bind,asIntOf,Sem.run_pure,Result.andThen_ok,run_underlying hu,TV.enc,hr,and_self,↓reduceIte,cZ k3]
 rw [h1,← h2]
 exact vC (Option.some_get k4).symm k3 hb (by rw [hag,k2]) (by rw [hl,k1]) w
end
section
variable {P:Program} {N:Nat} {env:Env} {a:Act} {next:TV→Prop}
theorem mZ (hsim:Sim N env a.tmps) {xs:Array Operand} (h:gF env xs=true):xs.map a.eval=(evs env xs).toArray:=by
 apply Array.ext'
 simp only [Array.toList_map,evs]
 apply List.map_congr_left
 intro x hx
 have:=List.all_eq_true.1 h x hx
 exact hsim.eval x (by simpa using this)
theorem xE {T:TypeId} {s:List UInt8} {lo hi:Option Int} {kl kh:IntKind} (hu:P.underlying T=some .string)
 (h:mH s.length s.length lo hi none fun l h _=>next (.s ((s.take h).drop l))) :
 ∃ t,(∀ w,(Instr.sliceAt T (.string ⟨s.toArray⟩) (lo.map (Value.int kl)) (hi.map (Value.int kh)) none).run P w = .ok t.enc w)∧next t:=by
 obtain ⟨l,h',m,hr,hn⟩:=mJ (P:=P) (isS:=false) (kl:=kl) (kh:=kh) (km:=.i64) h
 refine ⟨_,fun w=>?_,hn⟩
 have e1:(ByteArray.mk s.toArray).size=s.length:=by simp [ByteArray.size]
 have hr':=hr
 simp only [Option.map_none] at hr'
 simp only [Instr.sliceAt,Instr.slice,Sem.run_bind,run_underlying hu,Result.andThen_ok,e1]
 simp only [Option.isSome_none,Bool.false_eq_true,↓reduceIte,Sem.run_bind,Sem.run_pure,Result.andThen_ok,hr',TV.enc]
 congr 2
 apply ByteArray.ext
 apply Array.ext'
 simp [ByteArray.data_extract,List.drop_take]
theorem tY {T e:TypeId} {s:Slc} {lo hi mx:Option Int} {kl kh km:IntKind} (hu:P.underlying T=some (.slice e)) (hi':(P.info? e).isSome=true)
 (h:mH s.len s.cap lo hi mx fun l h m=>next (.sl (aF s (bF P e) l h m))) :
 ∃ t,(∀ w,(Instr.sliceAt T (.slice s.a s.len s.cap) (lo.map (Value.int kl)) (hi.map (Value.int kh)) (mx.map (Value.int km))).run P w = .ok t.enc w)∧next t:=by
 obtain ⟨l,h',m,hr,hn⟩:=mJ (P:=P) (isS:=true) (kl:=kl) (kh:=kh) (km:=km) h
 refine ⟨_,fun w=>?_,hn⟩
 simp only [Instr.sliceAt,Instr.slice,Sem.run_bind,run_underlying hu,Result.andThen_ok,hr,cZ hi',Sem.run_pure,TV.enc,aF]
theorem wY {T e:TypeId} {n:Nat} {ad:Addr} {lo hi:Option Int} {kl kh:IntKind} (hu:P.underlying T=some (.array n e)) (hi':(P.info? e).isSome=true)
 (h:mH n n lo hi none fun l h m=>next (.sl (aF ⟨some ad,n,n⟩ (bF P e) l h m))) :
 ∃ t,(∀ w,(Instr.sliceAt T (.pointer (some ad)) (lo.map (Value.int kl)) (hi.map (Value.int kh)) none).run P w = .ok t.enc w)∧next t:=by
 obtain ⟨l,h',m,hr,hn⟩:=mJ (P:=P) (isS:=false) (kl:=kl) (kh:=kh) (km:=.i64) h
 refine ⟨_,fun w=>?_,hn⟩
 have hr':=hr
 simp only [Option.map_none] at hr'
 simp only [Instr.sliceAt,Instr.sureAddr,Sem.run_bind,run_underlying hu,Result.andThen_ok,Sem.run_pure,hr',cZ hi',TV.enc,aF,Option.map_some]
 split <;> rfl
theorem rK (hsim:Sim N env a.tmps) {x:Option Operand} {n:Option Int} (h:oP env x=some n) : ∃ k,x.map a.eval=n.map (Value.int k):=by
 rcases yQ h with ⟨rfl,rfl⟩ | ⟨o,c,rfl,rfl,hc⟩
 ·exact ⟨.i64,rfl⟩
 ·obtain ⟨k,hk⟩:=hsim.numIs hc
  exact ⟨k,by simp [hk]⟩
theorem qGP {T:TypeId} {x:TV} {ty:TypeId} (h:qWA P T x next):x.isBad=false∧∃ t,(∀ w,(Builtin.len_ #[T] ty #[x.enc]).run P w = .ok t.enc w)∧next t:=by
 have e1 : ∀ l:List UInt8,(ByteArray.mk l.toArray).size=l.length:=fun l=>by simp [ByteArray.size]
 unfold qWA at h
 split at h
 ·rename_i hu
  exact ⟨rfl,_,fun w=>by simp [Builtin.len_,run_underlying hu,TV.enc,goInt]; rw [e1],h⟩
 ·rename_i hu
  exact ⟨rfl,_,fun w=>by simp [Builtin.len_,run_underlying hu,TV.enc,goInt],h⟩
 ·rename_i hu
  exact ⟨rfl,_,fun w=>by simp [Builtin.len_,run_underlying hu,TV.enc,goInt],h⟩
 ·rename_i hu
  split at h
  ·rename_i hu2
   exact ⟨rfl,_,fun w=>by simp [Builtin.len_,run_underlying hu,run_underlying hu2,TV.enc,goInt],h⟩
  ·exact h.elim
 ·exact h.elim
theorem qIF {T:TypeId} {x:TV} {ty:TypeId} (h:qYF P T x next):x.isBad=false∧∃ t,(∀ w,(Builtin.cap_ #[T] ty #[x.enc]).run P w = .ok t.enc w)∧next t:=by
 unfold qYF at h
 split at h
 ·rename_i hu
  exact ⟨rfl,_,fun w=>by simp [Builtin.cap_,run_underlying hu,TV.enc,goInt],h⟩
 ·exact h.elim
theorem qHC {xs:List TV} {y:TV} {ty:Array TypeId} {t:TypeId} (h:min2 xs=some y):(∀ x∈xs,x.isBad=false)∧∀ w,(Builtin.min_ ty t (dQ xs).toArray).run P w = .ok y.enc w:=by
 unfold min2 at h
 split at h
 ·split at h
  ·rename_i hk; subst hk; cases h
   exact ⟨by simp [TV.isBad],fun w=>by simp [Builtin.min_,Builtin.min2,dQ,TV.enc]⟩
  ·simp at h
 ·split at h
  ·rename_i hk; obtain ⟨rfl,rfl⟩:=hk; cases h
   exact ⟨by simp [TV.isBad],fun w=>by simp [Builtin.min_,Builtin.min2,dQ,TV.enc]⟩
  ·simp at h
 ·simp at h
theorem qFW {xs:List TV} {y:TV} {ty:Array TypeId} {t:TypeId} (h:max2 xs=some y):(∀ x∈xs,x.isBad=false)∧∀ w,(Builtin.max_ ty t (dQ xs).toArray).run P w = .ok y.enc w:=by
 unfold max2 at h
 split at h
 ·split at h
  ·rename_i hk; subst hk; cases h
   exact ⟨by simp [TV.isBad],fun w=>by simp [Builtin.max_,Builtin.max2,dQ,TV.enc]⟩
  ·simp at h
 ·split at h
  ·rename_i hk; obtain ⟨rfl,rfl⟩:=hk; cases h
   exact ⟨by simp [TV.isBad],fun w=>by simp [Builtin.max_,Builtin.max2,dQ,TV.enc]⟩
  ·simp at h
 ·simp at h
theorem oN (hsim:Sim N env a.tmps) : ∀ (xs:List Operand),(∀ x∈xs.map (ev env),x.isBad=false)→xs.map a.eval=dQ (xs.map (ev env))
 | [],_=>rfl
 | x :: r,h=>by
   simp only [List.map_cons,dQ]
   rw [hsim.eval x (h _ (by simp)),oN hsim r (fun y hy=>h y (by simp at hy ⊢; exact .inr hy))]
theorem jD {o:Oper} (hsim:Sim N env a.tmps) (h:sP P o env next):qBX P (execOp a.eval o) next:=by
 obtain ⟨dst,op,type,pos,after,guard⟩:=o
 unfold sP at h
 simp only at h
 unfold execOp
 cases op <;> simp only at h ⊢ <;> try (exact h.elim)
 case move x=>exact ⟨ev env x,a.eval x,fun w=>rfl,fun hb=>hsim.eval x hb,h⟩
 case assign x=>exact ⟨ev env x,a.eval x,fun w=>rfl,fun hb=>hsim.eval x hb,h⟩
 case pick c x y=>
  split at h
  ·rename_i t hc
   have:=hsim.is hc rfl
   cases t with
   | true=>exact ⟨ev env x,a.eval x,fun w=>by simp [this,TV.enc,asBool],fun hb=>hsim.eval x hb,h⟩
   | false=>exact ⟨ev env y,a.eval y,fun w=>by simp [this,TV.enc,asBool],fun hb=>hsim.eval y hb,h⟩
  ·exact h.elim
 case nilCheck x=>
  split at h
  ·rename_i q hx
   obtain ⟨ad,rfl,h⟩:=cB h
   have:=hsim.is hx rfl
   exact .of (t:=.p (some ad)) (fun w=>by simp [this,TV.enc]) h
  ·rename_i f first cap hx
   have:=hsim.is hx rfl
   exact .of (t:=.v (.func (.func f) first cap)) (fun w=>by simp [this,TV.enc]) h
  ·exact h.elim
 case binOp op T x y yT=>
  obtain ⟨hbx,hby,t,ht,hn⟩:=qHI h
  refine bB (t:=t) (fun w=>?_) hn
  rw [hsim.eval x hbx,hsim.eval y hby]
  exact ht w
 case unOp op T x=>
  split at h
  ·rename_i hx
   exact bB (fun w=>by rw [hsim.is hx rfl]; rfl) h
  ·rename_i hx
   exact bB (fun w=>by rw [hsim.is hx rfl]; rfl) h
  ·rename_i n hx
   refine bB (t:=.u64 (~~~n)) (fun w=>?_) h
   rw [hsim.is hx rfl]
   show Result.ok (Value.int .u64 (IntKind.u64.wrap ((BitVec.ofInt 64 (IntKind.u64.max) ^^^ BitVec.ofInt 64 (n.toNat:Int)).toNat:Int))) w=_
   rw [jCW]; rfl
  ·rename_i n hx
   refine bB (t:=.u8 (~~~n)) (fun w=>?_) h
   rw [hsim.is hx rfl]
   show Result.ok (Value.int .u8 (IntKind.u8.wrap ((BitVec.ofInt 8 (IntKind.u8.max) ^^^ BitVec.ofInt 8 (n.toNat:Int)).toNat:Int))) w=_
   rw [not8]; rfl
  ·exact h.elim
 case convert s d x=>
  split at h
  ·rename_i ts hs
   cases hd:P.underlying d with
   | none=>simp [hd,zV] at h
   | some td=>
     rw [hd] at h
     obtain ⟨hb,t,ht,hn⟩:=qDS hs hd h
     exact bB (fun w=>by rw [hsim.eval x hb]; exact ht w) hn
  ·exact h.elim
 case makeInterface T x=>
  cases hc:(isIface P T || (ev env x).isBad) with
  | true=>simp [hc] at h
  | false=>
    simp only [hc,cond_false] at h
    simp only [Bool.or_eq_false_iff] at hc
    refine bB (t:=.v (.iface T (ev env x).enc)) (fun w=>?_) h
    rw [hsim.eval x hc.2]
    have h1:=hc.1
    unfold isIface at h1
    cases hu:P.underlying T with
    | none=>simp [hu] at h1
    | some d=>
      rw [hu] at h1
      cases d <;> simp at h1 <;> simp [Instr.makeInterface,run_underlying hu,TV.enc]
 case makeFunc fn first cap=>
  cases hc:(gF env first&&gF env cap) with
  | false=>simp [hc] at h
  | true=>
    simp only [hc,cond_true] at h
    simp only [Bool.and_eq_true] at hc
    refine bB (t:=.v (.func fn (evs env first).toArray (evs env cap).toArray)) (fun w=>?_) h
    rw [mZ hsim hc.1,mZ hsim hc.2]
    rfl
 case slice T x lo hi mx=>
  split at h
  ·rename_i l hh m hl hhi hm
   obtain ⟨kl,el⟩:=rK hsim hl
   obtain ⟨kh,eh⟩:=rK hsim hhi
   obtain ⟨km,em⟩:=rK hsim hm
   rw [el,eh,em]
   split at h
   ·rename_i s hu hx
    rw [hsim.is hx rfl]
    cases m with
    | some _=>exact h.elim
    | none=>
      obtain ⟨t,ht,hn⟩:=xE (kl:=kl) (kh:=kh) hu h
      exact bB ht hn
   ·rename_i e s hu hx
    rw [hsim.is hx rfl]
    cases hi':(P.info? e).isSome with
    | false=>simp [hi'] at h
    | true=>
      simp only [hi',cond_true] at h
      obtain ⟨t,ht,hn⟩:=tY (kl:=kl) (kh:=kh) (km:=km) hu hi' h
      exact bB ht hn
   ·rename_i n e q hu hx
    rw [hsim.is hx rfl]
    cases hi':(P.info? e).isSome with
    | false=>simp [hi'] at h
    | true=>
      cases m with
      | some _=>simp at h
      | none=>
        simp only [hi',Option.isNone_none,Bool.and_self,cond_true] at h
        obtain ⟨ad,rfl,h⟩:=cB h
        obtain ⟨t,ht,hn⟩:=wY (kl:=kl) (kh:=kh) hu hi' h
        exact bB ht hn
   ·exact h.elim
  ·exact h.elim
 case fieldAddr T x f=>
  split at h
  ·rename_i off q hf hx
   obtain ⟨ad,rfl,h⟩:=cB h
   refine bB (t:=.p (some (ad.add off))) (fun w=>?_) h
   rw [hsim.is hx rfl]
   unfold wC at hf
   split at hf
   ·rename_i fs hu
    split at hf
    ·rename_i fd hfd
     cases hc:(Nat.beq (bF P fd.type) 0 || !(P.info? fd.type).isSome) with
     | true=>rw [hc] at hf; simp at hf
     | false=>
       simp only [hc,cond_false,Option.some.injEq] at hf
       subst hf
       simp only [Bool.or_eq_false_iff,Bool.not_eq_false'] at hc
       have hz : ¬ (bF P fd.type=0):=by
        intro e0; rw [e0] at hc; simp at hc
       simp [Instr.fieldAt,run_underlying hu,hfd,Instr.sureAddr,TV.enc,fieldPlace,cZ hc.2,hz]
    ·simp at hf
   ·simp at hf
  ·exact h.elim
 case field T x f=>
  split at h
  ·rename_i fs ps hx hps
   split at h
   ·rename_i y hy
    cases hc:(fitsAt 0 ps fs&&(fieldsOf P T).isSome) with
    | false=>simp [hc] at h
    | true=>
      simp only [hc,cond_true] at h
      simp only [Bool.and_eq_true] at hc
      obtain ⟨t,ht,hn⟩:=qDH hsim hx hps hy hc.1 hc.2 h
      exact bB ht hn
   ·exact h.elim
  ·exact h.elim
 case indexAddr T x i=>
  split at h
  ·rename_i e hu
   split at h
   ·rename_i s n hx hi
    cases hi':(P.info? e).isSome with
    | false=>simp [hi'] at h
    | true=>
      simp only [hi',cond_true] at h
      obtain ⟨k,hk⟩:=hsim.numIs hi
      obtain ⟨t,ht,hn⟩:=qJE (k:=k) (cap:=s.cap) hu hi' h
      exact bB (fun w=>by rw [hsim.is hx rfl,hk]; exact ht w) hn
   ·exact h.elim
  ·rename_i len e hu
   split at h
   ·rename_i q n hx hi
    cases hi':(P.info? e).isSome with
    | false=>simp [hi'] at h
    | true=>
      simp only [hi',cond_true] at h
      obtain ⟨k,hk⟩:=hsim.numIs hi
      obtain ⟨t,ht,hn⟩:=qHR (k:=k) hu hi' h
      exact bB (fun w=>by rw [hsim.is hx rfl,hk]; exact ht w) hn
   ·exact h.elim
  ·exact h.elim
 case index T x i=>
  split at h
  ·rename_i hu
   split at h
   ·rename_i l n hx hi
    obtain ⟨h0,c,hc,hn⟩:=h
    obtain ⟨k,hk⟩:=hsim.numIs hi
    refine bB (t:=.u8 c) (fun w=>?_) hn
    rw [hsim.is hx rfl,hk]
    have hlt:n.toNat<l.length:=(List.getElem?_eq_some_iff.1 hc).1
    have e1:(ByteArray.mk l.toArray)[n.toNat]? = some c:=by
     have hs:n.toNat<(ByteArray.mk l.toArray).size:=by simpa [ByteArray.size] using hlt
     rw [getElem?_pos (ByteArray.mk l.toArray) n.toNat hs,← (List.getElem?_eq_some_iff.1 hc).2]
     rfl
    simp [Instr.index,asIntOf,run_underlying hu,TV.enc,h0,e1]
   ·exact h.elim
  ·rename_i len e hu
   split at h
   ·rename_i fs n hx hi
    cases hkf:gB P e with
    | false=>simp [hkf] at h
    | true=>
      simp only [hkf,cond_true] at h
      obtain ⟨hr,hall,h⟩:=h
      obtain ⟨y,y1,y2,y3,hy,hn⟩:=dG _ _ h
      obtain ⟨k,hk⟩:=hsim.numIs hi
      exact bB (fun w=>by rw [hk]; exact qCZ hsim hu hx hkf hr hall hy y1 y2 y3 w) hn
   ·exact h.elim
  ·exact h.elim
 case extract t i=>
  split at h
  ·rename_i fs hx
   split at h
   ·rename_i y hy
    refine bB (t:=y) (fun w=>?_) h
    rw [hsim.is hx rfl]
    have : ∀ (fs:List TV) (i:Nat),fs[i]? = some y→(dQ fs)[i]? = some y.enc:=by
     intro fs
     induction fs with
     | nil=>intro i h; simp at h
     | cons z zs ih=>intro i h; cases i <;> simp_all [dQ]
    simp [TV.enc,Instr.extract,this fs i hy]
   ·exact h.elim
  ·rename_i x hx
   obtain ⟨vs,rfl,h⟩:=h
   obtain ⟨y,_,_,_,hy,hn⟩:=dG _ _ h
   refine bB (t:=y) (fun w=>?_) hn
   rw [hsim.is hx rfl]
   simp [TV.enc,Instr.extract,hy]
  ·exact h.elim
 case build T parts=>
  obtain ⟨t,ht,hn⟩:=yI hsim h
  exact bB ht hn
 case call c=>
  obtain ⟨callee,args,argTypes⟩:=c
  cases callee <;> (try simp only at h) <;> try (exact h.elim)
  rename_i b
  cases b <;> (try simp only at h) <;> try (exact h.elim)
  case len=>
   split at h
   ·rename_i x T hx hT
    obtain ⟨hb,t,ht,hn⟩:=qGP (ty:=type) h
    have e1:args.map a.eval = #[(ev env x).enc]:=by
     apply Array.ext'
     simp [hx,hsim.eval x hb]
    have e2:argTypes = #[T]:=by apply Array.ext'; simpa using hT
    refine .of (t:=t) (fun w=>?_) hn
    simp only [resolve,e1,e2,invoke,builtin,Sem.run_bind,Sem.run_pure,Result.andThen_ok,ht w]
   ·exact h.elim
  case cap=>
   split at h
   ·rename_i x T hx hT
    obtain ⟨hb,t,ht,hn⟩:=qIF (ty:=type) h
    have e1:args.map a.eval = #[(ev env x).enc]:=by
     apply Array.ext'
     simp [hx,hsim.eval x hb]
    have e2:argTypes = #[T]:=by apply Array.ext'; simpa using hT
    refine .of (t:=t) (fun w=>?_) hn
    simp only [resolve,e1,e2,invoke,builtin,Sem.run_bind,Sem.run_pure,Result.andThen_ok,ht w]
   ·exact h.elim
  case max=>
   split at h
   ·rename_i y hy
    obtain ⟨hb,ht⟩:=qFW (P:=P) (ty:=argTypes) (t:=type) hy
    have e1:args.map a.eval=(dQ (args.toList.map (ev env))).toArray:=by
     apply Array.ext'
     simp only [Array.toList_map]
     exact oN hsim _ hb
    refine .of (t:=y) (fun w=>?_) h
    simp only [resolve,e1,invoke,builtin,Sem.run_bind,Sem.run_pure,Result.andThen_ok,ht w]
   ·exact h.elim
  case min=>
   split at h
   ·rename_i y hy
    obtain ⟨hb,ht⟩:=qHC (P:=P) (ty:=argTypes) (t:=type) hy
    have e1:args.map a.eval=(dQ (args.toList.map (ev env))).toArray:=by
     apply Array.ext'
     simp only [Array.toList_map]
     exact oN hsim _ hb
    refine .of (t:=y) (fun w=>?_) h
    simp only [resolve,e1,invoke,builtin,Sem.run_bind,Sem.run_pure,Result.andThen_ok,ht w]
   ·exact h.elim
end
end Go.Sh
end
