/- The forms of the translated functions,their contracts and the plain laws behind them,put together by a program. -/
import Derived.Test.YtmgcoepbccgjfaaGreatDoorPB1
import Derived.WalkKit
import Derived.OrdersHeld
import Derived.OrdersIn
import Derived.RangeFuncRecord
import Derived.RangeFuncCalls
import Derived.DefersIn
set_option linter.unusedSimpArgs false
set_option linter.unusedVariables false
set_option maxRecDepth 1000000
set_option maxHeartbeats 8000000
section
namespace Go.Sh
open Go
structure Slc where
 a:Option Addr
 len:Nat
 cap:Nat
inductive TV where
 | i (k:IntKind) (n:Int)
 | u8 (x:UInt8)
 | u64 (x:UInt64)
 | b (x:Bool)
 | s (l:List UInt8)
 | p (a:Option Addr)
 | sl (s:Slc)
 | m (r:Option Nat)
 | v (x:Value)
 | agg (fs:List TV)
 | tup (fs:List TV)
 | bad
mutual
def TV.cells:TV->List Value
 | .i k n=>[.int k n]
 | .u8 x=>[.int .u8 x.toNat]
 | .u64 x=>[.int .u64 x.toNat]
 | .b x=>[.bool x]
 | .s l=>[.string ⟨l.toArray⟩]
 | .p a=>[.pointer a]
 | .sl s=>[.slice s.a s.len s.cap]
 | .m r=>[.map r]
 | .v x=>[x]
 | .agg fs=>cellsL fs
 | .tup fs=>[.tuple (encL fs).toArray]
 | .bad=>[undef]
def cellsL:List TV->List Value
 | []=>[]
 | x :: r=>x.cells++cellsL r
def TV.enc:TV->Value
 | .i k n=>.int k n
 | .u8 x=>.int .u8 x.toNat
 | .u64 x=>.int .u64 x.toNat
 | .b x=>.bool x
 | .s l=>.string ⟨l.toArray⟩
 | .p a=>.pointer a
 | .sl s=>.slice s.a s.len s.cap
 | .m r=>.map r
 | .v x=>x
 | .agg fs=>.agg (cellsL fs).toArray
 | .tup fs=>.tuple (encL fs).toArray
 | .bad=>undef
def encL:List TV->List Value
 | []=>[]
 | x :: r=>x.enc :: encL r
end
inductive Kd where
 | i (k:IntKind) | u8 | u64 | b | s | p | sl | m | v
 | agg (fs:List Kd)
 | la (n:Nat) (e:Kd)
 | tup (fs:List Kd)
def kindOf (P:Program):Nat->TypeId->Kd
 | 0,_=>.v
 | f+1,T=>match P.underlying T with
   | some .bool=>.b
   | some (.int .u8)=>.u8
   | some (.int .u64)=>.u64
   | some (.int k)=>.i k
   | some .string=>.s
   | some (.pointer _)=>.p
   | some .unsafePointer=>.p
   | some (.slice _)=>.sl
   | some (.map _ _)=>.m
   | some (.struct fs)=>.agg (fs.toList.map λx=>kindOf P f x.type)
   | some (.array n e)=>if n<=16 then .agg (List.replicate n (kindOf P f e)) else .la n (kindOf P f e)
   | some (.tuple ts)=>.tup (ts.toList.map λx=>kindOf P f x)
   | _=>.v
mutual
def exK:Kd->(TV->Prop)->Prop
 | .i k,K=>∃ n:Int,K (.i k n)
 | .u8,K=>∃ x:UInt8,K (.u8 x)
 | .u64,K=>∃ x:UInt64,K (.u64 x)
 | .b,K=>∃ x:Bool,K (.b x)
 | .s,K=>∃ l:List UInt8,K (.s l)
 | .p,K=>∃ a:Option Addr,K (.p a)
 | .sl,K=>∃ s:Slc,K (.sl s)
 | .m,K=>∃ r:Option Nat,K (.m r)
 | .v,K=>∃ x:Value,K (.v x)
 | .agg fs,K=>exKs fs λxs=>K (.agg xs)
 | .la n .u64,K=>∃ l:List UInt64,l.length=n/\K (.agg (l.map .u64))
 | .la n .u8,K=>∃ l:List UInt8,l.length=n/\K (.agg (l.map .u8))
 | .la _ _,_=>False
 | .tup fs,K=>exKs fs λxs=>K (.tup xs)
def exKs:List Kd->(List TV->Prop)->Prop
 | [],K=>K []
 | k :: r,K=>exK k λx=>exKs r λxs=>K (x :: xs)
end
mutual
def kdSize:Kd->Nat
 | .agg fs=>kdSizes fs
 | .la n _=>n
 | _=>1
def kdSizes:List Kd->Nat
 | []=>0
 | k :: r=>kdSize k+kdSizes r
end
def kdAgg:Kd->Bool
 | .agg _=>true
 | .la _ _=>true
 | _=>false
def isAggT (P:Program) (T:TypeId):Bool:=
 match P.underlying T with
 | some (.struct _)=>true
 | some (.array _ _)=>true
 | _=>false
def TV.isAgg:TV->Bool
 | .agg _=>true
 | _=>false
def sizeAt (P:Program) (T:TypeId):Nat:=match P.info? T with | some i=>i.size | none=>0
def kdFit (P:Program) (T:TypeId):Bool:=
 Nat.beq (kdSize (kindOf P 20 T)) (sizeAt P T)&&(kdAgg (kindOf P 20 T)==isAggT P T)&&(P.info? T).isSome&&(P.underlying T).isSome
mutual
def allK:Kd->(TV->Prop)->Prop
 | .i k,K=>∀ n:Int,K (.i k n)
 | .u8,K=>∀ x:UInt8,K (.u8 x)
 | .u64,K=>∀ x:UInt64,K (.u64 x)
 | .b,K=>∀ x:Bool,K (.b x)
 | .s,K=>∀ l:List UInt8,K (.s l)
 | .p,K=>∀ a:Option Addr,K (.p a)
 | .sl,K=>∀ s:Slc,K (.sl s)
 | .m,K=>∀ r:Option Nat,K (.m r)
 | .v,K=>∀ x:Value,K (.v x)
 | .agg fs,K=>allKs fs λxs=>K (.agg xs)
 | .la _ _,_=>False
 | .tup fs,K=>allKs fs λxs=>K (.tup xs)
def allKs:List Kd->(List TV->Prop)->Prop
 | [],K=>K []
 | k :: r,K=>allK k λx=>allKs r λxs=>K (x :: xs)
end
mutual
def okK:Kd->TV->Bool
 | .i k,.i k' _=>k==k'
 | .u8,.u8 _=>true
 | .u64,.u64 _=>true
 | .b,.b _=>true
 | .s,.s _=>true
 | .p,.p _=>true
 | .sl,.sl _=>true
 | .m,.m _=>true
 | .v,.v _=>true
 | .agg fs,.agg xs=>okKs fs xs
 | .tup fs,.tup xs=>okKs fs xs
 | _,_=>false
def okKs:List Kd->List TV->Bool
 | [],[]=>true
 | k :: r,x :: xs=>okK k x&&okKs r xs
 | _,_=>false
end
abbrev Env:=List (Nat×TV)
def look:Env->Nat->TV
 | [],_=>.bad
 | (t,x) :: r,u=>if Nat.beq t u then x else look r u
def putD (env:Env):Option Tmp->TV->Env
 | none,_=>env
 | some d,x=>(d,x) :: env
def TV.isBad:TV->Bool
 | .bad=>true
 | _=>false
def ofVal:Value->TV
 | .int .u8 n=>if 0<=n/\n<256 then .u8 (UInt8.ofNat n.toNat) else .v (.int .u8 n)
 | .int .u64 n=>if 0<=n/\n<18446744073709551616 then .u64 (UInt64.ofNat n.toNat) else .v (.int .u64 n)
 | .int k n=>.i k n
 | .bool x=>.b x
 | .string s=>.s s.data.toList
 | .pointer a=>.p a
 | .slice a l c=>.sl ⟨a,l,c⟩
 | .map r=>.m r
 | x=>.v x
def ev (env:Env):Operand->TV
 | .tmp t=>look env t
 | .const v=>ofVal v
 | .global g=>.p (some ⟨g,0,none⟩)
 | .func f=>.v (.func (.func f) #[] #[])
def Rd (w:World) (a:Addr) (cs:List Value):Prop:=∀ j v,cs[j]? = some v->w.cell? (a.add j)=some v
@[reducible] def onSome {α:Type} (o:Option α) (K:α->Prop):Prop:=match o with | some x=>K x | none=>False
@[reducible] def condK (b:Bool) (x y:Prop):Prop:=match b with | true=>x | false=>y
def semK (P:Program) (s:Sem Value) (w:World) (K:Value->World->Prop):Prop:=∃ v w',s.run P w = .ok v w'/\K v w'
def semU (P:Program) (s:Sem Unit) (w:World) (K:World->Prop):Prop:=∃ w',s.run P w = .ok () w'/\K w'
def callK (P:Program) (f:FuncId) (args:List Value) (w:World) (pan:List PanicEntry->World->Prop) (K:Value->World->Prop):Prop:=
 Calls P f args.toArray w λ
  | .returned v,w'=>K v w'
  | .panicked c,w'=>pan c w'
  | .outgrown,_=>False
def enters (P:Program) (f:FuncId):Bool:=
 match P.funcs[f]? with
 | some fn=>!(fn.name== "runtime.NumGoroutine")&&fn.body.isSome
 | none=>false
def shlU64 (x:UInt64) (n:Nat):UInt64:=if n<64 then x <<< UInt64.ofNat n else 0
def shrU64 (x:UInt64) (n:Nat):UInt64:=if n<64 then x >>> UInt64.ofNat n else 0
def shlU8 (x:UInt8) (n:Nat):UInt8:=if n<8 then x <<< UInt8.ofNat n else 0
def shrU8 (x:UInt8) (n:Nat):UInt8:=if n<8 then x >>> UInt8.ofNat n else 0
def u8OfInt (n:Int):UInt8:=UInt8.ofNat (n % 256).toNat
def u64OfInt (n:Int):UInt64:=UInt64.ofNat (n % 18446744073709551616).toNat
def TV.num:TV->Option Int
 | .i _ n=>some n
 | .u8 x=>some x.toNat
 | .u64 x=>some x.toNat
 | _=>none
def binI (op:BinOp) (k:IntKind) (x y:Int) (next:TV->Prop):Prop:=
 match op with
 | .add=>next (.i k (k.wrap (x+y)))
 | .sub=>next (.i k (k.wrap (x - y)))
 | .mul=>next (.i k (k.wrap (x*y)))
 | .quo=>y≠0/\next (.i k (k.wrap (x.tdiv y)))
 | .rem=>y≠0/\next (.i k (x.tmod y))
 | .eql=>next (.b (x==y))
 | .neq=>next (.b (x != y))
 | .lss=>next (.b (decide (x<y)))
 | .leq=>next (.b (decide (x<=y)))
 | .gtr=>next (.b (decide (x > y)))
 | .geq=>next (.b (decide (x>=y)))
 | _=>False
def bin8 (op:BinOp) (x y:UInt8) (next:TV->Prop):Prop:=
 match op with
 | .add=>next (.u8 (x+y))
 | .sub=>next (.u8 (x - y))
 | .mul=>next (.u8 (x*y))
 | .and=>next (.u8 (x &&& y))
 | .or=>next (.u8 (x ||| y))
 | .xor=>next (.u8 (x ^^^ y))
 | .andNot=>next (.u8 (x &&& ~~~y))
 | .eql=>next (.b (x==y))
 | .neq=>next (.b (x != y))
 | .lss=>next (.b (decide (x<y)))
 | .leq=>next (.b (decide (x<=y)))
 | .gtr=>next (.b (decide (y<x)))
 | .geq=>next (.b (decide (y<=x)))
 | _=>False
def bin64 (op:BinOp) (x y:UInt64) (next:TV->Prop):Prop:=
 match op with
 | .add=>next (.u64 (x+y))
 | .sub=>next (.u64 (x - y))
 | .mul=>next (.u64 (x*y))
 | .quo=>y≠0/\next (.u64 (x / y))
 | .rem=>y≠0/\next (.u64 (x % y))
 | .and=>next (.u64 (x &&& y))
 | .or=>next (.u64 (x ||| y))
 | .xor=>next (.u64 (x ^^^ y))
 | .andNot=>next (.u64 (x &&& ~~~y))
 | .eql=>next (.b (x==y))
 | .neq=>next (.b (x != y))
 | .lss=>next (.b (decide (x<y)))
 | .leq=>next (.b (decide (x<=y)))
 | .gtr=>next (.b (decide (y<x)))
 | .geq=>next (.b (decide (y<=x)))
 | _=>False
def binS (op:BinOp) (x y:List UInt8) (next:TV->Prop):Prop:=
 match op with
 | .add=>((x.length+y.length:Nat):Int)<=9223372036854775807/\next (.s (x++y))
 | .eql=>next (.b (x==y))
 | .neq=>next (.b (!(x==y)))
 | .lss=>next (.b (Op.bytesLess x y))
 | .leq=>next (.b (Op.bytesLess x y || x==y))
 | .gtr=>next (.b (!(Op.bytesLess x y || x==y)))
 | .geq=>next (.b (!Op.bytesLess x y))
 | _=>False
def isShift:BinOp->Bool
 | .shl | .shr=>true
 | _=>false
def isBits:BinOp->Bool
 | .and | .or | .xor | .andNot=>true
 | _=>false
def shK (op:BinOp) (x:TV) (c:Int) (next:TV->Prop):Prop:=
 match op,x with
 | .shl,.i k n=>0<=c/\next (.i k (k.wrap (n*2 ^ (min c.toNat k.bits))))
 | .shr,.i k n=>0<=c/\next (.i k (n.fdiv (2 ^ (min c.toNat k.bits))))
 | .shl,.u8 n=>0<=c/\next (.u8 (shlU8 n c.toNat))
 | .shr,.u8 n=>0<=c/\next (.u8 (shrU8 n c.toNat))
 | .shl,.u64 n=>0<=c/\next (.u64 (shlU64 n c.toNat))
 | .shr,.u64 n=>0<=c/\next (.u64 (shrU64 n c.toNat))
 | _,_=>False
def pureSem (P:Program) (s:Sem Value) (next:Value->Prop):Prop:=∃ v,(∀ w,s.run P w = .ok v w)/\next v
def binK (P:Program) (op:BinOp) (T:TypeId) (ox oy:Operand) (x y:TV) (κ:Kd) (next:TV->Prop):Prop:=
 if isShift op then
  match y.num with
  | some c=>shK op x c next
  | none=>False
 else
 match x,y with
 | .i k a,.i k' b=>bif isBits op then pureSem P (do eqGuard op T ox oy (.int k a) (.int k' b); binOp op T (.int k a) (.int k' b)) λv=>exK κ λt=>v=t.enc/\next t else if k=k' then binI op k a b next else False
 | .u8 a,.u8 b=>bin8 op a b next
 | .u64 a,.u64 b=>bin64 op a b next
 | .s a,.s b=>binS op a b next
 | .bad,_=>False
 | _,.bad=>False
 | x,y=>pureSem P (do eqGuard op T ox oy x.enc y.enc; binOp op T x.enc y.enc) λv=>exK κ λt=>v=t.enc/\next t
def convI (dst:Option TypeDesc) (x:TV) (next:TV->Prop):Prop:=
 match dst,x with
 | some (.int .u8),.i _ n=>next (.u8 (u8OfInt n))
 | some (.int .u8),.u8 n=>next (.u8 n)
 | some (.int .u8),.u64 n=>next (.u8 n.toUInt8)
 | some (.int .u64),.i _ n=>next (.u64 (u64OfInt n))
 | some (.int .u64),.u8 n=>next (.u64 n.toUInt64)
 | some (.int .u64),.u64 n=>next (.u64 n)
 | some (.int k),.i _ n=>next (.i k (k.wrap n))
 | some (.int .i64),.u8 n=>next (.i .i64 n.toNat)
 | some (.int k),.u8 n=>next (.i k (k.wrap n.toNat))
 | some (.int k),.u64 n=>next (.i k (k.wrap n.toNat))
 | some .string,.s l=>next (.s l)
 | _,_=>False
def fieldsOf (P:Program) (T:TypeId):Option (Array Field):=
 match P.underlying T with
 | some (.struct fs)=>some fs
 | _=>none
def boundK (len cap:Nat) (lo hi mx:Option Int) (K:Nat->Nat->Nat->Prop):Prop:=
 match mx with
 | none=>
   match hi with
   | none=>
     match lo with
     | none=>K 0 len cap
     | some l=>(0<=l/\l<=len)/\K l.toNat len cap
   | some h=>
     match lo with
     | none=>(0<=h/\h<=cap)/\K 0 h.toNat cap
     | some l=>(0<=l/\l<=h/\h<=cap)/\K l.toNat h.toNat cap
 | some m=>
   match hi with
   | none=>False
   | some h=>
     match lo with
     | none=>(0<=h/\h<=m/\m<=cap)/\K 0 h.toNat m.toNat
     | some l=>(0<=l/\l<=h/\h<=m/\m<=cap)/\K l.toNat h.toNat m.toNat
def cutSl (s:Slc) (size l h m:Nat):Slc:=⟨if m=l then s.a else s.a.map (·.add (l*size)),h - l,m - l⟩
def optNum (env:Env):Option Operand->Option (Option Int)
 | none=>some none
 | some x=>match (ev env x).num with | some n=>some (some n) | none=>none
def idxK (i:Int) (len:Nat) (a:Option Addr) (size:Nat) (next:TV->Prop):Prop:=
 (0<=i/\i<len)/\onSome a λad=>next (.p (some (ad.add (i.toNat*size))))
structure Pt where
 off:Nat
 size:Nat
 ag:Bool
def okT (P:Program) (T:TypeId):Bool:=(P.info? T).isSome&&(P.underlying T).isSome
def partsOf (P:Program) (T:TypeId):Option (List Pt):=
 match P.underlying T with
 | some (.struct fs)=>bif fs.toList.all λf=>okT P f.type then some (fs.toList.map λf=>⟨f.offset,sizeAt P f.type,isAggT P f.type⟩) else none
 | some (.array n e)=>bif okT P e then some ((List.range n).map λi=>⟨i*sizeAt P e,sizeAt P e,isAggT P e⟩) else none
 | _=>none
def fitsAt:Nat->List Pt->List TV->Bool
 | _,[],[]=>true
 | o,q :: r,x :: xs=>Nat.beq q.off o&&Nat.beq q.size x.cells.length&&(x.isAgg==q.ag)&&!x.isBad&&fitsAt (o+q.size) r xs
 | _,_,_=>false
def ofValK:Kd->Value->TV
 | .i k,.int _ n=>.i k n
 | .u8,_=>.u8 0
 | .u64,_=>.u64 0
 | .b,_=>.b false
 | .s,_=>.s []
 | .p,_=>.p none
 | .sl,_=>.sl ⟨none,0,0⟩
 | .m,_=>.m none
 | _,x=>.v x
mutual
def zeroOf:Kd->List Value->Option (TV×List Value)
 | .i k,.int k' 0 :: r=>if k=k' then some (.i k 0,r) else none
 | .u8,.int .u8 0 :: r=>some (.u8 0,r)
 | .u64,.int .u64 0 :: r=>some (.u64 0,r)
 | .b,.bool false :: r=>some (.b false,r)
 | .s,.string s :: r=>if s.data.size=0 then some (.s [],r) else none
 | .p,.pointer none :: r=>some (.p none,r)
 | .sl,.slice none 0 0 :: r=>some (.sl ⟨none,0,0⟩,r)
 | .m,.map none :: r=>some (.m none,r)
 | .v,.nilFunc :: r=>some (.v .nilFunc,r)
 | .v,.nilIface :: r=>some (.v .nilIface,r)
 | .agg fs,l=>match zerosOf fs l with | some (xs,r)=>some (.agg xs,r) | none=>none
 | _,_=>none
def zerosOf:List Kd->List Value->Option (List TV×List Value)
 | [],l=>some ([],l)
 | k :: ks,l=>match zeroOf k l with
   | some (x,r)=>match zerosOf ks r with | some (xs,r')=>some (x :: xs,r') | none=>none
   | none=>none
end
def zeroTV (P:Program) (T:TypeId):Option TV:=
 match P.info? T with
 | some i=>match i.zero with
   | some z=>match zeroOf (kindOf P 20 T) z.cells.toList with
     | some (x,[])=>some x
     | _=>none
   | none=>none
 | none=>none
def setParts (ps:List Pt) (env:Env):List TV->List (Nat×Operand)->Option (List TV)
 | fs,[]=>some fs
 | fs,(i,x) :: r=>bif Nat.blt i fs.length&&fitsAt 0 ps (fs.set i (ev env x)) then setParts ps env (fs.set i (ev env x)) r else none
def solidK:List TV->Prop->Prop
 | [],K=>K
 | .v x :: r,K=>x.oneCell'=true/\solidK r K
 | _ :: r,K=>solidK r K
def buildK (P:Program) (T:TypeId) (parts:Array (Nat×Operand)) (env:Env) (next:TV->Prop):Prop:=
 match zeroTV P T with
 | some (.agg zs)=>
   match partsOf P T with
   | some ps=>bif fitsAt 0 ps zs then
      match setParts ps env zs parts.toList with
      | some fs=>solidK (parts.toList.map λq=>ev env q.2) (next (.agg fs))
      | none=>False
     else False
   | none=>False
 | _=>False
def isIface (P:Program) (T:TypeId):Bool:=match P.underlying T with | some (.interface _)=>true | none=>true | _=>false
def fieldOff (P:Program) (T:TypeId) (f:Nat):Option Nat:=
 match P.underlying T with
 | some (.struct fs)=>match fs[f]? with
   | some x=>bif Nat.beq (sizeAt P x.type) 0 || !(P.info? x.type).isSome then none else some x.offset
   | none=>none
 | _=>none
def evs (env:Env) (xs:Array Operand):List Value:=xs.toList.map λx=>(ev env x).enc
def allGood (env:Env) (xs:Array Operand):Bool:=xs.toList.all λx=>!(ev env x).isBad
def lenK (P:Program) (T:TypeId) (x:TV) (next:TV->Prop):Prop:=
 match P.underlying T,x with
 | some .string,.s l=>next (.i .i64 l.length)
 | some (.slice _),.sl s=>next (.i .i64 s.len)
 | some (.array n _),.agg _=>next (.i .i64 n)
 | some (.pointer e),.p _=>match P.underlying e with
   | some (.array n _)=>next (.i .i64 n)
   | _=>False
 | _,_=>False
def capK (P:Program) (T:TypeId) (x:TV) (next:TV->Prop):Prop:=
 match P.underlying T,x with
 | some (.slice _),.sl s=>next (.i .i64 s.cap)
 | _,_=>False
def min2:List TV->Option TV
 | [.i k a,.i k' b]=>if k=k' then some (.i k (if b<a then b else a)) else none
 | [.i k a,.i k' b,.i k'' c]=>if k=k'/\k=k'' then some (.i k (if c<(if b<a then b else a) then c else (if b<a then b else a))) else none
 | _=>none
def max2:List TV->Option TV
 | [.i k a,.i k' b]=>if k=k' then some (.i k (if b > a then b else a)) else none
 | [.i k a,.i k' b,.i k'' c]=>if k=k'/\k=k'' then some (.i k (if c > (if b > a then b else a) then c else (if b > a then b else a))) else none
 | _=>none
def isPure (P:Program) (o:Oper):Bool:=
 match o.op with
 | .move _ | .assign _ | .pick _ _ _ | .nilCheck _ | .binOp _ _ _ _ _ | .unOp _ _ _ | .makeInterface _ _ | .makeFunc _ _ _ | .fieldAddr _ _ _
 | .field _ _ _ | .indexAddr _ _ _ | .index _ _ _ | .slice _ _ _ _ _ | .extract _ _ | .build _ _=>true
 | .convert s d _=>match P.underlying s,P.underlying d with
   | some (.int _),some (.int _)=>true
   | some .string,some .string=>true
   | _,_=>false
 | .call {callee:=.builtin .len,argTypes,..}=>match P.underlying (argTypes.getD 0 0) with | some (.map _ _)=>false | _=>true
 | .call {callee:=.builtin .cap,..}=>true
 | .call {callee:=.builtin .min,..}=>true
 | .call {callee:=.builtin .max,..}=>true
 | _=>false
def pureK (P:Program) (o:Oper) (env:Env) (next:TV->Prop):Prop:=
 match o.op with
 | .move x | .assign x=>next (ev env x)
 | .pick c a b=>match ev env c with
   | .b t=>condK t (next (ev env a)) (next (ev env b))
   | _=>False
 | .nilCheck x=>match ev env x with
   | .p a=>onSome a λad=>next (.p (some ad))
   | .v (.func (.func f) first cap)=>next (.v (.func (.func f) first cap))
   | _=>False
 | .binOp op T x y _=>binK P op T x y (ev env x) (ev env y) (kindOf P 20 o.type) next
 | .unOp op _ x=>match op,ev env x with
   | .not,.b t=>next (.b (!t))
   | .neg,.i k n=>next (.i k (k.wrap (0 - n)))
   | .xor,.u64 n=>next (.u64 (~~~n))
   | .xor,.u8 n=>next (.u8 (~~~n))
   | _,_=>False
 | .convert s d x=>match P.underlying s with
   | some _=>convI (P.underlying d) (ev env x) next
   | none=>False
 | .makeInterface T x=>bif isIface P T || (ev env x).isBad then False else next (.v (.iface T (ev env x).enc))
 | .makeFunc fn first captured=>bif allGood env first&&allGood env captured then next (.v (.func fn (evs env first).toArray (evs env captured).toArray)) else False
 | .fieldAddr T x f=>match fieldOff P T f,ev env x with
   | some off,.p a=>onSome a λad=>next (.p (some (ad.add off)))
   | _,_=>False
 | .field T x f=>match ev env x,partsOf P T with
   | .agg fs,some ps=>match fs[f]? with
     | some y=>bif fitsAt 0 ps fs&&(fieldsOf P T).isSome then next y else False
     | none=>False
   | _,_=>False
 | .indexAddr T x i=>match P.underlying T with
   | some (.slice e)=>match ev env x,(ev env i).num with
     | .sl s,some n=>bif (P.info? e).isSome then idxK n s.len s.a (sizeAt P e) next else False
     | _,_=>False
   | some (.array len e)=>match ev env x,(ev env i).num with
     | .p a,some n=>bif (P.info? e).isSome then idxK n len a (sizeAt P e) next else False
     | _,_=>False
   | _=>False
 | .index T x i=>match P.underlying T with
   | some .string=>match ev env x,(ev env i).num with
     | .s l,some n=>0<=n/\∃ c:UInt8,l[n.toNat]? = some c/\next (.u8 c)
     | _,_=>False
   | some (.array len e)=>match ev env x,(ev env i).num with
     | .agg fs,some n=>bif kdFit P e then (0<=n/\n<len)/\(∀ z∈fs,z.cells.length=sizeAt P e)/\exK (kindOf P 20 e) λy=>fs[n.toNat]? = some y/\next y else False
     | _,_=>False
   | _=>False
 | .slice T x lo hi mx=>match optNum env lo,optNum env hi,optNum env mx with
   | some l,some h,some m=>match P.underlying T,ev env x with
     | some .string,.s s=>match m with
       | none=>boundK s.length s.length l h none λl h _=>next (.s ((s.take h).drop l))
       | some _=>False
     | some (.slice e),.sl s=>bif (P.info? e).isSome then boundK s.len s.cap l h m λl h m=>next (.sl (cutSl s (sizeAt P e) l h m)) else False
     | some (.array n e),.p a=>bif (P.info? e).isSome&&m.isNone then onSome a λad=>boundK n n l h none λl h m=>next (.sl (cutSl ⟨some ad,n,n⟩ (sizeAt P e) l h m)) else False
     | _,_=>False
   | _,_,_=>False
 | .extract t i=>match ev env t with
   | .tup fs=>match fs[i]? with
     | some y=>next y
     | none=>False
   | .v x=>∃ vs:Array Value,x = .tuple vs/\exK (kindOf P 20 o.type) λy=>vs[i]? = some y.enc/\next y
   | _=>False
 | .build T parts=>buildK P T parts env next
 | .call {callee:=.builtin .len,args,argTypes}=>match args.toList,argTypes.toList with
   | [x],[T]=>lenK P T (ev env x) next
   | _,_=>False
 | .call {callee:=.builtin .cap,args,argTypes}=>match args.toList,argTypes.toList with
   | [x],[T]=>capK P T (ev env x) next
   | _,_=>False
 | .call {callee:=.builtin .min,args,..}=>match min2 (args.toList.map (ev env)) with
   | some y=>next y
   | none=>False
 | .call {callee:=.builtin .max,args,..}=>match max2 (args.toList.map (ev env)) with
   | some y=>next y
   | none=>False
 | _=>False
def resK (κ:Kd) (v:Value) (next:TV->Prop):Prop:=exK κ λt=>v=t.enc/\next t
def yieldK (P:Program) (l:Nat) (args:List Value) (w:World) (K:Value->World->Prop):Prop:=
 ∃ f tmps assign body,(Instr.yield l args.toArray).run P w = .ok (.round l f tmps assign body) w/\RoundIn Fence.wide 0 P l f tmps assign body w λe w'=>∃ v,e = .returned v/\K v w'
def callFV (P:Program) (fv:Value) (args:List Value) (w:World) (pan:List PanicEntry->World->Prop) (K:Value->World->Prop):Prop:=
 match fv with
 | .func (.func f) first cap=>bif enters P f then callK P f (first.toList++args++cap.toList) w pan K
    else ∃ v w',(callFunc f (first++args.toArray++cap)).run P w = .ok (.value v) w'/\K v w'
 | .func (.yield l) first cap=>yieldK P l (first.toList++args) w K
 | .func fn first cap=>∃ f args',(invoke (.fn fn cap) (first++args.toArray)).run P w = .ok (.enter f args') w/\callK P f args'.toList w pan K
 | _=>False
def panV (v:Value) (K:Value->Prop):Prop:=match v with | .iface T y=>K (.iface T y) | _=>False
def stateK (P:Program) (o:Oper) (env:Env) (w:World) (pan:List PanicEntry->World->Prop) (next:TV->World->Prop):Prop:=
 let κ:=kindOf P 20 o.type
 let semk (κ:Kd) (s:Sem Value):Prop:=semK P s w λv w'=>resK κ v λt=>next t w'
 let sem (s:Sem Value):Prop:=semK P s w λv w'=>resK κ v λt=>next t w'
 let semu (s:Sem Unit):Prop:=semU P s w λw'=>next .bad w'
 let e (x:Operand):Value:=(ev env x).enc
 let g (x:Operand):Bool:=!(ev env x).isBad
 match o.op with
 | .load T a=>match ev env a with
   | .p q=>onSome q λad=>bif kdFit P T then exK (kindOf P 20 T) λt=>Rd w ad t.cells/\next t w else False
   | _=>False
 | .store T a x=>match ev env a with
   | .p q=>onSome q λad=>bif g x then semu (storeVar T ad (e x)) else False
   | _=>False
 | .alloc T=>semk .p (Instr.alloc T true (.tuple #[]))
 | .box T x=>bif g x then semk .p (Instr.box T (e x)) else False
 | .buildSlice T n parts=>bif parts.toList.all (λq=>g q.2) then semk .sl (Instr.buildSlice T n (parts.map λ(i,x)=>(i,e x))) else False
 | .convert s d x=>bif g x then semk (kindOf P 20 d) (convert s d (e x)) else False
 | .makeMap T r=>match r with
   | none=>semk .m (Instr.makeMap T none)
   | some x=>bif g x then semk .m (Instr.makeMap T (some (e x))) else False
 | .makeSlice T l c=>bif g l&&g c then semk .sl (Instr.makeSlice T (e l) (e c)) else False
 | .lookup T x i ok=>bif g x&&g i then sem (Instr.lookup T (e x) (e i) ok) else False
 | .mapUpdate T m k x | .insert T m k x=>bif g m&&g k&&g x then semu (Instr.mapUpdate T (e m) (e k) (e x)) else False
 | .mapEntry T m k=>bif g m&&g k then sem (Instr.mapEntry T (e m) (e k)) else False
 | .entryStore T m s x=>bif g m&&g s&&g x then semu (Instr.entryStore T (e m) (e s) (e x)) else False
 | .range T x=>bif g x then semk .p (Instr.range T (e x)) else False
 | .next it isS=>bif g it then semk .v (Instr.next (e it) isS o.type) else False
 | .entry it=>bif g it then semk .v (Instr.entry (e it)) else False
 | .typeAssert x T a ok=>bif g x then sem (Instr.typeAssert (e x) T a ok) else False
 | .panic x=>match ev env x with
   | .v y=>panV y λz=>pan [{v:=z,recovered:=false}] w
   | _=>False
 | .call c=>bif allGood env c.args then
    match c.callee with
    | .builtin .append=>semk .sl (Builtin.append_ c.argTypes o.type (evs env c.args).toArray)
    | .builtin .copy=>semk (.i .i64) (Builtin.copy_ c.argTypes o.type (evs env c.args).toArray)
    | .builtin .delete=>semk (.tup []) (Builtin.delete_ c.argTypes o.type (evs env c.args).toArray)
    | .builtin .clear=>semk (.tup []) (Builtin.clear_ c.argTypes o.type (evs env c.args).toArray)
    | .builtin .len=>semk (.i .i64) (Builtin.len_ c.argTypes o.type (evs env c.args).toArray)
    | .builtin .unsafeSliceData=>sem (Builtin.unsafeSliceData_ c.argTypes o.type (evs env c.args).toArray)
    | .builtin .unsafeString=>sem (Builtin.unsafeString_ c.argTypes o.type (evs env c.args).toArray)
    | .builtin _=>False
    | .value f=>match ev env f with
      | .v fv=>callFV P fv (evs env c.args) w pan λv w'=>resK κ v λt=>next t w'
      | _=>False
    | .invoke r name=>match ev env r with
      | .v rv=>∃ f args',(invoke (.fn (.method name) #[]) (#[rv]++(evs env c.args).toArray)).run P w = .ok (.enter f args') w/\
         callK P f args'.toList w pan λv w'=>resK κ v λt=>next t w'
      | _=>False
   else False
 | _=>False
def runOp (P:Program) (o:Oper) (env:Env) (w:World) (pan:List PanicEntry->World->Prop) (next:TV->World->Prop):Prop:=
 bif isPure P o then pureK P o env λt=>next t w else stateK P o env w pan next
structure Kt where
 nrm:List Deferred->Env->World->Prop
 ext:Nat->List Deferred->Env->World->Prop
 ret:List Deferred->Env->World->Prop
 pan:List Deferred->Env->List PanicEntry->World->Prop
def isLoadOp (o:Oper):Bool:=match o.op with | .load _ _=>true | _=>false
def isStoreOp (o:Oper):Bool:=match o.op with | .store ..=>true | _=>false
def twoB (ops:Array Oper) (o:Oper) (i:Nat):Bool:=o.after.any λe=>Region.binds .any e&&match ops[e.on]? with
 | some y=>y.after.any λg=>Region.binds .any g&&Nat.beq g.on i
 | none=>false
def late (ops:Array Oper) (j:Nat):Bool:=
 match ops[j]? with
 | some o=>(List.range ops.size).all λi=>match ops[i]? with
   | some x=>!isLoadOp x || (o.after.any λe=>Region.binds .any e&&Nat.beq e.on i) || (isStoreOp o&&twoB ops o i)
   | none=>true
 | none=>false
def eff (P:Program) (ops:Array Oper) (j:Nat):Bool:=match ops[j]? with | some o=>!isPure P o&&!isLoadOp o | none=>true
def isDefer:Op->Bool
 | .defer _=>true
 | _=>false
def slotOf (ops:List Oper) (j:Nat):Option Nat:=match ops[j]? with | some o=>o.dst | none=>none
def guardK (ops:List Oper) (o:Oper) (env:Env) (yes:Env->Prop) (no:Env->Prop):Prop:=
 match o.guard with
 | none=>yes env
 | some (j,want)=>
   match slotOf ops j with
   | some d=>match look env d with
     | .b t=>condK t (bif want then yes ((d,.b true) :: env) else no ((d,.b true) :: env)) (bif want then no ((d,.b false) :: env) else yes ((d,.b false) :: env))
     | .tup _=>no env
     | _=>False
   | none=>False
def inRange (N:Nat):Option Tmp->Bool
 | none=>true
 | some d=>Nat.blt d N
def deferK (o:Oper) (env:Env) (next:Deferred->Prop):Prop:=
 match o.op with
 | .defer {callee:=.value f,args,..}=>bif allGood env args then
    match ev env f with
    | .v (.func fn first cap)=>next {target:=.fn fn cap,args:=first++(evs env args).toArray}
    | _=>False
   else False
 | _=>False
def denOps (P:Program) (N:Nat) (r:Option Nat) (ops:List Oper) (pan:List Deferred->List PanicEntry->World->Prop):List Oper->(List Deferred->Env->World->Prop)->List Deferred->Env->World->Prop
 | [],k,ds,env,w=>k ds env w
 | o :: q,k,ds,env,w=>bif inRange N o.dst then
     bif isDefer o.op then
      bif o.guard.isNone&&r.isNone&&o.dst.isNone then deferK o env λd=>denOps P N r ops pan q k (d :: ds) env w else False
     else
     guardK ops o env (λenv=>runOp P o env w (pan ds) λt w'=>denOps P N r ops pan q k ds (putD env o.dst t) w')
      (λenv=>denOps P N r ops pan q k ds (putD env o.dst (.tup [])) w)
   else False
mutual
def noLa:Kd->Bool
 | .la _ _=>false
 | .agg fs=>noLas fs
 | .tup fs=>noLas fs
 | _=>true
def noLas:List Kd->Bool
 | []=>true
 | k :: r=>noLa k&&noLas r
end
structure Mod (S:Nat->Prop) (w w':World):Prop where
 os:w'.os=w.os
 tape:w'.tape=w.tape
 output:w'.output=w.output
 size:w.heap.size<=w'.heap.size
 block : ∀ b,b<w.heap.size->¬ S b->w'.heap[b]? = w.heap[b]?
def NoB:Nat->Prop:=λ_=>False
theorem Mod.refl (S:Nat->Prop) (w:World):Mod S w w:=⟨rfl,rfl,rfl,Nat.le_refl _,λ_ _ _=>rfl⟩
theorem Mod.trans {S S' S'':Nat->Prop} {a b c:World} (h:Mod S a b) (h':Mod S' b c) (h1 : ∀ x,x<a.heap.size->S x->S'' x) (h2 : ∀ x,x<a.heap.size->S' x->S'' x):Mod S'' a c:=
 ⟨h'.os.trans h.os,h'.tape.trans h.tape,h'.output.trans h.output,Nat.le_trans h.size h'.size,
  λx hx hn=>(h'.block x (Nat.lt_of_lt_of_le hx h.size) (λe=>hn (h2 x hx e))).trans (h.block x hx (λe=>hn (h1 x hx e)))⟩
theorem Mod.mono {S S':Nat->Prop} {a b:World} (h:Mod S a b) (h1 : ∀ x,x<a.heap.size->S x->S' x):Mod S' a b:=
 ⟨h.os,h.tape,h.output,h.size,λx hx hn=>h.block x hx (λe=>hn (h1 x hx e))⟩
theorem Mod.no {S:Nat->Prop} {a b c:World} (h:Mod NoB a b) (h':Mod S b c):Mod S a c:=h.trans h' (λ_ _ h=>h.elim) (λ_ _ h=>h)
theorem Mod.no' {S:Nat->Prop} {a b c:World} (h:Mod S a b) (h':Mod NoB b c):Mod S a c:=h.trans h' (λ_ _ h=>h) (λ_ _ h=>h.elim)
theorem Mod.tr {S:Nat->Prop} {a b c:World} (h:Mod S a b) (h':Mod S b c):Mod S a c:=h.trans h' (λ_ _ h=>h) (λ_ _ h=>h)
theorem Mod.drew (S:Nat->Prop) (w:World):Mod S w w.drew:=⟨rfl,rfl,rfl,Nat.le_refl _,λ_ _ _=>rfl⟩
theorem Mod.fresh {S S':Nat->Prop} {a b c:World} (h:Mod S a b) (h':Mod S' b c) (h2 : ∀ x,S' x->a.heap.size<=x):Mod S a c:=
 h.trans h' (λ_ _ h=>h) (λx hx e=>by have:=h2 x e; omega)
inductive DS where
 | done
 | take (i:Nat) (r:DS)
 | all (rs:List (Nat×DS))
 | safe (is:List (Nat×Kd)) (r:DS)
def isPL (P:Program) (o:Oper):Bool:=isPure P o || isLoadOp o
def bafter (o:Oper) (j:Nat):Bool:=o.after.any λe=>Region.binds .any e&&Nat.beq e.on j
def dstAt (ops:Array Oper) (j:Nat):Option Tmp:=match ops[j]? with | some o=>o.dst | none=>none
def safeOk (P:Program) (ops:Array Oper) (listed:Array Bool) (is:List (Nat×Kd)):Bool:=
 (is.all λq=>match ops[q.1]? with
  | none=>false
  | some o=>o.guard.isNone&&!isDefer o.op&&o.dst.isSome&&!(listed.getD q.1 true)&&(isPL P o || noLa q.2)
    && (is.all λp=>Nat.beq p.1 q.1 || !(dstAt ops p.1==o.dst))
    && (is.all λp=>bafter o p.1 || !((o.looksAt ops).any λt=>dstAt ops p.1==some t))
    && (o.after.all λe=>!Region.binds .any e || (listed.getD e.on false || (is.any λp=>Nat.beq p.1 e.on&&Nat.blt p.1 q.1)))
    && (is.all λp=>Nat.blt p.1 q.1 || !bafter o p.1))
 && (List.range ops.size).all λk=>listed.getD k true || (is.any λq=>Nat.beq q.1 k) ||
     match ops[k]? with
     | none=>false
     | some o=>(o.after.any λe=>Region.binds .any e&&!(listed.getD e.on true)&&!(is.any λq=>Nat.beq q.1 e.on)) || is.all λq=>bafter o q.1 || is.any λp=>bafter o p.1&&match ops[p.1]? with | some x=>bafter x q.1 | none=>false
def safeRng (N:Nat) (ops:Array Oper) (is:List (Nat×Kd)):Bool:=is.all λq=>match dstAt ops q.1 with | some d=>Nat.blt d N | none=>false
def incr:List (Nat×Kd)->Bool
 | []=>true
 | [_]=>true
 | a :: b :: r=>Nat.blt a.1 b.1&&incr (b :: r)
def setAll (listed:Array Bool):List (Nat×Kd)->Array Bool
 | []=>listed
 | q :: r=>setAll (listed.setIfInBounds q.1 true) r
def hypsK (Ts:Nat->Value->World->Prop) (w:World):List (Nat×TV)->Prop->Prop
 | [],X=>X
 | (i,t) :: r,X=>Ts i t.enc w->hypsK Ts w r X
def safK (P:Program) (N:Nat) (ops:Array Oper) (S:World->Prop) (LD:Addr->List Value->Prop) (Ts:Nat->Value->World->Prop) (pan:List PanicEntry->World->Prop) (w0:World) (fin:Env->World->Prop):List (Nat×Kd)->List (Nat×TV)->Env->Prop
 | [],hs,env=>∀ w,Mod NoB w0 w->S w->hypsK Ts w hs (fin env w)
 | (i,κ) :: r,hs,env=>match ops[i]? with
   | none=>False
   | some o=>bif inRange N o.dst then
      bif isPure P o then pureK P o env λt=>safK P N ops S LD Ts pan w0 fin r hs (putD env o.dst t)
      else bif isLoadOp o then match o.op with
       | .load T a=>match ev env a with
         | .p q=>onSome q λad=>bif kdFit P T then exK (kindOf P 20 T) λt=>LD ad t.cells/\safK P N ops S LD Ts pan w0 fin r hs (putD env o.dst t) else False
         | _=>False
       | _=>False
      else (∀ w,Mod NoB w0 w->S w->hypsK Ts w (hs.filter λh=>bafter o h.1) (runOp P o env w pan λt w'=>bif okK κ t then Mod NoB w w'/\S w'/\Ts i t.enc w' else False))/\
       allK κ λt=>safK P N ops S LD Ts pan w0 fin r ((i,t) :: hs) (putD env o.dst t)
     else False
mutual
def denDraw (P:Program) (N:Nat) (ops:Array Oper) (S:World->Prop) (LD:Addr->List Value->Prop) (pan:List PanicEntry->World->Prop) (k:Env->World->Prop):DS->Nat->Array Bool->Env->World->Prop
 | .done,_,listed,env,w=>bif (Region.ready .any ops listed).isEmpty then k env w else False
 | .take _ _,0,_,_,_=>False
 | .take i r,f+1,listed,env,w=>
   match ops[i]? with
   | none=>False
   | some o=>bif inRange N o.dst&&Region.free .any ops listed i&&(Region.ready .any ops listed).contains i then
      bif isPure P o then
       guardK ops.toList o env (λenv=>pureK P o env λt=>denDraw P N ops S LD pan k r f (listed.setIfInBounds i true) (putD env o.dst t) w)
        (λenv=>denDraw P N ops S LD pan k r f (listed.setIfInBounds i true) (putD env o.dst (.tup [])) w)
      else
       match o.op with
       | .load T a=>
         guardK ops.toList o env (λenv=>match ev env a with
          | .p q=>onSome q λad=>bif kdFit P T then exK (kindOf P 20 T) λt=>LD ad t.cells/\
             denDraw P N ops S LD pan k r f (listed.setIfInBounds i true) (putD env o.dst t) w else False
          | _=>False)
          (λenv=>denDraw P N ops S LD pan k r f (listed.setIfInBounds i true) (putD env o.dst (.tup [])) w)
       | _=>False
     else False
 | .all _,0,_,_,_=>False
 | .safe is r,f,listed,env,w=>bif safeOk P ops listed is&&incr is&&safeRng N ops is&&Nat.ble is.length f&&Nat.beq listed.size ops.size then
    ∃ Ts:Nat->Value->World->Prop,(∀ i v w1 w2,Mod NoB w1 w2->Ts i v w1->Ts i v w2)/\S w/\
      safK P N ops S LD Ts pan w (λenv w'=>denDraw P N ops S LD pan k r (f - is.length) (setAll listed is) env w') is [] env
   else False
 | .all rs,f+1,listed,env,w=>bif Region.ready .any ops listed==rs.map (·.1)&&!rs.isEmpty then denDraws P N ops S LD pan k rs f listed env w else False
def denDraws (P:Program) (N:Nat) (ops:Array Oper) (S:World->Prop) (LD:Addr->List Value->Prop) (pan:List PanicEntry->World->Prop) (k:Env->World->Prop):List (Nat×DS)->Nat->Array Bool->Env->World->Prop
 | [],_,_,_,_=>True
 | (i,r) :: rs,f,listed,env,w=>
   (match ops[i]? with
   | none=>False
   | some o=>bif inRange N o.dst then
      guardK ops.toList o env (λenv=>runOp P o env w pan λt w'=>bif eff P ops i&&!late ops i then S w'/\denDraw P N ops S LD pan k r f (listed.setIfInBounds i true) (putD env o.dst t) w' else denDraw P N ops S LD pan k r f (listed.setIfInBounds i true) (putD env o.dst t) w')
       (λenv=>bif eff P ops i&&!late ops i then S w/\denDraw P N ops S LD pan k r f (listed.setIfInBounds i true) (putD env o.dst (.tup [])) w else denDraw P N ops S LD pan k r f (listed.setIfInBounds i true) (putD env o.dst (.tup [])) w)
     else False)/\denDraws P N ops S LD pan k rs f listed env w
end
inductive Ann where
 | z
 | seq (j:Option (List (Nat×Kd))) (a b:Ann)
 | cond (a b:Ann)
 | block (j:Option (List (Nat×Kd))) (a:Ann)
 | loop (vs:List (Nat×Kd)) (a:Ann)
 | unroll (n:Nat) (a:Ann)
 | rf (hasRet:Bool) (ids:List Nat) (ks:List Kd) (a b:Ann)
 | draw (fl:Nat) (d:DS)
def opsWrite:List Oper->List Nat
 | []=>[]
 | o :: r=>match o.dst with | some d=>d :: opsWrite r | none=>opsWrite r
def writes:Code->List Nat
 | .region _ ops _=>opsWrite ops.toList
 | .seq a b=>writes a++writes b
 | .cond _ a b=>writes a++writes b
 | .block _ a=>writes a
 | .loop a=>writes a
 | _=>[]
def poison (ts:List Nat) (env:Env):Env:=ts.map (λt=>(t,TV.bad))++env
def vals (env:Env) (vs:List (Nat×Kd)):List TV:=vs.map λv=>look env v.1
def binds (vs:List (Nat×Kd)) (xs:List TV):Env:=List.zipWith (λv x=>(v.1,x)) vs xs
def kinds (vs:List (Nat×Kd)):List Kd:=vs.map (·.2)
def subB (env:Env):Operand->Bool->Env
 | .tmp t,x=>(t,.b x) :: env
 | _,_=>env
def opsDefer (l:List Oper):Bool:=l.any λo=>isDefer o.op
def quiet:Code->Bool
 | .region _ ops _=>!opsDefer ops.toList
 | .seq a b=>quiet a&&quiet b
 | .cond _ a b=>quiet a&&quiet b
 | .block _ a=>quiet a
 | .loop a=>quiet a
 | .rangeFunc _ _ _ _=>false
 | .scope a=>quiet a
 | _=>true
def unr:Nat->((List Deferred->Env->World->Prop)->List Deferred->Env->World->Prop)->List Deferred->Env->World->Prop
 | 0,_,_,_,_=>False
 | n+1,f,ds,env,w=>f (λds env w=>unr n f ds env w) ds env w
def bindPs:List Tmp->List TV->Env->Env
 | t :: ts,x :: xs,env=>bindPs ts xs ((t,x) :: env)
 | _,_,env=>env
abbrev mkD (D:Nat):Deferred:={target:=.collected D,args:=#[]}
def orIds (p:Nat->Prop):List Nat->Prop
 | []=>False
 | i :: r=>p i\/orIds p r
def den (P:Program) (N:Nat):Option Nat->Ann->Code->Kt->List Deferred->Env->World->Prop
 | _,_,.skip,k,ds,env,w=>k.nrm ds env w
 | _,_,.ret,k,ds,env,w=>k.ret ds env w
 | _,_,.exit id,k,ds,env,w=>k.ext id ds env w
 | r,.seq none a b,.seq x y,k,ds,env,w=>den P N r a x {k with nrm:=λds env w=>den P N r b y k ds env w} ds env w
 | r,.seq (some vs) a b,.seq x y,k,ds,env,w=>bif quiet x then
   ∃ J:List TV->World->Prop,den P N r a x {k with nrm:=λ_ env w=>bif okKs (kinds vs) (vals env vs) then J (vals env vs) w else False} ds env w/\
     allKs (kinds vs) λxs=>∀ w,J xs w->den P N r b y k ds (binds vs xs++poison (writes x) env) w
   else False
 | r,.cond a b,.cond c x y,k,ds,env,w=>match ev env c with
   | .b t=>condK t (den P N r a x k ds (subB env c true) w) (den P N r b y k ds (subB env c false) w)
   | _=>False
 | r,.block none a,.block id x,k,ds,env,w=>den P N r a x {k with ext:=λi ds env w=>bif Nat.beq i id then k.nrm ds env w else k.ext i ds env w} ds env w
 | r,.block (some vs) a,.block id x,k,ds,env,w=>bif quiet x then
   ∃ J:List TV->World->Prop,den P N r a x {k with
      nrm:=λ_ env w=>bif okKs (kinds vs) (vals env vs) then J (vals env vs) w else False
      ext:=λi ds env w=>bif Nat.beq i id then (bif okKs (kinds vs) (vals env vs) then J (vals env vs) w else False) else k.ext i ds env w} ds env w/\
     allKs (kinds vs) λxs=>∀ w,J xs w->k.nrm ds (binds vs xs++poison (writes x) env) w
   else False
 | r,.loop vs a,.loop x,k,ds,env,w=>
   bif okKs (kinds vs) (vals env vs)&&quiet x then
    ∃ (I:List TV->World->Prop) (μ:List TV->World->Nat),I (vals env vs) w/\
      allKs (kinds vs) λxs=>∀ w,I xs w->den P N r a x {k with
       nrm:=λ_ env' w'=>bif okKs (kinds vs) (vals env' vs) then I (vals env' vs) w'/\μ (vals env' vs) w'<μ xs w else False}
       ds (binds vs xs++poison (writes x) env) w
   else False
 | r,.unroll n a,.loop x,k,ds,env,w=>unr n (λnrm ds env w=>den P N r a x {k with nrm:=nrm} ds env w) ds env w
 | r,_,.region _ ops false,k,ds,env,w=>denOps P N r ops.toList (λds c w=>k.pan ds (poison (opsWrite ops.toList) env) c w) ops.toList k.nrm ds env w
 | r,.draw 0 d,.region _ ops true,k,ds,env,w=>bif Region.noSelect ops&&P.follows .mixedOrders&&!opsDefer ops.toList then
    denDraw P N ops (λ_=>True) (λ_ _=>False) (k.pan ds (poison (opsWrite ops.toList) env)) (k.nrm ds) d ops.size (Array.replicate ops.size false) env w.drew else False
 | r,.draw 1 d,.region _ ops true,k,ds,env,w=>bif Region.noSelect ops&&P.follows .mixedOrders&&!opsDefer ops.toList then
    ∃ S:World->Prop,S w.drew/\denDraw P N ops S (λad cs=>∀ w',S w'->Rd w' ad cs) (k.pan ds (poison (opsWrite ops.toList) env)) (k.nrm ds) d ops.size (Array.replicate ops.size false) env w.drew else False
 | r,.draw 2 d,.region _ ops true,k,ds,env,w=>bif Region.noSelect ops&&P.follows .mixedOrders&&!opsDefer ops.toList then
    denDraw P N ops (λw'=>w'=w.drew) (λad cs=>Rd w.drew ad cs) (k.pan ds (poison (opsWrite ops.toList) env)) (k.nrm ds) d ops.size (Array.replicate ops.size false) env w.drew else False
 | none,.rf hasRet ids ks a b,.rangeFunc g ps assign body,k,ds,env,w=>
   match ev env g with
   | .v fv=>
     bif noLas ks&&Nat.beq ps.size ks.length&&ps.toList.all (λt=>Nat.blt t N)&&quiet assign&&quiet body then
      ∃ (f:FuncId) (first cap:Array Value),fv = .func (.func f) first cap/\enters P f=true/\∀ (rec:LoopState->Option Code->Obj) (D l:Nat) (w1:World),D=w.heap.size->l=D+1->w1=(w.alloc (.deferred (some []))).alloc (rec .ready none)->
        (allKs ks λxs=>∀ (w2:World) (K:Value->World->Prop),w2.heap[l]? = some (rec .ready none)->
         den P N (some l) a assign (Kt.mk (λ_ env w3=>w3.heap[l]? = some (rec .ready none)/\den P N (some l) b body (Kt.mk
             (λ_ _ w4=>w4.heap[l]? = some (rec .busy none)/\K (.bool true) (w4.putObj l (rec .ready none)))
             (λid _ _ w4=>w4.heap[l]? = some (rec .busy none)/\K (.bool false) (w4.putObj l (rec .done (some (.exit id)))))
             (λ_ _ w4=>w4.heap[l]? = some (rec .busy none)/\K (.bool false) (w4.putObj l (rec .done (some .ret))))
             (λ_ _ _ _=>False)) [] env (w3.putObj l (rec .busy none)))
          (λ_ _ _ _=>False) (λ_ _ _=>False) (λ_ _ _ _=>False)) [] (bindPs ps.toList xs env) w2->yieldK P l (encL xs) w2 K)->
        callK P f (first.toList++[.func (.yield l) #[] #[]]++cap.toList) w1 (k.pan (mkD D :: ds) env) λ_ w6=>
         (w6.heap[l]? = some (rec .ready none)/\k.nrm (mkD D :: ds) env (w6.putObj l (rec .exhausted none)))\/
         (bif hasRet then (w6.heap[l]? = some (rec .done (some .ret))/\k.ret (mkD D :: ds) env (w6.putObj l (rec .exhausted (some .ret)))) else False)\/
         orIds (λid=>w6.heap[l]? = some (rec .done (some (.exit id)))/\k.ext id (mkD D :: ds) env (w6.putObj l (rec .exhausted (some (.exit id))))) ids
     else False
   | _=>False
 | _,_,_,_,_,_,_=>False
def packV:List TV->TV
 | [x]=>x
 | xs=>.tup xs
def retK (P:Program) (env:Env) (w:World):List ResultVar->List TV->(TV->Prop)->Prop
 | [],acc,K=>K (packV acc.reverse)
 | .tmp t :: r,acc,K=>bif (look env t).isBad then False else retK P env w r (look env t :: acc) K
 | .cell t T :: r,acc,K=>match look env t with
   | .p q=>onSome q λad=>bif kdFit P T then exK (kindOf P 20 T) λx=>Rd w ad x.cells/\retK P env w r (x :: acc) K else False
   | _=>False
def leaveC:List Deferred->World->(World->Prop)->Prop
 | [],w,K=>K w
 | d :: ds,w,K=>match d.target with
   | .collected D=>w.heap[D]? = some (.deferred (some []))/\leaveC ds (w.putObj D (.deferred none)) K
   | _=>False
def panRK (R:Ending->World->Prop) (ds:List Deferred) (c:List PanicEntry) (w:World):Prop:=leaveC ds w λw=>R (.panicked c) w
def callDK (P:Program) (f:FuncId) (args:Array Value) (u:FrameMode) (w:World) (K:FrameMode->World->Prop):Prop:=
 CallsDIn Fence.wide 0 P f args u w λ
  | .returned _,u',w'=>settle u'≠.run/\K (settle u') w'
  | .panicked c,u',w'=>raised u' c≠.run/\K (raised u' c) w'
  | .outgrown,_,_=>False
def leaveK (P:Program):List Deferred->FrameMode->World->(FrameMode->World->Prop)->Prop
 | [],u,w,K=>K u w
 | d :: ds,u,w,K=>match d.target with
   | .collected D=>w.heap[D]? = some (.deferred (some []))/\leaveK P ds u (w.putObj D (.deferred none)) K
   | .fn (.func f) cap=>bif enters P f then callDK P f (d.args++cap) u w λu w=>leaveK P ds u w K else False
   | _=>False
def onMode (u:FrameMode) (x:Prop) (y:List PanicEntry->Prop):Prop:=match u with | .returning=>x | .panicking c=>y c | .run=>False
def endK (P:Program) (fn:Func) (R:Ending->World->Prop) (env:Env) (u:FrameMode) (w:World):Prop:=
 onMode u (retK P env w fn.results.toList [] λt=>R (.returned t.enc) w) λc=>R (.panicked c) w
def retR (P:Program) (fn:Func) (R:Ending->World->Prop) (ds:List Deferred) (env:Env) (w:World):Prop:=leaveK P ds .returning w (endK P fn R env)
def ktOf (P:Program) (fn:Func) (R:Ending->World->Prop):Kt where
 nrm:=retR P fn R
 ext:=λ_ _ _ _=>False
 ret:=retR P fn R
 pan:=λds env c w=>leaveK P ds (.panicking c) w (endK P fn R env)
def recU:FrameMode->Option (Value×FrameMode)
 | .panicking ({v,recovered:=false,goexit:=false} :: older)=>some (v,.panicking ({v,recovered:=true} :: older))
 | _=>none
def recK (u:FrameMode) (next:Value->FrameMode->Prop):Prop:=match recU u with | some p=>next p.1 p.2 | none=>next .nilIface u
def isRec:Op->Bool
 | .call {callee:=.builtin .recover,..}=>true
 | _=>false
def okS:Op->Bool
 | .store _ _ _ | .typeAssert _ _ _ _ | .panic _ | .alloc _ | .load _ _=>true
 | _=>false
structure KtS where
 nrm:FrameMode->Env->World->Prop
 ret:FrameMode->Env->World->Prop
 pan:FrameMode->List PanicEntry->World->Prop
def opsS (P:Program) (N:Nat) (pan:FrameMode->List PanicEntry->World->Prop):List Oper->(FrameMode->Env->World->Prop)->FrameMode->Env->World->Prop
 | [],k,u,env,w=>k u env w
 | o :: q,k,u,env,w=>bif inRange N o.dst&&o.guard.isNone then
     bif isRec o.op then recK u λv u=>opsS P N pan q k u (putD env o.dst (.v v)) w
     else bif isPure P o then pureK P o env λt=>opsS P N pan q k u (putD env o.dst t) w
     else bif okS o.op then stateK P o env w (pan u) λt w=>opsS P N pan q k u (putD env o.dst t) w else False
   else False
def denS (P:Program) (N:Nat):Code->KtS->FrameMode->Env->World->Prop
 | .skip,k,u,env,w=>k.nrm u env w
 | .ret,k,u,env,w=>k.ret u env w
 | .seq x y,k,u,env,w=>denS P N x {k with nrm:=λu env w=>denS P N y k u env w} u env w
 | .cond c x y,k,u,env,w=>match ev env c with
   | .b t=>condK t (denS P N x k u (subB env c true) w) (denS P N y k u (subB env c false) w)
   | _=>False
 | .region _ ops false,k,u,env,w=>opsS P N k.pan ops.toList k.nrm u env w
 | _,_,_,_,_=>False
def ktSOf (P:Program) (fn:Func) (R:Ending->FrameMode->World->Prop):KtS where
 nrm:=λu env w=>retK P env w fn.results.toList [] λt=>R (.returned t.enc) u w
 ret:=λu env w=>retK P env w fn.results.toList [] λt=>R (.returned t.enc) u w
 pan:=λu c w=>R (.panicked c) u w
def envOf:Nat->List TV->Env
 | _,[]=>[]
 | i,x :: r=>(i,x) :: envOf (i+1) r
theorem enc_ofVal (v:Value):(ofVal v).isBad=false/\(ofVal v).enc=v:=by
 unfold ofVal
 split
 ·rename_i n
  by_cases h:0<=n/\n<256
  ·rw [if_pos h]
   refine ⟨rfl,?_⟩
   simp only [TV.enc]
   congr 1
   have:n.toNat<256:=by omega
   simp [UInt8.toNat_ofNat',Nat.mod_eq_of_lt this]
   omega
  ·rw [if_neg h]; exact ⟨rfl,rfl⟩
 ·rename_i n
  by_cases h:0<=n/\n<18446744073709551616
  ·rw [if_pos h]
   refine ⟨rfl,?_⟩
   simp only [TV.enc]
   congr 1
   have:n.toNat<18446744073709551616:=by omega
   simp [UInt64.toNat_ofNat',Nat.mod_eq_of_lt this]
   omega
  ·rw [if_neg h]; exact ⟨rfl,rfl⟩
 all_goals first | exact ⟨rfl,rfl⟩ | (refine ⟨rfl,?_⟩; simp [TV.enc])
mutual
theorem exK_out : ∀ (κ:Kd) (K:TV->Prop),exK κ K->∃ t,t.cells.length=kdSize κ/\t.isAgg=kdAgg κ/\t.isBad=false/\K t
 | .i k,K,⟨n,h⟩=>⟨_,rfl,rfl,rfl,h⟩
 | .u8,K,⟨n,h⟩=>⟨_,rfl,rfl,rfl,h⟩
 | .u64,K,⟨n,h⟩=>⟨_,rfl,rfl,rfl,h⟩
 | .b,K,⟨n,h⟩=>⟨_,rfl,rfl,rfl,h⟩
 | .s,K,⟨n,h⟩=>⟨_,rfl,rfl,rfl,h⟩
 | .p,K,⟨n,h⟩=>⟨_,rfl,rfl,rfl,h⟩
 | .sl,K,⟨n,h⟩=>⟨_,rfl,rfl,rfl,h⟩
 | .m,K,⟨n,h⟩=>⟨_,rfl,rfl,rfl,h⟩
 | .v,K,⟨n,h⟩=>⟨_,rfl,rfl,rfl,h⟩
 | .agg fs,K,h=>by
   unfold exK at h
   obtain ⟨xs,h1,h2⟩:=exKs_out fs _ h
   exact ⟨_,by simpa [TV.cells,kdSize] using h1,rfl,rfl,h2⟩
 | .tup fs,K,h=>by
   unfold exK at h
   obtain ⟨xs,h1,h2⟩:=exKs_out fs _ h
   exact ⟨_,by simp [TV.cells,kdSize],rfl,rfl,h2⟩
 | .la n .u64,K,h=>by
   unfold exK at h
   obtain ⟨l,h1,h2⟩:=h
   refine ⟨_,?_,rfl,rfl,h2⟩
   simp only [TV.cells,kdSize]
   rw [<-h1]
   clear h1 h2
   induction l with
   | nil=>rfl
   | cons x r ih=>simp [cellsL,TV.cells,ih]
 | .la n .u8,K,h=>by
   unfold exK at h
   obtain ⟨l,h1,h2⟩:=h
   refine ⟨_,?_,rfl,rfl,h2⟩
   simp only [TV.cells,kdSize]
   rw [<-h1]
   clear h1 h2
   induction l with
   | nil=>rfl
   | cons x r ih=>simp [cellsL,TV.cells,ih]
 | .la _ (.i _),_,h=>by simp [exK] at h
 | .la _ .b,_,h=>by simp [exK] at h
 | .la _ .s,_,h=>by simp [exK] at h
 | .la _ .p,_,h=>by simp [exK] at h
 | .la _ .sl,_,h=>by simp [exK] at h
 | .la _ .m,_,h=>by simp [exK] at h
 | .la _ .v,_,h=>by simp [exK] at h
 | .la _ (.agg _),_,h=>by simp [exK] at h
 | .la _ (.la _ _),_,h=>by simp [exK] at h
 | .la _ (.tup _),_,h=>by simp [exK] at h
theorem exKs_out : ∀ (κs:List Kd) (K:List TV->Prop),exKs κs K->∃ xs,(cellsL xs).length=kdSizes κs/\K xs
 | [],K,h=>⟨[],rfl,h⟩
 | k :: r,K,h=>by
   unfold exKs at h
   obtain ⟨x,h1,_,_,h2⟩:=exK_out k _ h
   obtain ⟨xs,h3,h4⟩:=exKs_out r _ h2
   exact ⟨x :: xs,by simp [cellsL,kdSizes,h1,h3],h4⟩
end
mutual
theorem allK_in : ∀ (κ:Kd) (K:TV->Prop) (t:TV),allK κ K->okK κ t=true->K t
 | .i k,K,t,h,ho=>by cases t <;> simp [okK] at ho; subst ho; exact h _
 | .u8,K,t,h,ho=>by cases t <;> simp [okK] at ho; exact h _
 | .u64,K,t,h,ho=>by cases t <;> simp [okK] at ho; exact h _
 | .b,K,t,h,ho=>by cases t <;> simp [okK] at ho; exact h _
 | .s,K,t,h,ho=>by cases t <;> simp [okK] at ho; exact h _
 | .p,K,t,h,ho=>by cases t <;> simp [okK] at ho; exact h _
 | .sl,K,t,h,ho=>by cases t <;> simp [okK] at ho; exact h _
 | .m,K,t,h,ho=>by cases t <;> simp [okK] at ho; exact h _
 | .v,K,t,h,ho=>by cases t <;> simp [okK] at ho; exact h _
 | .agg fs,K,t,h,ho=>by
   cases t <;> simp [okK] at ho
   unfold allK at h
   exact allKs_in fs _ _ h ho
 | .tup fs,K,t,h,ho=>by
   cases t <;> simp [okK] at ho
   unfold allK at h
   exact allKs_in fs _ _ h ho
 | .la _ _,K,t,h,ho=>by cases t <;> simp [okK] at ho
theorem allKs_in : ∀ (κs:List Kd) (K:List TV->Prop) (ts:List TV),allKs κs K->okKs κs ts=true->K ts
 | [],K,ts,h,ho=>by cases ts <;> simp [okKs] at ho; exact h
 | k :: r,K,ts,h,ho=>by
   cases ts with
   | nil=>simp [okKs] at ho
   | cons x xs=>
     simp [okKs] at ho
     unfold allKs at h
     exact allKs_in r _ xs (allK_in k _ x h ho.1) ho.2
end
def Sim (N:Nat) (env:Env) (tmps:Array Value):Prop:=
 tmps.size=N/\∀ t,(look env t).isBad=false->tmps[t]? = some (look env t).enc
theorem look_cons (t:Nat) (x:TV) (env:Env) (u:Nat):look ((t,x) :: env) u=if t=u then x else look env u:=by
 simp only [look]
 by_cases h:t=u
 ·subst h; simp [Nat.beq_refl]
 ·have:Nat.beq t u=false:=by
   cases hb:Nat.beq t u with
   | false=>rfl
   | true=>exact absurd (Nat.eq_of_beq_eq_true hb) h
  simp [this,h]
theorem Sim.put {N:Nat} {env:Env} {tmps:Array Value} (h:Sim N env tmps) {d:Nat} (hd:d<N) {x:TV} {v:Value} (hv:x.isBad=false->v=x.enc) :
 Sim N ((d,x) :: env) (tmps.setIfInBounds d v):=by
 refine ⟨by simpa using h.1,λt ht=>?_⟩
 rw [look_cons] at ht ⊢
 by_cases e:d=t
 ·subst e
  simp only [↓reduceIte] at ht ⊢
  rw [<-hv ht]
  simp [h.1,hd]
 ·simp only [e,↓reduceIte] at ht ⊢
  rw [Array.getElem?_setIfInBounds_ne e]
  exact h.2 t ht
theorem Sim.same {N:Nat} {env:Env} {tmps:Array Value} (h:Sim N env tmps) {t:Nat} {x:TV} (hx:look env t=x):Sim N ((t,x) :: env) tmps:=by
 refine ⟨h.1,λu hu=>?_⟩
 rw [look_cons] at hu ⊢
 by_cases e:t=u
 ·subst e; simp only [↓reduceIte] at hu ⊢; rw [<-hx] at hu ⊢; exact h.2 _ hu
 ·simp only [e,↓reduceIte] at hu ⊢; exact h.2 u hu
theorem Sim.eval {N:Nat} {env:Env} {a:Act} (h:Sim N env a.tmps) (x:Operand) (hx:(ev env x).isBad=false):a.eval x=(ev env x).enc:=by
 cases x with
 | tmp t=>simp only [ev] at hx ⊢; simp [Act.eval,h.2 t hx]
 | const v=>exact ((enc_ofVal v).2).symm
 | global g=>rfl
 | func f=>rfl
theorem w64 (n:Int):IntKind.u64.wrap n=n % 18446744073709551616:=by simp [IntKind.wrap,IntKind.bits,IntKind.signed]
theorem w8 (n:Int):IntKind.u8.wrap n=n % 256:=by simp [IntKind.wrap,IntKind.bits,IntKind.signed]
theorem lt64 (x:UInt64):x.toNat<18446744073709551616:=x.toNat_lt
theorem lt8 (x:UInt8):x.toNat<256:=x.toNat_lt
section
variable (x y:UInt64)
theorem add64:IntKind.u64.wrap ((x.toNat:Int)+y.toNat)=((x+y).toNat:Int):=by
 rw [w64,UInt64.toNat_add]; omega
theorem sub64:IntKind.u64.wrap ((x.toNat:Int) - y.toNat)=((x - y).toNat:Int):=by
 have:=lt64 x; have:=lt64 y
 rw [w64,UInt64.toNat_sub]; omega
theorem mul64:IntKind.u64.wrap ((x.toNat:Int)*y.toNat)=((x*y).toNat:Int):=by
 rw [w64,UInt64.toNat_mul]; simp
theorem ofInt64:BitVec.ofInt 64 (x.toNat:Int)=x.toBitVec:=by
 apply BitVec.eq_of_toNat_eq
 have:=lt64 x
 simp [BitVec.toNat_ofInt]
theorem back64 (r:BitVec 64):IntKind.u64.wrap (r.toNat:Int)=r.toNat:=by
 have:=r.isLt
 rw [w64]; omega
theorem and64:IntKind.u64.wrap ((BitVec.ofInt 64 (x.toNat:Int) &&& BitVec.ofInt 64 (y.toNat:Int)).toNat:Int)=((x &&& y).toNat:Int):=by
 rw [back64,ofInt64,ofInt64]; rfl
theorem or64:IntKind.u64.wrap ((BitVec.ofInt 64 (x.toNat:Int) ||| BitVec.ofInt 64 (y.toNat:Int)).toNat:Int)=((x ||| y).toNat:Int):=by
 rw [back64,ofInt64,ofInt64]; rfl
theorem xor64:IntKind.u64.wrap ((BitVec.ofInt 64 (x.toNat:Int) ^^^ BitVec.ofInt 64 (y.toNat:Int)).toNat:Int)=((x ^^^ y).toNat:Int):=by
 rw [back64,ofInt64,ofInt64]; rfl
theorem andNot64:IntKind.u64.wrap ((BitVec.ofInt 64 (x.toNat:Int) &&& ~~~BitVec.ofInt 64 (y.toNat:Int)).toNat:Int)=((x &&& ~~~y).toNat:Int):=by
 rw [back64,ofInt64,ofInt64]; rfl
theorem quo64:IntKind.u64.wrap ((x.toNat:Int).tdiv y.toNat)=((x / y).toNat:Int):=by
 have:=lt64 x
 have h:x.toNat / y.toNat<=x.toNat:=Nat.div_le_self _ _
 have e:(x.toNat:Int).tdiv y.toNat=((x.toNat / y.toNat:Nat):Int):=rfl
 rw [w64,UInt64.toNat_div,e]
 generalize x.toNat / y.toNat=q at *
 clear e
 omega
theorem rem64:(x.toNat:Int).tmod y.toNat=((x % y).toNat:Int):=by
 rw [UInt64.toNat_mod]; rfl
theorem eq64:((x.toNat:Int)==y.toNat)=(x==y):=by
 rw [Bool.eq_iff_iff]; simp only [beq_iff_eq,<-UInt64.toNat_inj]; omega
theorem ne64:((x.toNat:Int) != y.toNat)=(x != y):=by
 simp only [bne,eq64]
theorem lss64:decide ((x.toNat:Int)<y.toNat)=decide (x<y):=by
 rw [Bool.eq_iff_iff]; simp [UInt64.lt_iff_toNat_lt]
theorem leq64:decide ((x.toNat:Int)<=y.toNat)=decide (x<=y):=by
 rw [Bool.eq_iff_iff]; simp [UInt64.le_iff_toNat_le]
theorem shl64 (c:Int):IntKind.u64.wrap ((x.toNat:Int)*2 ^ (min c.toNat 64))=((shlU64 x c.toNat).toNat:Int):=by
 rw [w64]
 unfold shlU64
 by_cases h:c.toNat<64
 ·rw [if_pos h,Nat.min_eq_left (by omega)]
  rw [UInt64.toNat_shiftLeft]
  have e:(UInt64.ofNat c.toNat).toNat % 64=c.toNat:=by simp [UInt64.toNat_ofNat']; omega
  rw [e,Nat.shiftLeft_eq]
  simp
 ·rw [if_neg h,Nat.min_eq_right (by omega)]
  simp
theorem shr64 (c:Int):(x.toNat:Int).fdiv (2 ^ (min c.toNat 64))=((shrU64 x c.toNat).toNat:Int):=by
 unfold shrU64
 by_cases h:c.toNat<64
 ·rw [if_pos h,Nat.min_eq_left (by omega)]
  rw [UInt64.toNat_shiftRight]
  have e:(UInt64.ofNat c.toNat).toNat % 64=c.toNat:=by simp [UInt64.toNat_ofNat']; omega
  rw [e,Nat.shiftRight_eq_div_pow]
  rw [Int.fdiv_eq_ediv_of_nonneg _ (by exact Int.le_of_lt (Int.pow_pos (by decide)))]
  simp
 ·rw [if_neg h,Nat.min_eq_right (by omega)]
  rw [Int.fdiv_eq_ediv_of_nonneg _ (by decide)]
  have:=lt64 x
  simp
  omega
theorem not64:IntKind.u64.wrap ((BitVec.ofInt 64 (IntKind.u64.max) ^^^ BitVec.ofInt 64 (x.toNat:Int)).toNat:Int)=((~~~x).toNat:Int):=by
 rw [back64,ofInt64]
 have:BitVec.ofInt 64 (IntKind.u64.max)=BitVec.allOnes 64:=by decide
 rw [this,BitVec.allOnes_xor]; rfl
end
section
variable (x y:UInt8)
theorem add8:IntKind.u8.wrap ((x.toNat:Int)+y.toNat)=((x+y).toNat:Int):=by
 rw [w8,UInt8.toNat_add]; omega
theorem sub8:IntKind.u8.wrap ((x.toNat:Int) - y.toNat)=((x - y).toNat:Int):=by
 have:=lt8 x; have:=lt8 y
 rw [w8,UInt8.toNat_sub]; omega
theorem mul8:IntKind.u8.wrap ((x.toNat:Int)*y.toNat)=((x*y).toNat:Int):=by
 rw [w8,UInt8.toNat_mul]; simp
theorem ofInt8:BitVec.ofInt 8 (x.toNat:Int)=x.toBitVec:=by
 apply BitVec.eq_of_toNat_eq
 have:=lt8 x
 simp [BitVec.toNat_ofInt]
theorem back8 (r:BitVec 8):IntKind.u8.wrap (r.toNat:Int)=r.toNat:=by
 have:=r.isLt
 rw [w8]; omega
theorem and8:IntKind.u8.wrap ((BitVec.ofInt 8 (x.toNat:Int) &&& BitVec.ofInt 8 (y.toNat:Int)).toNat:Int)=((x &&& y).toNat:Int):=by
 rw [back8,ofInt8,ofInt8]; rfl
theorem or8:IntKind.u8.wrap ((BitVec.ofInt 8 (x.toNat:Int) ||| BitVec.ofInt 8 (y.toNat:Int)).toNat:Int)=((x ||| y).toNat:Int):=by
 rw [back8,ofInt8,ofInt8]; rfl
theorem xor8:IntKind.u8.wrap ((BitVec.ofInt 8 (x.toNat:Int) ^^^ BitVec.ofInt 8 (y.toNat:Int)).toNat:Int)=((x ^^^ y).toNat:Int):=by
 rw [back8,ofInt8,ofInt8]; rfl
theorem andNot8:IntKind.u8.wrap ((BitVec.ofInt 8 (x.toNat:Int) &&& ~~~BitVec.ofInt 8 (y.toNat:Int)).toNat:Int)=((x &&& ~~~y).toNat:Int):=by
 rw [back8,ofInt8,ofInt8]; rfl
theorem eq8:((x.toNat:Int)==y.toNat)=(x==y):=by
 rw [Bool.eq_iff_iff]; simp only [beq_iff_eq,<-UInt8.toNat_inj]; omega
theorem ne8:((x.toNat:Int) != y.toNat)=(x != y):=by
 simp only [bne,eq8]
theorem lss8:decide ((x.toNat:Int)<y.toNat)=decide (x<y):=by
 rw [Bool.eq_iff_iff]; simp [UInt8.lt_iff_toNat_lt]
theorem leq8:decide ((x.toNat:Int)<=y.toNat)=decide (x<=y):=by
 rw [Bool.eq_iff_iff]; simp [UInt8.le_iff_toNat_le]
theorem shl8 (c:Int):IntKind.u8.wrap ((x.toNat:Int)*2 ^ (min c.toNat 8))=((shlU8 x c.toNat).toNat:Int):=by
 rw [w8]
 unfold shlU8
 by_cases h:c.toNat<8
 ·rw [if_pos h,Nat.min_eq_left (by omega)]
  rw [UInt8.toNat_shiftLeft]
  have e:(UInt8.ofNat c.toNat).toNat % 8=c.toNat:=by simp [UInt8.toNat_ofNat']; omega
  rw [e,Nat.shiftLeft_eq]
  simp
 ·rw [if_neg h,Nat.min_eq_right (by omega)]
  simp
theorem shr8 (c:Int):(x.toNat:Int).fdiv (2 ^ (min c.toNat 8))=((shrU8 x c.toNat).toNat:Int):=by
 unfold shrU8
 by_cases h:c.toNat<8
 ·rw [if_pos h,Nat.min_eq_left (by omega)]
  rw [UInt8.toNat_shiftRight]
  have e:(UInt8.ofNat c.toNat).toNat % 8=c.toNat:=by simp [UInt8.toNat_ofNat']; omega
  rw [e,Nat.shiftRight_eq_div_pow]
  rw [Int.fdiv_eq_ediv_of_nonneg _ (by exact Int.le_of_lt (Int.pow_pos (by decide)))]
  simp
 ·rw [if_neg h,Nat.min_eq_right (by omega)]
  rw [Int.fdiv_eq_ediv_of_nonneg _ (by decide)]
  have:=lt8 x
  simp
  omega
theorem not8:IntKind.u8.wrap ((BitVec.ofInt 8 (IntKind.u8.max) ^^^ BitVec.ofInt 8 (x.toNat:Int)).toNat:Int)=((~~~x).toNat:Int):=by
 rw [back8,ofInt8]
 have:BitVec.ofInt 8 (IntKind.u8.max)=BitVec.allOnes 8:=by decide
 rw [this,BitVec.allOnes_xor]; rfl
end
theorem conv8 (n:Int):IntKind.u8.wrap n=((u8OfInt n).toNat:Int):=by
 rw [w8]; unfold u8OfInt
 have:(n % 256).toNat<256:=by omega
 simp [UInt8.toNat_ofNat']; omega
theorem conv64 (n:Int):IntKind.u64.wrap n=((u64OfInt n).toNat:Int):=by
 rw [w64]; unfold u64OfInt
 have:(n % 18446744073709551616).toNat<18446744073709551616:=by omega
 simp [UInt64.toNat_ofNat']; omega
theorem conv88 (x:UInt8):IntKind.u8.wrap (x.toNat:Int)=x.toNat:=by have:=lt8 x; rw [w8]; omega
theorem conv6464 (x:UInt64):IntKind.u64.wrap (x.toNat:Int)=x.toNat:=by have:=lt64 x; rw [w64]; omega
theorem conv648 (x:UInt64):IntKind.u8.wrap (x.toNat:Int)=(x.toUInt8.toNat:Int):=by rw [w8,UInt64.toNat_toUInt8]; omega
theorem conv864 (x:UInt8):IntKind.u64.wrap (x.toNat:Int)=(x.toUInt64.toNat:Int):=by have:=lt8 x; rw [w64,UInt8.toNat_toUInt64]; omega
theorem conv8i (x:UInt8):IntKind.i64.wrap (x.toNat:Int)=x.toNat:=by
 have:=lt8 x
 simp [IntKind.wrap,IntKind.bits,IntKind.signed]; omega
theorem toL (l:List UInt8):(⟨l.toArray⟩:ByteArray).toList=l:=by
 have h : ∀ (bs:ByteArray),bs.toList=bs.data.toList:=by
  intro bs; exact ByteArray.toList_eq bs
 simp [h]
def Gives (P:Program) (s:Sem Next) (next:TV->Prop):Prop:=
 ∃ t v,(∀ w,s.run P w = .ok (.value v) w)/\(t.isBad=false->v=t.enc)/\next t
theorem Gives.of {P:Program} {s:Sem Next} {next:TV->Prop} {t:TV} (h : ∀ w,s.run P w = .ok (.value t.enc) w) (hn:next t):Gives P s next:=
 ⟨t,_,h,λ_=>rfl,hn⟩
theorem binI_run {P:Program} {op:BinOp} {T:TypeId} {ox oy:Operand} {k:IntKind} {a b:Int} {next:TV->Prop} (hs:isShift op=false) (h:binI op k a b next) :
 ∃ t,(∀ w,(do eqGuard op T ox oy (.int k a) (.int k b); binOp op T (.int k a) (.int k b):Sem Value).run P w = .ok t.enc w)/\next t:=by
 cases op <;> simp only [binI,isShift] at h hs <;> first
  | exact h.elim
  | (obtain ⟨h0,h⟩:=h; exact ⟨_,λw=>by simp [eqGuard,binOp,Op.intDiv,h0,TV.enc],h⟩)
  | exact ⟨_,λw=>by simp [eqGuard,binOp,Op.intArith,Op.intCmp,TV.enc],h⟩
  | (exact absurd hs (by simp))
theorem bin64_run {P:Program} {op:BinOp} {T:TypeId} {ox oy:Operand} {a b:UInt64} {next:TV->Prop} (hs:isShift op=false) (h:bin64 op a b next) :
 ∃ t,(∀ w,(do eqGuard op T ox oy (.int .u64 a.toNat) (.int .u64 b.toNat); binOp op T (.int .u64 a.toNat) (.int .u64 b.toNat):Sem Value).run P w = .ok t.enc w)/\next t:=by
 cases op <;> simp only [bin64,isShift] at h hs
 case add=>exact ⟨_,λw=>by show Result.ok (Value.int .u64 (IntKind.u64.wrap ((a.toNat:Int)+(b.toNat:Int)))) w=_; rw [add64]; rfl,h⟩
 case sub=>exact ⟨_,λw=>by show Result.ok (Value.int .u64 (IntKind.u64.wrap ((a.toNat:Int) - (b.toNat:Int)))) w=_; rw [sub64]; rfl,h⟩
 case mul=>exact ⟨_,λw=>by show Result.ok (Value.int .u64 (IntKind.u64.wrap ((a.toNat:Int)*(b.toNat:Int)))) w=_; rw [mul64]; rfl,h⟩
 case quo=>
  obtain ⟨h0,h⟩:=h
  have hz : ¬ ((b.toNat:Int)=0):=by
   intro h1
   apply h0
   rw [<-UInt64.toNat_inj]
   simp; omega
  refine ⟨_,λw=>?_,h⟩
  show (if (b.toNat:Int)=0 then runtimePanic (.error "integer divide by zero") else (pure (Value.int .u64 (IntKind.u64.wrap (((a.toNat:Int)).tdiv (b.toNat:Int)))):Sem Value)).run P w=_
  rw [if_neg hz,quo64]; rfl
 case rem=>
  obtain ⟨h0,h⟩:=h
  have hz : ¬ ((b.toNat:Int)=0):=by
   intro h1
   apply h0
   rw [<-UInt64.toNat_inj]
   simp; omega
  refine ⟨_,λw=>?_,h⟩
  show (if (b.toNat:Int)=0 then runtimePanic (.error "integer divide by zero") else (pure (Value.int .u64 (((a.toNat:Int)).tmod (b.toNat:Int))):Sem Value)).run P w=_
  rw [if_neg hz,rem64]; rfl
 case and=>exact ⟨_,λw=>by show Result.ok (Value.int .u64 (IntKind.u64.wrap ((BitVec.ofInt 64 (a.toNat:Int) &&& BitVec.ofInt 64 (b.toNat:Int)).toNat:Int))) w=_; rw [and64]; rfl,h⟩
 case or=>exact ⟨_,λw=>by show Result.ok (Value.int .u64 (IntKind.u64.wrap ((BitVec.ofInt 64 (a.toNat:Int) ||| BitVec.ofInt 64 (b.toNat:Int)).toNat:Int))) w=_; rw [or64]; rfl,h⟩
 case xor=>exact ⟨_,λw=>by show Result.ok (Value.int .u64 (IntKind.u64.wrap ((BitVec.ofInt 64 (a.toNat:Int) ^^^ BitVec.ofInt 64 (b.toNat:Int)).toNat:Int))) w=_; rw [xor64]; rfl,h⟩
 case andNot=>exact ⟨_,λw=>by show Result.ok (Value.int .u64 (IntKind.u64.wrap ((BitVec.ofInt 64 (a.toNat:Int) &&& ~~~ BitVec.ofInt 64 (b.toNat:Int)).toNat:Int))) w=_; rw [andNot64]; rfl,h⟩
 case eql=>exact ⟨_,λw=>by show Result.ok (Value.bool ((a.toNat:Int)==(b.toNat:Int))) w=_; rw [eq64]; rfl,h⟩
 case neq=>exact ⟨_,λw=>by show Result.ok (Value.bool ((a.toNat:Int) != (b.toNat:Int))) w=_; rw [ne64]; rfl,h⟩
 case lss=>exact ⟨_,λw=>by show Result.ok (Value.bool (decide ((a.toNat:Int)<(b.toNat:Int)))) w=_; rw [lss64]; rfl,h⟩
 case leq=>exact ⟨_,λw=>by show Result.ok (Value.bool (decide ((a.toNat:Int)<=(b.toNat:Int)))) w=_; rw [leq64]; rfl,h⟩
 case gtr=>exact ⟨_,λw=>by show Result.ok (Value.bool (decide ((b.toNat:Int)<(a.toNat:Int)))) w=_; rw [lss64]; rfl,h⟩
 case geq=>exact ⟨_,λw=>by show Result.ok (Value.bool (decide ((b.toNat:Int)<=(a.toNat:Int)))) w=_; rw [leq64]; rfl,h⟩
theorem bin8_run {P:Program} {op:BinOp} {T:TypeId} {ox oy:Operand} {a b:UInt8} {next:TV->Prop} (hs:isShift op=false) (h:bin8 op a b next) :
 ∃ t,(∀ w,(do eqGuard op T ox oy (.int .u8 a.toNat) (.int .u8 b.toNat); binOp op T (.int .u8 a.toNat) (.int .u8 b.toNat):Sem Value).run P w = .ok t.enc w)/\next t:=by
 cases op <;> simp only [bin8,isShift] at h hs
 case add=>exact ⟨_,λw=>by show Result.ok (Value.int .u8 (IntKind.u8.wrap ((a.toNat:Int)+(b.toNat:Int)))) w=_; rw [add8]; rfl,h⟩
 case sub=>exact ⟨_,λw=>by show Result.ok (Value.int .u8 (IntKind.u8.wrap ((a.toNat:Int) - (b.toNat:Int)))) w=_; rw [sub8]; rfl,h⟩
 case mul=>exact ⟨_,λw=>by show Result.ok (Value.int .u8 (IntKind.u8.wrap ((a.toNat:Int)*(b.toNat:Int)))) w=_; rw [mul8]; rfl,h⟩
 case and=>exact ⟨_,λw=>by show Result.ok (Value.int .u8 (IntKind.u8.wrap ((BitVec.ofInt 8 (a.toNat:Int) &&& BitVec.ofInt 8 (b.toNat:Int)).toNat:Int))) w=_; rw [and8]; rfl,h⟩
 case or=>exact ⟨_,λw=>by show Result.ok (Value.int .u8 (IntKind.u8.wrap ((BitVec.ofInt 8 (a.toNat:Int) ||| BitVec.ofInt 8 (b.toNat:Int)).toNat:Int))) w=_; rw [or8]; rfl,h⟩
 case xor=>exact ⟨_,λw=>by show Result.ok (Value.int .u8 (IntKind.u8.wrap ((BitVec.ofInt 8 (a.toNat:Int) ^^^ BitVec.ofInt 8 (b.toNat:Int)).toNat:Int))) w=_; rw [xor8]; rfl,h⟩
 case andNot=>exact ⟨_,λw=>by show Result.ok (Value.int .u8 (IntKind.u8.wrap ((BitVec.ofInt 8 (a.toNat:Int) &&& ~~~ BitVec.ofInt 8 (b.toNat:Int)).toNat:Int))) w=_; rw [andNot8]; rfl,h⟩
 case eql=>exact ⟨_,λw=>by show Result.ok (Value.bool ((a.toNat:Int)==(b.toNat:Int))) w=_; rw [eq8]; rfl,h⟩
 case neq=>exact ⟨_,λw=>by show Result.ok (Value.bool ((a.toNat:Int) != (b.toNat:Int))) w=_; rw [ne8]; rfl,h⟩
 case lss=>exact ⟨_,λw=>by show Result.ok (Value.bool (decide ((a.toNat:Int)<(b.toNat:Int)))) w=_; rw [lss8]; rfl,h⟩
 case leq=>exact ⟨_,λw=>by show Result.ok (Value.bool (decide ((a.toNat:Int)<=(b.toNat:Int)))) w=_; rw [leq8]; rfl,h⟩
 case gtr=>exact ⟨_,λw=>by show Result.ok (Value.bool (decide ((b.toNat:Int)<(a.toNat:Int)))) w=_; rw [lss8]; rfl,h⟩
 case geq=>exact ⟨_,λw=>by show Result.ok (Value.bool (decide ((b.toNat:Int)<=(a.toNat:Int)))) w=_; rw [leq8]; rfl,h⟩
theorem binS_run {P:Program} {op:BinOp} {T:TypeId} {ox oy:Operand} {a b:List UInt8} {next:TV->Prop} (h:binS op a b next) :
 ∃ t,(∀ w,(do eqGuard op T ox oy (.string ⟨a.toArray⟩) (.string ⟨b.toArray⟩); binOp op T (.string ⟨a.toArray⟩) (.string ⟨b.toArray⟩):Sem Value).run P w = .ok t.enc w)/\next t:=by
 cases op <;> simp only [binS] at h <;> first
  | exact h.elim
  | exact ⟨_,λw=>by simp [eqGuard,binOp,Op.stringOp,toL,TV.enc],h⟩
  | (obtain ⟨h0,h⟩:=h
     refine ⟨_,λw=>?_,h⟩
     have h1 : ¬ ((9223372036854775807:Int)<((ByteArray.mk a.toArray).size+(ByteArray.mk b.toArray).size:Nat)):=by
      have e1:(ByteArray.mk a.toArray).size=a.length:=by simp [ByteArray.size]
      have e2:(ByteArray.mk b.toArray).size=b.length:=by simp [ByteArray.size]
      rw [e1,e2]; omega
     have e3:(ByteArray.mk a.toArray++ByteArray.mk b.toArray)=ByteArray.mk (a++b).toArray:=by
      apply ByteArray.ext
      simp
     simp [eqGuard,binOp,Op.stringOp,TV.enc]
     simp at h1
     simp [e3]
     omega)
theorem shK_run {P:Program} {op:BinOp} {T:TypeId} {ox oy:Operand} {x:TV} {yk:IntKind} {c:Int} {next:TV->Prop} (hs:isShift op=true) (h:shK op x c next) :
 ∃ t,(∀ w,(do eqGuard op T ox oy x.enc (.int yk c); binOp op T x.enc (.int yk c):Sem Value).run P w = .ok t.enc w)/\next t:=by
 cases op <;> simp only [isShift,Bool.false_eq_true] at hs
 all_goals
  cases x <;> simp only [shK] at h <;> first
   | exact h.elim
   | skip
 all_goals
  obtain ⟨h0,h⟩:=h
  have hn : ¬ c<0:=by omega
  refine ⟨_,λw=>?_,h⟩
  first
   | (simp [eqGuard,binOp,Op.shift,hn,TV.enc]; done)
   | (simp only [TV.enc,<-shl64,<-shr64,<-shl8,<-shr8]; simp [eqGuard,binOp,Op.shift,hn,IntKind.bits])
theorem num_enc {x:TV} {c:Int} (h:x.num=some c) : ∃ k,x.enc = .int k c:=by
 cases x <;> simp [TV.num] at h <;> subst h <;> exact ⟨_,rfl⟩
theorem num_good {x:TV} {c:Int} (h:x.num=some c):x.isBad=false:=by
 cases x <;> simp [TV.num] at h <;> rfl
theorem binK_run {P:Program} {op:BinOp} {T:TypeId} {ox oy:Operand} {x y:TV} {κ:Kd} {next:TV->Prop} (h:binK P op T ox oy x y κ next) :
 x.isBad=false/\y.isBad=false/\∃ t,(∀ w,(do eqGuard op T ox oy x.enc y.enc; binOp op T x.enc y.enc:Sem Value).run P w = .ok t.enc w)/\next t:=by
 unfold binK at h
 by_cases hs:isShift op=true
 ·rw [if_pos hs] at h
  cases hy:y.num with
  | none=>simp [hy] at h
  | some c=>
    simp only [hy] at h
    obtain ⟨k,hk⟩:=num_enc hy
    refine ⟨?_,num_good hy,?_⟩
    ·cases x <;> first | rfl | (exfalso; revert h; cases op <;> simp [shK])
    ·rw [hk]; exact shK_run hs h
 ·have hs':isShift op=false:=by simpa using hs
  rw [if_neg hs] at h
  split at h
  ·rename_i k a k' b
   cases hbt:isBits op with
   | true=>
     simp only [hbt,cond_true] at h
     obtain ⟨v,hv,h⟩:=h
     obtain ⟨t,_,_,_,ht,hn⟩:=exK_out _ _ h
     subst ht
     exact ⟨rfl,rfl,t,hv,hn⟩
   | false=>
     simp only [hbt,cond_false] at h
     by_cases hk:k=k'
     ·subst hk; simp only [↓reduceIte] at h
      exact ⟨rfl,rfl,binI_run hs' h⟩
     ·simp [hk] at h
  ·exact ⟨rfl,rfl,bin8_run hs' h⟩
  ·exact ⟨rfl,rfl,bin64_run hs' h⟩
  ·exact ⟨rfl,rfl,binS_run h⟩
  ·exact h.elim
  ·exact h.elim
  ·rename_i h1 h2
   obtain ⟨v,hv,h⟩:=h
   obtain ⟨t,_,_,_,ht,hn⟩:=exK_out _ _ h
   subst ht
   refine ⟨?_,?_,t,hv,hn⟩
   ·cases x <;> first | rfl | (exfalso; simp_all; done)
   ·cases y <;> first | rfl | (exfalso; simp_all; done)
theorem convI_run {P:Program} {s d:TypeId} {ts td:TypeDesc} {x:TV} {next:TV->Prop} (h1:P.underlying s=some ts) (h2:P.underlying d=some td) (h:convI (some td) x next) :
 x.isBad=false/\∃ t,(∀ w,(convert s d x.enc).run P w = .ok t.enc w)/\next t:=by
 have hu : ∀ w,(underlying s).run P w = .ok ts w:=λw=>run_underlying h1 w
 have hd : ∀ w,(underlying d).run P w = .ok td w:=λw=>run_underlying h2 w
 have hi : ∀ (k k':IntKind) (n:Int) (w:World),td = .int k->(convert s d (.int k' n)).run P w = .ok (.int k (k.wrap n)) w:=by
  intro k k' n w e
  subst e
  simp [convert,hu,hd,Conv.intToInt]
 have go : ∀ (k k':IntKind) (n m:Int) (t:TV),td = .int k->x.enc = .int k' n->t.enc = .int k m->k.wrap n=m->x.isBad=false->next t->
  x.isBad=false/\∃ t,(∀ w,(convert s d x.enc).run P w = .ok t.enc w)/\next t:=by
  intro k k' n m t e1 e2 e3 e4 hb hn
  exact ⟨hb,t,λw=>by rw [e2,hi k k' n w e1,e3,e4],hn⟩
 unfold convI at h
 split at h
 all_goals first
  | exact h.elim
  | (rename_i hx; simp only [Option.some.injEq] at hx; first
     | exact go _ _ _ _ _ hx rfl rfl (conv8 _) rfl h
     | exact go _ _ _ _ _ hx rfl rfl (conv88 _) rfl h
     | exact go _ _ _ _ _ hx rfl rfl (conv648 _) rfl h
     | exact go _ _ _ _ _ hx rfl rfl (conv64 _) rfl h
     | exact go _ _ _ _ _ hx rfl rfl (conv864 _) rfl h
     | exact go _ _ _ _ _ hx rfl rfl (conv6464 _) rfl h
     | exact go _ _ _ _ _ hx rfl rfl (conv8i _) rfl h
     | exact go _ _ _ _ _ hx rfl rfl rfl rfl h
     | (subst hx; refine ⟨rfl,_,λw=>?_,h⟩; simp [convert,hu,hd,TV.enc]; done))
  | (rename_i hx _; simp only [Option.some.injEq] at hx; first
     | exact go _ _ _ _ _ hx rfl rfl rfl rfl h)
  | (rename_i hx _ _; simp only [Option.some.injEq] at hx; first
     | exact go _ _ _ _ _ hx rfl rfl rfl rfl h)
end Go.Sh
end
