/- The forms of the translated functions,their contracts and the plain laws behind them,put together by a program. -/
import Derived.WalkKit
import Derived.OrdersHeld
import Derived.OrdersIn
import Derived.RangeFuncRecord
import Derived.RangeFuncCalls
import Derived.DefersIn
set_option linter.unusedSimpArgs false
set_option linter.unusedVariables false
set_option maxRecDepth 100000
set_option maxHeartbeats 4000000
section
namespace Go.Sh
open Go
abbrev RW:=Ending->World->Prop
abbrev zW:=IntKind.i64.wrap
structure Slc where
 a:Option Addr
 len:Nat
 cap:Nat
inductive TV where
 | i (k:IntKind) (n:Int)
 | u8 (x:UInt8)
 | u64 (x:UInt64)
 | b (x:Bool)
 | s (l:List UInt8)
 | p (a:Option Addr)
 | sl (s:Slc)
 | m (r:Option Nat)
 | v (x:Value)
 | agg (fs:List TV)
 | tup (fs:List TV)
 | bad
mutual
def TV.cells:TV->List Value
 | .i k n=>[.int k n]
 | .u8 x=>[.int .u8 x.toNat]
 | .u64 x=>[.int .u64 x.toNat]
 | .b x=>[.bool x]
 | .s l=>[.string ⟨l.toArray⟩]
 | .p a=>[.pointer a]
 | .sl s=>[.slice s.a s.len s.cap]
 | .m r=>[.map r]
 | .v x=>[x]
 | .agg fs=>bR fs
 | .tup fs=>[.tuple (dQ fs).toArray]
 | .bad=>[undef]
def bR:List TV->List Value
 | []=>[]
 | x :: r=>x.cells++bR r
def TV.enc:TV->Value
 | .i k n=>.int k n
 | .u8 x=>.int .u8 x.toNat
 | .u64 x=>.int .u64 x.toNat
 | .b x=>.bool x
 | .s l=>.string ⟨l.toArray⟩
 | .p a=>.pointer a
 | .sl s=>.slice s.a s.len s.cap
 | .m r=>.map r
 | .v x=>x
 | .agg fs=>.agg (bR fs).toArray
 | .tup fs=>.tuple (dQ fs).toArray
 | .bad=>undef
def dQ:List TV->List Value
 | []=>[]
 | x :: r=>x.enc :: dQ r
end
inductive Kd where
 | i (k:IntKind) | u8 | u64 | b | s | p | sl | m | v
 | agg (fs:List Kd)
 | la (n:Nat) (e:Kd)
 | tup (fs:List Kd)
def kindOf (P:Program):Nat->TypeId->Kd
 | 0,_=>.v
 | f+1,T=>match P.underlying T with
   | some .bool=>.b
   | some (.int .u8)=>.u8
   | some (.int .u64)=>.u64
   | some (.int k)=>.i k
   | some .string=>.s
   | some (.pointer _)=>.p
   | some .unsafePointer=>.p
   | some (.slice _)=>.sl
   | some (.map _ _)=>.m
   | some (.struct fs)=>.agg (fs.toList.map λx=>kindOf P f x.type)
   | some (.array n e)=>if n<=16 then .agg (List.replicate n (kindOf P f e)) else .la n (kindOf P f e)
   | some (.tuple ts)=>.tup (ts.toList.map λx=>kindOf P f x)
   | _=>.v
mutual
def exK:Kd->(TV->Prop)->Prop
 | .i k,K=>∃ n:Int,K (.i k n)
 | .u8,K=>∃ x:UInt8,K (.u8 x)
 | .u64,K=>∃ x:UInt64,K (.u64 x)
 | .b,K=>∃ x:Bool,K (.b x)
 | .s,K=>∃ l:List UInt8,K (.s l)
 | .p,K=>∃ a:Option Addr,K (.p a)
 | .sl,K=>∃ s:Slc,K (.sl s)
 | .m,K=>∃ r:Option Nat,K (.m r)
 | .v,K=>∃ x:Value,K (.v x)
 | .agg fs,K=>qKO fs λxs=>K (.agg xs)
 | .la n .u64,K=>∃ l:List UInt64,l.length=n/\K (.agg (l.map .u64))
 | .la n .u8,K=>∃ l:List UInt8,l.length=n/\K (.agg (l.map .u8))
 | .la _ _,_=>False
 | .tup fs,K=>qKO fs λxs=>K (.tup xs)
def qKO:List Kd->(List TV->Prop)->Prop
 | [],K=>K []
 | k :: r,K=>exK k λx=>qKO r λxs=>K (x :: xs)
end
mutual
def kM:Kd->Nat
 | .agg fs=>qV fs
 | .la n _=>n
 | _=>1
def qV:List Kd->Nat
 | []=>0
 | k :: r=>kM k+qV r
end
def qDF:Kd->Bool
 | .agg _=>true
 | .la _ _=>true
 | _=>false
def nD (P:Program) (T:TypeId):Bool:=
 match P.underlying T with
 | some (.struct _)=>true
 | some (.array _ _)=>true
 | _=>false
def TV.isAgg:TV->Bool
 | .agg _=>true
 | _=>false
def bE (P:Program) (T:TypeId):Nat:=match P.info? T with | some i=>i.size | none=>0
def gM (P:Program) (T:TypeId):Bool:=
 Nat.beq (kM (kindOf P 20 T)) (bE P T)&&(qDF (kindOf P 20 T)==nD P T)&&(P.info? T).isSome&&(P.underlying T).isSome
mutual
def yJ:Kd->(TV->Prop)->Prop
 | .i k,K=>∀ n:Int,K (.i k n)
 | .u8,K=>∀ x:UInt8,K (.u8 x)
 | .u64,K=>∀ x:UInt64,K (.u64 x)
 | .b,K=>∀ x:Bool,K (.b x)
 | .s,K=>∀ l:List UInt8,K (.s l)
 | .p,K=>∀ a:Option Addr,K (.p a)
 | .sl,K=>∀ s:Slc,K (.sl s)
 | .m,K=>∀ r:Option Nat,K (.m r)
 | .v,K=>∀ x:Value,K (.v x)
 | .agg fs,K=>iT fs λxs=>K (.agg xs)
 | .la _ _,_=>False
 | .tup fs,K=>iT fs λxs=>K (.tup xs)
def iT:List Kd->(List TV->Prop)->Prop
 | [],K=>K []
 | k :: r,K=>yJ k λx=>iT r λxs=>K (x :: xs)
end
mutual
def okK:Kd->TV->Bool
 | .i k,.i k' _=>k==k'
 | .u8,.u8 _=>true
 | .u64,.u64 _=>true
 | .b,.b _=>true
 | .s,.s _=>true
 | .p,.p _=>true
 | .sl,.sl _=>true
 | .m,.m _=>true
 | .v,.v _=>true
 | .agg fs,.agg xs=>eP fs xs
 | .tup fs,.tup xs=>eP fs xs
 | _,_=>false
def eP:List Kd->List TV->Bool
 | [],[]=>true
 | k :: r,x :: xs=>okK k x&&eP r xs
 | _,_=>false
end
abbrev Env:=List (Nat×TV)
def look:Env->Nat->TV
 | [],_=>.bad
 | (t,x) :: r,u=>if Nat.beq t u then x else look r u
def iK (env:Env):Option Tmp->TV->Env
 | none,_=>env
 | some d,x=>(d,x) :: env
def TV.isBad:TV->Bool
 | .bad=>true
 | _=>false
def qCE:Value->TV
 | .int .u8 n=>if 0<=n/\n<256 then .u8 (UInt8.ofNat n.toNat) else .v (.int .u8 n)
 | .int .u64 n=>if 0<=n/\n<18446744073709551616 then .u64 (UInt64.ofNat n.toNat) else .v (.int .u64 n)
 | .int k n=>.i k n
 | .bool x=>.b x
 | .string s=>.s s.data.toList
 | .pointer a=>.p a
 | .slice a l c=>.sl ⟨a,l,c⟩
 | .map r=>.m r
 | x=>.v x
def ev (env:Env):Operand->TV
 | .tmp t=>look env t
 | .const v=>qCE v
 | .global g=>.p (some ⟨g,0,none⟩)
 | .func f=>.v (.func (.func f) #[] #[])
def Rd (w:World) (a:Addr) (cs:List Value):Prop:=∀ j v,cs[j]? = some v->w.cell? (a.add j)=some v
@[reducible] def aA {α:Type} (o:Option α) (K:α->Prop):Prop:=match o with | some x=>K x | none=>False
@[reducible] def aE (b:Bool) (x y:Prop):Prop:=match b with | true=>x | false=>y
def aH (P:Program) (s:Sem Value) (w:World) (K:Value->World->Prop):Prop:=∃ v w',s.run P w = .ok v w'/\K v w'
def aJ (P:Program) (s:Sem Unit) (w:World) (K:World->Prop):Prop:=∃ w',s.run P w = .ok () w'/\K w'
def aD (P:Program) (f:FuncId) (args:List Value) (w:World) (pan:List PanicEntry->World->Prop) (K:Value->World->Prop):Prop:=
 Calls P f args.toArray w λ
  | .returned v,w'=>K v w'
  | .panicked c,w'=>pan c w'
  | .outgrown,_=>False
def enters (P:Program) (f:FuncId):Bool:=
 match P.funcs[f]? with
 | some fn=>!(fn.name== "runtime.NumGoroutine")&&fn.body.isSome
 | none=>false
def dS (x:UInt64) (n:Nat):UInt64:=if n<64 then x <<< UInt64.ofNat n else 0
def aM (x:UInt64) (n:Nat):UInt64:=if n<64 then x >>> UInt64.ofNat n else 0
def qDW (x:UInt8) (n:Nat):UInt8:=if n<8 then x <<< UInt8.ofNat n else 0
def qE (x:UInt8) (n:Nat):UInt8:=if n<8 then x >>> UInt8.ofNat n else 0
def dN (n:Int):UInt8:=UInt8.ofNat (n % 256).toNat
def aP (n:Int):UInt64:=UInt64.ofNat (n % 18446744073709551616).toNat
def TV.num:TV->Option Int
 | .i _ n=>some n
 | .u8 x=>some x.toNat
 | .u64 x=>some x.toNat
 | _=>none
def jCY (op:BinOp) (k:IntKind) (x y:Int) (next:TV->Prop):Prop:=
 match op with
 | .add=>next (.i k (k.wrap (x+y)))
 | .sub=>next (.i k (k.wrap (x - y)))
 | .mul=>next (.i k (k.wrap (x*y)))
 | .quo=>y≠0/\next (.i k (k.wrap (x.tdiv y)))
 | .rem=>y≠0/\next (.i k (x.tmod y))
 | .eql=>next (.b (x==y))
 | .neq=>next (.b (x != y))
 | .lss=>next (.b (decide (x<y)))
 | .leq=>next (.b (decide (x<=y)))
 | .gtr=>next (.b (decide (x > y)))
 | .geq=>next (.b (decide (x>=y)))
 | _=>False
def jBJ (op:BinOp) (x y:UInt8) (next:TV->Prop):Prop:=
 match op with
 | .add=>next (.u8 (x+y))
 | .sub=>next (.u8 (x - y))
 | .mul=>next (.u8 (x*y))
 | .and=>next (.u8 (x &&& y))
 | .or=>next (.u8 (x ||| y))
 | .xor=>next (.u8 (x ^^^ y))
 | .andNot=>next (.u8 (x &&& ~~~y))
 | .eql=>next (.b (x==y))
 | .neq=>next (.b (x != y))
 | .lss=>next (.b (decide (x<y)))
 | .leq=>next (.b (decide (x<=y)))
 | .gtr=>next (.b (decide (y<x)))
 | .geq=>next (.b (decide (y<=x)))
 | _=>False
def qKB (op:BinOp) (x y:UInt64) (next:TV->Prop):Prop:=
 match op with
 | .add=>next (.u64 (x+y))
 | .sub=>next (.u64 (x - y))
 | .mul=>next (.u64 (x*y))
 | .quo=>y≠0/\next (.u64 (x / y))
 | .rem=>y≠0/\next (.u64 (x % y))
 | .and=>next (.u64 (x &&& y))
 | .or=>next (.u64 (x ||| y))
 | .xor=>next (.u64 (x ^^^ y))
 | .andNot=>next (.u64 (x &&& ~~~y))
 | .eql=>next (.b (x==y))
 | .neq=>next (.b (x != y))
 | .lss=>next (.b (decide (x<y)))
 | .leq=>next (.b (decide (x<=y)))
 | .gtr=>next (.b (decide (y<x)))
 | .geq=>next (.b (decide (y<=x)))
 | _=>False
def qZZ (op:BinOp) (x y:List UInt8) (next:TV->Prop):Prop:=
 match op with
 | .add=>((x.length+y.length:Nat):Int)<=9223372036854775807/\next (.s (x++y))
 | .eql=>next (.b (x==y))
 | .neq=>next (.b (!(x==y)))
 | .lss=>next (.b (Op.bytesLess x y))
 | .leq=>next (.b (Op.bytesLess x y || x==y))
 | .gtr=>next (.b (!(Op.bytesLess x y || x==y)))
 | .geq=>next (.b (!Op.bytesLess x y))
 | _=>False
def fM:BinOp->Bool
 | .shl | .shr=>true
 | _=>false
def qKT:BinOp->Bool
 | .and | .or | .xor | .andNot=>true
 | _=>false
def shK (op:BinOp) (x:TV) (c:Int) (next:TV->Prop):Prop:=
 match op,x with
 | .shl,.i k n=>0<=c/\next (.i k (k.wrap (n*2 ^ (min c.toNat k.bits))))
 | .shr,.i k n=>0<=c/\next (.i k (n.fdiv (2 ^ (min c.toNat k.bits))))
 | .shl,.u8 n=>0<=c/\next (.u8 (qDW n c.toNat))
 | .shr,.u8 n=>0<=c/\next (.u8 (qE n c.toNat))
 | .shl,.u64 n=>0<=c/\next (.u64 (dS n c.toNat))
 | .shr,.u64 n=>0<=c/\next (.u64 (aM n c.toNat))
 | _,_=>False
def bB (P:Program) (s:Sem Value) (next:Value->Prop):Prop:=∃ v,(∀ w,s.run P w = .ok v w)/\next v
def qZH (P:Program) (op:BinOp) (T:TypeId) (ox oy:Operand) (x y:TV) (κ:Kd) (next:TV->Prop):Prop:=
 if fM op then
  match y.num with
  | some c=>shK op x c next
  | none=>False
 else
 match x,y with
 | .i k a,.i k' b=>bif qKT op then bB P (do eqGuard op T ox oy (.int k a) (.int k' b); binOp op T (.int k a) (.int k' b)) λv=>exK κ λt=>v=t.enc/\next t else if k=k' then jCY op k a b next else False
 | .u8 a,.u8 b=>jBJ op a b next
 | .u64 a,.u64 b=>qKB op a b next
 | .s a,.s b=>qZZ op a b next
 | .bad,_=>False
 | _,.bad=>False
 | x,y=>bB P (do eqGuard op T ox oy x.enc y.enc; binOp op T x.enc y.enc) λv=>exK κ λt=>v=t.enc/\next t
def qDV (dst:Option TypeDesc) (x:TV) (next:TV->Prop):Prop:=
 match dst,x with
 | some (.int .u8),.i _ n=>next (.u8 (dN n))
 | some (.int .u8),.u8 n=>next (.u8 n)
 | some (.int .u8),.u64 n=>next (.u8 n.toUInt8)
 | some (.int .u64),.i _ n=>next (.u64 (aP n))
 | some (.int .u64),.u8 n=>next (.u64 n.toUInt64)
 | some (.int .u64),.u64 n=>next (.u64 n)
 | some (.int k),.i _ n=>next (.i k (k.wrap n))
 | some (.int .i64),.u8 n=>next (.i .i64 n.toNat)
 | some (.int k),.u8 n=>next (.i k (k.wrap n.toNat))
 | some (.int k),.u64 n=>next (.i k (k.wrap n.toNat))
 | some .string,.s l=>next (.s l)
 | _,_=>False
def fieldsOf (P:Program) (T:TypeId):Option (Array Field):=
 match P.underlying T with
 | some (.struct fs)=>some fs
 | _=>none
def nN (len cap:Nat) (lo hi mx:Option Int) (K:Nat->Nat->Nat->Prop):Prop:=
 match mx with
 | none=>
   match hi with
   | none=>
     match lo with
     | none=>K 0 len cap
     | some l=>(0<=l/\l<=len)/\K l.toNat len cap
   | some h=>
     match lo with
     | none=>(0<=h/\h<=cap)/\K 0 h.toNat cap
     | some l=>(0<=l/\l<=h/\h<=cap)/\K l.toNat h.toNat cap
 | some m=>
   match hi with
   | none=>False
   | some h=>
     match lo with
     | none=>(0<=h/\h<=m/\m<=cap)/\K 0 h.toNat m.toNat
     | some l=>(0<=l/\l<=h/\h<=m/\m<=cap)/\K l.toNat h.toNat m.toNat
def aF (s:Slc) (size l h m:Nat):Slc:=⟨if m=l then s.a else s.a.map (·.add (l*size)),h - l,m - l⟩
def pF (env:Env):Option Operand->Option (Option Int)
 | none=>some none
 | some x=>match (ev env x).num with | some n=>some (some n) | none=>none
def qQF (i:Int) (len:Nat) (a:Option Addr) (size:Nat) (next:TV->Prop):Prop:=
 (0<=i/\i<len)/\aA a λad=>next (.p (some (ad.add (i.toNat*size))))
structure Pt where
 off:Nat
 size:Nat
 ag:Bool
def okT (P:Program) (T:TypeId):Bool:=(P.info? T).isSome&&(P.underlying T).isSome
def partsOf (P:Program) (T:TypeId):Option (List Pt):=
 match P.underlying T with
 | some (.struct fs)=>bif fs.toList.all λf=>okT P f.type then some (fs.toList.map λf=>⟨f.offset,bE P f.type,nD P f.type⟩) else none
 | some (.array n e)=>bif okT P e then some ((List.range n).map λi=>⟨i*bE P e,bE P e,nD P e⟩) else none
 | _=>none
def fitsAt:Nat->List Pt->List TV->Bool
 | _,[],[]=>true
 | o,q :: r,x :: xs=>Nat.beq q.off o&&Nat.beq q.size x.cells.length&&(x.isAgg==q.ag)&&!x.isBad&&fitsAt (o+q.size) r xs
 | _,_,_=>false
def jHR:Kd->Value->TV
 | .i k,.int _ n=>.i k n
 | .u8,_=>.u8 0
 | .u64,_=>.u64 0
 | .b,_=>.b false
 | .s,_=>.s []
 | .p,_=>.p none
 | .sl,_=>.sl ⟨none,0,0⟩
 | .m,_=>.m none
 | _,x=>.v x
mutual
def zeroOf:Kd->List Value->Option (TV×List Value)
 | .i k,.int k' 0 :: r=>if k=k' then some (.i k 0,r) else none
 | .u8,.int .u8 0 :: r=>some (.u8 0,r)
 | .u64,.int .u64 0 :: r=>some (.u64 0,r)
 | .b,.bool false :: r=>some (.b false,r)
 | .s,.string s :: r=>if s.data.size=0 then some (.s [],r) else none
 | .p,.pointer none :: r=>some (.p none,r)
 | .sl,.slice none 0 0 :: r=>some (.sl ⟨none,0,0⟩,r)
 | .m,.map none :: r=>some (.m none,r)
 | .v,.nilFunc :: r=>some (.v .nilFunc,r)
 | .v,.nilIface :: r=>some (.v .nilIface,r)
 | .agg fs,l=>match kS fs l with | some (xs,r)=>some (.agg xs,r) | none=>none
 | _,_=>none
def kS:List Kd->List Value->Option (List TV×List Value)
 | [],l=>some ([],l)
 | k :: ks,l=>match zeroOf k l with
   | some (x,r)=>match kS ks r with | some (xs,r')=>some (x :: xs,r') | none=>none
   | none=>none
end
def qAC (P:Program) (T:TypeId):Option TV:=
 match P.info? T with
 | some i=>match i.zero with
   | some z=>match zeroOf (kindOf P 20 T) z.cells.toList with
     | some (x,[])=>some x
     | _=>none
   | none=>none
 | none=>none
def jQ (ps:List Pt) (env:Env):List TV->List (Nat×Operand)->Option (List TV)
 | fs,[]=>some fs
 | fs,(i,x) :: r=>bif Nat.blt i fs.length&&fitsAt 0 ps (fs.set i (ev env x)) then jQ ps env (fs.set i (ev env x)) r else none
def vK:List TV->Prop->Prop
 | [],K=>K
 | .v x :: r,K=>x.oneCell'=true/\vK r K
 | _ :: r,K=>vK r K
def qAN (P:Program) (T:TypeId) (parts:Array (Nat×Operand)) (env:Env) (next:TV->Prop):Prop:=
 match qAC P T with
 | some (.agg zs)=>
   match partsOf P T with
   | some ps=>bif fitsAt 0 ps zs then
      match jQ ps env zs parts.toList with
      | some fs=>vK (parts.toList.map λq=>ev env q.2) (next (.agg fs))
      | none=>False
     else False
   | none=>False
 | _=>False
def isIface (P:Program) (T:TypeId):Bool:=match P.underlying T with | some (.interface _)=>true | none=>true | _=>false
def xH (P:Program) (T:TypeId) (f:Nat):Option Nat:=
 match P.underlying T with
 | some (.struct fs)=>match fs[f]? with
   | some x=>bif Nat.beq (bE P x.type) 0 || !(P.info? x.type).isSome then none else some x.offset
   | none=>none
 | _=>none
def evs (env:Env) (xs:Array Operand):List Value:=xs.toList.map λx=>(ev env x).enc
def gW (env:Env) (xs:Array Operand):Bool:=xs.toList.all λx=>!(ev env x).isBad
def jCU (P:Program) (T:TypeId) (x:TV) (next:TV->Prop):Prop:=
 match P.underlying T,x with
 | some .string,.s l=>next (.i .i64 l.length)
 | some (.slice _),.sl s=>next (.i .i64 s.len)
 | some (.array n _),.agg _=>next (.i .i64 n)
 | some (.pointer e),.p _=>match P.underlying e with
   | some (.array n _)=>next (.i .i64 n)
   | _=>False
 | _,_=>False
def qZJ (P:Program) (T:TypeId) (x:TV) (next:TV->Prop):Prop:=
 match P.underlying T,x with
 | some (.slice _),.sl s=>next (.i .i64 s.cap)
 | _,_=>False
def min2:List TV->Option TV
 | [.i k a,.i k' b]=>if k=k' then some (.i k (if b<a then b else a)) else none
 | [.i k a,.i k' b,.i k'' c]=>if k=k'/\k=k'' then some (.i k (if c<(if b<a then b else a) then c else (if b<a then b else a))) else none
 | _=>none
def max2:List TV->Option TV
 | [.i k a,.i k' b]=>if k=k' then some (.i k (if b > a then b else a)) else none
 | [.i k a,.i k' b,.i k'' c]=>if k=k'/\k=k'' then some (.i k (if c > (if b > a then b else a) then c else (if b > a then b else a))) else none
 | _=>none
def iR (P:Program) (o:Oper):Bool:=
 match o.op with
 | .move _ | .assign _ | .pick _ _ _ | .nilCheck _ | .binOp _ _ _ _ _ | .unOp _ _ _ | .makeInterface _ _ | .makeFunc _ _ _ | .fieldAddr _ _ _
 | .field _ _ _ | .indexAddr _ _ _ | .index _ _ _ | .slice _ _ _ _ _ | .extract _ _ | .build _ _=>true
 | .convert s d _=>match P.underlying s,P.underlying d with
   | some (.int _),some (.int _)=>true
   | some .string,some .string=>true
   | _,_=>false
 | .call {callee:=.builtin .len,argTypes,..}=>match P.underlying (argTypes.getD 0 0) with | some (.map _ _)=>false | _=>true
 | .call {callee:=.builtin .cap,..}=>true
 | .call {callee:=.builtin .min,..}=>true
 | .call {callee:=.builtin .max,..}=>true
 | _=>false
def uR (P:Program) (o:Oper) (env:Env) (next:TV->Prop):Prop:=
 match o.op with
 | .move x | .assign x=>next (ev env x)
 | .pick c a b=>match ev env c with
   | .b t=>aE t (next (ev env a)) (next (ev env b))
   | _=>False
 | .nilCheck x=>match ev env x with
   | .p a=>aA a λad=>next (.p (some ad))
   | .v (.func (.func f) first cap)=>next (.v (.func (.func f) first cap))
   | _=>False
 | .binOp op T x y _=>qZH P op T x y (ev env x) (ev env y) (kindOf P 20 o.type) next
 | .unOp op _ x=>match op,ev env x with
   | .not,.b t=>next (.b (!t))
   | .neg,.i k n=>next (.i k (k.wrap (0 - n)))
   | .xor,.u64 n=>next (.u64 (~~~n))
   | .xor,.u8 n=>next (.u8 (~~~n))
   | _,_=>False
 | .convert s d x=>match P.underlying s with
   | some _=>qDV (P.underlying d) (ev env x) next
   | none=>False
 | .makeInterface T x=>bif isIface P T || (ev env x).isBad then False else next (.v (.iface T (ev env x).enc))
 | .makeFunc fn first captured=>bif gW env first&&gW env captured then next (.v (.func fn (evs env first).toArray (evs env captured).toArray)) else False
 | .fieldAddr T x f=>match xH P T f,ev env x with
   | some off,.p a=>aA a λad=>next (.p (some (ad.add off)))
   | _,_=>False
 | .field T x f=>match ev env x,partsOf P T with
   | .agg fs,some ps=>match fs[f]? with
     | some y=>bif fitsAt 0 ps fs&&(fieldsOf P T).isSome then next y else False
     | none=>False
   | _,_=>False
 | .indexAddr T x i=>match P.underlying T with
   | some (.slice e)=>match ev env x,(ev env i).num with
     | .sl s,some n=>bif (P.info? e).isSome then qQF n s.len s.a (bE P e) next else False
     | _,_=>False
   | some (.array len e)=>match ev env x,(ev env i).num with
     | .p a,some n=>bif (P.info? e).isSome then qQF n len a (bE P e) next else False
     | _,_=>False
   | _=>False
 | .index T x i=>match P.underlying T with
   | some .string=>match ev env x,(ev env i).num with
     | .s l,some n=>0<=n/\∃ c:UInt8,l[n.toNat]? = some c/\next (.u8 c)
     | _,_=>False
   | some (.array len e)=>match ev env x,(ev env i).num with
     | .agg fs,some n=>bif gM P e then (0<=n/\n<len)/\(∀ z∈fs,z.cells.length=bE P e)/\exK (kindOf P 20 e) λy=>fs[n.toNat]? = some y/\next y else False
     | _,_=>False
   | _=>False
 | .slice T x lo hi mx=>match pF env lo,pF env hi,pF env mx with
   | some l,some h,some m=>match P.underlying T,ev env x with
     | some .string,.s s=>match m with
       | none=>nN s.length s.length l h none λl h _=>next (.s ((s.take h).drop l))
       | some _=>False
     | some (.slice e),.sl s=>bif (P.info? e).isSome then nN s.len s.cap l h m λl h m=>next (.sl (aF s (bE P e) l h m)) else False
     | some (.array n e),.p a=>bif (P.info? e).isSome&&m.isNone then aA a λad=>nN n n l h none λl h m=>next (.sl (aF ⟨some ad,n,n⟩ (bE P e) l h m)) else False
     | _,_=>False
   | _,_,_=>False
 | .extract t i=>match ev env t with
   | .tup fs=>match fs[i]? with
     | some y=>next y
     | none=>False
   | .v x=>∃ vs:Array Value,x = .tuple vs/\exK (kindOf P 20 o.type) λy=>vs[i]? = some y.enc/\next y
   | _=>False
 | .build T parts=>qAN P T parts env next
 | .call {callee:=.builtin .len,args,argTypes}=>match args.toList,argTypes.toList with
   | [x],[T]=>jCU P T (ev env x) next
   | _,_=>False
 | .call {callee:=.builtin .cap,args,argTypes}=>match args.toList,argTypes.toList with
   | [x],[T]=>qZJ P T (ev env x) next
   | _,_=>False
 | .call {callee:=.builtin .min,args,..}=>match min2 (args.toList.map (ev env)) with
   | some y=>next y
   | none=>False
 | .call {callee:=.builtin .max,args,..}=>match max2 (args.toList.map (ev env)) with
   | some y=>next y
   | none=>False
 | _=>False
def xE (κ:Kd) (v:Value) (next:TV->Prop):Prop:=exK κ λt=>v=t.enc/\next t
def eZ (P:Program) (l:Nat) (args:List Value) (w:World) (K:Value->World->Prop):Prop:=
 ∃ f tmps assign body,(Instr.yield l args.toArray).run P w = .ok (.round l f tmps assign body) w/\RoundIn Fence.wide 0 P l f tmps assign body w λe w'=>∃ v,e = .returned v/\K v w'
def dY (P:Program) (fv:Value) (args:List Value) (w:World) (pan:List PanicEntry->World->Prop) (K:Value->World->Prop):Prop:=
 match fv with
 | .func (.func f) first cap=>bif enters P f then aD P f (first.toList++args++cap.toList) w pan K
    else ∃ v w',(callFunc f (first++args.toArray++cap)).run P w = .ok (.value v) w'/\K v w'
 | .func (.yield l) first cap=>eZ P l (first.toList++args) w K
 | .func fn first cap=>∃ f args',(invoke (.fn fn cap) (first++args.toArray)).run P w = .ok (.enter f args') w/\aD P f args'.toList w pan K
 | _=>False
def zV (v:Value) (K:Value->Prop):Prop:=match v with | .iface T y=>K (.iface T y) | _=>False
def nB (P:Program) (o:Oper) (env:Env) (w:World) (pan:List PanicEntry->World->Prop) (next:TV->World->Prop):Prop:=
 let κ:=kindOf P 20 o.type
 let semk (κ:Kd) (s:Sem Value):Prop:=aH P s w λv w'=>xE κ v λt=>next t w'
 let sem (s:Sem Value):Prop:=aH P s w λv w'=>xE κ v λt=>next t w'
 let semu (s:Sem Unit):Prop:=aJ P s w λw'=>next .bad w'
 let e (x:Operand):Value:=(ev env x).enc
 let g (x:Operand):Bool:=!(ev env x).isBad
 match o.op with
 | .load T a=>match ev env a with
   | .p q=>aA q λad=>bif gM P T then exK (kindOf P 20 T) λt=>Rd w ad t.cells/\next t w else False
   | _=>False
 | .store T a x=>match ev env a with
   | .p q=>aA q λad=>bif g x then semu (storeVar T ad (e x)) else False
   | _=>False
 | .alloc T=>semk .p (Instr.alloc T true (.tuple #[]))
 | .box T x=>bif g x then semk .p (Instr.box T (e x)) else False
 | .buildSlice T n parts=>bif parts.toList.all (λq=>g q.2) then semk .sl (Instr.buildSlice T n (parts.map λ(i,x)=>(i,e x))) else False
 | .convert s d x=>bif g x then semk (kindOf P 20 d) (convert s d (e x)) else False
 | .makeMap T r=>match r with
   | none=>semk .m (Instr.makeMap T none)
   | some x=>bif g x then semk .m (Instr.makeMap T (some (e x))) else False
 | .makeSlice T l c=>bif g l&&g c then semk .sl (Instr.makeSlice T (e l) (e c)) else False
 | .lookup T x i ok=>bif g x&&g i then sem (Instr.lookup T (e x) (e i) ok) else False
 | .mapUpdate T m k x | .insert T m k x=>bif g m&&g k&&g x then semu (Instr.mapUpdate T (e m) (e k) (e x)) else False
 | .mapEntry T m k=>bif g m&&g k then sem (Instr.mapEntry T (e m) (e k)) else False
 | .entryStore T m s x=>bif g m&&g s&&g x then semu (Instr.entryStore T (e m) (e s) (e x)) else False
 | .range T x=>bif g x then semk .p (Instr.range T (e x)) else False
 | .next it isS=>bif g it then semk .v (Instr.next (e it) isS o.type) else False
 | .entry it=>bif g it then semk .v (Instr.entry (e it)) else False
 | .typeAssert x T a ok=>bif g x then sem (Instr.typeAssert (e x) T a ok) else False
 | .panic x=>match ev env x with
   | .v y=>zV y λz=>pan [{v:=z,recovered:=false}] w
   | _=>False
 | .call c=>bif gW env c.args then
    match c.callee with
    | .builtin .append=>semk .sl (Builtin.append_ c.argTypes o.type (evs env c.args).toArray)
    | .builtin .copy=>semk (.i .i64) (Builtin.copy_ c.argTypes o.type (evs env c.args).toArray)
    | .builtin .delete=>semk (.tup []) (Builtin.delete_ c.argTypes o.type (evs env c.args).toArray)
    | .builtin .clear=>semk (.tup []) (Builtin.clear_ c.argTypes o.type (evs env c.args).toArray)
    | .builtin .len=>semk (.i .i64) (Builtin.len_ c.argTypes o.type (evs env c.args).toArray)
    | .builtin .unsafeSliceData=>sem (Builtin.unsafeSliceData_ c.argTypes o.type (evs env c.args).toArray)
    | .builtin .unsafeString=>sem (Builtin.unsafeString_ c.argTypes o.type (evs env c.args).toArray)
    | .builtin _=>False
    | .value f=>match ev env f with
      | .v fv=>dY P fv (evs env c.args) w pan λv w'=>xE κ v λt=>next t w'
      | _=>False
    | .invoke r name=>match ev env r with
      | .v rv=>∃ f args',(invoke (.fn (.method name) #[]) (#[rv]++(evs env c.args).toArray)).run P w = .ok (.enter f args') w/\
         aD P f args'.toList w pan λv w'=>xE κ v λt=>next t w'
      | _=>False
   else False
 | _=>False
def sN (P:Program) (o:Oper) (env:Env) (w:World) (pan:List PanicEntry->World->Prop) (next:TV->World->Prop):Prop:=
 bif iR P o then uR P o env λt=>next t w else nB P o env w pan next
structure Kt where
 nrm:List Deferred->Env->World->Prop
 ext:Nat->List Deferred->Env->World->Prop
 ret:List Deferred->Env->World->Prop
 pan:List Deferred->Env->List PanicEntry->World->Prop
def dC (o:Oper):Bool:=match o.op with | .load _ _=>true | _=>false
def qGO (o:Oper):Bool:=match o.op with | .store ..=>true | _=>false
def jFZ (ops:Array Oper) (o:Oper) (i:Nat):Bool:=o.after.any λe=>Region.binds .any e&&match ops[e.on]? with
 | some y=>y.after.any λg=>Region.binds .any g&&Nat.beq g.on i
 | none=>false
def late (ops:Array Oper) (j:Nat):Bool:=
 match ops[j]? with
 | some o=>(List.range ops.size).all λi=>match ops[i]? with
   | some x=>!dC x || (o.after.any λe=>Region.binds .any e&&Nat.beq e.on i) || (qGO o&&jFZ ops o i)
   | none=>true
 | none=>false
def eff (P:Program) (ops:Array Oper) (j:Nat):Bool:=match ops[j]? with | some o=>!iR P o&&!dC o | none=>true
def cG:Op->Bool
 | .defer _=>true
 | _=>false
def wH (ops:List Oper) (j:Nat):Option Nat:=match ops[j]? with | some o=>o.dst | none=>none
def pC (ops:List Oper) (o:Oper) (env:Env) (yes:Env->Prop) (no:Env->Prop):Prop:=
 match o.guard with
 | none=>yes env
 | some (j,want)=>
   match wH ops j with
   | some d=>match look env d with
     | .b t=>aE t (bif want then yes ((d,.b true) :: env) else no ((d,.b true) :: env)) (bif want then no ((d,.b false) :: env) else yes ((d,.b false) :: env))
     | .tup _=>no env
     | _=>False
   | none=>False
def eH (N:Nat):Option Tmp->Bool
 | none=>true
 | some d=>Nat.blt d N
def qAM (o:Oper) (env:Env) (next:Deferred->Prop):Prop:=
 match o.op with
 | .defer {callee:=.value f,args,..}=>bif gW env args then
    match ev env f with
    | .v (.func fn first cap)=>next {target:=.fn fn cap,args:=first++(evs env args).toArray}
    | _=>False
   else False
 | _=>False
def lG (P:Program) (N:Nat) (r:Option Nat) (ops:List Oper) (pan:List Deferred->List PanicEntry->World->Prop):List Oper->(List Deferred->Env->World->Prop)->List Deferred->Env->World->Prop
 | [],k,ds,env,w=>k ds env w
 | o :: q,k,ds,env,w=>bif eH N o.dst then
     bif cG o.op then
      bif o.guard.isNone&&r.isNone&&o.dst.isNone then qAM o env λd=>lG P N r ops pan q k (d :: ds) env w else False
     else
     pC ops o env (λenv=>sN P o env w (pan ds) λt w'=>lG P N r ops pan q k ds (iK env o.dst t) w')
      (λenv=>lG P N r ops pan q k ds (iK env o.dst (.tup [])) w)
   else False
mutual
def pE:Kd->Bool
 | .la _ _=>false
 | .agg fs=>nV fs
 | .tup fs=>nV fs
 | _=>true
def nV:List Kd->Bool
 | []=>true
 | k :: r=>pE k&&nV r
end
structure Mod (S:Nat->Prop) (w w':World):Prop where
 os:w'.os=w.os
 tape:w'.tape=w.tape
 output:w'.output=w.output
 size:w.heap.size<=w'.heap.size
 block : ∀ b,b<w.heap.size->¬ S b->w'.heap[b]? = w.heap[b]?
def NoB:Nat->Prop:=λ_=>False
theorem Mod.refl (S:Nat->Prop) (w:World):Mod S w w:=⟨rfl,rfl,rfl,Nat.le_refl _,λ_ _ _=>rfl⟩
theorem Mod.trans {S S' S'':Nat->Prop} {a b c:World} (h:Mod S a b) (h':Mod S' b c) (h1 : ∀ x,x<a.heap.size->S x->S'' x) (h2 : ∀ x,x<a.heap.size->S' x->S'' x):Mod S'' a c:=
 ⟨h'.os.trans h.os,h'.tape.trans h.tape,h'.output.trans h.output,Nat.le_trans h.size h'.size,
  λx hx hn=>(h'.block x (Nat.lt_of_lt_of_le hx h.size) (λe=>hn (h2 x hx e))).trans (h.block x hx (λe=>hn (h1 x hx e)))⟩
theorem Mod.mono {S S':Nat->Prop} {a b:World} (h:Mod S a b) (h1 : ∀ x,x<a.heap.size->S x->S' x):Mod S' a b:=
 ⟨h.os,h.tape,h.output,h.size,λx hx hn=>h.block x hx (λe=>hn (h1 x hx e))⟩
theorem Mod.no {S:Nat->Prop} {a b c:World} (h:Mod NoB a b) (h':Mod S b c):Mod S a c:=h.trans h' (λ_ _ h=>h.elim) (λ_ _ h=>h)
theorem Mod.no' {S:Nat->Prop} {a b c:World} (h:Mod S a b) (h':Mod NoB b c):Mod S a c:=h.trans h' (λ_ _ h=>h) (λ_ _ h=>h.elim)
theorem Mod.tr {S:Nat->Prop} {a b c:World} (h:Mod S a b) (h':Mod S b c):Mod S a c:=h.trans h' (λ_ _ h=>h) (λ_ _ h=>h)
theorem Mod.drew (S:Nat->Prop) (w:World):Mod S w w.drew:=⟨rfl,rfl,rfl,Nat.le_refl _,λ_ _ _=>rfl⟩
theorem Mod.fresh {S S':Nat->Prop} {a b c:World} (h:Mod S a b) (h':Mod S' b c) (h2 : ∀ x,S' x->a.heap.size<=x):Mod S a c:=
 h.trans h' (λ_ _ h=>h) (λx hx e=>by have:=h2 x e; omega)
inductive DS where
 | done
 | take (i:Nat) (r:DS)
 | all (rs:List (Nat×DS))
 | safe (is:List (Nat×Kd)) (r:DS)
def gH (P:Program) (o:Oper):Bool:=iR P o || dC o
def dA (o:Oper) (j:Nat):Bool:=o.after.any λe=>Region.binds .any e&&Nat.beq e.on j
def cT (ops:Array Oper) (j:Nat):Option Tmp:=match ops[j]? with | some o=>o.dst | none=>none
def vA (P:Program) (ops:Array Oper) (listed:Array Bool) (is:List (Nat×Kd)):Bool:=
 (is.all λq=>match ops[q.1]? with
  | none=>false
  | some o=>o.guard.isNone&&!cG o.op&&o.dst.isSome&&!(listed.getD q.1 true)&&(gH P o || pE q.2)
    && (is.all λp=>Nat.beq p.1 q.1 || !(cT ops p.1==o.dst))
    && (is.all λp=>dA o p.1 || !((o.looksAt ops).any λt=>cT ops p.1==some t))
    && (o.after.all λe=>!Region.binds .any e || (listed.getD e.on false || (is.any λp=>Nat.beq p.1 e.on&&Nat.blt p.1 q.1)))
    && (is.all λp=>Nat.blt p.1 q.1 || !dA o p.1))
 && (List.range ops.size).all λk=>listed.getD k true || (is.any λq=>Nat.beq q.1 k) ||
     match ops[k]? with
     | none=>false
     | some o=>(o.after.any λe=>Region.binds .any e&&!(listed.getD e.on true)&&!(is.any λq=>Nat.beq q.1 e.on)) || is.all λq=>dA o q.1 || is.any λp=>dA o p.1&&match ops[p.1]? with | some x=>dA x q.1 | none=>false
def vV (N:Nat) (ops:Array Oper) (is:List (Nat×Kd)):Bool:=is.all λq=>match cT ops q.1 with | some d=>Nat.blt d N | none=>false
def qEL:List (Nat×Kd)->Bool
 | []=>true
 | [_]=>true
 | a :: b :: r=>Nat.blt a.1 b.1&&qEL (b :: r)
def eE (listed:Array Bool):List (Nat×Kd)->Array Bool
 | []=>listed
 | q :: r=>eE (listed.setIfInBounds q.1 true) r
def qCY (Ts:Nat->Value->World->Prop) (w:World):List (Nat×TV)->Prop->Prop
 | [],X=>X
 | (i,t) :: r,X=>Ts i t.enc w->qCY Ts w r X
def qAK (P:Program) (N:Nat) (ops:Array Oper) (S:World->Prop) (LD:Addr->List Value->Prop) (Ts:Nat->Value->World->Prop) (pan:List PanicEntry->World->Prop) (w0:World) (fin:Env->World->Prop):List (Nat×Kd)->List (Nat×TV)->Env->Prop
 | [],hs,env=>∀ w,Mod NoB w0 w->S w->qCY Ts w hs (fin env w)
 | (i,κ) :: r,hs,env=>match ops[i]? with
   | none=>False
   | some o=>bif eH N o.dst then
      bif iR P o then uR P o env λt=>qAK P N ops S LD Ts pan w0 fin r hs (iK env o.dst t)
      else bif dC o then match o.op with
       | .load T a=>match ev env a with
         | .p q=>aA q λad=>bif gM P T then exK (kindOf P 20 T) λt=>LD ad t.cells/\qAK P N ops S LD Ts pan w0 fin r hs (iK env o.dst t) else False
         | _=>False
       | _=>False
      else (∀ w,Mod NoB w0 w->S w->qCY Ts w (hs.filter λh=>dA o h.1) (sN P o env w pan λt w'=>bif okK κ t then Mod NoB w w'/\S w'/\Ts i t.enc w' else False))/\
       yJ κ λt=>qAK P N ops S LD Ts pan w0 fin r ((i,t) :: hs) (iK env o.dst t)
     else False
mutual
def bQ (P:Program) (N:Nat) (ops:Array Oper) (S:World->Prop) (LD:Addr->List Value->Prop) (pan:List PanicEntry->World->Prop) (k:Env->World->Prop):DS->Nat->Array Bool->Env->World->Prop
 | .done,_,listed,env,w=>bif (Region.ready .any ops listed).isEmpty then k env w else False
 | .take _ _,0,_,_,_=>False
 | .take i r,f+1,listed,env,w=>
   match ops[i]? with
   | none=>False
   | some o=>bif eH N o.dst&&Region.free .any ops listed i&&(Region.ready .any ops listed).contains i then
      bif iR P o then
       pC ops.toList o env (λenv=>uR P o env λt=>bQ P N ops S LD pan k r f (listed.setIfInBounds i true) (iK env o.dst t) w)
        (λenv=>bQ P N ops S LD pan k r f (listed.setIfInBounds i true) (iK env o.dst (.tup [])) w)
      else
       match o.op with
       | .load T a=>
         pC ops.toList o env (λenv=>match ev env a with
          | .p q=>aA q λad=>bif gM P T then exK (kindOf P 20 T) λt=>LD ad t.cells/\
             bQ P N ops S LD pan k r f (listed.setIfInBounds i true) (iK env o.dst t) w else False
          | _=>False)
          (λenv=>bQ P N ops S LD pan k r f (listed.setIfInBounds i true) (iK env o.dst (.tup [])) w)
       | _=>False
     else False
 | .all _,0,_,_,_=>False
 | .safe is r,f,listed,env,w=>bif vA P ops listed is&&qEL is&&vV N ops is&&Nat.ble is.length f&&Nat.beq listed.size ops.size then
    ∃ Ts:Nat->Value->World->Prop,(∀ i v w1 w2,Mod NoB w1 w2->Ts i v w1->Ts i v w2)/\S w/\
      qAK P N ops S LD Ts pan w (λenv w'=>bQ P N ops S LD pan k r (f - is.length) (eE listed is) env w') is [] env
   else False
 | .all rs,f+1,listed,env,w=>bif Region.ready .any ops listed==rs.map (·.1)&&!rs.isEmpty then oK P N ops S LD pan k rs f listed env w else False
def oK (P:Program) (N:Nat) (ops:Array Oper) (S:World->Prop) (LD:Addr->List Value->Prop) (pan:List PanicEntry->World->Prop) (k:Env->World->Prop):List (Nat×DS)->Nat->Array Bool->Env->World->Prop
 | [],_,_,_,_=>True
 | (i,r) :: rs,f,listed,env,w=>
   (match ops[i]? with
   | none=>False
   | some o=>bif eH N o.dst then
      pC ops.toList o env (λenv=>sN P o env w pan λt w'=>bif eff P ops i&&!late ops i then S w'/\bQ P N ops S LD pan k r f (listed.setIfInBounds i true) (iK env o.dst t) w' else bQ P N ops S LD pan k r f (listed.setIfInBounds i true) (iK env o.dst t) w')
       (λenv=>bif eff P ops i&&!late ops i then S w/\bQ P N ops S LD pan k r f (listed.setIfInBounds i true) (iK env o.dst (.tup [])) w else bQ P N ops S LD pan k r f (listed.setIfInBounds i true) (iK env o.dst (.tup [])) w)
     else False)/\oK P N ops S LD pan k rs f listed env w
end
inductive Ann where
 | z
 | seq (j:Option (List (Nat×Kd))) (a b:Ann)
 | cond (a b:Ann)
 | block (j:Option (List (Nat×Kd))) (a:Ann)
 | loop (vs:List (Nat×Kd)) (a:Ann)
 | unroll (n:Nat) (a:Ann)
 | rf (hasRet:Bool) (ids:List Nat) (ks:List Kd) (a b:Ann)
 | draw (fl:Nat) (d:DS)
def aW:List Oper->List Nat
 | []=>[]
 | o :: r=>match o.dst with | some d=>d :: aW r | none=>aW r
def writes:Code->List Nat
 | .region _ ops _=>aW ops.toList
 | .seq a b=>writes a++writes b
 | .cond _ a b=>writes a++writes b
 | .block _ a=>writes a
 | .loop a=>writes a
 | _=>[]
def dM (ts:List Nat) (env:Env):Env:=ts.map (λt=>(t,TV.bad))++env
def bL (env:Env) (vs:List (Nat×Kd)):List TV:=vs.map λv=>look env v.1
def binds (vs:List (Nat×Kd)) (xs:List TV):Env:=List.zipWith (λv x=>(v.1,x)) vs xs
def kinds (vs:List (Nat×Kd)):List Kd:=vs.map (·.2)
def qBM (env:Env):Operand->Bool->Env
 | .tmp t,x=>(t,.b x) :: env
 | _,_=>env
def dB (l:List Oper):Bool:=l.any λo=>cG o.op
def quiet:Code->Bool
 | .region _ ops _=>!dB ops.toList
 | .seq a b=>quiet a&&quiet b
 | .cond _ a b=>quiet a&&quiet b
 | .block _ a=>quiet a
 | .loop a=>quiet a
 | .rangeFunc _ _ _ _=>false
 | .scope a=>quiet a
 | _=>true
def unr:Nat->((List Deferred->Env->World->Prop)->List Deferred->Env->World->Prop)->List Deferred->Env->World->Prop
 | 0,_,_,_,_=>False
 | n+1,f,ds,env,w=>f (λds env w=>unr n f ds env w) ds env w
def pQ:List Tmp->List TV->Env->Env
 | t :: ts,x :: xs,env=>pQ ts xs ((t,x) :: env)
 | _,_,env=>env
abbrev mkD (D:Nat):Deferred:={target:=.collected D,args:=#[]}
def qJV (p:Nat->Prop):List Nat->Prop
 | []=>False
 | i :: r=>p i\/qJV p r
def den (P:Program) (N:Nat):Option Nat->Ann->Code->Kt->List Deferred->Env->World->Prop
 | _,_,.skip,k,ds,env,w=>k.nrm ds env w
 | _,_,.ret,k,ds,env,w=>k.ret ds env w
 | _,_,.exit id,k,ds,env,w=>k.ext id ds env w
 | r,.seq none a b,.seq x y,k,ds,env,w=>den P N r a x {k with nrm:=λds env w=>den P N r b y k ds env w} ds env w
 | r,.seq (some vs) a b,.seq x y,k,ds,env,w=>bif quiet x then
   ∃ J:List TV->World->Prop,den P N r a x {k with nrm:=λ_ env w=>bif eP (kinds vs) (bL env vs) then J (bL env vs) w else False} ds env w/\
     iT (kinds vs) λxs=>∀ w,J xs w->den P N r b y k ds (binds vs xs++dM (writes x) env) w
   else False
 | r,.cond a b,.cond c x y,k,ds,env,w=>match ev env c with
   | .b t=>aE t (den P N r a x k ds (qBM env c true) w) (den P N r b y k ds (qBM env c false) w)
   | _=>False
 | r,.block none a,.block id x,k,ds,env,w=>den P N r a x {k with ext:=λi ds env w=>bif Nat.beq i id then k.nrm ds env w else k.ext i ds env w} ds env w
 | r,.block (some vs) a,.block id x,k,ds,env,w=>bif quiet x then
   ∃ J:List TV->World->Prop,den P N r a x {k with
      nrm:=λ_ env w=>bif eP (kinds vs) (bL env vs) then J (bL env vs) w else False
      ext:=λi ds env w=>bif Nat.beq i id then (bif eP (kinds vs) (bL env vs) then J (bL env vs) w else False) else k.ext i ds env w} ds env w/\
     iT (kinds vs) λxs=>∀ w,J xs w->k.nrm ds (binds vs xs++dM (writes x) env) w
   else False
 | r,.loop vs a,.loop x,k,ds,env,w=>
   bif eP (kinds vs) (bL env vs)&&quiet x then
    ∃ (I:List TV->World->Prop) (μ:List TV->World->Nat),I (bL env vs) w/\
      iT (kinds vs) λxs=>∀ w,I xs w->den P N r a x {k with
       nrm:=λ_ env' w'=>bif eP (kinds vs) (bL env' vs) then I (bL env' vs) w'/\μ (bL env' vs) w'<μ xs w else False}
       ds (binds vs xs++dM (writes x) env) w
   else False
 | r,.unroll n a,.loop x,k,ds,env,w=>unr n (λnrm ds env w=>den P N r a x {k with nrm:=nrm} ds env w) ds env w
 | r,_,.region _ ops false,k,ds,env,w=>lG P N r ops.toList (λds c w=>k.pan ds (dM (aW ops.toList) env) c w) ops.toList k.nrm ds env w
 | r,.draw 0 d,.region _ ops true,k,ds,env,w=>bif Region.noSelect ops&&P.follows .mixedOrders&&!dB ops.toList then
    bQ P N ops (λ_=>True) (λ_ _=>False) (k.pan ds (dM (aW ops.toList) env)) (k.nrm ds) d ops.size (Array.replicate ops.size false) env w.drew else False
 | r,.draw 1 d,.region _ ops true,k,ds,env,w=>bif Region.noSelect ops&&P.follows .mixedOrders&&!dB ops.toList then
    ∃ S:World->Prop,S w.drew/\bQ P N ops S (λad cs=>∀ w',S w'->Rd w' ad cs) (k.pan ds (dM (aW ops.toList) env)) (k.nrm ds) d ops.size (Array.replicate ops.size false) env w.drew else False
 | r,.draw 2 d,.region _ ops true,k,ds,env,w=>bif Region.noSelect ops&&P.follows .mixedOrders&&!dB ops.toList then
    bQ P N ops (λw'=>w'=w.drew) (λad cs=>Rd w.drew ad cs) (k.pan ds (dM (aW ops.toList) env)) (k.nrm ds) d ops.size (Array.replicate ops.size false) env w.drew else False
 | none,.rf hasRet ids ks a b,.rangeFunc g ps assign body,k,ds,env,w=>
   match ev env g with
   | .v fv=>
     bif nV ks&&Nat.beq ps.size ks.length&&ps.toList.all (λt=>Nat.blt t N)&&quiet assign&&quiet body then
      ∃ (f:FuncId) (first cap:Array Value),fv = .func (.func f) first cap/\enters P f=true/\∀ (rec:LoopState->Option Code->Obj) (D l:Nat) (w1:World),D=w.heap.size->l=D+1->w1=(w.alloc (.deferred (some []))).alloc (rec .ready none)->
        (iT ks λxs=>∀ (w2:World) (K:Value->World->Prop),w2.heap[l]? = some (rec .ready none)->
         den P N (some l) a assign (Kt.mk (λ_ env w3=>w3.heap[l]? = some (rec .ready none)/\den P N (some l) b body (Kt.mk
             (λ_ _ w4=>w4.heap[l]? = some (rec .busy none)/\K (.bool true) (w4.putObj l (rec .ready none)))
             (λid _ _ w4=>w4.heap[l]? = some (rec .busy none)/\K (.bool false) (w4.putObj l (rec .done (some (.exit id)))))
             (λ_ _ w4=>w4.heap[l]? = some (rec .busy none)/\K (.bool false) (w4.putObj l (rec .done (some .ret))))
             (λ_ _ _ _=>False)) [] env (w3.putObj l (rec .busy none)))
          (λ_ _ _ _=>False) (λ_ _ _=>False) (λ_ _ _ _=>False)) [] (pQ ps.toList xs env) w2->eZ P l (dQ xs) w2 K)->
        aD P f (first.toList++[.func (.yield l) #[] #[]]++cap.toList) w1 (k.pan (mkD D :: ds) env) λ_ w6=>
         (w6.heap[l]? = some (rec .ready none)/\k.nrm (mkD D :: ds) env (w6.putObj l (rec .exhausted none)))\/
         (bif hasRet then (w6.heap[l]? = some (rec .done (some .ret))/\k.ret (mkD D :: ds) env (w6.putObj l (rec .exhausted (some .ret)))) else False)\/
         qJV (λid=>w6.heap[l]? = some (rec .done (some (.exit id)))/\k.ext id (mkD D :: ds) env (w6.putObj l (rec .exhausted (some (.exit id))))) ids
     else False
   | _=>False
 | _,_,_,_,_,_,_=>False
def qEB:List TV->TV
 | [x]=>x
 | xs=>.tup xs
def tT (P:Program) (env:Env) (w:World):List ResultVar->List TV->(TV->Prop)->Prop
 | [],acc,K=>K (qEB acc.reverse)
 | .tmp t :: r,acc,K=>bif (look env t).isBad then False else tT P env w r (look env t :: acc) K
 | .cell t T :: r,acc,K=>match look env t with
   | .p q=>aA q λad=>bif gM P T then exK (kindOf P 20 T) λx=>Rd w ad x.cells/\tT P env w r (x :: acc) K else False
   | _=>False
def qGU:List Deferred->World->(World->Prop)->Prop
 | [],w,K=>K w
 | d :: ds,w,K=>match d.target with
   | .collected D=>w.heap[D]? = some (.deferred (some []))/\qGU ds (w.putObj D (.deferred none)) K
   | _=>False
def qDQ (R:Ending->World->Prop) (ds:List Deferred) (c:List PanicEntry) (w:World):Prop:=qGU ds w λw=>R (.panicked c) w
def eF (P:Program) (f:FuncId) (args:Array Value) (u:FrameMode) (w:World) (K:FrameMode->World->Prop):Prop:=
 CallsDIn Fence.wide 0 P f args u w λ
  | .returned _,u',w'=>settle u'≠.run/\K (settle u') w'
  | .panicked c,u',w'=>raised u' c≠.run/\K (raised u' c) w'
  | .outgrown,_,_=>False
def pK (P:Program):List Deferred->FrameMode->World->(FrameMode->World->Prop)->Prop
 | [],u,w,K=>K u w
 | d :: ds,u,w,K=>match d.target with
   | .collected D=>w.heap[D]? = some (.deferred (some []))/\pK P ds u (w.putObj D (.deferred none)) K
   | .fn (.func f) cap=>bif enters P f then eF P f (d.args++cap) u w λu w=>pK P ds u w K else False
   | _=>False
def fS (u:FrameMode) (x:Prop) (y:List PanicEntry->Prop):Prop:=match u with | .returning=>x | .panicking c=>y c | .run=>False
def jES (P:Program) (fn:Func) (R:Ending->World->Prop) (env:Env) (u:FrameMode) (w:World):Prop:=
 fS u (tT P env w fn.results.toList [] λt=>R (.returned t.enc) w) λc=>R (.panicked c) w
def qZL (P:Program) (fn:Func) (R:Ending->World->Prop) (ds:List Deferred) (env:Env) (w:World):Prop:=pK P ds .returning w (jES P fn R env)
def qSB (P:Program) (fn:Func) (R:Ending->World->Prop):Kt where
 nrm:=qZL P fn R
 ext:=λ_ _ _ _=>False
 ret:=qZL P fn R
 pan:=λds env c w=>pK P ds (.panicking c) w (jES P fn R env)
def jAT:FrameMode->Option (Value×FrameMode)
 | .panicking ({v,recovered:=false,goexit:=false} :: older)=>some (v,.panicking ({v,recovered:=true} :: older))
 | _=>none
def qEJ (u:FrameMode) (next:Value->FrameMode->Prop):Prop:=match jAT u with | some p=>next p.1 p.2 | none=>next .nilIface u
def qDY:Op->Bool
 | .call {callee:=.builtin .recover,..}=>true
 | _=>false
def okS:Op->Bool
 | .store _ _ _ | .typeAssert _ _ _ _ | .panic _ | .alloc _ | .load _ _=>true
 | _=>false
structure KtS where
 nrm:FrameMode->Env->World->Prop
 ret:FrameMode->Env->World->Prop
 pan:FrameMode->List PanicEntry->World->Prop
def qAR (P:Program) (N:Nat) (pan:FrameMode->List PanicEntry->World->Prop):List Oper->(FrameMode->Env->World->Prop)->FrameMode->Env->World->Prop
 | [],k,u,env,w=>k u env w
 | o :: q,k,u,env,w=>bif eH N o.dst&&o.guard.isNone then
     bif qDY o.op then qEJ u λv u=>qAR P N pan q k u (iK env o.dst (.v v)) w
     else bif iR P o then uR P o env λt=>qAR P N pan q k u (iK env o.dst t) w
     else bif okS o.op then nB P o env w (pan u) λt w=>qAR P N pan q k u (iK env o.dst t) w else False
   else False
def gQ (P:Program) (N:Nat):Code->KtS->FrameMode->Env->World->Prop
 | .skip,k,u,env,w=>k.nrm u env w
 | .ret,k,u,env,w=>k.ret u env w
 | .seq x y,k,u,env,w=>gQ P N x {k with nrm:=λu env w=>gQ P N y k u env w} u env w
 | .cond c x y,k,u,env,w=>match ev env c with
   | .b t=>aE t (gQ P N x k u (qBM env c true) w) (gQ P N y k u (qBM env c false) w)
   | _=>False
 | .region _ ops false,k,u,env,w=>qAR P N k.pan ops.toList k.nrm u env w
 | _,_,_,_,_=>False
def zI (P:Program) (fn:Func) (R:Ending->FrameMode->World->Prop):KtS where
 nrm:=λu env w=>tT P env w fn.results.toList [] λt=>R (.returned t.enc) u w
 ret:=λu env w=>tT P env w fn.results.toList [] λt=>R (.returned t.enc) u w
 pan:=λu c w=>R (.panicked c) u w
def gK:Nat->List TV->Env
 | _,[]=>[]
 | i,x :: r=>(i,x) :: gK (i+1) r
theorem qGI (v:Value):(qCE v).isBad=false/\(qCE v).enc=v:=by
 unfold qCE
 split
 ·rename_i n
  by_cases h:0<=n/\n<256
  ·rw [if_pos h]
   refine ⟨rfl,?_⟩
   simp only [TV.enc]
   congr 1
   have:n.toNat<256:=by omega
   simp [UInt8.toNat_ofNat',Nat.mod_eq_of_lt this]
   omega
  ·rw [if_neg h]; exact ⟨rfl,rfl⟩
 ·rename_i n
  by_cases h:0<=n/\n<18446744073709551616
  ·rw [if_pos h]
   refine ⟨rfl,?_⟩
   simp only [TV.enc]
   congr 1
   have:n.toNat<18446744073709551616:=by omega
   simp [UInt64.toNat_ofNat',Nat.mod_eq_of_lt this]
   omega
  ·rw [if_neg h]; exact ⟨rfl,rfl⟩
 all_goals first | exact ⟨rfl,rfl⟩ | (refine ⟨rfl,?_⟩; simp [TV.enc])
mutual
theorem dL : ∀ (κ:Kd) (K:TV->Prop),exK κ K->∃ t,t.cells.length=kM κ/\t.isAgg=qDF κ/\t.isBad=false/\K t
 | .i k,K,⟨n,h⟩=>⟨_,rfl,rfl,rfl,h⟩
 | .u8,K,⟨n,h⟩=>⟨_,rfl,rfl,rfl,h⟩
 | .u64,K,⟨n,h⟩=>⟨_,rfl,rfl,rfl,h⟩
 | .b,K,⟨n,h⟩=>⟨_,rfl,rfl,rfl,h⟩
 | .s,K,⟨n,h⟩=>⟨_,rfl,rfl,rfl,h⟩
 | .p,K,⟨n,h⟩=>⟨_,rfl,rfl,rfl,h⟩
 | .sl,K,⟨n,h⟩=>⟨_,rfl,rfl,rfl,h⟩
 | .m,K,⟨n,h⟩=>⟨_,rfl,rfl,rfl,h⟩
 | .v,K,⟨n,h⟩=>⟨_,rfl,rfl,rfl,h⟩
 | .agg fs,K,h=>by
   unfold exK at h
   obtain ⟨xs,h1,h2⟩:=tH fs _ h
   exact ⟨_,by simpa [TV.cells,kM] using h1,rfl,rfl,h2⟩
 | .tup fs,K,h=>by
   unfold exK at h
   obtain ⟨xs,h1,h2⟩:=tH fs _ h
   exact ⟨_,by simp [TV.cells,kM],rfl,rfl,h2⟩
 | .la n .u64,K,h=>by
   unfold exK at h
   obtain ⟨l,h1,h2⟩:=h
   refine ⟨_,?_,rfl,rfl,h2⟩
   simp only [TV.cells,kM]
   rw [<-h1]
   clear h1 h2
   induction l with
   | nil=>rfl
   | cons x r ih=>simp [bR,TV.cells,ih]
 | .la n .u8,K,h=>by
   unfold exK at h
   obtain ⟨l,h1,h2⟩:=h
   refine ⟨_,?_,rfl,rfl,h2⟩
   simp only [TV.cells,kM]
   rw [<-h1]
   clear h1 h2
   induction l with
   | nil=>rfl
   | cons x r ih=>simp [bR,TV.cells,ih]
 | .la _ (.i _),_,h=>by simp [exK] at h
 | .la _ .b,_,h=>by simp [exK] at h
 | .la _ .s,_,h=>by simp [exK] at h
 | .la _ .p,_,h=>by simp [exK] at h
 | .la _ .sl,_,h=>by simp [exK] at h
 | .la _ .m,_,h=>by simp [exK] at h
 | .la _ .v,_,h=>by simp [exK] at h
 | .la _ (.agg _),_,h=>by simp [exK] at h
 | .la _ (.la _ _),_,h=>by simp [exK] at h
 | .la _ (.tup _),_,h=>by simp [exK] at h
theorem tH : ∀ (κs:List Kd) (K:List TV->Prop),qKO κs K->∃ xs,(bR xs).length=qV κs/\K xs
 | [],K,h=>⟨[],rfl,h⟩
 | k :: r,K,h=>by
   unfold qKO at h
   obtain ⟨x,h1,_,_,h2⟩:=dL k _ h
   obtain ⟨xs,h3,h4⟩:=tH r _ h2
   exact ⟨x :: xs,by simp [bR,qV,h1,h3],h4⟩
end
mutual
theorem qED : ∀ (κ:Kd) (K:TV->Prop) (t:TV),yJ κ K->okK κ t=true->K t
 | .i k,K,t,h,ho=>by cases t <;> simp [okK] at ho; subst ho; exact h _
 | .u8,K,t,h,ho=>by cases t <;> simp [okK] at ho; exact h _
 | .u64,K,t,h,ho=>by cases t <;> simp [okK] at ho; exact h _
 | .b,K,t,h,ho=>by cases t <;> simp [okK] at ho; exact h _
 | .s,K,t,h,ho=>by cases t <;> simp [okK] at ho; exact h _
 | .p,K,t,h,ho=>by cases t <;> simp [okK] at ho; exact h _
 | .sl,K,t,h,ho=>by cases t <;> simp [okK] at ho; exact h _
 | .m,K,t,h,ho=>by cases t <;> simp [okK] at ho; exact h _
 | .v,K,t,h,ho=>by cases t <;> simp [okK] at ho; exact h _
 | .agg fs,K,t,h,ho=>by
   cases t <;> simp [okK] at ho
   unfold yJ at h
   exact jJ fs _ _ h ho
 | .tup fs,K,t,h,ho=>by
   cases t <;> simp [okK] at ho
   unfold yJ at h
   exact jJ fs _ _ h ho
 | .la _ _,K,t,h,ho=>by cases t <;> simp [okK] at ho
theorem jJ : ∀ (κs:List Kd) (K:List TV->Prop) (ts:List TV),iT κs K->eP κs ts=true->K ts
 | [],K,ts,h,ho=>by cases ts <;> simp [eP] at ho; exact h
 | k :: r,K,ts,h,ho=>by
   cases ts with
   | nil=>simp [eP] at ho
   | cons x xs=>
     simp [eP] at ho
     unfold iT at h
     exact jJ r _ xs (qED k _ x h ho.1) ho.2
end
def Sim (N:Nat) (env:Env) (tmps:Array Value):Prop:=
 tmps.size=N/\∀ t,(look env t).isBad=false->tmps[t]? = some (look env t).enc
theorem jR (t:Nat) (x:TV) (env:Env) (u:Nat):look ((t,x) :: env) u=if t=u then x else look env u:=by
 simp only [look]
 by_cases h:t=u
 ·subst h; simp [Nat.beq_refl]
 ·have:Nat.beq t u=false:=by
   cases hb:Nat.beq t u with
   | false=>rfl
   | true=>exact absurd (Nat.eq_of_beq_eq_true hb) h
  simp [this,h]
theorem Sim.put {N:Nat} {env:Env} {tmps:Array Value} (h:Sim N env tmps) {d:Nat} (hd:d<N) {x:TV} {v:Value} (hv:x.isBad=false->v=x.enc) :
 Sim N ((d,x) :: env) (tmps.setIfInBounds d v):=by
 refine ⟨by simpa using h.1,λt ht=>?_⟩
 rw [jR] at ht ⊢
 by_cases e:d=t
 ·subst e
  simp only [↓reduceIte] at ht ⊢
  rw [<-hv ht]
  simp [h.1,hd]
 ·simp only [e,↓reduceIte] at ht ⊢
  rw [Array.getElem?_setIfInBounds_ne e]
  exact h.2 t ht
theorem Sim.same {N:Nat} {env:Env} {tmps:Array Value} (h:Sim N env tmps) {t:Nat} {x:TV} (hx:look env t=x):Sim N ((t,x) :: env) tmps:=by
 refine ⟨h.1,λu hu=>?_⟩
 rw [jR] at hu ⊢
 by_cases e:t=u
 ·subst e; simp only [↓reduceIte] at hu ⊢; rw [<-hx] at hu ⊢; exact h.2 _ hu
 ·simp only [e,↓reduceIte] at hu ⊢; exact h.2 u hu
theorem Sim.eval {N:Nat} {env:Env} {a:Act} (h:Sim N env a.tmps) (x:Operand) (hx:(ev env x).isBad=false):a.eval x=(ev env x).enc:=by
 cases x with
 | tmp t=>simp only [ev] at hx ⊢; simp [Act.eval,h.2 t hx]
 | const v=>exact ((qGI v).2).symm
 | global g=>rfl
 | func f=>rfl
theorem w64 (n:Int):IntKind.u64.wrap n=n % 18446744073709551616:=by simp [IntKind.wrap,IntKind.bits,IntKind.signed]
theorem w8 (n:Int):IntKind.u8.wrap n=n % 256:=by simp [IntKind.wrap,IntKind.bits,IntKind.signed]
theorem qFC (x:UInt64):x.toNat<18446744073709551616:=x.toNat_lt
theorem lt8 (x:UInt8):x.toNat<256:=x.toNat_lt
section
variable (x y:UInt64)
theorem jHE:IntKind.u64.wrap ((x.toNat:Int)+y.toNat)=((x+y).toNat:Int):=by
 rw [w64,UInt64.toNat_add]; omega
theorem jFQ:IntKind.u64.wrap ((x.toNat:Int) - y.toNat)=((x - y).toNat:Int):=by
 have:=qFC x; have:=qFC y
 rw [w64,UInt64.toNat_sub]; omega
theorem jHG:IntKind.u64.wrap ((x.toNat:Int)*y.toNat)=((x*y).toNat:Int):=by
 rw [w64,UInt64.toNat_mul]; simp
theorem gT:BitVec.ofInt 64 (x.toNat:Int)=x.toBitVec:=by
 apply BitVec.eq_of_toNat_eq
 have:=qFC x
 simp [BitVec.toNat_ofInt]
theorem rH (r:BitVec 64):IntKind.u64.wrap (r.toNat:Int)=r.toNat:=by
 have:=r.isLt
 rw [w64]; omega
theorem jGV:IntKind.u64.wrap ((BitVec.ofInt 64 (x.toNat:Int) &&& BitVec.ofInt 64 (y.toNat:Int)).toNat:Int)=((x &&& y).toNat:Int):=by
 rw [rH,gT,gT]; rfl
theorem or64:IntKind.u64.wrap ((BitVec.ofInt 64 (x.toNat:Int) ||| BitVec.ofInt 64 (y.toNat:Int)).toNat:Int)=((x ||| y).toNat:Int):=by
 rw [rH,gT,gT]; rfl
theorem jGY:IntKind.u64.wrap ((BitVec.ofInt 64 (x.toNat:Int) ^^^ BitVec.ofInt 64 (y.toNat:Int)).toNat:Int)=((x ^^^ y).toNat:Int):=by
 rw [rH,gT,gT]; rfl
theorem qIT:IntKind.u64.wrap ((BitVec.ofInt 64 (x.toNat:Int) &&& ~~~BitVec.ofInt 64 (y.toNat:Int)).toNat:Int)=((x &&& ~~~y).toNat:Int):=by
 rw [rH,gT,gT]; rfl
theorem jFB:IntKind.u64.wrap ((x.toNat:Int).tdiv y.toNat)=((x / y).toNat:Int):=by
 have:=qFC x
 have h:x.toNat / y.toNat<=x.toNat:=Nat.div_le_self _ _
 have e:(x.toNat:Int).tdiv y.toNat=((x.toNat / y.toNat:Nat):Int):=rfl
 rw [w64,UInt64.toNat_div,e]
 generalize x.toNat / y.toNat=q at *
 clear e
 omega
theorem jEO:(x.toNat:Int).tmod y.toNat=((x % y).toNat:Int):=by
 rw [UInt64.toNat_mod]; rfl
theorem jEP:((x.toNat:Int)==y.toNat)=(x==y):=by
 rw [Bool.eq_iff_iff]; simp only [beq_iff_eq,<-UInt64.toNat_inj]; omega
theorem ne64:((x.toNat:Int) != y.toNat)=(x != y):=by
 simp only [bne,jEP]
theorem qUF:decide ((x.toNat:Int)<y.toNat)=decide (x<y):=by
 rw [Bool.eq_iff_iff]; simp [UInt64.lt_iff_toNat_lt]
theorem qTE:decide ((x.toNat:Int)<=y.toNat)=decide (x<=y):=by
 rw [Bool.eq_iff_iff]; simp [UInt64.le_iff_toNat_le]
theorem jEM (c:Int):IntKind.u64.wrap ((x.toNat:Int)*2 ^ (min c.toNat 64))=((dS x c.toNat).toNat:Int):=by
 rw [w64]
 unfold dS
 by_cases h:c.toNat<64
 ·rw [if_pos h,Nat.min_eq_left (by omega)]
  rw [UInt64.toNat_shiftLeft]
  have e:(UInt64.ofNat c.toNat).toNat % 64=c.toNat:=by simp [UInt64.toNat_ofNat']; omega
  rw [e,Nat.shiftLeft_eq]
  simp
 ·rw [if_neg h,Nat.min_eq_right (by omega)]
  simp
theorem jDJ (c:Int):(x.toNat:Int).fdiv (2 ^ (min c.toNat 64))=((aM x c.toNat).toNat:Int):=by
 unfold aM
 by_cases h:c.toNat<64
 ·rw [if_pos h,Nat.min_eq_left (by omega)]
  rw [UInt64.toNat_shiftRight]
  have e:(UInt64.ofNat c.toNat).toNat % 64=c.toNat:=by simp [UInt64.toNat_ofNat']; omega
  rw [e,Nat.shiftRight_eq_div_pow]
  rw [Int.fdiv_eq_ediv_of_nonneg _ (by exact Int.le_of_lt (Int.pow_pos (by decide)))]
  simp
 ·rw [if_neg h,Nat.min_eq_right (by omega)]
  rw [Int.fdiv_eq_ediv_of_nonneg _ (by decide)]
  have:=qFC x
  simp
  omega
theorem jFU:IntKind.u64.wrap ((BitVec.ofInt 64 (IntKind.u64.max) ^^^ BitVec.ofInt 64 (x.toNat:Int)).toNat:Int)=((~~~x).toNat:Int):=by
 rw [rH,gT]
 have:BitVec.ofInt 64 (IntKind.u64.max)=BitVec.allOnes 64:=by decide
 rw [this,BitVec.allOnes_xor]; rfl
end
section
variable (x y:UInt8)
theorem add8:IntKind.u8.wrap ((x.toNat:Int)+y.toNat)=((x+y).toNat:Int):=by
 rw [w8,UInt8.toNat_add]; omega
theorem sub8:IntKind.u8.wrap ((x.toNat:Int) - y.toNat)=((x - y).toNat:Int):=by
 have:=lt8 x; have:=lt8 y
 rw [w8,UInt8.toNat_sub]; omega
theorem mul8:IntKind.u8.wrap ((x.toNat:Int)*y.toNat)=((x*y).toNat:Int):=by
 rw [w8,UInt8.toNat_mul]; simp
theorem kE:BitVec.ofInt 8 (x.toNat:Int)=x.toBitVec:=by
 apply BitVec.eq_of_toNat_eq
 have:=lt8 x
 simp [BitVec.toNat_ofInt]
theorem zG (r:BitVec 8):IntKind.u8.wrap (r.toNat:Int)=r.toNat:=by
 have:=r.isLt
 rw [w8]; omega
theorem and8:IntKind.u8.wrap ((BitVec.ofInt 8 (x.toNat:Int) &&& BitVec.ofInt 8 (y.toNat:Int)).toNat:Int)=((x &&& y).toNat:Int):=by
 rw [zG,kE,kE]; rfl
theorem or8:IntKind.u8.wrap ((BitVec.ofInt 8 (x.toNat:Int) ||| BitVec.ofInt 8 (y.toNat:Int)).toNat:Int)=((x ||| y).toNat:Int):=by
 rw [zG,kE,kE]; rfl
theorem xor8:IntKind.u8.wrap ((BitVec.ofInt 8 (x.toNat:Int) ^^^ BitVec.ofInt 8 (y.toNat:Int)).toNat:Int)=((x ^^^ y).toNat:Int):=by
 rw [zG,kE,kE]; rfl
theorem qRV:IntKind.u8.wrap ((BitVec.ofInt 8 (x.toNat:Int) &&& ~~~BitVec.ofInt 8 (y.toNat:Int)).toNat:Int)=((x &&& ~~~y).toNat:Int):=by
 rw [zG,kE,kE]; rfl
theorem eq8:((x.toNat:Int)==y.toNat)=(x==y):=by
 rw [Bool.eq_iff_iff]; simp only [beq_iff_eq,<-UInt8.toNat_inj]; omega
theorem ne8:((x.toNat:Int) != y.toNat)=(x != y):=by
 simp only [bne,eq8]
theorem jDZ:decide ((x.toNat:Int)<y.toNat)=decide (x<y):=by
 rw [Bool.eq_iff_iff]; simp [UInt8.lt_iff_toNat_lt]
theorem jFG:decide ((x.toNat:Int)<=y.toNat)=decide (x<=y):=by
 rw [Bool.eq_iff_iff]; simp [UInt8.le_iff_toNat_le]
theorem shl8 (c:Int):IntKind.u8.wrap ((x.toNat:Int)*2 ^ (min c.toNat 8))=((qDW x c.toNat).toNat:Int):=by
 rw [w8]
 unfold qDW
 by_cases h:c.toNat<8
 ·rw [if_pos h,Nat.min_eq_left (by omega)]
  rw [UInt8.toNat_shiftLeft]
  have e:(UInt8.ofNat c.toNat).toNat % 8=c.toNat:=by simp [UInt8.toNat_ofNat']; omega
  rw [e,Nat.shiftLeft_eq]
  simp
 ·rw [if_neg h,Nat.min_eq_right (by omega)]
  simp
theorem shr8 (c:Int):(x.toNat:Int).fdiv (2 ^ (min c.toNat 8))=((qE x c.toNat).toNat:Int):=by
 unfold qE
 by_cases h:c.toNat<8
 ·rw [if_pos h,Nat.min_eq_left (by omega)]
  rw [UInt8.toNat_shiftRight]
  have e:(UInt8.ofNat c.toNat).toNat % 8=c.toNat:=by simp [UInt8.toNat_ofNat']; omega
  rw [e,Nat.shiftRight_eq_div_pow]
  rw [Int.fdiv_eq_ediv_of_nonneg _ (by exact Int.le_of_lt (Int.pow_pos (by decide)))]
  simp
 ·rw [if_neg h,Nat.min_eq_right (by omega)]
  rw [Int.fdiv_eq_ediv_of_nonneg _ (by decide)]
  have:=lt8 x
  simp
  omega
theorem not8:IntKind.u8.wrap ((BitVec.ofInt 8 (IntKind.u8.max) ^^^ BitVec.ofInt 8 (x.toNat:Int)).toNat:Int)=((~~~x).toNat:Int):=by
 rw [zG,kE]
 have:BitVec.ofInt 8 (IntKind.u8.max)=BitVec.allOnes 8:=by decide
 rw [this,BitVec.allOnes_xor]; rfl
end
theorem jHF (n:Int):IntKind.u8.wrap n=((dN n).toNat:Int):=by
 rw [w8]; unfold dN
 have:(n % 256).toNat<256:=by omega
 simp [UInt8.toNat_ofNat']; omega
theorem jCA (n:Int):IntKind.u64.wrap n=((aP n).toNat:Int):=by
 rw [w64]; unfold aP
 have:(n % 18446744073709551616).toNat<18446744073709551616:=by omega
 simp [UInt64.toNat_ofNat']; omega
theorem jCH (x:UInt8):IntKind.u8.wrap (x.toNat:Int)=x.toNat:=by have:=lt8 x; rw [w8]; omega
theorem qHF (x:UInt64):IntKind.u64.wrap (x.toNat:Int)=x.toNat:=by have:=qFC x; rw [w64]; omega
theorem qQU (x:UInt64):IntKind.u8.wrap (x.toNat:Int)=(x.toUInt8.toNat:Int):=by rw [w8,UInt64.toNat_toUInt8]; omega
theorem qRP (x:UInt8):IntKind.u64.wrap (x.toNat:Int)=(x.toUInt64.toNat:Int):=by have:=lt8 x; rw [w64,UInt8.toNat_toUInt64]; omega
theorem jCX (x:UInt8):zW (x.toNat:Int)=x.toNat:=by
 have:=lt8 x
 simp [IntKind.wrap,IntKind.bits,IntKind.signed]; omega
theorem toL (l:List UInt8):(⟨l.toArray⟩:ByteArray).toList=l:=by
 have h : ∀ (bs:ByteArray),bs.toList=bs.data.toList:=by
  intro bs; exact ByteArray.toList_eq bs
 simp [h]
def qDP (P:Program) (s:Sem Next) (next:TV->Prop):Prop:=
 ∃ t v,(∀ w,s.run P w = .ok (.value v) w)/\(t.isBad=false->v=t.enc)/\next t
theorem qDP.of {P:Program} {s:Sem Next} {next:TV->Prop} {t:TV} (h : ∀ w,s.run P w = .ok (.value t.enc) w) (hn:next t):qDP P s next:=
 ⟨t,_,h,λ_=>rfl,hn⟩
theorem qIR {P:Program} {op:BinOp} {T:TypeId} {ox oy:Operand} {k:IntKind} {a b:Int} {next:TV->Prop} (hs:fM op=false) (h:jCY op k a b next) :
 ∃ t,(∀ w,(do eqGuard op T ox oy (.int k a) (.int k b); binOp op T (.int k a) (.int k b):Sem Value).run P w = .ok t.enc w)/\next t:=by
 cases op <;> simp only [jCY,fM] at h hs <;> first
  | exact h.elim
  | (obtain ⟨h0,h⟩:=h; exact ⟨_,λw=>by simp [eqGuard,binOp,Op.intDiv,h0,TV.enc],h⟩)
  | exact ⟨_,λw=>by simp [eqGuard,binOp,Op.intArith,Op.intCmp,TV.enc],h⟩
  | (exact absurd hs (by simp))
theorem qGN {P:Program} {op:BinOp} {T:TypeId} {ox oy:Operand} {a b:UInt64} {next:TV->Prop} (hs:fM op=false) (h:qKB op a b next) :
 ∃ t,(∀ w,(do eqGuard op T ox oy (.int .u64 a.toNat) (.int .u64 b.toNat); binOp op T (.int .u64 a.toNat) (.int .u64 b.toNat):Sem Value).run P w = .ok t.enc w)/\next t:=by
 cases op <;> simp only [qKB,fM] at h hs
 case add=>exact ⟨_,λw=>by show Result.ok (Value.int .u64 (IntKind.u64.wrap ((a.toNat:Int)+(b.toNat:Int)))) w=_; rw [jHE]; rfl,h⟩
 case sub=>exact ⟨_,λw=>by show Result.ok (Value.int .u64 (IntKind.u64.wrap ((a.toNat:Int) - (b.toNat:Int)))) w=_; rw [jFQ]; rfl,h⟩
 case mul=>exact ⟨_,λw=>by show Result.ok (Value.int .u64 (IntKind.u64.wrap ((a.toNat:Int)*(b.toNat:Int)))) w=_; rw [jHG]; rfl,h⟩
 case quo=>
  obtain ⟨h0,h⟩:=h
  have hz : ¬ ((b.toNat:Int)=0):=by
   intro h1
   apply h0
   rw [<-UInt64.toNat_inj]
   simp; omega
  refine ⟨_,λw=>?_,h⟩
  show (if (b.toNat:Int)=0 then runtimePanic (.error "integer divide by zero") else (pure (Value.int .u64 (IntKind.u64.wrap (((a.toNat:Int)).tdiv (b.toNat:Int)))):Sem Value)).run P w=_
  rw [if_neg hz,jFB]; rfl
 case rem=>
  obtain ⟨h0,h⟩:=h
  have hz : ¬ ((b.toNat:Int)=0):=by
   intro h1
   apply h0
   rw [<-UInt64.toNat_inj]
   simp; omega
  refine ⟨_,λw=>?_,h⟩
  show (if (b.toNat:Int)=0 then runtimePanic (.error "integer divide by zero") else (pure (Value.int .u64 (((a.toNat:Int)).tmod (b.toNat:Int))):Sem Value)).run P w=_
  rw [if_neg hz,jEO]; rfl
 case and=>exact ⟨_,λw=>by show Result.ok (Value.int .u64 (IntKind.u64.wrap ((BitVec.ofInt 64 (a.toNat:Int) &&& BitVec.ofInt 64 (b.toNat:Int)).toNat:Int))) w=_; rw [jGV]; rfl,h⟩
 case or=>exact ⟨_,λw=>by show Result.ok (Value.int .u64 (IntKind.u64.wrap ((BitVec.ofInt 64 (a.toNat:Int) ||| BitVec.ofInt 64 (b.toNat:Int)).toNat:Int))) w=_; rw [or64]; rfl,h⟩
 case xor=>exact ⟨_,λw=>by show Result.ok (Value.int .u64 (IntKind.u64.wrap ((BitVec.ofInt 64 (a.toNat:Int) ^^^ BitVec.ofInt 64 (b.toNat:Int)).toNat:Int))) w=_; rw [jGY]; rfl,h⟩
 case andNot=>exact ⟨_,λw=>by show Result.ok (Value.int .u64 (IntKind.u64.wrap ((BitVec.ofInt 64 (a.toNat:Int) &&& ~~~ BitVec.ofInt 64 (b.toNat:Int)).toNat:Int))) w=_; rw [qIT]; rfl,h⟩
 case eql=>exact ⟨_,λw=>by show Result.ok (Value.bool ((a.toNat:Int)==(b.toNat:Int))) w=_; rw [jEP]; rfl,h⟩
 case neq=>exact ⟨_,λw=>by show Result.ok (Value.bool ((a.toNat:Int) != (b.toNat:Int))) w=_; rw [ne64]; rfl,h⟩
 case lss=>exact ⟨_,λw=>by show Result.ok (Value.bool (decide ((a.toNat:Int)<(b.toNat:Int)))) w=_; rw [qUF]; rfl,h⟩
 case leq=>exact ⟨_,λw=>by show Result.ok (Value.bool (decide ((a.toNat:Int)<=(b.toNat:Int)))) w=_; rw [qTE]; rfl,h⟩
 case gtr=>exact ⟨_,λw=>by show Result.ok (Value.bool (decide ((b.toNat:Int)<(a.toNat:Int)))) w=_; rw [qUF]; rfl,h⟩
 case geq=>exact ⟨_,λw=>by show Result.ok (Value.bool (decide ((b.toNat:Int)<=(a.toNat:Int)))) w=_; rw [qTE]; rfl,h⟩
theorem qGS {P:Program} {op:BinOp} {T:TypeId} {ox oy:Operand} {a b:UInt8} {next:TV->Prop} (hs:fM op=false) (h:jBJ op a b next) :
 ∃ t,(∀ w,(do eqGuard op T ox oy (.int .u8 a.toNat) (.int .u8 b.toNat); binOp op T (.int .u8 a.toNat) (.int .u8 b.toNat):Sem Value).run P w = .ok t.enc w)/\next t:=by
 cases op <;> simp only [jBJ,fM] at h hs
 case add=>exact ⟨_,λw=>by show Result.ok (Value.int .u8 (IntKind.u8.wrap ((a.toNat:Int)+(b.toNat:Int)))) w=_; rw [add8]; rfl,h⟩
 case sub=>exact ⟨_,λw=>by show Result.ok (Value.int .u8 (IntKind.u8.wrap ((a.toNat:Int) - (b.toNat:Int)))) w=_; rw [sub8]; rfl,h⟩
 case mul=>exact ⟨_,λw=>by show Result.ok (Value.int .u8 (IntKind.u8.wrap ((a.toNat:Int)*(b.toNat:Int)))) w=_; rw [mul8]; rfl,h⟩
 case and=>exact ⟨_,λw=>by show Result.ok (Value.int .u8 (IntKind.u8.wrap ((BitVec.ofInt 8 (a.toNat:Int) &&& BitVec.ofInt 8 (b.toNat:Int)).toNat:Int))) w=_; rw [and8]; rfl,h⟩
 case or=>exact ⟨_,λw=>by show Result.ok (Value.int .u8 (IntKind.u8.wrap ((BitVec.ofInt 8 (a.toNat:Int) ||| BitVec.ofInt 8 (b.toNat:Int)).toNat:Int))) w=_; rw [or8]; rfl,h⟩
 case xor=>exact ⟨_,λw=>by show Result.ok (Value.int .u8 (IntKind.u8.wrap ((BitVec.ofInt 8 (a.toNat:Int) ^^^ BitVec.ofInt 8 (b.toNat:Int)).toNat:Int))) w=_; rw [xor8]; rfl,h⟩
 case andNot=>exact ⟨_,λw=>by show Result.ok (Value.int .u8 (IntKind.u8.wrap ((BitVec.ofInt 8 (a.toNat:Int) &&& ~~~ BitVec.ofInt 8 (b.toNat:Int)).toNat:Int))) w=_; rw [qRV]; rfl,h⟩
 case eql=>exact ⟨_,λw=>by show Result.ok (Value.bool ((a.toNat:Int)==(b.toNat:Int))) w=_; rw [eq8]; rfl,h⟩
 case neq=>exact ⟨_,λw=>by show Result.ok (Value.bool ((a.toNat:Int) != (b.toNat:Int))) w=_; rw [ne8]; rfl,h⟩
 case lss=>exact ⟨_,λw=>by show Result.ok (Value.bool (decide ((a.toNat:Int)<(b.toNat:Int)))) w=_; rw [jDZ]; rfl,h⟩
 case leq=>exact ⟨_,λw=>by show Result.ok (Value.bool (decide ((a.toNat:Int)<=(b.toNat:Int)))) w=_; rw [jFG]; rfl,h⟩
 case gtr=>exact ⟨_,λw=>by show Result.ok (Value.bool (decide ((b.toNat:Int)<(a.toNat:Int)))) w=_; rw [jDZ]; rfl,h⟩
 case geq=>exact ⟨_,λw=>by show Result.ok (Value.bool (decide ((b.toNat:Int)<=(a.toNat:Int)))) w=_; rw [jFG]; rfl,h⟩
theorem qIK {P:Program} {op:BinOp} {T:TypeId} {ox oy:Operand} {a b:List UInt8} {next:TV->Prop} (h:qZZ op a b next) :
 ∃ t,(∀ w,(do eqGuard op T ox oy (.string ⟨a.toArray⟩) (.string ⟨b.toArray⟩); binOp op T (.string ⟨a.toArray⟩) (.string ⟨b.toArray⟩):Sem Value).run P w = .ok t.enc w)/\next t:=by
 cases op <;> simp only [qZZ] at h <;> first
  | exact h.elim
  | exact ⟨_,λw=>by simp [eqGuard,binOp,Op.stringOp,toL,TV.enc],h⟩
  | (obtain ⟨h0,h⟩:=h
     refine ⟨_,λw=>?_,h⟩
     have h1 : ¬ ((9223372036854775807:Int)<((ByteArray.mk a.toArray).size+(ByteArray.mk b.toArray).size:Nat)):=by
      have e1:(ByteArray.mk a.toArray).size=a.length:=by simp [ByteArray.size]
      have e2:(ByteArray.mk b.toArray).size=b.length:=by simp [ByteArray.size]
      rw [e1,e2]; omega
     have e3:(ByteArray.mk a.toArray++ByteArray.mk b.toArray)=ByteArray.mk (a++b).toArray:=by
      apply ByteArray.ext
      simp
     simp [eqGuard,binOp,Op.stringOp,TV.enc]
     simp at h1
     simp [e3]
     omega)
theorem qMK {P:Program} {op:BinOp} {T:TypeId} {ox oy:Operand} {x:TV} {yk:IntKind} {c:Int} {next:TV->Prop} (hs:fM op=true) (h:shK op x c next) :
 ∃ t,(∀ w,(do eqGuard op T ox oy x.enc (.int yk c); binOp op T x.enc (.int yk c):Sem Value).run P w = .ok t.enc w)/\next t:=by
 cases op <;> simp only [fM,Bool.false_eq_true] at hs
 all_goals
  cases x <;> simp only [shK] at h <;> first
   | exact h.elim
   | skip
 all_goals
  obtain ⟨h0,h⟩:=h
  have hn : ¬ c<0:=by omega
  refine ⟨_,λw=>?_,h⟩
  first
   | (simp [eqGuard,binOp,Op.shift,hn,TV.enc]; done)
   | (simp only [TV.enc,<-jEM,<-jDJ,<-shl8,<-shr8]; simp [eqGuard,binOp,Op.shift,hn,IntKind.bits])
theorem qCZ {x:TV} {c:Int} (h:x.num=some c) : ∃ k,x.enc = .int k c:=by
 cases x <;> simp [TV.num] at h <;> subst h <;> exact ⟨_,rfl⟩
theorem yL {x:TV} {c:Int} (h:x.num=some c):x.isBad=false:=by
 cases x <;> simp [TV.num] at h <;> rfl
theorem qIX {P:Program} {op:BinOp} {T:TypeId} {ox oy:Operand} {x y:TV} {κ:Kd} {next:TV->Prop} (h:qZH P op T ox oy x y κ next) :
 x.isBad=false/\y.isBad=false/\∃ t,(∀ w,(do eqGuard op T ox oy x.enc y.enc; binOp op T x.enc y.enc:Sem Value).run P w = .ok t.enc w)/\next t:=by
 unfold qZH at h
 by_cases hs:fM op=true
 ·rw [if_pos hs] at h
  cases hy:y.num with
  | none=>simp [hy] at h
  | some c=>
    simp only [hy] at h
    obtain ⟨k,hk⟩:=qCZ hy
    refine ⟨?_,yL hy,?_⟩
    ·cases x <;> first | rfl | (exfalso; revert h; cases op <;> simp [shK])
    ·rw [hk]; exact qMK hs h
 ·have h9:fM op=false:=by simpa using hs
  rw [if_neg hs] at h
  split at h
  ·rename_i k a k' b
   cases k3:qKT op with
   | true=>
     simp only [k3,cond_true] at h
     obtain ⟨v,hv,h⟩:=h
     obtain ⟨t,_,_,_,ht,hn⟩:=dL _ _ h
     subst ht
     exact ⟨rfl,rfl,t,hv,hn⟩
   | false=>
     simp only [k3,cond_false] at h
     by_cases hk:k=k'
     ·subst hk; simp only [↓reduceIte] at h
      exact ⟨rfl,rfl,qIR h9 h⟩
     ·simp [hk] at h
  ·exact ⟨rfl,rfl,qGS h9 h⟩
  ·exact ⟨rfl,rfl,qGN h9 h⟩
  ·exact ⟨rfl,rfl,qIK h⟩
  ·exact h.elim
  ·exact h.elim
  ·rename_i h1 h2
   obtain ⟨v,hv,h⟩:=h
   obtain ⟨t,_,_,_,ht,hn⟩:=dL _ _ h
   subst ht
   refine ⟨?_,?_,t,hv,hn⟩
   ·cases x <;> first | rfl | (exfalso; simp_all; done)
   ·cases y <;> first | rfl | (exfalso; simp_all; done)
theorem qFA {P:Program} {s d:TypeId} {ts td:TypeDesc} {x:TV} {next:TV->Prop} (h1:P.underlying s=some ts) (h2:P.underlying d=some td) (h:qDV (some td) x next) :
 x.isBad=false/\∃ t,(∀ w,(convert s d x.enc).run P w = .ok t.enc w)/\next t:=by
 have hu : ∀ w,(underlying s).run P w = .ok ts w:=λw=>run_underlying h1 w
 have hd : ∀ w,(underlying d).run P w = .ok td w:=λw=>run_underlying h2 w
 have hi : ∀ (k k':IntKind) (n:Int) (w:World),td = .int k->(convert s d (.int k' n)).run P w = .ok (.int k (k.wrap n)) w:=by
  intro k k' n w e
  subst e
  simp [convert,hu,hd,Conv.intToInt]
 have go : ∀ (k k':IntKind) (n m:Int) (t:TV),td = .int k->x.enc = .int k' n->t.enc = .int k m->k.wrap n=m->x.isBad=false->next t->
  x.isBad=false/\∃ t,(∀ w,(convert s d x.enc).run P w = .ok t.enc w)/\next t:=by
  intro k k' n m t e1 e2 e3 e4 hb hn
  exact ⟨hb,t,λw=>by rw [e2,hi k k' n w e1,e3,e4],hn⟩
 unfold qDV at h
 split at h
 all_goals first
  | exact h.elim
  | (rename_i hx; simp only [Option.some.injEq] at hx; first
     | exact go _ _ _ _ _ hx rfl rfl (jHF _) rfl h
     | exact go _ _ _ _ _ hx rfl rfl (jCH _) rfl h
     | exact go _ _ _ _ _ hx rfl rfl (qQU _) rfl h
     | exact go _ _ _ _ _ hx rfl rfl (jCA _) rfl h
     | exact go _ _ _ _ _ hx rfl rfl (qRP _) rfl h
     | exact go _ _ _ _ _ hx rfl rfl (qHF _) rfl h
     | exact go _ _ _ _ _ hx rfl rfl (jCX _) rfl h
     | exact go _ _ _ _ _ hx rfl rfl rfl rfl h
     | (subst hx; refine ⟨rfl,_,λw=>?_,h⟩; simp [convert,hu,hd,TV.enc]; done))
  | (rename_i hx _; simp only [Option.some.injEq] at hx; first
     | exact go _ _ _ _ _ hx rfl rfl rfl rfl h)
  | (rename_i hx _ _; simp only [Option.some.injEq] at hx; first
     | exact go _ _ _ _ _ hx rfl rfl rfl rfl h)
theorem mA : ∀ (fs:List TV) (o:Nat) (ps:List Pt) (i:Nat) (y:TV),fitsAt o ps fs=true->fs[i]? = some y->
 ∃ q pre post,ps[i]? = some q/\bR fs=pre++y.cells++post/\o+pre.length=q.off/\y.cells.length=q.size/\y.isAgg=q.ag/\y.isBad=false
 | [],o,ps,i,y,h,hi=>by simp at hi
 | x :: xs,o,ps,i,y,h,hi=>by
   cases ps with
   | nil=>simp [fitsAt] at h
   | cons q r=>
     simp only [fitsAt,Bool.and_eq_true,beq_iff_eq,Nat.beq_eq] at h
     obtain ⟨⟨⟨⟨h1,h2⟩,h3⟩,h4⟩,h5⟩:=h
     cases i with
     | zero=>
       simp at hi; subst hi
       exact ⟨q,[],bR xs,rfl,by simp [bR],by simp [h1],h2.symm,h3,by simpa using h4⟩
     | succ i=>
       simp at hi
       obtain ⟨q',pre,post,e1,e2,e3,e4,e5,e6⟩:=mA xs (o+q.size) r i y h5 hi
       refine ⟨q',x.cells++pre,post,by simpa using e1,by simp [bR,e2],?_,e4,e5,e6⟩
       simp only [List.length_append]; omega
theorem oQ {y:TV} (h1:y.isAgg=false) (h2:y.isBad=false):y.cells=[y.enc]:=by
 cases y <;> simp_all [TV.isAgg,TV.isBad,TV.cells,TV.enc]
theorem qBS {y:TV} (h1:y.isAgg=true):y.enc = .agg y.cells.toArray:=by
 cases y <;> simp_all [TV.isAgg,TV.cells,TV.enc]
section
variable {P:Program}
theorem run_sizeOf {T:TypeId} {i:TypeInfo} (h:P.info? T=some i) (w:World):(sizeOf T).run P w = .ok i.size w:=by
 simp [sizeOf,typeInfo,h]
theorem qFY {T:TypeId} {i:TypeInfo} (h:P.info? T=some i):bE P T=i.size:=by simp [bE,h]
theorem uV {T:TypeId} (h:(P.info? T).isSome=true):P.info? T=some ((P.info? T).get h):=by simp
theorem dJ {T:TypeId} (h:(P.info? T).isSome=true) (w:World):(sizeOf T).run P w = .ok (bE P T) w:=by
 rw [run_sizeOf (uV h),qFY (uV h)]
theorem uB {T:TypeId} {d:TypeDesc} (h:P.underlying T=some d) (w:World):(isAgg T).run P w = .ok (nD P T) w:=by
 unfold nD
 cases d <;> simp [isAgg,run_underlying h,h]
theorem xA {T:TypeId} {d:TypeDesc} (hu:P.underlying T=some d) (hi:(P.info? T).isSome=true) {y:TV} {pre post:List Value} (hb:y.isBad=false)
 (h9:y.isAgg=nD P T) (hs:y.cells.length=bE P T) (w:World) :
 (part T (pre++y.cells++post).toArray pre.length).run P w = .ok y.enc w:=by
 unfold part
 simp only [Sem.run_bind,uB hu,Result.andThen_ok]
 cases hA:nD P T with
 | true=>
   rw [hA] at h9
   simp only [↓reduceIte,Sem.run_bind,dJ hi,Result.andThen_ok,Sem.run_pure]
   rw [qBS h9]
   congr 2
   apply Array.ext'
   simp [<-hs]
 | false=>
   rw [hA] at h9
   rw [oQ h9 hb]
   simp
end
theorem qBN {env:Env} {x:Option Operand} {n:Option Int} (h:pF env x=some n) :
 (x=none/\n=none)\/∃ o c,x=some o/\n=some c/\(ev env o).num=some c:=by
 unfold pF at h
 split at h
 ·exact .inl ⟨rfl,by simpa using h.symm⟩
 ·rename_i o
  split at h
  ·rename_i c hc
   exact .inr ⟨o,c,rfl,by simpa using h.symm,hc⟩
  ·simp at h
theorem nK {P:Program} {isS:Bool} {len cap:Nat} {lo hi mx:Option Int} {kl kh km:IntKind} {K:Nat->Nat->Nat->Prop} (h:nN len cap lo hi mx K) :
 ∃ l h' m,(∀ w,(Instr.sliceBounds isS len cap (lo.map (Value.int kl)) (hi.map (Value.int kh)) (mx.map (Value.int km))).run P w = .ok (l,h',m) w)/\K l h' m:=by
 cases mx with
 | none=>
   cases hi with
   | none=>
     cases lo with
     | none=>exact ⟨_,_,_,λw=>by simp [Instr.sliceBounds],h⟩
     | some l=>
       obtain ⟨⟨h1,h2⟩,h⟩:=h
       exact ⟨_,_,_,λw=>by simp [Instr.sliceBounds,Instr.sliceBound,asIntOf,h1,h2],h⟩
   | some hh=>
     cases lo with
     | none=>
       obtain ⟨⟨h1,h2⟩,h⟩:=h
       exact ⟨_,_,_,λw=>by simp [Instr.sliceBounds,Instr.sliceBound,asIntOf,h1,h2],h⟩
     | some l=>
       obtain ⟨⟨h1,h2,h3⟩,h⟩:=h
       have e1:0<=hh:=by omega
       have e2:l<=max hh 0:=by omega
       exact ⟨_,_,_,λw=>by simp [Instr.sliceBounds,Instr.sliceBound,asIntOf,h1,e2,h3,e1],h⟩
 | some m=>
   cases hi with
   | none=>exact h.elim
   | some hh=>
     cases lo with
     | none=>
       obtain ⟨⟨h1,h2,h3⟩,h⟩:=h
       have e1:0<=m:=by omega
       have e2:hh<=max m 0:=by omega
       exact ⟨_,_,_,λw=>by simp [Instr.sliceBounds,Instr.sliceBound,asIntOf,h1,e2,h3,e1],h⟩
     | some l=>
       obtain ⟨⟨h1,h2,h3,h4⟩,h⟩:=h
       have e1:0<=m:=by omega
       have e0:0<=hh:=by omega
       have e2:hh<=max m 0:=by omega
       have e3:l<=max hh 0:=by omega
       exact ⟨_,_,_,λw=>by simp [Instr.sliceBounds,Instr.sliceBound,asIntOf,h1,e2,e3,h4,e1,e0],h⟩
theorem wU (cs:List Value) : ∀ (i:Nat) (pre old post:List Value) (k:Nat),old.length=cs.length->k+i=pre.length->
 (cs.zipIdx i).foldl (λa (cj:Value×Nat)=>a.setIfInBounds (k+cj.2) cj.1) (pre++old++post).toArray=(pre++cs++post).toArray:=by
 induction cs with
 | nil=>intro i pre old post k h _; have:old=[]:=List.eq_nil_of_length_eq_zero (by simpa using h); subst this; rfl
 | cons c cs ih=>
   intro i pre old post k h hk
   cases old with
   | nil=>simp at h
   | cons o old=>
     simp only [List.zipIdx_cons,List.foldl_cons]
     have e:((pre++o :: old++post).toArray).setIfInBounds (k+i) c=((pre++[c])++old++post).toArray:=by
      rw [hk]
      apply Array.ext'
      simp
     rw [e,ih (i+1) (pre++[c]) old post k (by simpa using h) (by simp; omega)]
     simp
theorem rG : ∀ (fs:List TV) (i:Nat) (x y:TV) (pre post:List Value),fs[i]? = some y->bR fs=pre++y.cells++post->pre.length=(bR (fs.take i)).length->
 bR (fs.set i x)=pre++x.cells++post
 | [],i,x,y,pre,post,h,_,_=>by simp at h
 | z :: zs,0,x,y,pre,post,h,he,hl=>by
   simp at h; subst h
   simp [bR] at hl
   subst hl
   simp [bR] at he ⊢
   exact he
 | z :: zs,i+1,x,y,pre,post,h,he,hl=>by
   simp at h
   simp only [List.take_succ_cons,bR,List.length_append] at hl
   simp only [bR,List.set_cons_succ] at he ⊢
   have hz:pre.take z.cells.length=z.cells:=by
    have:=congrArg (List.take z.cells.length) he
    simp [List.take_append_of_le_length,show z.cells.length<=pre.length by omega] at this
    exact this.symm
   obtain ⟨p2,rfl⟩ : ∃ p2,pre=z.cells++p2:=⟨pre.drop z.cells.length,(List.take_append_drop z.cells.length pre).symm.trans (by rw [hz])⟩
   simp only [List.append_assoc,List.append_cancel_left_eq] at he ⊢
   have:=rG zs i x y p2 post h (by simpa using he) (by simp at hl; omega)
   simpa using this
theorem uD : ∀ (fs:List TV) (o:Nat) (ps:List Pt) (i:Nat) (q:Pt),fitsAt o ps fs=true->ps[i]? = some q->q.off=o+(bR (fs.take i)).length
 | [],o,ps,i,q,h,hi=>by cases ps <;> simp_all [fitsAt]
 | x :: xs,o,ps,i,q,h,hi=>by
   cases ps with
   | nil=>simp at hi
   | cons p r=>
     simp only [fitsAt,Bool.and_eq_true,beq_iff_eq,Nat.beq_eq] at h
     obtain ⟨⟨⟨⟨h1,h2⟩,h3⟩,h4⟩,h5⟩:=h
     cases i with
     | zero=>simp at hi; subst hi; simp [bR,h1]
     | succ i=>
       simp at hi
       have:=uD xs (o+p.size) r i q h5 hi
       simp only [List.take_succ_cons,bR,List.length_append]; omega
theorem qJY {x:TV} (hb:x.isBad=false) (hs : ∀ v,x = .v v->v.oneCell'=true):x.enc.cells=x.cells.toArray:=by
 cases x with
 | v y=>
   have:=hs y rfl
   cases y <;> simp_all [Value.oneCell',TV.enc,TV.cells,Value.cells]
 | bad=>simp [TV.isBad] at hb
 | _=>simp [TV.enc,TV.cells,Value.cells]
theorem oY : ∀ (ts:List TV) (K:Prop),vK ts K->(∀ t∈ts,∀ v,t = .v v->v.oneCell'=true)/\K
 | [],K,h=>⟨by simp,h⟩
 | t :: r,K,h=>by
   cases t with
   | v y=>
     obtain ⟨h1,h2⟩:=h
     obtain ⟨h3,h4⟩:=oY r K h2
     refine ⟨λt ht v hv=>?_,h4⟩
     cases ht with
     | head=>cases hv; exact h1
     | tail _ ht=>exact h3 t ht v hv
   | _=>
     obtain ⟨h3,h4⟩:=oY r K h
     refine ⟨λt ht v hv=>?_,h4⟩
     cases ht with
     | head=>cases hv
     | tail _ ht=>exact h3 t ht v hv
theorem mZ {N:Nat} {env:Env} {a:Act} (h9:Sim N env a.tmps) {ps:List Pt} {place:Nat->Option (Nat×Nat)} (hp : ∀ i q,ps[i]? = some q->place i=some (q.off,q.size)) :
 ∀ (parts:List (Nat×Operand)) (fs out:List TV),fitsAt 0 ps fs=true->jQ ps env fs parts=some out->(∀ t∈parts.map (λq=>ev env q.2),∀ v,t = .v v->v.oneCell'=true)->
   Instr.fill place (bR fs).toArray (parts.map λq=>(q.1,a.eval q.2))=some (bR out).toArray/\fitsAt 0 ps out=true
 | [],fs,out,hf,hs,_=>by
   simp only [jQ,Option.some.injEq] at hs
   subst hs
   exact ⟨rfl,hf⟩
 | (i,x) :: r,fs,out,hf,hs,k4=>by
   simp only [jQ] at hs
   cases hc:(Nat.blt i fs.length&&fitsAt 0 ps (fs.set i (ev env x))) with
   | false=>simp [hc] at hs
   | true=>
     simp only [hc,cond_true] at hs
     simp only [Bool.and_eq_true,Nat.blt_eq] at hc
     obtain ⟨hlt,hfit⟩:=hc
     have hy:(fs.set i (ev env x))[i]? = some (ev env x):=by simp [hlt]
     obtain ⟨q,pre2,post2,e1,e2,e3,e4,e5,e6⟩:=mA _ _ _ _ _ hfit hy
     obtain ⟨y,k5⟩ : ∃ y,fs[i]? = some y:=⟨_,List.getElem?_eq_getElem hlt⟩
     obtain ⟨q',pre,post,f1,f2,f3,f4,f5,f6⟩:=mA _ _ _ _ _ hf k5
     rw [e1] at f1
     cases f1
     have hev:=h9.eval x e6
     have hcell:(a.eval x).cells=(ev env x).cells.toArray:=by
      rw [hev]; exact qJY e6 (λv hv=>k4 _ (by simp) v hv)
     have k6:=uD fs 0 ps i q hf e1
     have hset:=rG fs i (ev env x) y pre post k5 f2 (by omega)
     have ih:=mZ h9 hp r (fs.set i (ev env x)) out hfit hs (λt ht v hv=>k4 t (by simp at ht ⊢; exact .inr ht) v hv)
     refine ⟨?_,ih.2⟩
     simp only [List.map_cons,Instr.fill,hp i q e1,hcell,List.size_toArray,e4]
     simp only [ne_eq,not_true,decide_false,Bool.false_or]
     have hle : ¬ (q.off+q.size > (bR fs).length):=by
      have:(bR fs).length=pre.length+y.cells.length+post.length:=by rw [f2]; simp [Nat.add_assoc]
      omega
     simp only [hle,decide_false,Bool.false_eq_true,↓reduceIte]
     have k3:=wU (ev env x).cells 0 pre y.cells post pre.length (by omega) (by omega)
     rw [f2]
     have hoff:q.off=pre.length:=by omega
     rw [hoff]
     have e9:((ev env x).cells.toArray.zipIdx.foldl (λcs (x:Value×Nat)=>cs.setIfInBounds (pre.length+x.2) x.1) (pre++y.cells++post).toArray)=(pre++(ev env x).cells++post).toArray:=by
      rw [<-Array.foldl_toList]
      simpa using k3
     rw [e9,<-hset]
     exact ih.1
section
variable {P:Program} {N:Nat} {env:Env} {a:Act} {next:TV->Prop}
theorem wC {T:TypeId} (h:okT P T=true):(P.info? T).isSome=true/\(P.underlying T).isSome=true:=by simpa [okT] using h
theorem cK {α:Type} {o:Option α} {K:α->Prop} (h:aA o K) : ∃ x,o=some x/\K x:=by
 cases o with
 | none=>exact h.elim
 | some x=>exact ⟨x,rfl,h⟩
theorem Sim.is (h:Sim N env a.tmps) {x:Operand} {t:TV} (hx:ev env x=t) (hb:t.isBad=false):a.eval x=t.enc:=by
 subst hx; exact h.eval x hb
theorem Sim.numIs (h:Sim N env a.tmps) {x:Operand} {c:Int} (hx:(ev env x).num=some c) : ∃ k,a.eval x = .int k c:=by
 obtain ⟨k,hk⟩:=qCZ hx
 exact ⟨k,by rw [h.eval x (yL hx),hk]⟩
theorem qME {k:IntKind} {n:Int} {len:Nat} {q:Option Addr} {T e:TypeId} (hu:P.underlying T=some (.slice e)) (hi:(P.info? e).isSome=true) {cap:Nat}
 (h:qQF n len q (bE P e) next) : ∃ t,(∀ w,(Instr.indexAt T (.slice q len cap) (.int k n)).run P w = .ok t.enc w)/\next t:=by
 obtain ⟨⟨h1,h2⟩,h⟩:=h
 obtain ⟨ad,rfl,h⟩:=cK h
 exact ⟨_,λw=>by simp [Instr.indexAt,asIntOf,run_underlying hu,h1,h2,dJ hi,TV.enc],h⟩
theorem qKJ {k:IntKind} {n:Int} {len:Nat} {q:Option Addr} {T e:TypeId} (hu:P.underlying T=some (.array len e)) (hi:(P.info? e).isSome=true)
 (h:qQF n len q (bE P e) next) : ∃ t,(∀ w,(Instr.indexAt T (.pointer q) (.int k n)).run P w = .ok t.enc w)/\next t:=by
 obtain ⟨⟨h1,h2⟩,h⟩:=h
 obtain ⟨ad,rfl,h⟩:=cK h
 exact ⟨_,λw=>by simp [Instr.indexAt,asIntOf,run_underlying hu,h1,h2,dJ hi,TV.enc,Instr.sureAddr],h⟩
theorem bD {s:Sem Value} {t:TV} (h : ∀ w,s.run P w = .ok t.enc w) (hn:next t):qDP P (do let x <-s; pure (Next.value x):Sem Next) next:=
 .of (λw=>by simp [h w]) hn
mutual
theorem oC : ∀ (κ:Kd) (l:List Value) (x:TV) (r:List Value),zeroOf κ l=some (x,r)->l=x.cells++r
 | .i k,l,x,r,h=>by
   unfold zeroOf at h
   split at h <;> (try split at h) <;> simp_all [TV.cells]
   all_goals (obtain ⟨h1,_⟩:=h; rw [<-h1]; simp [TV.cells]; try rfl)
 | .u8,l,x,r,h=>by
   unfold zeroOf at h
   split at h <;> (try split at h) <;> simp_all [TV.cells]
   all_goals (obtain ⟨h1,_⟩:=h; rw [<-h1]; simp [TV.cells]; try rfl)
 | .u64,l,x,r,h=>by
   unfold zeroOf at h
   split at h <;> (try split at h) <;> simp_all [TV.cells]
   all_goals (obtain ⟨h1,_⟩:=h; rw [<-h1]; simp [TV.cells]; try rfl)
 | .b,l,x,r,h=>by
   unfold zeroOf at h
   split at h <;> (try split at h) <;> simp_all [TV.cells]
   all_goals (obtain ⟨h1,_⟩:=h; rw [<-h1]; simp [TV.cells]; try rfl)
 | .s,l,x,r,h=>by
   unfold zeroOf at h
   split at h <;> (try split at h) <;> simp_all [TV.cells]
   all_goals (obtain ⟨h1,_⟩:=h; rw [<-h1]; simp [TV.cells]; try rfl)
 | .p,l,x,r,h=>by
   unfold zeroOf at h
   split at h <;> (try split at h) <;> simp_all [TV.cells]
   all_goals (obtain ⟨h1,_⟩:=h; rw [<-h1]; simp [TV.cells]; try rfl)
 | .sl,l,x,r,h=>by
   unfold zeroOf at h
   split at h <;> (try split at h) <;> simp_all [TV.cells]
   all_goals (obtain ⟨h1,_⟩:=h; rw [<-h1]; simp [TV.cells]; try rfl)
 | .m,l,x,r,h=>by
   unfold zeroOf at h
   split at h <;> (try split at h) <;> simp_all [TV.cells]
   all_goals (obtain ⟨h1,_⟩:=h; rw [<-h1]; simp [TV.cells]; try rfl)
 | .v,l,x,r,h=>by
   unfold zeroOf at h
   split at h <;> (try split at h) <;> simp_all [TV.cells]
   all_goals (obtain ⟨h1,_⟩:=h; rw [<-h1]; simp [TV.cells]; try rfl)
 | .agg fs,l,x,r,h=>by
   unfold zeroOf at h
   cases hz:kS fs l with
   | none=>simp [hz] at h
   | some q=>
     obtain ⟨xs,r'⟩:=q
     simp [hz] at h
     obtain ⟨rfl,rfl⟩:=h
     exact mQ fs l xs r' hz
 | .la _ _,l,x,r,h=>by simp [zeroOf] at h
 | .tup _,l,x,r,h=>by simp [zeroOf] at h
theorem mQ : ∀ (κs:List Kd) (l:List Value) (xs:List TV) (r:List Value),kS κs l=some (xs,r)->l=bR xs++r
 | [],l,xs,r,h=>by simp [kS] at h; obtain ⟨rfl,rfl⟩:=h; rfl
 | k :: ks,l,xs,r,h=>by
   unfold kS at h
   cases hz:zeroOf k l with
   | none=>simp [hz] at h
   | some q=>
     obtain ⟨x,r1⟩:=q
     simp only [hz] at h
     cases h9:kS ks r1 with
     | none=>simp [h9] at h
     | some q'=>
       obtain ⟨ys,r2⟩:=q'
       simp [h9] at h
       obtain ⟨rfl,rfl⟩:=h
       rw [oC k l x r1 hz,mQ ks r1 ys r2 h9]
       simp [bR]
end
theorem qBB {T:TypeId} {x:TV} (h:qAC P T=some x) : ∃ z,(∀ w,(zeroValue T).run P w = .ok z w)/\z.cells.toList=x.cells:=by
 unfold qAC at h
 cases hi:P.info? T with
 | none=>simp [hi] at h
 | some i=>
   simp only [hi] at h
   cases hz:i.zero with
   | none=>simp [hz] at h
   | some z=>
     simp only [hz] at h
     refine ⟨z,λw=>by simp [zeroValue,typeInfo,hi,hz],?_⟩
     split at h
     ·rename_i y hy
      simp at h; subst h
      have:=oC _ _ _ _ hy
      simpa using this
     ·simp at h
theorem qBH (k3:Sim N env a.tmps) {T:TypeId} {parts:Array (Nat×Operand)} (h:qAN P T parts env next) :
 ∃ t,(∀ w,(Instr.build T (parts.map λ(i,x)=>(i,a.eval x))).run P w = .ok t.enc w)/\next t:=by
 unfold qAN at h
 split at h
 ·rename_i zs hz
  cases hps:partsOf P T with
  | none=>simp [hps] at h
  | some ps=>
    simp only [hps] at h
    cases hf:fitsAt 0 ps zs with
    | false=>simp [hf] at h
    | true=>
      simp only [hf,cond_true] at h
      cases hs:jQ ps env zs parts.toList with
      | none=>simp [hs] at h
      | some fs=>
        simp only [hs] at h
        obtain ⟨k5,h⟩:=oY _ _ h
        obtain ⟨z,k6,hzc⟩:=qBB hz
        have k4:z.cells=(bR zs).toArray:=by
         apply Array.ext'
         rw [hzc]; rfl
        refine ⟨_,λw=>?_,h⟩
        unfold partsOf at hps
        split at hps
        ·rename_i fields hu
         cases hall:(fields.toList.all λf=>okT P f.type) with
         | false=>simp [hall] at hps
         | true=>
           simp only [hall,cond_true,Option.some.injEq] at hps
           subst hps
           have hm : ∀ w,(fields.mapM (λf=>do pure (f.offset,<-sizeOf f.type)):Sem (Array (Nat×Nat))).run P w = .ok (fields.map λf=>(f.offset,bE P f.type)) w:=by
            intro w
            have hl : ∀ (l:List Field) (w:World),l.all (λf=>okT P f.type)=true->(l.mapM (λf=>Functor.map (Prod.mk f.offset) (sizeOf f.type)):Sem (List (Nat×Nat))).run P w = .ok (l.map λf=>(f.offset,bE P f.type)) w:=by
             intro l
             induction l with
             | nil=>intro w _; rfl
             | cons f l ih=>
               intro w h
               simp only [List.all_cons,Bool.and_eq_true] at h
               simp [List.mapM_cons,dJ (wC h.1).1,ih w h.2]
            rw [Array.mapM_eq_mapM_toList]
            simp [hl fields.toList w hall]
            apply Array.ext'
            simp
           have h9:=mZ k3 (place:=λi=>(fields.map λf=>(f.offset,bE P f.type))[i]?) (by
            intro i q hq
            simp at hq
            obtain ⟨f,hf1,rfl⟩:=hq
            simp [hf1]) parts.toList zs fs hf hs k5
           simp only [Instr.build,Sem.run_bind,k6,Result.andThen_ok,run_underlying hu,hm,k4]
           have e:(parts.map λ(x:Nat×Operand)=>(x.1,a.eval x.2)).toList=parts.toList.map λq=>(q.1,a.eval q.2):=by simp
           rw [e,h9.1]
           rfl
        ·rename_i n e hu
         cases hall:okT P e with
         | false=>simp [hall] at hps
         | true=>
           simp only [hall,cond_true,Option.some.injEq] at hps
           subst hps
           have h9:=mZ k3 (place:=λi=>some (i*bE P e,bE P e)) (by
            intro i q hq
            simp only [List.getElem?_map,Option.map_eq_some_iff] at hq
            obtain ⟨j,hf1,rfl⟩:=hq
            have:=List.getElem?_range (show i<n from by
             have:=(List.getElem?_eq_some_iff.1 hf1).1
             simpa using this)
            rw [this] at hf1
            cases hf1
            rfl) parts.toList zs fs hf hs k5
           simp only [Instr.build,Sem.run_bind,k6,Result.andThen_ok,run_underlying hu,dJ (wC hall).1,k4]
           have e:(parts.map λ(x:Nat×Operand)=>(x.1,a.eval x.2)).toList=parts.toList.map λq=>(q.1,a.eval q.2):=by simp
           rw [e,h9.1]
           rfl
        ·simp at hps
 ·exact h.elim
theorem qEZ (h9:Sim N env a.tmps) {T:TypeId} {x:Operand} {f:Nat} {fs:List TV} {ps:List Pt} {y:TV} (hx:ev env x = .agg fs) (hps:partsOf P T=some ps) (hf:fs[f]? = some y)
 (hfit:fitsAt 0 ps fs=true) (k3:(fieldsOf P T).isSome=true) (hn:next y) : ∃ t,(∀ w,(Instr.field T (a.eval x) f).run P w = .ok t.enc w)/\next t:=by
 obtain ⟨q,pre,post,e1,e2,e3,e4,e5,e6⟩:=mA _ _ _ _ _ hfit hf
 refine ⟨y,λw=>?_,hn⟩
 rw [h9.is hx rfl]
 unfold partsOf at hps
 unfold fieldsOf at k3
 split at hps
 ·rename_i fields hu
  cases hall:(fields.toList.all λf=>okT P f.type) with
  | false=>simp [hall] at hps
  | true=>
    simp only [hall,cond_true,Option.some.injEq] at hps
    subst hps
    simp only [List.getElem?_map,Option.map_eq_some_iff] at e1
    obtain ⟨fd,g1,g2⟩:=e1
    subst g2
    have k5:fields[f]? = some fd:=by simpa using g1
    have k4:=wC (by simpa using List.all_eq_true.1 hall fd (List.mem_of_getElem? g1))
    have hpre:pre.length=fd.offset:=by simpa using e3
    simp only [Instr.field,Sem.run_bind,run_underlying hu,Result.andThen_ok,k5,TV.enc,asAgg,Sem.run_pure]
    rw [e2,<-hpre]
    exact xA (Option.some_get k4.2).symm k4.1 e6 e5 e4 w
 ·rename_i hu; simp [hu] at k3
 ·simp at hps
theorem qGJ (h9:Sim N env a.tmps) {T e:TypeId} {len:Nat} {x:Operand} {k:IntKind} {n:Int} {fs:List TV} {y:TV} (hu:P.underlying T=some (.array len e)) (hx:ev env x = .agg fs)
 (hk:gM P e=true) (hr:0<=n/\n<len) (hall : ∀ z∈fs,z.cells.length=bE P e) (hy:fs[n.toNat]? = some y) (hl:y.cells.length=kM (kindOf P 20 e)) (k5:y.isAgg=qDF (kindOf P 20 e)) (hb:y.isBad=false)
 (w:World):(Instr.index T (a.eval x) (.int k n)).run P w = .ok y.enc w:=by
 rw [h9.is hx rfl]
 simp only [gM,Bool.and_eq_true,beq_iff_eq,Nat.beq_eq] at hk
 obtain ⟨⟨⟨k1,k2⟩,k3⟩,k4⟩:=hk
 have hc : ∀ (fs:List TV) (i:Nat),(∀ z∈fs,z.cells.length=bE P e)->fs[i]? = some y->∃ pre post,bR fs=pre++y.cells++post/\pre.length=i*bE P e:=by
  intro fs
  induction fs with
  | nil=>intro i _ h; simp at h
  | cons z zs ih=>
    intro i ha h
    cases i with
    | zero=>simp at h; subst h; exact ⟨[],bR zs,by simp [bR],by simp⟩
    | succ i=>
      simp at h
      obtain ⟨pre,post,h1,h2⟩:=ih i (λz hz=>ha z (by simp [hz])) h
      refine ⟨z.cells++pre,post,by simp [bR,h1],?_⟩
      have:=ha z (by simp)
      rw [List.length_append,this,h2,Nat.add_mul]; omega
 obtain ⟨pre,post,h1,h2⟩:=hc fs n.toNat hall hy
 simp only [Instr.index,Sem.run_bind,asIntOf,Sem.run_pure,Result.andThen_ok,run_underlying hu,TV.enc,hr,and_self,↓reduceIte,dJ k3]
 rw [h1,<-h2]
 exact xA (Option.some_get k4).symm k3 hb (by rw [k5,k2]) (by rw [hl,k1]) w
end
section
variable {P:Program} {N:Nat} {env:Env} {a:Act} {next:TV->Prop}
theorem oI (h9:Sim N env a.tmps) {xs:Array Operand} (h:gW env xs=true):xs.map a.eval=(evs env xs).toArray:=by
 apply Array.ext'
 simp only [Array.toList_map,evs]
 apply List.map_congr_left
 intro x hx
 have:=List.all_eq_true.1 h x hx
 exact h9.eval x (by simpa using this)
theorem wP {T:TypeId} {s:List UInt8} {lo hi:Option Int} {kl kh:IntKind} (hu:P.underlying T=some .string)
 (h:nN s.length s.length lo hi none λl h _=>next (.s ((s.take h).drop l))) :
 ∃ t,(∀ w,(Instr.sliceAt T (.string ⟨s.toArray⟩) (lo.map (Value.int kl)) (hi.map (Value.int kh)) none).run P w = .ok t.enc w)/\next t:=by
 obtain ⟨l,h',m,hr,hn⟩:=nK (P:=P) (isS:=false) (kl:=kl) (kh:=kh) (km:=.i64) h
 refine ⟨_,λw=>?_,hn⟩
 have e1:(ByteArray.mk s.toArray).size=s.length:=by simp [ByteArray.size]
 have h9:=hr
 simp only [Option.map_none] at h9
 simp only [Instr.sliceAt,Instr.slice,Sem.run_bind,run_underlying hu,Result.andThen_ok,e1]
 simp only [Option.isSome_none,Bool.false_eq_true,↓reduceIte,Sem.run_bind,Sem.run_pure,Result.andThen_ok,h9,TV.enc]
 congr 2
 apply ByteArray.ext
 apply Array.ext'
 simp [ByteArray.data_extract,List.drop_take]
theorem vL {T e:TypeId} {s:Slc} {lo hi mx:Option Int} {kl kh km:IntKind} (hu:P.underlying T=some (.slice e)) (h9:(P.info? e).isSome=true)
 (h:nN s.len s.cap lo hi mx λl h m=>next (.sl (aF s (bE P e) l h m))) :
 ∃ t,(∀ w,(Instr.sliceAt T (.slice s.a s.len s.cap) (lo.map (Value.int kl)) (hi.map (Value.int kh)) (mx.map (Value.int km))).run P w = .ok t.enc w)/\next t:=by
 obtain ⟨l,h',m,hr,hn⟩:=nK (P:=P) (isS:=true) (kl:=kl) (kh:=kh) (km:=km) h
 refine ⟨_,λw=>?_,hn⟩
 simp only [Instr.sliceAt,Instr.slice,Sem.run_bind,run_underlying hu,Result.andThen_ok,hr,dJ h9,Sem.run_pure,TV.enc,aF]
theorem zD {T e:TypeId} {n:Nat} {ad:Addr} {lo hi:Option Int} {kl kh:IntKind} (hu:P.underlying T=some (.array n e)) (k3:(P.info? e).isSome=true)
 (h:nN n n lo hi none λl h m=>next (.sl (aF ⟨some ad,n,n⟩ (bE P e) l h m))) :
 ∃ t,(∀ w,(Instr.sliceAt T (.pointer (some ad)) (lo.map (Value.int kl)) (hi.map (Value.int kh)) none).run P w = .ok t.enc w)/\next t:=by
 obtain ⟨l,h',m,hr,hn⟩:=nK (P:=P) (isS:=false) (kl:=kl) (kh:=kh) (km:=.i64) h
 refine ⟨_,λw=>?_,hn⟩
 have h9:=hr
 simp only [Option.map_none] at h9
 simp only [Instr.sliceAt,Instr.sureAddr,Sem.run_bind,run_underlying hu,Result.andThen_ok,Sem.run_pure,h9,dJ k3,TV.enc,aF,Option.map_some]
 split <;> rfl
theorem sH (h9:Sim N env a.tmps) {x:Option Operand} {n:Option Int} (h:pF env x=some n) : ∃ k,x.map a.eval=n.map (Value.int k):=by
 rcases qBN h with ⟨rfl,rfl⟩ | ⟨o,c,rfl,rfl,hc⟩
 ·exact ⟨.i64,rfl⟩
 ·obtain ⟨k,hk⟩:=h9.numIs hc
  exact ⟨k,by simp [hk]⟩
theorem qKK {T:TypeId} {x:TV} {ty:TypeId} (h:jCU P T x next):x.isBad=false/\∃ t,(∀ w,(Builtin.len_ #[T] ty #[x.enc]).run P w = .ok t.enc w)/\next t:=by
 have e1 : ∀ l:List UInt8,(ByteArray.mk l.toArray).size=l.length:=λl=>by simp [ByteArray.size]
 unfold jCU at h
 split at h
 ·rename_i hu
  exact ⟨rfl,_,λw=>by simp [Builtin.len_,run_underlying hu,TV.enc,goInt]; rw [e1],h⟩
 ·rename_i hu
  exact ⟨rfl,_,λw=>by simp [Builtin.len_,run_underlying hu,TV.enc,goInt],h⟩
 ·rename_i hu
  exact ⟨rfl,_,λw=>by simp [Builtin.len_,run_underlying hu,TV.enc,goInt],h⟩
 ·rename_i hu
  split at h
  ·rename_i h9
   exact ⟨rfl,_,λw=>by simp [Builtin.len_,run_underlying hu,run_underlying h9,TV.enc,goInt],h⟩
  ·exact h.elim
 ·exact h.elim
theorem qKL {T:TypeId} {x:TV} {ty:TypeId} (h:qZJ P T x next):x.isBad=false/\∃ t,(∀ w,(Builtin.cap_ #[T] ty #[x.enc]).run P w = .ok t.enc w)/\next t:=by
 unfold qZJ at h
 split at h
 ·rename_i hu
  exact ⟨rfl,_,λw=>by simp [Builtin.cap_,run_underlying hu,TV.enc,goInt],h⟩
 ·exact h.elim
theorem qGY {xs:List TV} {y:TV} {ty:Array TypeId} {t:TypeId} (h:min2 xs=some y):(∀ x∈xs,x.isBad=false)/\∀ w,(Builtin.min_ ty t (dQ xs).toArray).run P w = .ok y.enc w:=by
 unfold min2 at h
 split at h
 ·split at h
  ·rename_i hk; subst hk; cases h
   exact ⟨by simp [TV.isBad],λw=>by simp [Builtin.min_,Builtin.min2,dQ,TV.enc]⟩
  ·simp at h
 ·split at h
  ·rename_i hk; obtain ⟨rfl,rfl⟩:=hk; cases h
   exact ⟨by simp [TV.isBad],λw=>by simp [Builtin.min_,Builtin.min2,dQ,TV.enc]⟩
  ·simp at h
 ·simp at h
theorem qIH {xs:List TV} {y:TV} {ty:Array TypeId} {t:TypeId} (h:max2 xs=some y):(∀ x∈xs,x.isBad=false)/\∀ w,(Builtin.max_ ty t (dQ xs).toArray).run P w = .ok y.enc w:=by
 unfold max2 at h
 split at h
 ·split at h
  ·rename_i hk; subst hk; cases h
   exact ⟨by simp [TV.isBad],λw=>by simp [Builtin.max_,Builtin.max2,dQ,TV.enc]⟩
  ·simp at h
 ·split at h
  ·rename_i hk; obtain ⟨rfl,rfl⟩:=hk; cases h
   exact ⟨by simp [TV.isBad],λw=>by simp [Builtin.max_,Builtin.max2,dQ,TV.enc]⟩
  ·simp at h
 ·simp at h
theorem oU (h9:Sim N env a.tmps) : ∀ (xs:List Operand),(∀ x∈xs.map (ev env),x.isBad=false)->xs.map a.eval=dQ (xs.map (ev env))
 | [],_=>rfl
 | x :: r,h=>by
   simp only [List.map_cons,dQ]
   rw [h9.eval x (h _ (by simp)),oU h9 r (λy hy=>h y (by simp at hy ⊢; exact .inr hy))]
theorem jD {o:Oper} (h9:Sim N env a.tmps) (h:uR P o env next):qDP P (execOp a.eval o) next:=by
 obtain ⟨dst,op,type,pos,after,guard⟩:=o
 unfold uR at h
 simp only at h
 unfold execOp
 cases op <;> simp only at h ⊢ <;> try (exact h.elim)
 case move x=>exact ⟨ev env x,a.eval x,λw=>rfl,λhb=>h9.eval x hb,h⟩
 case assign x=>exact ⟨ev env x,a.eval x,λw=>rfl,λhb=>h9.eval x hb,h⟩
 case pick c x y=>
  split at h
  ·rename_i t hc
   have:=h9.is hc rfl
   cases t with
   | true=>exact ⟨ev env x,a.eval x,λw=>by simp [this,TV.enc,asBool],λhb=>h9.eval x hb,h⟩
   | false=>exact ⟨ev env y,a.eval y,λw=>by simp [this,TV.enc,asBool],λhb=>h9.eval y hb,h⟩
  ·exact h.elim
 case nilCheck x=>
  split at h
  ·rename_i q hx
   obtain ⟨ad,rfl,h⟩:=cK h
   have:=h9.is hx rfl
   exact .of (t:=.p (some ad)) (λw=>by simp [this,TV.enc]) h
  ·rename_i f first cap hx
   have:=h9.is hx rfl
   exact .of (t:=.v (.func (.func f) first cap)) (λw=>by simp [this,TV.enc]) h
  ·exact h.elim
 case binOp op T x y yT=>
  obtain ⟨hbx,k5,t,ht,hn⟩:=qIX h
  refine bD (t:=t) (λw=>?_) hn
  rw [h9.eval x hbx,h9.eval y k5]
  exact ht w
 case unOp op T x=>
  split at h
  ·rename_i hx
   exact bD (λw=>by rw [h9.is hx rfl]; rfl) h
  ·rename_i hx
   exact bD (λw=>by rw [h9.is hx rfl]; rfl) h
  ·rename_i n hx
   refine bD (t:=.u64 (~~~n)) (λw=>?_) h
   rw [h9.is hx rfl]
   show Result.ok (Value.int .u64 (IntKind.u64.wrap ((BitVec.ofInt 64 (IntKind.u64.max) ^^^ BitVec.ofInt 64 (n.toNat:Int)).toNat:Int))) w=_
   rw [jFU]; rfl
  ·rename_i n hx
   refine bD (t:=.u8 (~~~n)) (λw=>?_) h
   rw [h9.is hx rfl]
   show Result.ok (Value.int .u8 (IntKind.u8.wrap ((BitVec.ofInt 8 (IntKind.u8.max) ^^^ BitVec.ofInt 8 (n.toNat:Int)).toNat:Int))) w=_
   rw [not8]; rfl
  ·exact h.elim
 case convert s d x=>
  split at h
  ·rename_i ts hs
   cases hd:P.underlying d with
   | none=>simp [hd,qDV] at h
   | some td=>
     rw [hd] at h
     obtain ⟨hb,t,ht,hn⟩:=qFA hs hd h
     exact bD (λw=>by rw [h9.eval x hb]; exact ht w) hn
  ·exact h.elim
 case makeInterface T x=>
  cases hc:(isIface P T || (ev env x).isBad) with
  | true=>simp [hc] at h
  | false=>
    simp only [hc,cond_false] at h
    simp only [Bool.or_eq_false_iff] at hc
    refine bD (t:=.v (.iface T (ev env x).enc)) (λw=>?_) h
    rw [h9.eval x hc.2]
    have h1:=hc.1
    unfold isIface at h1
    cases hu:P.underlying T with
    | none=>simp [hu] at h1
    | some d=>
      rw [hu] at h1
      cases d <;> simp at h1 <;> simp [Instr.makeInterface,run_underlying hu,TV.enc]
 case makeFunc fn first cap=>
  cases hc:(gW env first&&gW env cap) with
  | false=>simp [hc] at h
  | true=>
    simp only [hc,cond_true] at h
    simp only [Bool.and_eq_true] at hc
    refine bD (t:=.v (.func fn (evs env first).toArray (evs env cap).toArray)) (λw=>?_) h
    rw [oI h9 hc.1,oI h9 hc.2]
    rfl
 case slice T x lo hi mx=>
  split at h
  ·rename_i l hh m hl k6 hm
   obtain ⟨kl,el⟩:=sH h9 hl
   obtain ⟨kh,eh⟩:=sH h9 k6
   obtain ⟨km,em⟩:=sH h9 hm
   rw [el,eh,em]
   split at h
   ·rename_i s hu hx
    rw [h9.is hx rfl]
    cases m with
    | some _=>exact h.elim
    | none=>
      obtain ⟨t,ht,hn⟩:=wP (kl:=kl) (kh:=kh) hu h
      exact bD ht hn
   ·rename_i e s hu hx
    rw [h9.is hx rfl]
    cases k3:(P.info? e).isSome with
    | false=>simp [k3] at h
    | true=>
      simp only [k3,cond_true] at h
      obtain ⟨t,ht,hn⟩:=vL (kl:=kl) (kh:=kh) (km:=km) hu k3 h
      exact bD ht hn
   ·rename_i n e q hu hx
    rw [h9.is hx rfl]
    cases k3:(P.info? e).isSome with
    | false=>simp [k3] at h
    | true=>
      cases m with
      | some _=>simp at h
      | none=>
        simp only [k3,Option.isNone_none,Bool.and_self,cond_true] at h
        obtain ⟨ad,rfl,h⟩:=cK h
        obtain ⟨t,ht,hn⟩:=zD (kl:=kl) (kh:=kh) hu k3 h
        exact bD ht hn
   ·exact h.elim
  ·exact h.elim
 case fieldAddr T x f=>
  split at h
  ·rename_i off q hf hx
   obtain ⟨ad,rfl,h⟩:=cK h
   refine bD (t:=.p (some (ad.add off))) (λw=>?_) h
   rw [h9.is hx rfl]
   unfold xH at hf
   split at hf
   ·rename_i fs hu
    split at hf
    ·rename_i fd p8
     cases hc:(Nat.beq (bE P fd.type) 0 || !(P.info? fd.type).isSome) with
     | true=>rw [hc] at hf; simp at hf
     | false=>
       simp only [hc,cond_false,Option.some.injEq] at hf
       subst hf
       simp only [Bool.or_eq_false_iff,Bool.not_eq_false'] at hc
       have hz : ¬ (bE P fd.type=0):=by
        intro e0; rw [e0] at hc; simp at hc
       simp [Instr.fieldAt,run_underlying hu,p8,Instr.sureAddr,TV.enc,fieldPlace,dJ hc.2,hz]
    ·simp at hf
   ·simp at hf
  ·exact h.elim
 case field T x f=>
  split at h
  ·rename_i fs ps hx hps
   split at h
   ·rename_i y hy
    cases hc:(fitsAt 0 ps fs&&(fieldsOf P T).isSome) with
    | false=>simp [hc] at h
    | true=>
      simp only [hc,cond_true] at h
      simp only [Bool.and_eq_true] at hc
      obtain ⟨t,ht,hn⟩:=qEZ h9 hx hps hy hc.1 hc.2 h
      exact bD ht hn
   ·exact h.elim
  ·exact h.elim
 case indexAddr T x i=>
  split at h
  ·rename_i e hu
   split at h
   ·rename_i s n hx hi
    cases k3:(P.info? e).isSome with
    | false=>simp [k3] at h
    | true=>
      simp only [k3,cond_true] at h
      obtain ⟨k,hk⟩:=h9.numIs hi
      obtain ⟨t,ht,hn⟩:=qME (k:=k) (cap:=s.cap) hu k3 h
      exact bD (λw=>by rw [h9.is hx rfl,hk]; exact ht w) hn
   ·exact h.elim
  ·rename_i len e hu
   split at h
   ·rename_i q n hx hi
    cases k3:(P.info? e).isSome with
    | false=>simp [k3] at h
    | true=>
      simp only [k3,cond_true] at h
      obtain ⟨k,hk⟩:=h9.numIs hi
      obtain ⟨t,ht,hn⟩:=qKJ (k:=k) hu k3 h
      exact bD (λw=>by rw [h9.is hx rfl,hk]; exact ht w) hn
   ·exact h.elim
  ·exact h.elim
 case index T x i=>
  split at h
  ·rename_i hu
   split at h
   ·rename_i l n hx hi
    obtain ⟨h0,c,hc,hn⟩:=h
    obtain ⟨k,hk⟩:=h9.numIs hi
    refine bD (t:=.u8 c) (λw=>?_) hn
    rw [h9.is hx rfl,hk]
    have hlt:n.toNat<l.length:=(List.getElem?_eq_some_iff.1 hc).1
    have e1:(ByteArray.mk l.toArray)[n.toNat]? = some c:=by
     have hs:n.toNat<(ByteArray.mk l.toArray).size:=by simpa [ByteArray.size] using hlt
     rw [getElem?_pos (ByteArray.mk l.toArray) n.toNat hs,<-(List.getElem?_eq_some_iff.1 hc).2]
     rfl
    simp [Instr.index,asIntOf,run_underlying hu,TV.enc,h0,e1]
   ·exact h.elim
  ·rename_i len e hu
   split at h
   ·rename_i fs n hx hi
    cases k4:gM P e with
    | false=>simp [k4] at h
    | true=>
      simp only [k4,cond_true] at h
      obtain ⟨hr,hall,h⟩:=h
      obtain ⟨y,y1,y2,y3,hy,hn⟩:=dL _ _ h
      obtain ⟨k,hk⟩:=h9.numIs hi
      exact bD (λw=>by rw [hk]; exact qGJ h9 hu hx k4 hr hall hy y1 y2 y3 w) hn
   ·exact h.elim
  ·exact h.elim
 case extract t i=>
  split at h
  ·rename_i fs hx
   split at h
   ·rename_i y hy
    refine bD (t:=y) (λw=>?_) h
    rw [h9.is hx rfl]
    have : ∀ (fs:List TV) (i:Nat),fs[i]? = some y->(dQ fs)[i]? = some y.enc:=by
     intro fs
     induction fs with
     | nil=>intro i h; simp at h
     | cons z zs ih=>intro i h; cases i <;> simp_all [dQ]
    simp [TV.enc,Instr.extract,this fs i hy]
   ·exact h.elim
  ·rename_i x hx
   obtain ⟨vs,rfl,h⟩:=h
   obtain ⟨y,_,_,_,hy,hn⟩:=dL _ _ h
   refine bD (t:=y) (λw=>?_) hn
   rw [h9.is hx rfl]
   simp [TV.enc,Instr.extract,hy]
  ·exact h.elim
 case build T parts=>
  obtain ⟨t,ht,hn⟩:=qBH h9 h
  exact bD ht hn
 case call c=>
  obtain ⟨callee,args,argTypes⟩:=c
  cases callee <;> (try simp only at h) <;> try (exact h.elim)
  rename_i b
  cases b <;> (try simp only at h) <;> try (exact h.elim)
  case len=>
   split at h
   ·rename_i x T hx hT
    obtain ⟨hb,t,ht,hn⟩:=qKK (ty:=type) h
    have e1:args.map a.eval = #[(ev env x).enc]:=by
     apply Array.ext'
     simp [hx,h9.eval x hb]
    have e2:argTypes = #[T]:=by apply Array.ext'; simpa using hT
    refine .of (t:=t) (λw=>?_) hn
    simp only [resolve,e1,e2,invoke,builtin,Sem.run_bind,Sem.run_pure,Result.andThen_ok,ht w]
   ·exact h.elim
  case cap=>
   split at h
   ·rename_i x T hx hT
    obtain ⟨hb,t,ht,hn⟩:=qKL (ty:=type) h
    have e1:args.map a.eval = #[(ev env x).enc]:=by
     apply Array.ext'
     simp [hx,h9.eval x hb]
    have e2:argTypes = #[T]:=by apply Array.ext'; simpa using hT
    refine .of (t:=t) (λw=>?_) hn
    simp only [resolve,e1,e2,invoke,builtin,Sem.run_bind,Sem.run_pure,Result.andThen_ok,ht w]
   ·exact h.elim
  case max=>
   split at h
   ·rename_i y hy
    obtain ⟨hb,ht⟩:=qIH (P:=P) (ty:=argTypes) (t:=type) hy
    have e1:args.map a.eval=(dQ (args.toList.map (ev env))).toArray:=by
     apply Array.ext'
     simp only [Array.toList_map]
     exact oU h9 _ hb
    refine .of (t:=y) (λw=>?_) h
    simp only [resolve,e1,invoke,builtin,Sem.run_bind,Sem.run_pure,Result.andThen_ok,ht w]
   ·exact h.elim
  case min=>
   split at h
   ·rename_i y hy
    obtain ⟨hb,ht⟩:=qGY (P:=P) (ty:=argTypes) (t:=type) hy
    have e1:args.map a.eval=(dQ (args.toList.map (ev env))).toArray:=by
     apply Array.ext'
     simp only [Array.toList_map]
     exact oU h9 _ hb
    refine .of (t:=y) (λw=>?_) h
    simp only [resolve,e1,invoke,builtin,Sem.run_bind,Sem.run_pure,Result.andThen_ok,ht w]
   ·exact h.elim
end
end Go.Sh
end
