/- The forms of the translated functions,their contracts and the plain laws behind them,put together by a program. -/
import Derived.Test.YthaefcgpbccmbaaGreatDoorPE13
import Derived.Deep.Slices
import Derived.Deep.Strs
import Derived.Lib.LaidTab
import Derived.Stop.LaidErr
import Derived.LaidHandle
import Derived.MakeChecks
import Derived.SizedLaws
import Derived.WalkKit
import Derived.ProofKit
import Derived.OpenShut
import Derived.ShutString
import Derived.ChangeOld
import Derived.Below
import Derived.LaidMore
import Derived.Stop.Joined
import Derived.SevenTiedAt
import Derived.Test.YthaefcgpbccmbaaGreatDoorRows
import Derived.Test.YthaefcgpbccmbaaGreatDoorProg
set_option linter.unusedSimpArgs false
set_option linter.unusedVariables false
set_option maxRecDepth 100000
set_option maxHeartbeats 4000000
section
namespace Go.Proofs.YthaefcgpbccmbaaGreatDoor
open Go Go.Sh Go.ChangeShapes Go.WideShapes Go.ChangeAt Go.RowKit
open Go.Proofs.Tryz
section
variable {H:Type} {enc:TypeId×Value->H} {W:World} {spare:Nat->Bool} {held:Bool} {fuel:Nat}
theorem cells5:prog.cellsOf 5=1:=by kernel_rfl
theorem row_of {t e:TypeId} {a:zO} {len cap:Nat} {x:DataW H×List MemPlace} (ht:prog.underlying t=some (.slice e)) (hc:prog.cellsOf e=1) (h:DataW.trod enc prog W 0 (λ_=>true) held fuel t [.slice a len cap]=some x) :
 ∃ V:Nat->Value,aK W ⟨a,len,cap⟩ 1 ((List.range len).map V)/\(∀ y,Slc.blk ⟨a,len,cap⟩=some y->y<W.heap.size)/\(∀ i,i<len->∃ (n:Nat) (y:DataW H×List MemPlace),DataW.trod enc prog W 0 (λ_=>true) held n e [V i]=some y)/\
   ((x.1 = .nil/\cap=0)\/∃ es ss,x.1 = .slice es ss/\es.length+ss.length=cap):=by
 rcases Deep.open_slice1 ht hc h with ⟨hcs,hx⟩ | ⟨ad,l,c,m,n,V,D,Pl,hcs,_,hl,_,hm,hx,hV⟩
 ·cases hcs
  exact ⟨λ_=>undef,pL _ _,λy hy=>by simp at hy,λi hi=>by omega,.inl ⟨by rw [hx],rfl⟩⟩
 ·cases hcs
  simp only [if_true] at hm
  refine ⟨V,⟨by simp,hl,?_⟩,λy hy=>?_,λi hi=>⟨n,_,(hV i (by omega)).2⟩,.inr ⟨_,_,by rw [hx],by simp; omega⟩⟩
  ·refine .inr ⟨ad,rfl,λj v hj=>?_⟩
   have h9:j<len:=by
    rcases Nat.lt_or_ge j len with h | h
    ·exact h
    ·rw [List.getElem?_eq_none (by simpa using h)] at hj; cases hj
   rw [List.getElem?_map,List.getElem?_range h9] at hj
   simp at hj; subst hj
   exact (hV j (by omega)).1
  ·unfold Slc.blk at hy
   split at hy
   ·cases hy
   ·next hc0=>
    simp at hy; subst hy
    have k3 : ¬ cap=0:=hc0
    have:=World.block_lt_of_cell? W _ (hV 0 (by omega)).1
    rwa [add0] at this
theorem qXL {n:Nat} {v:Value} {y:DataW H×List MemPlace} (h:DataW.trod enc prog W 0 spare held n 5 [v]=some y) : ∃ c:UInt8,v = .int .u8 c.toNat:=by
 obtain ⟨k,h1,h2,h3⟩:=DataW.trod_int Tryz.underlying5 h
 simp at h1
 simp only [Lit.wf,Bool.and_eq_true,decide_eq_true_eq] at h3
 have e1:IntKind.u8.min=0:=by decide
 have e2:IntKind.u8.max=255:=by decide
 rw [e1,e2] at h3
 refine ⟨UInt8.ofNat k.toNat,?_⟩
 rw [h1]
 congr 1
 simp [UInt8.toNat_ofNat']; omega
theorem qBT {α:Type} (g:α->Value) (d:α) (V:Nat->Value) (n:Nat) (h : ∀ i,i<n->∃ c,V i=g c) : ∃ l:List α,(List.range n).map V=l.map g:=by
 induction n with
 | zero=>exact ⟨[],rfl⟩
 | succ n ih=>
   obtain ⟨l,hl⟩:=ih λi hi=>h i (by omega)
   obtain ⟨c,hc⟩:=h n (by omega)
   exact ⟨l++[c],by rw [List.range_succ,List.map_append,hl,List.map_append]; simp [hc]⟩
theorem own:ownKnob prog.godebug=none:=by kernel_rfl
theorem laidOut:laidOutB prog=true:=by kernel_rfl
theorem qJO {w w':World} (h:Mod NoB w w'):Below w.heap.size w w':=⟨h.os,h.tape,h.output,h.size,λk hk=>h.block k hk (λh=>h)⟩
theorem jAZ {k:FuncId} {args:Array Value} {w:World} (h:Calls prog k args w (Ret λv w'=>v = .bool true/\Mod NoB w w')):Calls prog k args w λe w'=>e = .returned (.bool true)/\Below w.heap.size w w':=
 h.mono λe w' he=>by
  cases e with
  | returned v=>exact ⟨congrArg _ he.1,qJO he.2⟩
  | panicked c=>exact he.elim
  | outgrown=>exact he.elim
theorem jGZ:prog.underlying 36=some (.slice 3):=by kernel_rfl
end
def uF:List (String×DataW Unit):=[("buttress/edwards.curve",Rows.laid_buttress_edwards_curve),("buttress/edwards.twice",Rows.laid_buttress_edwards_twice),("buttress/sha.begin",Rows.laid_buttress_sha_begin),("buttress/sha.rest",Rows.laid_buttress_sha_rest)]
theorem qJR (os:Os) (args:Array Value):laidMetH prog uF ((World.doorLaid prog 29 os).forCall (λ_ _=>0) ⟨#[],args,[]⟩).memory:=
 laidMetH_of_parts3 (fuel:=8) (laidMet_of_run' 8 (by kernel_rfl) (by kernel_rfl)) (by kernel_rfl) (by kernel_rfl)
theorem qAY {W:World} {name:String} {l:List UInt64} {g:Nat} (h:Lib.TabIs prog W name .u64 (l.map λx=>(x.toNat:Int))) (hg:prog.globalNamed name=some g):Rd W ⟨g,0,none⟩ (us l):=by
 intro j v hj
 have h9:j<l.length:=by
  rcases Nat.lt_or_ge j l.length with h | h
  ·exact h
  ·rw [List.getElem?_eq_none (by simpa using h)] at hj; cases hj
 rw [aO,Nat.zero_add,h.cell hg j (by simpa using h9)]
 rw [pU h9] at hj
 rw [<-hj]
 simp [List.getD,h9]
theorem qJH {W:World} {name:String} {l:List UInt64} {g n:Nat} (h:Lib.TabIs prog W name .u64 (l.map λx=>(x.toNat:Int))) (hg:prog.globalNamed name=some g) (hn:l.length=n) (h0:0<n):TR W (g,n):=by
 have hr:=qAY h hg
 refine ⟨?_,l,hn,hr⟩
 have:=hr 0 _ (pU (show 0<l.length by omega))
 simpa using World.block_lt_of_cell? W _ this
theorem tN {W:World} (h:laidMetH prog uF W):iW W:=by
 unfold uF at h
 rw [MakeChecks.laidMetH_plain _ _ _ (by kernel_rfl)] at h
 have e1:(Rows.laid_buttress_sha_begin:DataW Unit)=Lib.tabData .u64 (H0.map λx=>(x.toNat:Int)):=by kernel_rfl
 have e2:(Rows.laid_buttress_sha_rest:DataW Unit)=Lib.tabData .u64 (KS.map λx=>(x.toNat:Int)):=by kernel_rfl
 have e3:(Rows.laid_buttress_edwards_curve:DataW Unit)=Lib.tabData .u64 (([929955233495203,466365720129213,1662059464998953,2033849074728123,1442794654840575]:List UInt64).map λx=>(x.toNat:Int)):=by kernel_rfl
 have e4:(Rows.laid_buttress_edwards_twice:DataW Unit)=Lib.tabData .u64 (([1859910466990425,932731440258426,1072319116312658,1815898335770999,633789495995903]:List UInt64).map λx=>(x.toNat:Int)):=by kernel_rfl
 rw [e1,e2,e3,e4] at h
 exact ⟨⟨qAY (Lib.tabIs_of_head (g:=3) (t:=447) (e:=188) (n:=8) (by kernel_rfl) (by kernel_rfl) (by kernel_rfl) (by kernel_rfl) (by kernel_rfl) (by kernel_rfl) h.tail.tail) (by kernel_rfl),
  qAY (Lib.tabIs_of_head (g:=4) (t:=470) (e:=188) (n:=80) (by kernel_rfl) (by kernel_rfl) (by kernel_rfl) (by kernel_rfl) (by kernel_rfl) (by kernel_rfl) h.tail.tail.tail) (by kernel_rfl)⟩,
  qJH (Lib.tabIs_of_head (g:=1) (t:=285) (e:=188) (n:=5) (by kernel_rfl) (by kernel_rfl) (by kernel_rfl) (by kernel_rfl) (by kernel_rfl) (by kernel_rfl) h.tail) (by kernel_rfl) rfl (by omega),
  qJH (Lib.tabIs_of_head (g:=2) (t:=285) (e:=188) (n:=5) (by kernel_rfl) (by kernel_rfl) (by kernel_rfl) (by kernel_rfl) (by kernel_rfl) (by kernel_rfl) h) (by kernel_rfl) rfl (by omega)⟩
section
variable {H:Type} {enc:TypeId×Value->H} {W:World} {spare:Nat->Bool} {held:Bool} {fuel:Nat}
theorem qAF {t e:TypeId} {b:Nat} (hu:prog.underlying t=some (.slice e)) (hb:prog.bytesOf e=b) (hb0:0<b) {ts:List TypeId} {ds:List (DataW H)} (h:(DataW.weightsEach prog ts ds).all (·<=reachBytes)=true) {j:Nat} (ht:ts[j]? = some t) {len cap:Nat} (hl:len<=cap) {d:DataW H}
 (hd:ds[j]? = some d) (hc:(d = .nil/\cap=0)\/∃ es ss,d = .slice es ss/\es.length+ss.length=cap):len<=1000000000000000:=by
 rcases hc with ⟨_,hc⟩ | ⟨es,ss,rfl,hc⟩
 ·omega
 ·have:=sized_slice h ht hd hu
  rw [hb,hc] at this
  have:=reachBytes_lt
  have h3:cap<=b*cap:=Nat.le_mul_of_pos_left cap hb0
  have h4:cap<=cap*b:=Nat.le_mul_of_pos_right cap hb0
  omega
theorem qLX:prog.bytesOf 40=112:=by kernel_rfl
end
end Go.Proofs.YthaefcgpbccmbaaGreatDoor
end
section
namespace Go.Sh
structure Rc where
 key:zY
 cl:Int
 sq:Int
 ctx:List (Int×Int)
 gone:Bool
 val:zY
 sig:zY
deriving DecidableEq
def bI (n:Int):zY:=(List.range 8).map λi=>(aM (aP n) (8*(7 - i))).toUInt8
@[simp] theorem jF (n:Int):(bI n).length=8:=by simp [bI]
def eG (l:zY):zY:=bI (l.length:Int)++l
def aU (d:Int×Int):Bool:=decide (1<=d.1)&&decide (d.1<=8)&&decide (1<=d.2)&&decide (d.2<=1073741824)
def bG:List (Int×Int)->Bool
 | []=>true
 | [d]=>aU d
 | d :: e :: l=>aU d&&decide (d.1<e.1)&&bG (e :: l)
def gI (v:List (Int×Int)) (d:Int×Int):Bool:=bG v&&aU d&&v.any λe=>decide (e.1=d.1)&&decide (d.2<=e.2)
def Rc.dot (r:Rc):Int×Int:=(r.cl,r.sq)
def Rc.shaped (r:Rc):Bool:=decide (1<=r.key.length)&&decide (r.key.length<=64)&&aU r.dot&&bG r.ctx&&!gI r.ctx r.dot&&decide (r.val.length<=1024)&&(!r.gone || decide (r.val.length=0))
def Rc.bad (r:Rc):Bool:=!(decide (1<=r.key.length)&&decide (r.key.length<=64)&&aU r.dot&&bG r.ctx&&!gI r.ctx r.dot)
theorem fB (r:Rc):r.shaped=(!r.bad&&decide (r.val.length<=1024)&&(!r.gone || decide (r.val.length=0))):=by simp [Rc.shaped,Rc.bad]
def Rc.right (r:Rc):Bool:=r.shaped&&decide (r.sig.length=64)
def Rc.text (r:Rc):zY:=
 [1]++eG r.key++bI r.cl++bI r.sq++bI (r.ctx.length:Int)++(r.ctx.flatMap λd=>bI d.1++bI d.2)++[if r.gone then 1 else 0]++eG r.val
def Rc.enc (r:Rc):zY:=r.text++r.sig
def Rc.over (a b:Rc):Bool:=decide (a.key=b.key)&&a.shaped&&b.shaped&&gI a.ctx b.dot
theorem jY {α:Type} {lt:α->α->Prop} (irr : ∀ x,¬ lt x x) (tr : ∀ x y z,lt x y->lt y z->lt x z) : ∀ {l m:List α},l.Pairwise lt->m.Pairwise lt->(∀ x,x∈l↔x∈m)->l=m
 | [],[],_,_,_=>rfl
 | [],b :: m,_,_,h=>by have:=(h b).2 (by simp); simp at this
 | a :: l,[],_,_,h=>by have:=(h a).1 (by simp); simp at this
 | a :: l,b :: m,hl,hm,h=>by
   have h9:=List.pairwise_cons.1 hl
   have k3:=List.pairwise_cons.1 hm
   have e:a=b:=by
    have h1:=(h a).1 (by simp)
    have h2:=(h b).2 (by simp)
    rcases List.mem_cons.1 h1 with h1 | h1
    ·exact h1
    ·rcases List.mem_cons.1 h2 with h2 | h2
     ·exact h2.symm
     ·exact absurd (tr _ _ _ (k3.1 a h1) (h9.1 b h2)) (irr b)
   subst e
   congr 1
   refine jY irr tr h9.2 k3.2 λx=>?_
   constructor
   ·intro hx
    rcases List.mem_cons.1 ((h x).1 (by simp [hx])) with h1 | h1
    ·subst h1; exact absurd (h9.1 x hx) (irr x)
    ·exact h1
   ·intro hx
    rcases List.mem_cons.1 ((h x).2 (by simp [hx])) with h1 | h1
    ·subst h1; exact absurd (k3.1 x hx) (irr x)
    ·exact h1
def cY (a b:Rc):Prop:=a.cl<b.cl\/(a.cl=b.cl/\a.sq<b.sq)
theorem gX (x:Rc) : ¬ cY x x:=by unfold cY; omega
theorem oH (x y z:Rc) (h:cY x y) (h':cY y z):cY x z:=by unfold cY at *; omega
structure iD (l out:List Rc):Prop where
 pw:out.Pairwise cY
 mem : ∀ r,r∈out↔r∈l/\∀ r'∈l,r'.cl=r.cl->r'.sq=r.sq->¬ (r'.enc<r.enc)
theorem iD.uniq {l l' c c':List Rc} (h:iD l c) (h':iD l' c') (hs : ∀ r,r∈l↔r∈l'):c=c':=
 jY gX oH h.pw h'.pw λx=>by
  rw [h.mem,h'.mem]
  simp only [hs]
def nH (c:List Rc):List Rc:=c.filter λx=>!c.any λy=>!decide (x.cl=y.cl/\x.sq=y.sq)&&y.over x
def dR (l out:List Rc):Prop:=∃ c,iD l c/\out=nH c
theorem dR.uniq {l l' c c':List Rc} (h:dR l c) (h':dR l' c') (hs : ∀ r,r∈l↔r∈l'):c=c':=by
 obtain ⟨c,h1,rfl⟩:=h
 obtain ⟨c',h2,rfl⟩:=h'
 rw [h1.uniq h2 hs]
def bF (l:List Rc) (k:zY):List Rc:=l.filter λr=>r.right&&decide (r.key=k)
structure dO (l:List Rc) (out:List (zY×List Rc)):Prop where
 pw:out.Pairwise λa b=>a.1<b.1
 mem : ∀ k s,(k,s)∈out↔s≠[]/\dR (bF l k) s
theorem dO.uniq {l l':List Rc} {o o':List (zY×List Rc)} (h:dO l o) (h':dO l' o') (hs : ∀ r,r∈l↔r∈l'):o=o':=by
 refine jY (lt:=λa b=>a.1<b.1) (λx hx=>?_) (λx y z h1 h2=>?_) h.pw h'.pw λ⟨k,s⟩=>?_
 ·exact List.lt_irrefl _ hx
 ·exact List.lt_trans h1 h2
 ·rw [h.mem,h'.mem]
  have e : ∀ r,r∈bF l k↔r∈bF l' k:=λr=>by simp [bF,hs]
  have e2 : ∀ c,iD (bF l k) c↔iD (bF l' k) c:=λc=>
   ⟨λh=>⟨h.pw,λr=>by rw [h.mem]; simp only [e]⟩,λh=>⟨h.pw,λr=>by rw [h.mem]; simp only [e]⟩⟩
  simp only [dR,e2]
end Go.Sh
end
section
namespace Go.Proofs.YthaefcgpbccmbaaGreatDoor
open Go Go.Sh
open Go.Proofs.Tryz
def qXK (b:Slc) (w:World) (R:RW):Prop:=
 aD prog 195 [.int .i64 b.len] w (aG R) λv w1=>∃ x:Slc,v=(zS x)/\aH prog (Instr.buildSlice 77 2 #[(0,(zS x)),(1,(zS b))]) w1 λv1 w2=>∃ x1:Slc,v1=(zS x1)/\aD prog 196 [zS x1] w2 (aG R) λv2 w3=>∃ x2:Slc,v2=(zS x2)/\R (.returned (zS x2)) w3
theorem qOX (b:Slc) {w:World} {R:RW} (h9:qXK b w R):Calls prog 194 #[zS b] w R:=
 zC (q0 .z (q0 .z .z)) func194 [.sl b] h9
def qYL (n:Int) (w:World) (R:RW):Prop:=
 aH prog (Instr.makeSlice 38 (.int .i64 8) (.int .i64 8)) w λv w1=>∃ x:Slc,v=(zS x)/\∃ (inv:zT) (mu:zU),inv [.i .i64 0] w1/\(∀ x1:Int,∀ w2:World,inv [.i .i64 x1] w2->aE (decide (x1<x.len)) ((0<=(zW ((8:Int)*x1))/\((0<=(zW ((7:Int) - x1))/\(zW ((7:Int) - x1))<(x.len:Nat))/\aA x.a λa=>aJ prog (storeVar 5 (a.add (((zW ((7:Int) - x1))).toNat*1)) (.int .u8 (((aM (aP n) ((zW ((8:Int)*x1))).toNat)).toUInt8).toNat)) w2 λw3=>(inv [.i .i64 (zW (x1+1))] w3/\mu [.i .i64 (zW (x1+1))] w3<mu [.i .i64 x1] w2)))) (R (.returned (zS x)) w2))
theorem qMF (n:Int) {w:World} {R:RW} (h9:qYL n w R):Calls prog 195 #[.int .i64 n] w R:=
 zC (q0 .z (q0 .z (q0 (q0 .z (.block none (.loop [(8,(.i .i64))] (q0 .z (q0 (.cond .z .z) (q0 (.block none (q0 .z .z)) .z)))))) (q0 .z .z)))) func195 [.i .i64 n] h9
def qVE (parts:Slc) (w:World) (R:RW):Prop:=
 aD prog 191 [zS parts] w (aG R) λv w1=>∃ x:Slc,v=(zS x)/\R (.returned (zS x)) w1
theorem qQZ (parts:Slc) {w:World} {R:RW} (h9:qVE parts w R):Calls prog 196 #[zS parts] w R:=
 zC (q0 .z (q0 .z .z)) func196 [.sl parts] h9
def jDD (v:Slc) (w:World) (R:RW):Prop:=
 aD prog 161 [zS v] w (aG R) λv1 w1=>∃ x:Bool,v1=(.bool x)/\R (.returned (.bool x)) w1
theorem jAF (v:Slc) {w:World} {R:RW} (h9:jDD v w R):Calls prog 98 #[zS v] w R:=
 zC (q0 .z (q0 .z .z)) func98 [.sl v] h9
def jEA (da db:Int) (w:World) (R:RW):Prop:=
 aH prog (Instr.box 52 (.agg #[.int .i64 da,.int .i64 db])) w λv w1=>∃ d:zO,v=(.pointer d)/\aA d λa=>∃ x:Int,Rd w1 (a.add 0) [.int .i64 x]/\aE (decide (x>=1)) (aA d λa1=>∃ x1:Int,Rd w1 (a1.add 0) [.int .i64 x1]/\aE (decide (x1<=8)) (aA d λa2=>∃ x2:Int,Rd w1 (a2.add 1) [.int .i64 x2]/\aE (decide (x2>=1)) (aA d λa3=>∃ x3:Int,Rd w1 (a3.add 1) [.int .i64 x3]/\R (.returned (.bool (decide (x3<=1073741824)))) w1) (zF R false w1)) (zF R false w1)) (zF R false w1)
theorem qYY (da db:Int) {w:World} {R:RW} (h9:jEA da db w R):Calls prog 99 #[.agg #[.int .i64 da,.int .i64 db]] w R:=
 zC (q0 .z (q0 .z .z)) func99 [.agg [.i .i64 da,.i .i64 db]] h9
def qWK (v:Slc) (w:World) (R:RW):Prop:=
 ∃ (inv:zT) (mu:zU),inv [.i .i64 0] w/\(∀ x:Int,∀ w1:World,inv [.i .i64 x] w1->aE (decide (x<v.len)) ((zB x v.len/\aA v.a λa=>∃ xa xb:Int,Rd w1 (a.add (x.toNat*2)) [.int .i64 xa,.int .i64 xb]/\aH prog (Instr.alloc 52 true (.tuple #[])) w1 λv1 w2=>∃ d:zO,v1=(.pointer d)/\aA d λa1=>aJ prog (storeVar 52 a1 (.agg #[.int .i64 xa,.int .i64 xb])) w2 λw3=>∃ sx:zP,sx w3.drew/\aA d λa2=>∃ xa1 xb1:Int,(∀ w',sx w'->Rd w' a2 [.int .i64 xa1,.int .i64 xb1])/\((aD prog 99 [.agg #[.int .i64 xa1,.int .i64 xb1]] w3.drew (aG R) λv2 w4=>∃ x1:Bool,v2=(.bool x1)/\(sx w4/\aE (!x1) (zF R false w4) (aE (decide (x > 0)) (((0<=(zW (x - 1))/\(zW (x - 1))<(v.len:Nat))/\aA v.a λa3=>aA d λa4=>∃ x2:Int,(∀ w',sx w'->Rd w' ((a3.add (((zW (x - 1))).toNat*2)).add 0) [.int .i64 x2])/\∃ x3:Int,(∀ w',sx w'->Rd w' (a4.add 0) [.int .i64 x3])/\aE (decide (x2>=x3)) (zF R false w4) ((inv [.i .i64 (zW (x+1))] w4/\mu [.i .i64 (zW (x+1))] w4<mu [.i .i64 x] w1)))) ((inv [.i .i64 (zW (x+1))] w4/\mu [.i .i64 (zW (x+1))] w4<mu [.i .i64 x] w1)))))/\True))) (zF R true w1))
theorem qSQ (v:Slc) {w:World} {R:RW} (h9:qWK v w R):Calls prog 161 #[zS v] w R:=
 zC (q0 .z (q0 (q0 .z (.block none (.loop [(7,(.i .i64))] (q0 .z (q0 (.cond .z .z) (q0 (.block none (q0 .z (q0 (.draw 1 (.take 0 (.all [(1,(.take 2 (.take 3 (.take 4 (.take 5 (.take 6 (.take 7 (.take 8 (.take 9 (.take 10 (.take 11 (.take 13 (.take 12 (.take 14 (.take 15 (.take 16 (.take 17 .done)))))))))))))))))]))) (.cond (q0 .z .z) .z)))) .z)))))) (q0 .z .z))) func161 [.sl v] h9
def jFH (v:Slc) (da db:Int) (w:World) (R:RW):Prop:=
 aH prog (Instr.box 52 (.agg #[.int .i64 da,.int .i64 db])) w λv1 w1=>∃ d:zO,v1=(.pointer d)/\aD prog 98 [zS v] w1 (aG R) λv2 w2=>∃ x:Bool,v2=(.bool x)/\aE x (aA d λa=>∃ xa xb:Int,Rd w2 a [.int .i64 xa,.int .i64 xb]/\aD prog 99 [.agg #[.int .i64 xa,.int .i64 xb]] w2 (aG R) λv3 w3=>∃ x1:Bool,v3=(.bool x1)/\aE x1 (aA d λa1=>∃ xa1 xb1:Int,Rd w3 a1 [.int .i64 xa1,.int .i64 xb1]/\aD prog 100 [zS v,.agg #[.int .i64 xa1,.int .i64 xb1]] w3 (aG R) λv4 w4=>∃ x2:Bool,v4=(.bool x2)/\R (.returned (.bool x2)) w4) (zF R false w3)) (zF R false w2)
theorem qZT (v:Slc) (da db:Int) {w:World} {R:RW} (h9:jFH v da db w R):Calls prog 45 #[zS v,.agg #[.int .i64 da,.int .i64 db]] w R:=
 zC (q0 .z (q0 .z .z)) func45 [.sl v,.agg [.i .i64 da,.i .i64 db]] h9
def qVF (v:Slc) (da db:Int) (w:World) (R:RW):Prop:=
 aH prog (Instr.box 52 (.agg #[.int .i64 da,.int .i64 db])) w λv1 w1=>∃ d:zO,v1=(.pointer d)/\aA d λa=>∃ x:Int,Rd w1 (a.add 0) [.int .i64 x]/\aD prog 162 [zS v,.int .i64 x] w1 (aG R) λv2 w2=>∃ xa:Int,∃ xb:Bool,v2=(.tuple #[.int .i64 xa,.bool xb])/\aE xb ((zB xa v.len/\aA v.a λa1=>aA d λa2=>∃ x1:Int,Rd w2.drew ((a1.add (xa.toNat*2)).add 1) [.int .i64 x1]/\∃ x2:Int,Rd w2.drew (a2.add 1) [.int .i64 x2]/\R (.returned (.bool (decide (x1>=x2)))) w2.drew)) (zF R false w2.drew)
theorem qOH (v:Slc) (da db:Int) {w:World} {R:RW} (h9:qVF v da db w R):Calls prog 100 #[zS v,.agg #[.int .i64 da,.int .i64 db]] w R:=
 zC (q0 .z (q0 .z (q0 (.draw 2 (.take 0 (.take 1 (.take 2 (.take 3 (.take 4 (.take 5 (.take 7 (.take 6 (.take 8 (.take 9 (.take 10 (.take 11 .done))))))))))))) .z))) func100 [.sl v,.agg [.i .i64 da,.i .i64 db]] h9
def qTJ (v:Slc) (client:Int) (w:World) (R:RW):Prop:=
 aD prog 220 [zS v,.int .i64 client,.func (.func 221) #[] #[]] w (aG R) λv1 w1=>∃ xa:Int,∃ xb:Bool,v1=(.tuple #[.int .i64 xa,.bool xb])/\R (.returned (.tuple #[.int .i64 xa,.bool xb])) w1
theorem qPD (v:Slc) (client:Int) {w:World} {R:RW} (h9:qTJ v client w R):Calls prog 162 #[zS v,.int .i64 client] w R:=
 zC (q0 .z (q0 .z .z)) func162 [.sl v,.i .i64 client] h9
def qVV (da db c:Int) (w:World) (R:RW):Prop:=
 aH prog (Instr.box 52 (.agg #[.int .i64 da,.int .i64 db])) w λv w1=>∃ d:zO,v=(.pointer d)/\aA d λa=>∃ x:Int,Rd w1 (a.add 0) [.int .i64 x]/\aD prog 222 [.int .i64 x,.int .i64 c] w1 (aG R) λv1 w2=>∃ x1:Int,v1=(.int .i64 x1)/\R (.returned (.int .i64 x1)) w2
theorem qPU (da db c:Int) {w:World} {R:RW} (h9:qVV da db c w R):Calls prog 221 #[.agg #[.int .i64 da,.int .i64 db],.int .i64 c] w R:=
 zC (q0 .z (q0 .z .z)) func221 [.agg [.i .i64 da,.i .i64 db],.i .i64 c] h9
def qWV (x:Slc) (target:Int) (cmp:Value) (w:World) (R:RW):Prop:=
 ∃ (inv:zT) (mu:zU),inv [.i .i64 0,.i .i64 (x.len:Int)] w/\(∀ i j:Int,∀ w1:World,inv [.i .i64 i,.i .i64 j] w1->aE (decide (i<j)) ((0<=(((1:UInt64)).toNat:Int)/\((0<=(zW (((aM (aP (zW (i+j))) ((((1:UInt64)).toNat:Int)).toNat)).toNat:Int))/\(zW (((aM (aP (zW (i+j))) ((((1:UInt64)).toNat:Int)).toNat)).toNat:Int))<(x.len:Nat))/\aA x.a λa=>∃ xa xb:Int,Rd w1 (a.add (((zW (((aM (aP (zW (i+j))) ((((1:UInt64)).toNat:Int)).toNat)).toNat:Int))).toNat*2)) [.int .i64 xa,.int .i64 xb]/\dY prog cmp [.agg #[.int .i64 xa,.int .i64 xb],.int .i64 target] w1 (aG R) λv w2=>∃ x1:Int,v=(.int .i64 x1)/\aE (decide (x1<0)) ((inv [.i .i64 (zW ((zW (((aM (aP (zW (i+j))) ((((1:UInt64)).toNat:Int)).toNat)).toNat:Int))+1)),.i .i64 j] w2/\mu [.i .i64 (zW ((zW (((aM (aP (zW (i+j))) ((((1:UInt64)).toNat:Int)).toNat)).toNat:Int))+1)),.i .i64 j] w2<mu [.i .i64 i,.i .i64 j] w1)) ((inv [.i .i64 i,.i .i64 (zW (((aM (aP (zW (i+j))) ((((1:UInt64)).toNat:Int)).toNat)).toNat:Int))] w2/\mu [.i .i64 i,.i .i64 (zW (((aM (aP (zW (i+j))) ((((1:UInt64)).toNat:Int)).toNat)).toNat:Int))] w2<mu [.i .i64 i,.i .i64 j] w1))))) (aE (decide (i<x.len)) ((zB i x.len/\aA x.a λa1=>∃ xa1 xb1:Int,Rd w1 (a1.add (i.toNat*2)) [.int .i64 xa1,.int .i64 xb1]/\dY prog cmp [.agg #[.int .i64 xa1,.int .i64 xb1],.int .i64 target] w1 (aG R) λv1 w3=>∃ x2:Int,v1=(.int .i64 x2)/\R (.returned (.tuple #[.int .i64 i,.bool (x2==(0:Int))])) w3)) (R (.returned (.tuple #[.int .i64 i,.bool false])) w1)))
theorem qLL (x:Slc) (target:Int) (cmp:Value) {w:World} {R:RW} (h9:qWV x target cmp w R):Calls prog 220 #[zS x,.int .i64 target,cmp] w R:=
 zC (q0 .z (q0 .z (q0 .z (q0 (.block none (.loop [(9,(.i .i64)),(10,(.i .i64))] (q0 (q0 .z (.cond .z .z)) (.block none (q0 .z (q0 .z (.cond .z .z))))))) (q0 .z .z))))) func220 [.sl x,.i .i64 target,.v cmp] h9
def qTX (x y:Int) (w:World) (R:RW):Prop:=
 aD prog 282 [.int .i64 x] w (aG R) λv w1=>∃ x1:Bool,v=(.bool x1)/\aD prog 282 [.int .i64 y] w1 (aG R) λv1 w2=>∃ x2:Bool,v1=(.bool x2)/\aE x1 (aE x2 (R (.returned (.int .i64 0)) w2) (R (.returned (.int .i64 (-1:Int))) w2)) (aE x2 (R (.returned (.int .i64 1)) w2) (aE (decide (x<y)) (R (.returned (.int .i64 (-1:Int))) w2) (aE (decide (x > y)) (R (.returned (.int .i64 1)) w2) (R (.returned (.int .i64 0)) w2))))
theorem qRA (x y:Int) {w:World} {R:RW} (h9:qTX x y w R):Calls prog 222 #[.int .i64 x,.int .i64 y] w R:=
 zC (q0 .z (q0 .z (q0 .z (q0 (q0 .z (.cond (q0 (q0 .z (.cond (q0 .z .z) .z)) (q0 .z .z)) .z)) (q0 (q0 .z (.cond (q0 .z .z) .z)) (q0 (q0 .z (.cond (q0 .z .z) .z)) (q0 (q0 .z (.cond (q0 .z .z) .z)) (q0 .z .z)))))))) func222 [.i .i64 x,.i .i64 y] h9
def qTZ (x:Int) (w:World) (R:RW):Prop:=
 R (.returned (.bool (x != x))) w
theorem qLC (x:Int) {w:World} {R:RW} (h9:qTZ x w R):Calls prog 282 #[.int .i64 x] w R:=
 zC (q0 .z (q0 .z .z)) func282 [.i .i64 x] h9
def jGH (wa:zY) (wb wc:Int) (wd:Slc) (we:Bool) (wf wg:Slc) (w:World) (R:RW):Prop:=
 aH prog (Instr.box 101 (zR wa wb wc wd we wf wg)) w λv w1=>∃ wv:zO,v=(.pointer wv)/\aH prog (Instr.alloc 52 true (.tuple #[])) w1 λv1 w2=>∃ x:zO,v1=(.pointer x)/\aA wv λa=>∃ x1:Int,Rd w2 ((a.add 0).add 1) [.int .i64 x1]/\aA wv λa1=>∃ x2:Int,Rd w2 ((a1.add 0).add 2) [.int .i64 x2]/\aA x λa2=>aJ prog (storeVar 52 a2 (.agg #[.int .i64 x1,.int .i64 x2])) w2 λw3=>aA x λa3=>∃ xa xb:Int,Rd w3 a3 [.int .i64 xa,.int .i64 xb]/\R (.returned (.agg #[.int .i64 xa,.int .i64 xb])) w3
theorem qZV (wa:zY) (wb wc:Int) (wd:Slc) (we:Bool) (wf wg:Slc) {w:World} {R:RW} (h9:jGH wa wb wc wd we wf wg w R):Calls prog 46 #[zR wa wb wc wd we wf wg] w R:=
 zC (q0 .z (q0 .z .z)) func46 [.agg [.agg [.s wa,.i .i64 wb,.i .i64 wc,.sl wd,.b we,.sl wf,.sl wg]]] h9
def jHJ (wa:zY) (wb wc:Int) (wd:Slc) (we:Bool) (wf wg:Slc) (w:World) (R:RW):Prop:=
 aH prog (Instr.box 101 (zR wa wb wc wd we wf wg)) w λv w1=>∃ wv:zO,v=(.pointer wv)/\∃ j:zT,(aA wv λa=>∃ x:zY,Rd w1 ((a.add 0).add 0) [.string ⟨x.toArray⟩]/\aE (decide ((x.length:Int)<(1:Int))) (j [.b true] w1) (aA wv λa1=>∃ x1:zY,Rd w1 ((a1.add 0).add 0) [.string ⟨x1.toArray⟩]/\aE (decide ((x1.length:Int) > (64:Int))) (j [.b true] w1) (aA wv λa2=>∃ xa:zY,∃ xb xc:Int,∃ xd:Slc,∃ xe:Bool,∃ xf xg:Slc,Rd w1 a2 (yR xa xb xc xd xe xf xg)/\aD prog 46 [zR xa xb xc xd xe xf xg] w1 (aG R) λv1 w2=>∃ xa1 xb1:Int,v1=(.agg #[.int .i64 xa1,.int .i64 xb1])/\aH prog (Instr.buildSlice 37 1 #[(0,(.agg #[.int .i64 xa1,.int .i64 xb1]))]) w2 λv2 w3=>∃ x2:Slc,v2=(zS x2)/\aD prog 98 [zS x2] w3 (aG R) λv3 w4=>∃ x3:Bool,v3=(.bool x3)/\aE (!x3) (j [.b true] w4) (aA wv λa3=>∃ x4:Slc,Rd w4 ((a3.add 0).add 3) [zS x4]/\aD prog 98 [zS x4] w4 (aG R) λv4 w5=>∃ x5:Bool,v4=(.bool x5)/\aE (!x5) (j [.b true] w5) (∃ sx:zP,sx w5.drew/\aA wv λa4=>∃ x6:Slc,(∀ w',sx w'->Rd w' ((a4.add 0).add 3) [zS x6])/\aA wv λa5=>∃ xa2:zY,∃ xb2 xc1:Int,∃ xd1:Slc,∃ xe1:Bool,∃ xf1 xg1:Slc,(∀ w',sx w'->Rd w' a5 (yR xa2 xb2 xc1 xd1 xe1 xf1 xg1))/\((aD prog 46 [zR xa2 xb2 xc1 xd1 xe1 xf1 xg1] w5.drew (aG R) λv5 w6=>∃ xa3 xb3:Int,v5=(.agg #[.int .i64 xa3,.int .i64 xb3])/\(sx w6/\((aD prog 45 [zS x6,.agg #[.int .i64 xa3,.int .i64 xb3]] w6 (aG R) λv6 w7=>∃ x7:Bool,v6=(.bool x7)/\(sx w7/\j [.b x7] w7))/\True)))/\True))))))/\(∀ x8:Bool,∀ w8:World,j [.b x8] w8->aE x8 (zF R false w8) (aA wv λa6=>∃ x9:Slc,Rd w8 ((a6.add 0).add 5) [zS x9]/\aE (decide ((x9.len:Int)<=(1024:Int))) (aA wv λa7=>∃ x10:Bool,Rd w8 ((a7.add 0).add 4) [.bool x10]/\aE (!x10) (zF R true w8) (aA wv λa8=>∃ x11:Slc,Rd w8 ((a8.add 0).add 5) [zS x11]/\R (.returned (.bool ((x11.len:Int)==(0:Int)))) w8)) (zF R false w8)))
theorem jAI (wa:zY) (wb wc:Int) (wd:Slc) (we:Bool) (wf wg:Slc) {w:World} {R:RW} (h9:jHJ wa wb wc wd we wf wg w R):Calls prog 44 #[zR wa wb wc wd we wf wg] w R:=
 zC (q0 .z (q0 (.block none (.seq (some [(3,.b)]) (q0 .z (.cond .z (q0 .z (.cond .z (q0 .z (.cond .z (q0 .z (.cond .z (.draw 1 (.take 0 (.take 1 (.take 2 (.take 3 (.all [(4,(.all [(5,(.take 6 .done))]))])))))))))))))) (.cond (q0 .z .z) .z))) (q0 .z .z))) func44 [.agg [.agg [.s wa,.i .i64 wb,.i .i64 wc,.sl wd,.b we,.sl wf,.sl wg]]] h9
def jDF (ra:zY) (rb rc:Int) (rd:Slc) (re:Bool) (rf rg:Slc) (w:World) (R:RW):Prop:=
 aH prog (Instr.box 40 (zR ra rb rc rd re rf rg)) w λv w1=>∃ r:zO,v=(.pointer r)/\aA r λa=>∃ xa:zY,∃ xb xc:Int,∃ xd:Slc,∃ xe:Bool,∃ xf xg:Slc,Rd w1 a (yR xa xb xc xd xe xf xg)/\aD prog 44 [zR xa xb xc xd xe xf xg] w1 (aG R) λv1 w2=>∃ x:Bool,v1=(.bool x)/\aE x (aA r λa1=>∃ x1:Slc,Rd w2 (a1.add 6) [zS x1]/\R (.returned (.bool ((x1.len:Int)==(64:Int)))) w2) (zF R false w2)
theorem jAX (ra:zY) (rb rc:Int) (rd:Slc) (re:Bool) (rf rg:Slc) {w:World} {R:RW} (h9:jDF ra rb rc rd re rf rg w R):Calls prog 41 #[zR ra rb rc rd re rf rg] w R:=
 zC (q0 .z (q0 .z .z)) func41 [.agg [.s ra,.i .i64 rb,.i .i64 rc,.sl rd,.b re,.sl rf,.sl rg]] h9
def qVJ (ra:zY) (rb rc:Int) (rd:Slc) (re:Bool) (rf rg:Slc) (w:World) (R:RW):Prop:=
 aH prog (Instr.box 40 (zR ra rb rc rd re rf rg)) w λv w1=>∃ r:zO,v=(.pointer r)/\aH prog (Instr.alloc 40 true (.tuple #[])) w1 λv1 w2=>∃ x:zO,v1=(.pointer x)/\∃ sx:zP,sx w2.drew/\aA r λa=>aA r λa1=>aA r λa2=>∃ x1:Slc,(∀ w',sx w'->Rd w' (a.add 3) [zS x1])/\∃ x2:Slc,(∀ w',sx w'->Rd w' (a1.add 5) [zS x2])/\∃ x3:Slc,(∀ w',sx w'->Rd w' (a2.add 6) [zS x3])/\((aD prog 185 [zS x1] w2.drew (aG R) λv2 w3=>∃ x4:Slc,v2=(zS x4)/\(sx w3/\aA r λa3=>((aD prog 186 [zS x2] w3 (aG R) λv3 w4=>∃ x5:Slc,v3=(zS x5)/\(sx w4/\((aD prog 186 [zS x3] w4 (aG R) λv4 w5=>∃ x6:Slc,v4=(zS x6)/\(sx w5/\((aJ prog (storeVar 37 (a3.add 3) (zS x4)) w5 λw6=>aA r λa4=>((aJ prog (storeVar 38 (a4.add 5) (zS x5)) w6 λw7=>aA r λa5=>((aJ prog (storeVar 38 (a5.add 6) (zS x6)) w7 λw8=>aA r λa6=>∃ xa:zY,∃ xb xc:Int,∃ xd:Slc,∃ xe:Bool,∃ xf xg:Slc,Rd w8 a6 (yR xa xb xc xd xe xf xg)/\aA x λa7=>aJ prog (storeVar 40 a7 (zR xa xb xc xd xe xf xg)) w8 λw9=>aA x λa8=>∃ xa1:zY,∃ xb1 xc1:Int,∃ xd1:Slc,∃ xe1:Bool,∃ xf1 xg1:Slc,Rd w9 a8 (yR xa1 xb1 xc1 xd1 xe1 xf1 xg1)/\R (.returned (zR xa1 xb1 xc1 xd1 xe1 xf1 xg1)) w9)/\True))/\True))/\True)))/\True)))/\True)))/\True)
theorem qPZ (ra:zY) (rb rc:Int) (rd:Slc) (re:Bool) (rf rg:Slc) {w:World} {R:RW} (h9:qVJ ra rb rc rd re rf rg w R):Calls prog 111 #[zR ra rb rc rd re rf rg] w R:=
 zC (q0 .z (q0 (.draw 1 (.take 0 (.take 3 (.take 6 (.take 1 (.take 4 (.take 7 (.all [(2,(.take 9 (.all [(5,(.all [(8,(.all [(10,(.take 11 (.all [(12,(.take 13 (.all [(14,.done)])))])))]))]))])))])))))))) (q0 .z .z))) func111 [.agg [.s ra,.i .i64 rb,.i .i64 rc,.sl rd,.b re,.sl rf,.sl rg]] h9
def jHN (seed:Slc) (ra:zY) (rb rc:Int) (rd:Slc) (re:Bool) (rf rg:Slc) (w:World) (R:RW):Prop:=
 aH prog (Instr.box 40 (zR ra rb rc rd re rf rg)) w λv w1=>∃ r:zO,v=(.pointer r)/\aH prog (Instr.alloc 40 true (.tuple #[])) w1 λv1 w2=>∃ x:zO,v1=(.pointer x)/\aA r λa=>∃ xa:zY,∃ xb xc:Int,∃ xd:Slc,∃ xe:Bool,∃ xf xg:Slc,Rd w2 a (yR xa xb xc xd xe xf xg)/\aH prog (Instr.alloc 101 true (.tuple #[])) w2 λv2 w3=>∃ wv:zO,v2=(.pointer wv)/\aA wv λa1=>aJ prog (storeVar 101 a1 (zR xa xb xc xd xe xf xg)) w3 λw4=>aD prog 110 [zS seed] w4 (aG R) λv3 w5=>∃ x1:Slc,v3=(zS x1)/\bB prog (do eqGuard .eql 38 (.tmp 11) (.const (.slice none 0 0)) (zS x1) (.slice none 0 0); binOp .eql 38 (zS x1) (.slice none 0 0)) λv4=>∃ x2:Bool,v4=(.bool x2)/\aE x2 (aA x λa2=>aJ prog (storeVar 40 a2 (.agg #[.string ⟨([]).toArray⟩,.int .i64 0,.int .i64 0,.slice none 0 0,.bool false,.slice none 0 0,.slice none 0 0])) w5 λw6=>aA x λa3=>∃ xa1:zY,∃ xb1 xc1:Int,∃ xd1:Slc,∃ xe1:Bool,∃ xf1 xg1:Slc,Rd w6 a3 (yR xa1 xb1 xc1 xd1 xe1 xf1 xg1)/\R (.returned (.tuple #[zR xa1 xb1 xc1 xd1 xe1 xf1 xg1,.int .i64 2])) w6) (aA wv λa4=>∃ xa2:zY,∃ xb2 xc2:Int,∃ xd2:Slc,∃ xe2:Bool,∃ xf2 xg2:Slc,Rd w5 a4 (yR xa2 xb2 xc2 xd2 xe2 xf2 xg2)/\aD prog 44 [zR xa2 xb2 xc2 xd2 xe2 xf2 xg2] w5 (aG R) λv5 w7=>∃ x3:Bool,v5=(.bool x3)/\aE (!x3) (aA x λa5=>aJ prog (storeVar 40 a5 (.agg #[.string ⟨([]).toArray⟩,.int .i64 0,.int .i64 0,.slice none 0 0,.bool false,.slice none 0 0,.slice none 0 0])) w7 λw8=>aA x λa6=>∃ xa3:zY,∃ xb3 xc3:Int,∃ xd3:Slc,∃ xe3:Bool,∃ xf3 xg3:Slc,Rd w8 a6 (yR xa3 xb3 xc3 xd3 xe3 xf3 xg3)/\R (.returned (.tuple #[zR xa3 xb3 xc3 xd3 xe3 xf3 xg3,.int .i64 4])) w8) (aA r λa7=>∃ xa4:zY,∃ xb4 xc4:Int,∃ xd4:Slc,∃ xe4:Bool,∃ xf4 xg4:Slc,Rd w7 a7 (yR xa4 xb4 xc4 xd4 xe4 xf4 xg4)/\aD prog 111 [zR xa4 xb4 xc4 xd4 xe4 xf4 xg4] w7 (aG R) λv6 w9=>∃ xa5:zY,∃ xb5 xc5:Int,∃ xd5:Slc,∃ xe5:Bool,∃ xf5 xg5:Slc,v6=(zR xa5 xb5 xc5 xd5 xe5 xf5 xg5)/\aA r λa8=>aJ prog (storeVar 40 a8 (zR xa5 xb5 xc5 xd5 xe5 xf5 xg5)) w9 λw10=>aA wv λa9=>∃ xa6:zY,∃ xb6 xc6:Int,∃ xd6:Slc,∃ xe6:Bool,∃ xf6 xg6:Slc,Rd w10 a9 (yR xa6 xb6 xc6 xd6 xe6 xf6 xg6)/\aD prog 113 [zR xa6 xb6 xc6 xd6 xe6 xf6 xg6] w10 (aG R) λv7 w11=>∃ x4:Slc,v7=(zS x4)/\aH prog (Instr.buildSlice 77 1 #[(0,(zS x4))]) w11 λv8 w12=>∃ x5:Slc,v8=(zS x5)/\aD prog 112 [zS seed,zS x5] w12 (aG R) λv9 w13=>∃ x6:Slc,v9=(zS x6)/\aA r λa10=>aJ prog (storeVar 38 (a10.add 6) (zS x6)) w13 λw14=>aA r λa11=>∃ xa7:zY,∃ xb7 xc7:Int,∃ xd7:Slc,∃ xe7:Bool,∃ xf7 xg7:Slc,Rd w14 a11 (yR xa7 xb7 xc7 xd7 xe7 xf7 xg7)/\aA x λa12=>aJ prog (storeVar 40 a12 (zR xa7 xb7 xc7 xd7 xe7 xf7 xg7)) w14 λw15=>aA x λa13=>∃ xa8:zY,∃ xb8 xc8:Int,∃ xd8:Slc,∃ xe8:Bool,∃ xf8 xg8:Slc,Rd w15 a13 (yR xa8 xb8 xc8 xd8 xe8 xf8 xg8)/\R (.returned (.tuple #[zR xa8 xb8 xc8 xd8 xe8 xf8 xg8,.int .i64 0])) w15))
theorem jCD (seed:Slc) (ra:zY) (rb rc:Int) (rd:Slc) (re:Bool) (rf rg:Slc) {w:World} {R:RW} (h9:jHN seed ra rb rc rd re rf rg w R):Calls prog 55 #[zS seed,zR ra rb rc rd re rf rg] w R:=
 zC (q0 .z (q0 .z (q0 (.block none (q0 .z (.cond (q0 .z .z) (q0 .z (.cond (q0 .z .z) .z))))) (q0 .z (q0 .z (q0 .z .z)))))) func55 [.sl seed,.agg [.s ra,.i .i64 rb,.i .i64 rc,.sl rd,.b re,.sl rf,.sl rg]] h9
def qUA (ra:zY) (rb rc:Int) (rd:Slc) (re:Bool) (rf rg:Slc) (w:World) (R:RW):Prop:=
 aH prog (Instr.box 40 (zR ra rb rc rd re rf rg)) w λv w1=>∃ r:zO,v=(.pointer r)/\aA r λa=>∃ xa:zY,∃ xb xc:Int,∃ xd:Slc,∃ xe:Bool,∃ xf xg:Slc,Rd w1 a (yR xa xb xc xd xe xf xg)/\aH prog (Instr.alloc 101 true (.tuple #[])) w1 λv1 w2=>∃ wv:zO,v1=(.pointer wv)/\aA wv λa1=>aJ prog (storeVar 101 a1 (zR xa xb xc xd xe xf xg)) w2 λw3=>aA wv λa2=>∃ xa1:zY,∃ xb1 xc1:Int,∃ xd1:Slc,∃ xe1:Bool,∃ xf1 xg1:Slc,Rd w3 a2 (yR xa1 xb1 xc1 xd1 xe1 xf1 xg1)/\aD prog 44 [zR xa1 xb1 xc1 xd1 xe1 xf1 xg1] w3 (aG R) λv2 w4=>∃ x:Bool,v2=(.bool x)/\aE (!x) (R (.returned (.slice none 0 0)) w4) (aA wv λa3=>∃ xa2:zY,∃ xb2 xc2:Int,∃ xd2:Slc,∃ xe2:Bool,∃ xf2 xg2:Slc,Rd w4 a3 (yR xa2 xb2 xc2 xd2 xe2 xf2 xg2)/\aD prog 113 [zR xa2 xb2 xc2 xd2 xe2 xf2 xg2] w4 (aG R) λv3 w5=>∃ x1:Slc,v3=(zS x1)/\R (.returned (zS x1)) w5)
theorem qMB (ra:zY) (rb rc:Int) (rd:Slc) (re:Bool) (rf rg:Slc) {w:World} {R:RW} (h9:qUA ra rb rc rd re rf rg w R):Calls prog 268 #[zR ra rb rc rd re rf rg] w R:=
 zC (q0 .z (q0 .z (q0 (q0 .z (.cond (q0 .z .z) .z)) (q0 .z .z)))) func268 [.agg [.s ra,.i .i64 rb,.i .i64 rc,.sl rd,.b re,.sl rf,.sl rg]] h9
def qYG (ra:zY) (rb rc:Int) (rd:Slc) (re:Bool) (rf rg:Slc) (w:World) (R:RW):Prop:=
 aH prog (Instr.box 40 (zR ra rb rc rd re rf rg)) w λv w1=>∃ r:zO,v=(.pointer r)/\aA r λa=>∃ xa:zY,∃ xb xc:Int,∃ xd:Slc,∃ xe:Bool,∃ xf xg:Slc,Rd w1 a (yR xa xb xc xd xe xf xg)/\aD prog 41 [zR xa xb xc xd xe xf xg] w1 (aG R) λv1 w2=>∃ x:Bool,v1=(.bool x)/\aE (!x) (R (.returned (.tuple #[.slice none 0 0,.int .i64 4])) w2) (∃ sx:zP,sx w2.drew/\aA r λa1=>aA r λa2=>∃ xa1:zY,∃ xb1 xc1:Int,∃ xd1:Slc,∃ xe1:Bool,∃ xf1 xg1:Slc,(∀ w',sx w'->Rd w' a2 (yR xa1 xb1 xc1 xd1 xe1 xf1 xg1))/\∃ x1:Slc,(∀ w',sx w'->Rd w' (a1.add 6) [zS x1])/\((aD prog 268 [zR xa1 xb1 xc1 xd1 xe1 xf1 xg1] w2.drew (aG R) λv2 w3=>∃ x2:Slc,v2=(zS x2)/\(sx w3/\((aH prog (Instr.buildSlice 77 2 #[(0,(zS x2)),(1,(zS x1))]) w3 λv3 w4=>∃ x3:Slc,v3=(zS x3)/\(sx w4/\((aD prog 196 [zS x3] w4 (aG R) λv4 w5=>∃ x4:Slc,v4=(zS x4)/\(sx w5/\R (.returned (.tuple #[zS x4,.int .i64 0])) w5))/\True)))/\True)))/\True))
theorem qLM (ra:zY) (rb rc:Int) (rd:Slc) (re:Bool) (rf rg:Slc) {w:World} {R:RW} (h9:qYG ra rb rc rd re rf rg w R):Calls prog 200 #[zR ra rb rc rd re rf rg] w R:=
 zC (q0 .z (q0 (q0 .z (.cond (q0 .z .z) .z)) (q0 (.draw 1 (.take 2 (.take 0 (.take 3 (.all [(1,(.all [(4,(.all [(5,(.take 6 (.take 7 .done)))]))]))]))))) .z))) func200 [.agg [.s ra,.i .i64 rb,.i .i64 rc,.sl rd,.b re,.sl rf,.sl rg]] h9
def jDO (aa:zY) (ab ac:Int) (ad:Slc) (ae:Bool) (af ag:Slc) (ba:zY) (bb bc:Int) (bd:Slc) (be:Bool) (bf bg:Slc) (w:World) (R:RW):Prop:=
 aH prog (Instr.box 40 (zR aa ab ac ad ae af ag)) w λv w1=>∃ a:zO,v=(.pointer a)/\aH prog (Instr.box 40 (zR ba bb bc bd be bf bg)) w1 λv1 w2=>∃ b:zO,v1=(.pointer b)/\∃ j:zT,(∃ sx:zP,sx w2.drew/\aA a λa1=>∃ xa:zY,∃ xb xc:Int,∃ xd:Slc,∃ xe:Bool,∃ xf xg:Slc,(∀ w',sx w'->Rd w' a1 (yR xa xb xc xd xe xf xg))/\aA b λa2=>∃ xa1:zY,∃ xb1 xc1:Int,∃ xd1:Slc,∃ xe1:Bool,∃ xf1 xg1:Slc,(∀ w',sx w'->Rd w' a2 (yR xa1 xb1 xc1 xd1 xe1 xf1 xg1))/\((aH prog (Instr.alloc 101 true (.tuple #[])) w2.drew λv2 w3=>∃ x:zO,v2=(.pointer x)/\(sx w3/\((aH prog (Instr.alloc 101 true (.tuple #[])) w3 λv3 w4=>∃ y:zO,v3=(.pointer y)/\(sx w4/\((aA x λa3=>aJ prog (storeVar 101 a3 (zR xa xb xc xd xe xf xg)) w4 λw5=>(sx w5/\((aA y λa4=>aJ prog (storeVar 101 a4 (zR xa1 xb1 xc1 xd1 xe1 xf1 xg1)) w5 λw6=>j [.p x,.p y] w6)/\True)))/\True)))/\True)))/\(aH prog (Instr.alloc 101 true (.tuple #[])) w2.drew λv4 w7=>∃ y1:zO,v4=(.pointer y1)/\(sx w7/\((aH prog (Instr.alloc 101 true (.tuple #[])) w7 λv5 w8=>∃ x1:zO,v5=(.pointer x1)/\(sx w8/\((aA x1 λa5=>aJ prog (storeVar 101 a5 (zR xa xb xc xd xe xf xg)) w8 λw9=>(sx w9/\((aA y1 λa6=>aJ prog (storeVar 101 a6 (zR xa1 xb1 xc1 xd1 xe1 xf1 xg1)) w9 λw10=>j [.p x1,.p y1] w10)/\True)))/\True)))/\True)))/\True))/\(∀ x2 y2:zO,∀ w11:World,j [.p x2,.p y2] w11->∃ sx1:zP,sx1 w11.drew/\aA a λa7=>aA b λa8=>∃ x3:zY,(∀ w',sx1 w'->Rd w' (a7.add 0) [.string ⟨x3.toArray⟩])/\∃ x4:zY,(∀ w',sx1 w'->Rd w' (a8.add 0) [.string ⟨x4.toArray⟩])/\aE (x3==x4) (aA x2 λa9=>∃ xa2:zY,∃ xb2 xc2:Int,∃ xd2:Slc,∃ xe2:Bool,∃ xf2 xg2:Slc,(∀ w',sx1 w'->Rd w' a9 (yR xa2 xb2 xc2 xd2 xe2 xf2 xg2))/\((aD prog 44 [zR xa2 xb2 xc2 xd2 xe2 xf2 xg2] w11.drew (aG R) λv6 w12=>∃ x5:Bool,v6=(.bool x5)/\(sx1 w12/\aE x5 (aA y2 λa10=>∃ xa3:zY,∃ xb3 xc3:Int,∃ xd3:Slc,∃ xe3:Bool,∃ xf3 xg3:Slc,(∀ w',sx1 w'->Rd w' a10 (yR xa3 xb3 xc3 xd3 xe3 xf3 xg3))/\((aD prog 44 [zR xa3 xb3 xc3 xd3 xe3 xf3 xg3] w12 (aG R) λv7 w13=>∃ x6:Bool,v7=(.bool x6)/\(sx1 w13/\aE x6 (aA a λa11=>∃ x7:Slc,(∀ w',sx1 w'->Rd w' (a11.add 3) [zS x7])/\aA y2 λa12=>∃ xa4:zY,∃ xb4 xc4:Int,∃ xd4:Slc,∃ xe4:Bool,∃ xf4 xg4:Slc,(∀ w',sx1 w'->Rd w' a12 (yR xa4 xb4 xc4 xd4 xe4 xf4 xg4))/\((aD prog 46 [zR xa4 xb4 xc4 xd4 xe4 xf4 xg4] w13 (aG R) λv8 w14=>∃ xa5 xb5:Int,v8=(.agg #[.int .i64 xa5,.int .i64 xb5])/\(sx1 w14/\((aD prog 45 [zS x7,.agg #[.int .i64 xa5,.int .i64 xb5]] w14 (aG R) λv9 w15=>∃ x8:Bool,v9=(.bool x8)/\(sx1 w15/\R (.returned (.bool x8)) w15))/\True)))/\True)) ((((sx1 w13/\(((sx1 w13/\zF R false w13))/\True)))/\True))))/\True)) ((((sx1 w12/\(((sx1 w12/\(((sx1 w12/\zF R false w12))/\True)))/\True)))/\True))))/\True)) ((((sx1 w11.drew/\(((sx1 w11.drew/\(((sx1 w11.drew/\(((sx1 w11.drew/\zF R false w11.drew))/\True)))/\True)))/\True)))/\True)))
theorem qZI (aa:zY) (ab ac:Int) (ad:Slc) (ae:Bool) (af ag:Slc) (ba:zY) (bb bc:Int) (bd:Slc) (be:Bool) (bf bg:Slc) {w:World} {R:RW} (h9:jDO aa ab ac ad ae af ag ba bb bc bd be bf bg w R):Calls prog 23 #[zR aa ab ac ad ae af ag,zR ba bb bc bd be bf bg] w R:=
 zC (q0 .z (.seq (some [(5,.p),(6,.p)]) (.draw 1 (.take 0 (.take 1 (.take 2 (.take 3 (.all [(4,(.all [(5,(.all [(6,(.all [(7,.done)]))]))])),(5,(.all [(4,(.all [(6,(.all [(7,.done)]))]))]))])))))) (q0 (.draw 1 (.take 0 (.take 2 (.take 1 (.take 3 (.take 4 (.take 5 (.take 6 (.all [(7,(.take 8 (.take 9 (.take 10 (.all [(11,(.take 12 (.take 13 (.take 14 (.take 15 (.take 16 (.all [(17,(.all [(18,(.take 19 (.take 20 .done)))]))])))))))])))))]))))))))) .z))) func23 [.agg [.s aa,.i .i64 ab,.i .i64 ac,.sl ad,.b ae,.sl af,.sl ag],.agg [.s ba,.i .i64 bb,.i .i64 bc,.sl bd,.b be,.sl bf,.sl bg]] h9
def qYK (bL:Slc) (w:World) (R:RW):Prop:=
 ∃ (inv:zT) (mu:zU),inv [.i .i64 0] w/\(∀ x:Int,∀ w1:World,inv [.i .i64 x] w1->aE (decide (x<bL.len)) ((zB x bL.len/\aA bL.a λa=>∃ x1:Int,Rd w1 (a.add (x.toNat*1)) [.int .i64 x1]/\aE (x1 != (0:Int)) (R (.returned (.int .i64 x1)) w1) ((inv [.i .i64 (zW (x+1))] w1/\mu [.i .i64 (zW (x+1))] w1<mu [.i .i64 x] w1)))) (R (.returned (.int .i64 0)) w1))
theorem qPA (bL:Slc) {w:World} {R:RW} (h9:qYK bL w R):Calls prog 204 #[zS bL] w R:=
 zC (q0 .z (q0 .z (q0 (q0 .z (.block none (.loop [(8,(.i .i64))] (q0 .z (q0 (.cond .z .z) (q0 (.block none (q0 .z (q0 .z (.cond (q0 .z .z) .z)))) .z)))))) (q0 .z .z)))) func204 [.sl bL] h9
def qYO (aaa:zY) (aab aac:Int) (aad:Slc) (aae:Bool) (aaf aag ab:Slc) (baa:zY) (bab bac:Int) (bad:Slc) (bae:Bool) (baf bag bb:Slc) (w:World) (R:RW):Prop:=
 aH prog (Instr.box 302 (.agg #[.string ⟨aaa.toArray⟩,.int .i64 aab,.int .i64 aac,zS aad,.bool aae,zS aaf,zS aag,zS ab])) w λv w1=>∃ a:zO,v=(.pointer a)/\aH prog (Instr.box 302 (.agg #[.string ⟨baa.toArray⟩,.int .i64 bab,.int .i64 bac,zS bad,.bool bae,zS baf,zS bag,zS bb])) w1 λv1 w2=>∃ b:zO,v1=(.pointer b)/\∃ sx:zP,sx w2.drew/\aA a λa1=>aA b λa2=>aA a λa3=>aA b λa4=>∃ x:Int,(∀ w',sx w'->Rd w' ((a1.add 0).add 1) [.int .i64 x])/\∃ x1:Int,(∀ w',sx w'->Rd w' ((a2.add 0).add 1) [.int .i64 x1])/\∃ x2:Int,(∀ w',sx w'->Rd w' ((a3.add 0).add 2) [.int .i64 x2])/\∃ x3:Int,(∀ w',sx w'->Rd w' ((a4.add 0).add 2) [.int .i64 x3])/\((aD prog 222 [.int .i64 x,.int .i64 x1] w2.drew (aG R) λv2 w3=>∃ x4:Int,v2=(.int .i64 x4)/\(sx w3/\((aD prog 222 [.int .i64 x2,.int .i64 x3] w3 (aG R) λv3 w4=>∃ x5:Int,v3=(.int .i64 x5)/\(sx w4/\((aH prog (Instr.buildSlice 36 2 #[(0,(.int .i64 x4)),(1,(.int .i64 x5))]) w4 λv4 w5=>∃ x6:Slc,v4=(zS x6)/\(sx w5/\((aD prog 204 [zS x6] w5 (aG R) λv5 w6=>∃ x7:Int,v5=(.int .i64 x7)/\(sx w6/\R (.returned (.int .i64 x7)) w6))/\True)))/\True)))/\True)))/\True)
theorem qLA (aaa:zY) (aab aac:Int) (aad:Slc) (aae:Bool) (aaf aag ab:Slc) (baa:zY) (bab bac:Int) (bad:Slc) (bae:Bool) (baf bag bb:Slc) {w:World} {R:RW} (h9:qYO aaa aab aac aad aae aaf aag ab baa bab bac bad bae baf bag bb w R):Calls prog 205 #[.agg #[.string ⟨aaa.toArray⟩,.int .i64 aab,.int .i64 aac,zS aad,.bool aae,zS aaf,zS aag,zS ab],.agg #[.string ⟨baa.toArray⟩,.int .i64 bab,.int .i64 bac,zS bad,.bool bae,zS baf,zS bag,zS bb]] w R:=
 zC (q0 .z (q0 (.draw 1 (.take 0 (.take 1 (.take 3 (.take 4 (.take 7 (.take 8 (.take 10 (.take 11 (.take 2 (.take 5 (.take 9 (.take 12 (.all [(6,(.all [(13,(.all [(14,(.all [(15,(.take 16 .done))]))]))]))])))))))))))))) .z)) func205 [.agg [.agg [.s aaa,.i .i64 aab,.i .i64 aac,.sl aad,.b aae,.sl aaf,.sl aag],.sl ab],.agg [.agg [.s baa,.i .i64 bab,.i .i64 bac,.sl bad,.b bae,.sl baf,.sl bag],.sl bb]] h9
def RL (l:zY) (w:World) (v:Value) (w':World):Prop:=∃ x:Slc,v=x.val/\Sh.Own w' x 1 (bys l)/\FB w x/\Mod NoB w w'
theorem dP {w:World} {l:zY} {g:FuncId} {args:List Value} {pan:List PanicEntry->zP} {K:Slc->zP} (hc:Calls prog g args.toArray w (Ret (RL l w))) (hK : ∀ (x:Slc) w',Sh.Own w' x 1 (bys l)->FB w x->Mod NoB w w'->K x w') :
 aD prog g args w pan λv w'=>∃ x:Slc,v = .slice x.a x.len x.cap/\K x w':=
 aB hc λv w' ⟨x,hv,h1,h3,h4⟩=>⟨x,hv,hK x w' h1 h3 h4⟩
def qIZ (n:Int) (k:Nat):zY:=(List.range 8).map λi=>if 8 - k<=i then (aM (aP n) (8*(7 - i))).toUInt8 else 0
theorem qFG {n:Int} {k:Nat} (h:k<8):(qIZ n k).set (7 - k) ((aM (aP n) (8*k)).toUInt8)=qIZ n (k+1):=by
 have:k=0\/k=1\/k=2\/k=3\/k=4\/k=5\/k=6\/k=7:=by omega
 rcases this with rfl | rfl | rfl | rfl | rfl | rfl | rfl | rfl <;> rfl
section
variable {w:World}
theorem gY {n:Int} : Calls prog 195 #[.int .i64 n] w (Ret (RL (bI n) w)):=by
 refine qMF _ ?_
 unfold qYL
 obtain ⟨p9,k3,k4,k5,k6⟩:=i5
 refine bW u26 k3 k4 k5 rfl k6 (l:=8) (c:=8) rfl rfl (by omega) (by omega) (by omega) λq w1 hN hb ho=>⟨⟨some ⟨q,0,none⟩,8,8⟩,rfl,?_⟩
 rw [kI] at hb
 have hq:=hN.at_
 refine ⟨λl' w'=>match l' with | [.i _ x]=>∃ k:Nat,x=(k:Int)/\k<=8/\Blk w' q (bys (qIZ n k)) 5/\Mod (λy=>y=q) w1 w' | _=>False,λl' _=>match l' with | [.i _ x]=>(8 - x).toNat | _=>0,⟨0,rfl,by omega,hb,Mod.refl _ _⟩,?_⟩
 rintro x w2 ⟨k,rfl,hk,hB,hm⟩
 refine aC (λhlt=>?_) λhge=>?_
 ·have hlt:k<8:=by have:=hlt; simp at this; omega
  have e1:zW (8*(k:Int))=((8*k:Nat):Int):=by rw [wrap_i64 (by omega)]; omega
  have e2:zW (7 - (k:Int))=((7 - k:Nat):Int):=by rw [wrap_i64 (by omega)]; omega
  rw [e1,e2,wrap_i64 (e:=(k:Int)+1) (by omega)]
  refine ⟨by omega,⟨by omega,by show ((7 - k:Nat):Int)<((8:Nat):Int); omega⟩,?_⟩
  refine iX (b:=q) (n:=7 - k) (by kernel_rfl) (by kernel_rfl) rfl hB (by simp [bys,qIZ]; omega) λw3 ht h9=>?_
  rw [fU,Int.toNat_natCast,qFG hlt] at h9
  exact ⟨⟨k+1,by omega,by omega,h9,hm.tr ht.mod⟩,by (try simp only []); omega⟩
 ·have p8:k=8:=by have:=hge; simp at this; omega
  subst p8
  exact ⟨_,rfl,aY (n:=8) (k:=1) hB (by simp [bys,qIZ]),FB.new (Nat.le_of_eq hq.symm),hN.mod.fresh hm λz e=>by subst e; omega⟩
theorem vO {parts:Slc} {pl:List (zY)} {X:Nat->Prop} (hp:PartsAt w parts pl X) (h9 : ∀ x,X x->x<w.heap.size) (hn:pl.flatten.length<=1000000000) (hm:pl.length<=1000000000) :
 Calls prog 196 #[.slice parts.a parts.len parts.cap] w (Ret (RL pl.flatten w)):=by
 refine qQZ _ ?_
 unfold qVE
 refine aB (zJ hp h9 hn hm) ?_
 rintro v w1 ⟨x,rfl,h⟩
 exact ⟨x,rfl,x,rfl,h⟩
theorem xU {b:Slc} {l:zY} (hb:aK w b 1 (bys l)) (hbl : ∀ z,b.blk=some z->z<w.heap.size) (hn:l.length<=900000000):Calls prog 194 #[.slice b.a b.len b.cap] w (Ret (RL (eG l) w)):=by
 refine qOX _ ?_
 unfold qXK
 have hl:=aV hb
 refine dP gY λx w1 ho hf k4=>?_
 rw [show ((b.len:Nat):Int)=((l.length:Nat):Int) by omega] at ho
 refine iL [x,b] rfl rfl (by omega) (by omega) λy vb w2 h9 ey hB2 k3=>⟨y,rfl,?_⟩
 have hM2:=k4.tr h9.mod
 refine dP (vO (pl:=[bI (l.length:Int),l]) (X:=λz=>z<w2.heap.size) ⟨_,k3.rd,λz hz=>k3.lt hz,rfl,uM (ho.no h9.mod).rd (λz hz=>(ho.no h9.mod).lt hz) (hb.no hM2) (λz hz=>Nat.lt_of_lt_of_le (hbl z hz) hM2.size)⟩ (λ_ h=>h) (by simp; omega) (by simp)) λz w3 k5 k6 p8=>⟨z,rfl,?_,k6.le hM2.size,hM2.tr p8⟩
 have e:[bI (l.length:Int),l].flatten=eG l:=by simp [eG]
 rwa [e] at k5
end
def dts (l:List (Int×Int)):List Value:=l.flatMap λd=>[.int .i64 d.1,.int .i64 d.2]
@[simp] theorem qNG (l:List (Int×Int)):(dts l).length=l.length*2:=by
 induction l with
 | nil=>rfl
 | cons a l ih=>simp only [dts,List.flatMap_cons] at ih ⊢; simp only [List.length_append,ih,List.length_cons,List.length_nil]; omega
theorem xJ (a:Int×Int) (l:List (Int×Int)):dts (a :: l) = .int .i64 a.1 :: .int .i64 a.2 :: dts l:=rfl
theorem qNO (a b:List (Int×Int)):dts (a++b)=dts a++dts b:=by simp [dts]
theorem qDA : ∀ {l:List (Int×Int)} {i:Nat} (h:i<l.length),(dts l)[i*2]? = some (.int .i64 l[i].1)/\(dts l)[i*2+1]? = some (.int .i64 l[i].2)
 | [],i,h=>by simp at h
 | a :: l,0,h=>by simp [xJ]
 | a :: l,i+1,h=>by
   have:=qDA (l:=l) (i:=i) (by simpa using h)
   rw [xJ,show (i+1)*2=i*2+1+1 by omega]
   simpa using this
theorem qS (l:List (Int×Int)) : ∀ y∈dts l,y.oneCell'=true:=by
 intro y hy
 simp only [dts,List.mem_flatMap] at hy
 obtain ⟨d,_,hd⟩:=hy
 simp at hd
 rcases hd with rfl | rfl <;> rfl
theorem dW {w:World} {s:Slc} {l:List (Int×Int)} (h:aK w s 2 (dts l)):l.length=s.len:=by have:=h.1; rw [qNG] at this; omega
theorem fP {w:World} {s:Slc} {l:List (Int×Int)} (h:aK w s 2 (dts l)) {i:Nat} (hi:i<l.length) : ∃ a,s.a=some a/\Rd w (a.add (i*2)) [.int .i64 l[i].1,.int .i64 l[i].2]:=by
 have hl:=dW h
 refine h.at (by omega) (by omega) λj u hu=>?_
 have hg:=qDA hi
 match j with
 | 0=>simp at hu; subst hu; simpa using hg.1
 | 1=>simp at hu; subst hu; simpa using hg.2
 | j+2=>simp at hu
theorem bX : ∀ {l:List (Int×Int)},bG l=true↔∀ i (h:i<l.length),aU l[i]=true/\(∀ h0:0<i,(l[i - 1]'(by omega)).1<l[i].1)
 | []=>by simp [bG]
 | [d]=>by
   simp only [bG]
   constructor
   ·intro h i hi
    have:i=0:=by simp at hi; omega
    subst this
    exact ⟨h,λh0=>by omega⟩
   ·intro h; exact (h 0 (by simp)).1
 | d :: e :: l=>by
   have ih:=bX (l:=e :: l)
   simp only [bG,Bool.and_eq_true,decide_eq_true_eq,ih]
   constructor
   ·rintro ⟨⟨h1,h2⟩,h3⟩ i hi
    match i,hi with
    | 0,_=>exact ⟨h1,λh0=>by omega⟩
    | 1,_=>exact ⟨(h3 0 (by simp)).1,λ_=>h2⟩
    | i+2,hi=>
      have:=h3 (i+1) (by simpa using hi)
      exact ⟨this.1,λ_=>this.2 (by omega)⟩
   ·intro h
    refine ⟨⟨(h 0 (by simp)).1,(h 1 (by simp)).2 (by omega)⟩,λi hi=>?_⟩
    have:=h (i+1) (by simpa using hi)
    refine ⟨this.1,λh0=>?_⟩
    have h2:=this.2 (by omega)
    obtain ⟨m,rfl⟩ : ∃ m,i=m+1:=⟨i - 1,by omega⟩
    simpa using h2
theorem gZ {l:List (Int×Int)} (h:bG l=true) : ∀ (i j:Nat) (hj:j<l.length) (hij:i<j),(l[i]'(by omega)).1<l[j].1:=by
 intro i j
 induction j with
 | zero=>intro _ h; omega
 | succ j ih=>
   intro hj hij
   have h1:=((bX.1 h) (j+1) hj).2 (by omega)
   rcases Nat.lt_or_ge i j with h2 | h2
   ·exact Int.lt_trans (ih (by omega) h2) h1
   ·have:i=j:=by omega
    subst this; exact h1
section
variable {w:World}
theorem yW {a b:Int} : Calls prog 99 #[.agg #[.int .i64 a,.int .i64 b]] w (Ret λv w'=>v = .bool (aU (a,b))/\Mod NoB w w'):=by
 refine qYY _ _ ?_
 unfold jEA
 refine aQ (l:=[.int .i64 a,.int .i64 b]) rfl λp w1 hN hb=>⟨_,rfl,?_⟩
 have r0:Rd w1 ((⟨p,0,none⟩:Addr).add 0) [.int .i64 a]:=by rw [aO]; exact hb.rd1 rfl
 have r1:Rd w1 ((⟨p,0,none⟩:Addr).add 1) [.int .i64 b]:=by rw [aO]; exact hb.rd1 rfl
 refine ⟨a,r0,aC (λh1=>⟨a,r0,aC (λh2=>⟨b,r1,aC (λh3=>⟨b,r1,?_,hN.mod⟩) λh3=>⟨?_,hN.mod⟩⟩) λh2=>⟨?_,hN.mod⟩⟩) λh1=>⟨?_,hN.mod⟩⟩
 all_goals simp only [decide_eq_true_eq,decide_eq_false_iff_not] at *
 ·simp [aU,h1,h2,h3]
 ·simp [aU,h3]
 ·simp [aU,h2]
 ·simp [aU,h1]
theorem qI : ∃ i,prog.info? 52=some i/\i.zero=some (.agg #[.int .i64 0,.int .i64 0])/\i.size=2/\i.bytes=16:=bC (by kernel_rfl) (by kernel_rfl) (by kernel_rfl)
theorem qFB {v:Slc} {l:List (Int×Int)} (hv:aK w v 2 (dts l)) (hn:l.length<=1000000000):Calls prog 161 #[.slice v.a v.len v.cap] w (Ret λu w'=>u = .bool (bG l)/\Mod NoB w w'):=by
 refine qSQ _ ?_
 unfold qWK
 obtain ⟨id,q9,hd2,t7,u0⟩:=qI
 have hl:=dW hv
 refine ⟨λl' w'=>match l' with | [.i _ x]=>∃ k:Nat,x=(k:Int)/\k<=l.length/\(∀ i (h:i<l.length),i<k->aU l[i]=true/\(∀ h0:0<i,(l[i - 1]'(by omega)).1<l[i].1))/\Mod NoB w w' | _=>False,λl' _=>match l' with | [.i _ x]=>(l.length - x).toNat | _=>0,⟨0,rfl,by omega,λi h h'=>by omega,Mod.refl _ _⟩,?_⟩
 rintro x w1 ⟨k,rfl,hk,hall,hm⟩
 refine aC (λhlt=>?_) λhge=>?_
 ·have hlt:k<l.length:=by have:=hlt; simp at this; omega
  obtain ⟨a,ea,hr⟩:=fP (hv.no hm) hlt
  refine ⟨⟨by omega,by omega⟩,?_⟩
  rw [ea]
  refine ⟨l[k].1,l[k].2,hr,?_⟩
  refine aN (l:=[.int .i64 0,.int .i64 0]) q9 hd2 rfl λp w2 hN hb=>⟨_,rfl,?_⟩
  refine bU (vs:=[.int .i64 l[k].1,.int .i64 l[k].2]) (by kernel_rfl) (by kernel_rfl) rfl hb (by simp) (by intro u hu; simp at hu; rcases hu with rfl | rfl <;> rfl) λw3 ht hb3=>?_
  have hp:=hN.at_
  have p9:Mod NoB w w3:=(hm.tr hN.mod).fresh ht.mod λx e=>by have:=hm.size; omega
  have k3:Blk w3 p [.int .i64 l[k].1,.int .i64 l[k].2] 52:=by simpa [putAt] using hb3
  refine ⟨Mod NoB w3.drew,Mod.refl _ _,l[k].1,l[k].2,λw' k4=>(k3.drew.no k4).rd λj v hj=>by simpa using hj,?_,trivial⟩
  refine aB yW ?_
  rintro u w4 ⟨rfl,q8⟩
  have k5:Mod NoB w w4:=(p9.tr (Mod.drew _ _)).tr q8
  refine ⟨_,rfl,q8,aC (λhr1=>?_) λhr1=>?_⟩
  ·have hr1:aU l[k]=false:=by simpa using hr1
   refine ⟨congrArg Value.bool (Eq.symm ?_),k5⟩
   cases k6:bG l with
   | false=>rfl
   | true=>have:=((bX.1 k6) k hlt).1; rw [hr1] at this; cases this
  ·have hr1:aU l[k]=true:=by simpa using hr1
   rw [wrap_i64 (e:=(k:Int)+1) (by omega)]
   have h9:(∀ h0:0<k,(l[k - 1]'(by omega)).1<l[k].1)->(∃ m:Nat,(k:Int)+1=(m:Int)/\m<=l.length/\(∀ i (h:i<l.length),i<m->aU l[i]=true/\(∀ h0:0<i,(l[i - 1]'(by omega)).1<l[i].1))/\Mod NoB w w4):=λhlast=>
    ⟨k+1,by omega,by omega,λi h h'=>by
     rcases Nat.lt_or_ge i k with h2 | h2
     ·exact hall i h h2
     ·have:i=k:=by omega
      subst this; exact ⟨hr1,hlast⟩,k5⟩
   refine aC (λh0=>?_) λh0=>⟨h9 λh=>by simp at h0; omega,by (try simp only []); omega⟩
   have h0:0<k:=by simp at h0; omega
   have e1:zW ((k:Int) - 1)=((k - 1:Nat):Int):=by rw [wrap_i64 (by omega)]; omega
   rw [e1]
   obtain ⟨a',ea',t6⟩:=fP hv (i:=k - 1) (by omega)
   rw [ea] at ea'; cases ea'
   refine ⟨⟨by omega,by omega⟩,(l[k - 1]'(by omega)).1,λw' k4=>?_,l[k].1,λw' k4=>?_,aC (λhge=>?_) λp8=>⟨h9 λ_=>by simp at p8; omega,by (try simp only []); omega⟩⟩
   ·have:=(t6.mod ((p9.tr (Mod.drew _ _)).tr k4) λh=>h)
    rw [Int.toNat_natCast,add0]
    exact cW.2 (by simpa using this 0 _ rfl)
   ·rw [aO]; exact (k3.drew.no k4).rd1 rfl
   ·refine ⟨congrArg Value.bool (Eq.symm ?_),k5⟩
    cases k6:bG l with
    | false=>rfl
    | true=>have:=((bX.1 k6) k hlt).2 h0; simp at hge; omega
 ·have hkk:k=l.length:=by have:=hge; simp at this; omega
  subst hkk
  exact ⟨congrArg Value.bool (Eq.symm (bX.2 λi h=>hall i h h)),hm⟩
theorem tF {v:Slc} {l:List (Int×Int)} (hv:aK w v 2 (dts l)) (hn:l.length<=1000000000):Calls prog 98 #[.slice v.a v.len v.cap] w (Ret λu w'=>u = .bool (bG l)/\Mod NoB w w'):=by
 refine jAF _ ?_
 unfold jDD
 refine aB (qFB hv hn) ?_
 rintro u w1 ⟨rfl,hm⟩
 exact ⟨_,rfl,rfl,hm⟩
def mU (a b:Int):Int:=if a<b then -1 else if a > b then 1 else 0
theorem qCG {a b:Int} : mU a b<0↔a<b:=by
 unfold mU
 split
 ·simp [*]
 ·split <;> simp [*]
theorem nO {a b:Int} : mU a b=0↔a=b:=by
 unfold mU
 split
 ·simp; omega
 ·split
  ·simp; omega
  ·simp; omega
theorem rB {a b:Int} : Calls prog 222 #[.int .i64 a,.int .i64 b] w (Ret λu w'=>u = .int .i64 (mU a b)/\w'=w):=by
 refine qRA _ _ ?_
 unfold qTX
 have h9 : ∀ x:Int,Calls prog 282 #[.int .i64 x] w (Ret λu w'=>u = .bool false/\w'=w):=λx=>by
  refine qLC _ ?_
  unfold qTZ
  exact ⟨by simp,rfl⟩
 refine aB (h9 a) ?_
 rintro u w1 ⟨rfl,hw⟩
 refine ⟨_,rfl,?_⟩
 rw [hw]
 refine aB (h9 b) ?_
 rintro u w2 ⟨rfl,hw2⟩
 refine ⟨_,rfl,?_⟩
 rw [hw2]
 refine aC (λh=>by cases h) λ_=>aC (λh=>by cases h) λ_=>aC (λh=>⟨?_,rfl⟩) λh=>aC (λh'=>⟨?_,rfl⟩) λh'=>⟨?_,rfl⟩
 all_goals simp only [decide_eq_true_eq,decide_eq_false_iff_not] at *
 ·simp [mU,h]
 ·simp [mU,h,h']
 ·simp [mU,h,h']
theorem qKR {a b c:Int} : Calls prog 221 #[.agg #[.int .i64 a,.int .i64 b],.int .i64 c] w (Ret λu w'=>u = .int .i64 (mU a c)/\Mod NoB w w'):=by
 refine qPU _ _ _ ?_
 unfold qVV
 refine aQ (l:=[.int .i64 a,.int .i64 b]) rfl λp w1 hN hb=>⟨_,rfl,a,by rw [aO]; exact hb.rd1 rfl,?_⟩
 refine aB rB ?_
 rintro u w2 ⟨rfl,rfl⟩
 exact ⟨_,rfl,rfl,hN.mod⟩
theorem jAU {n:Nat} (h:n<=4000000000):zW (((aM (aP ((n:Nat):Int)) ((((1:UInt64)).toNat:Int)).toNat)).toNat:Int)=((n / 2:Nat):Int):=by
 have e:(aM (aP ((n:Nat):Int)) ((((1:UInt64)).toNat:Int)).toNat).toNat=n / 2:=by
  have e1:((((1:UInt64)).toNat:Int)).toNat=1:=rfl
  rw [e1,qLN]
  unfold aM
  rw [if_pos (by omega),UInt64.toNat_shiftRight]
  have e2:(UInt64.ofNat n).toNat=n:=by rw [UInt64.toNat_ofNat']; omega
  have e3:(UInt64.ofNat 1).toNat % 64=1:=by decide
  rw [e2,e3,Nat.shiftRight_eq_div_pow]
 rw [e,wrap_i64 (by omega)]
theorem qGX {v:Slc} {l:List (Int×Int)} {c:Int} (hv:aK w v 2 (dts l)) (hn:l.length<=1000000000) (hr:bG l=true) :
 Calls prog 220 #[.slice v.a v.len v.cap,.int .i64 c,.func (.func 221) #[] #[]] w (Ret λu w'=>∃ (i:Nat) (t:Bool),u = .tuple #[.int .i64 i,.bool t]/\i<=l.length/\(∀ k (h:k<l.length),k<i->l[k].1<c)/\(∀ k (h:k<l.length),i<=k->c<=l[k].1)/\(t=true↔∃ h:i<l.length,l[i].1=c)/\Mod NoB w w'):=by
 refine qLL _ _ _ ?_
 unfold qWV
 have hl:=dW hv
 have hris:=gZ hr
 refine ⟨λl' w'=>match l' with | [.i _ x,.i _ y]=>∃ i j:Nat,x=(i:Int)/\y=(j:Int)/\i<=j/\j<=l.length/\(∀ k (h:k<l.length),k<i->l[k].1<c)/\(∀ k (h:k<l.length),j<=k->c<=l[k].1)/\Mod NoB w w' | _=>False,λl' _=>match l' with | [.i _ x,.i _ y]=>(y - x).toNat | _=>0,⟨0,l.length,rfl,by omega,by omega,by omega,λk h h'=>by omega,λk h h'=>by omega,Mod.refl _ _⟩,?_⟩
 rintro x y w1 ⟨i,j,rfl,rfl,hij,hj,h1,h2,hm⟩
 refine aC (λhlt=>?_) λhge=>?_
 ·have hlt:i<j:=by have:=hlt; simp at this; omega
  have e1:zW ((i:Int)+(j:Int))=((i+j:Nat):Int):=by rw [wrap_i64 (by omega)]; omega
  rw [e1,jAU (by omega)]
  have h9:(i+j) / 2<l.length:=by omega
  obtain ⟨a,ea,hr⟩:=fP (hv.no hm) h9
  refine ⟨Int.natCast_nonneg _,⟨by omega,by omega⟩,?_⟩
  rw [ea]
  refine ⟨_,_,hr,dX (by kernel_rfl) ?_⟩
  refine aB qKR ?_
  rintro u w2 ⟨rfl,k3⟩
  have hw:zW ((((i+j) / 2:Nat):Int)+1)=(((i+j) / 2+1:Nat):Int):=by rw [wrap_i64 (by omega)]; omega
  rw [hw]
  refine ⟨_,rfl,aC (λhc=>⟨⟨(i+j) / 2+1,j,rfl,rfl,by omega,hj,λk h hk=>?_,h2,hm.tr k3⟩,by (try simp only []); omega⟩) λhc=>⟨⟨i,(i+j) / 2,rfl,rfl,by omega,by omega,h1,λk h hk=>?_,hm.tr k3⟩,by (try simp only []); omega⟩⟩
  ·have hc:l[(i+j) / 2].1<c:=by
    exact qCG.1 (of_decide_eq_true hc)
   rcases Nat.lt_or_ge k ((i+j) / 2) with h3 | h3
   ·exact Int.lt_trans (hris k _ h9 h3) hc
   ·have:k=(i+j) / 2:=by omega
    subst this; exact hc
  ·have hc:c<=l[(i+j) / 2].1:=by
    exact Int.not_lt.1 λh=>of_decide_eq_false hc (qCG.2 h)
   rcases Nat.lt_or_ge ((i+j) / 2) k with h3 | h3
   ·exact Int.le_of_lt (Int.lt_of_le_of_lt hc (hris _ k h h3))
   ·have:k=(i+j) / 2:=by omega
    subst this; exact hc
 ·have k4:i=j:=by have:=hge; simp at this; omega
  subst k4
  refine aC (λhlt=>?_) λhge=>⟨i,false,rfl,hj,h1,h2,⟨λh=>(by cases h),λ⟨h,_⟩=>(by have:=hge; simp at this; omega)⟩,hm⟩
  have hlt:i<l.length:=by have:=hlt; simp at this; omega
  obtain ⟨a,ea,hr⟩:=fP (hv.no hm) hlt
  refine ⟨⟨by omega,by omega⟩,?_⟩
  rw [ea]
  refine ⟨_,_,hr,dX (by kernel_rfl) ?_⟩
  refine aB qKR ?_
  rintro u w2 ⟨rfl,k3⟩
  refine ⟨_,rfl,i,_,rfl,hj,h1,h2,⟨λh=>⟨hlt,?_⟩,λ⟨_,h⟩=>?_⟩,hm.tr k3⟩
  ·exact nO.1 (by simpa using h)
  ·simpa using nO.2 h
theorem c_at {v:Slc} {l:List (Int×Int)} {c:Int} (hv:aK w v 2 (dts l)) (hn:l.length<=1000000000) (hr:bG l=true) :
 Calls prog 162 #[.slice v.a v.len v.cap,.int .i64 c] w (Ret λu w'=>∃ (i:Nat) (t:Bool),u = .tuple #[.int .i64 i,.bool t]/\i<=l.length/\(∀ k (h:k<l.length),k<i->l[k].1<c)/\(∀ k (h:k<l.length),i<=k->c<=l[k].1)/\(t=true↔∃ h:i<l.length,l[i].1=c)/\Mod NoB w w'):=by
 refine qPD _ _ ?_
 unfold qTJ
 refine aB (qGX hv hn hr) ?_
 rintro u w1 ⟨i,t,rfl,h⟩
 exact ⟨_,_,rfl,i,t,rfl,h⟩
theorem jAK {v:Slc} {l:List (Int×Int)} {a b:Int} (hv:aK w v 2 (dts l)) (hn:l.length<=1000000000) (hr:bG l=true) :
 Calls prog 100 #[.slice v.a v.len v.cap,.agg #[.int .i64 a,.int .i64 b]] w (Ret λu w'=>u = .bool (l.any λe=>decide (e.1=a)&&decide (b<=e.2))/\Mod NoB w w'):=by
 refine qOH _ _ _ ?_
 unfold qVF
 have hl:=dW hv
 refine aQ (l:=[.int .i64 a,.int .i64 b]) rfl λp w1 hN hb=>⟨_,rfl,a,by rw [aO]; exact hb.rd1 rfl,?_⟩
 refine aB (c_at (hv.no hN.mod) hn hr) ?_
 rintro u w2 ⟨i,t,rfl,hi,h1,h2,ht,h9⟩
 have hM2:Mod NoB w w2.drew:=(hN.mod.tr h9).tr (Mod.drew _ _)
 refine ⟨_,_,rfl,aC (λh=>?_) λh=>⟨congrArg Value.bool (Eq.symm ?_),hM2⟩⟩
 ·obtain ⟨hlt,he⟩:=ht.1 h
  obtain ⟨A,ea,k4⟩:=fP (hv.no hM2) hlt
  refine ⟨⟨by omega,by omega⟩,?_⟩
  rw [ea]
  refine ⟨l[i].2,?_,b,?_,congrArg Value.bool (Eq.symm ?_),hM2⟩
  ·rw [Int.toNat_natCast]
   exact cW.2 (k4 1 _ rfl)
  ·rw [aO]; exact (hb.no (h9.tr (Mod.drew _ _))).rd1 rfl
  ·apply Bool.eq_iff_iff.2
   simp only [List.any_eq_true,Bool.and_eq_true,decide_eq_true_eq]
   constructor
   ·rintro ⟨e,hmem,k3,k5⟩
    obtain ⟨k,hk,rfl⟩:=List.getElem_of_mem hmem
    have:k=i:=by
     rcases Nat.lt_trichotomy k i with h3 | h3 | h3
     ·have:=gZ hr k i hlt h3; omega
     ·exact h3
     ·have:=gZ hr i k hk h3; omega
    subst this; omega
   ·intro h3; exact ⟨l[i],List.getElem_mem _,he,by omega⟩
 ·apply Bool.eq_false_iff.2
  intro hany
  simp only [List.any_eq_true,Bool.and_eq_true,decide_eq_true_eq] at hany
  obtain ⟨e,hmem,k3,k5⟩:=hany
  obtain ⟨k,hk,rfl⟩:=List.getElem_of_mem hmem
  have k6:i<=k:=by
   rcases Nat.lt_or_ge k i with h3 | h3
   ·have:=h1 k hk h3; omega
   ·exact h3
  have hil:i<l.length:=by omega
  have hie:l[i].1=a:=by
   have h4:=h2 i hil (Nat.le_refl _)
   rcases Nat.lt_or_ge i k with h3 | h3
   ·have:=gZ hr i k hk h3; omega
   ·have:i=k:=by omega
    subst this; exact k3
  rw [ht.2 ⟨hil,hie⟩] at h; cases h
theorem qTT {v:Slc} {l:List (Int×Int)} {a b:Int} (hv:aK w v 2 (dts l)) (hn:l.length<=1000000000) :
 Calls prog 45 #[.slice v.a v.len v.cap,.agg #[.int .i64 a,.int .i64 b]] w (Ret λu w'=>u = .bool (gI l (a,b))/\Mod NoB w w'):=by
 refine qZT _ _ _ ?_
 unfold jFH
 refine aQ (l:=[.int .i64 a,.int .i64 b]) rfl λp w1 hN hb=>⟨_,rfl,?_⟩
 refine aB (tF (hv.no hN.mod) hn) ?_
 rintro u w2 ⟨rfl,h9⟩
 refine ⟨_,rfl,aC (λh=>?_) λh=>⟨by simp [gI,h],hN.mod.tr h9⟩⟩
 have k4 : ∀ {w':World},Mod NoB w1 w'->Rd w' ⟨p,0,none⟩ [.int .i64 a,.int .i64 b]:=λhm=>(hb.no hm).rd λj v hj=>by simpa using hj
 refine ⟨a,b,k4 h9,?_⟩
 refine aB yW ?_
 rintro u w3 ⟨rfl,k3⟩
 refine ⟨_,rfl,aC (λh'=>⟨a,b,k4 (h9.tr k3),?_⟩) λh'=>⟨by simp [gI,h,h'],(hN.mod.tr h9).tr k3⟩⟩
 refine aB (jAK (hv.no ((hN.mod.tr h9).tr k3)) hn h) ?_
 rintro u w4 ⟨rfl,k5⟩
 exact ⟨_,rfl,by simp [gI,h,h'],((hN.mod.tr h9).tr k3).tr k5⟩
end
def qVA (wa:zY) (wb wc:Int) (wd:Slc) (we:Bool) (wf wg:Slc) (w:World) (R:RW):Prop:=
 aH prog (Instr.box 101 (zR wa wb wc wd we wf wg)) w λv w1=>∃ wv:zO,v=(.pointer wv)/\aH prog (Instr.buildSlice 38 1 #[(0,(.int .u8 ((0:UInt8)).toNat))]) w1 λv1 w2=>∃ x:Slc,v1=(zS x)/\∃ j:zT,(aA wv λa=>∃ x1:Bool,Rd w2 ((a.add 0).add 4) [.bool x1]/\aE x1 (((0<=(0:Int)/\(0:Int)<(x.len:Nat))/\aA x.a λa1=>aJ prog (storeVar 5 (a1.add (((0:Int)).toNat*1)) (.int .u8 ((1:UInt8)).toNat)) w2 λw3=>j [] w3)) (j [] w2))/\(∀ w4:World,j [] w4->∃ sx:zP,sx w4.drew/\(∃ ts:Nat->Value->zP,(∀ i v w1 w2,Mod NoB w1 w2->ts i v w1->ts i v w2)/\sx w4.drew/\((∀ w5,Mod NoB w4.drew w5->sx w5->aH prog (Instr.buildSlice 38 1 #[(0,(.int .u8 ((1:UInt8)).toNat))]) w5 λv2 w6=>∃ x2:Slc,v2=(zS x2)/\(Mod NoB w5 w6/\sx w6/\ts 0 (zS x2) w6))/\∀ x3:Slc,aA wv λa2=>∃ x4:zY,(∀ w',sx w'->Rd w' ((a2.add 0).add 0) [.string ⟨x4.toArray⟩])/\((∀ w7,Mod NoB w4.drew w7->sx w7->aH prog (convert 9 38 (.string ⟨x4.toArray⟩)) w7 λv3 w8=>∃ x5:Slc,v3=(zS x5)/\(Mod NoB w7 w8/\sx w8/\ts 4 (zS x5) w8))/\∀ x6:Slc,((∀ w9,Mod NoB w4.drew w9->sx w9->ts 4 (zS x6) w9->aD prog 194 [zS x6] w9 (aG R) λv4 w10=>∃ x7:Slc,v4=(zS x7)/\(Mod NoB w9 w10/\sx w10/\ts 5 (zS x7) w10))/\∀ x8:Slc,aA wv λa3=>∃ x9:Int,(∀ w',sx w'->Rd w' ((a3.add 0).add 1) [.int .i64 x9])/\((∀ w11,Mod NoB w4.drew w11->sx w11->ts 5 (zS x8) w11->aD prog 195 [.int .i64 x9] w11 (aG R) λv5 w12=>∃ x10:Slc,v5=(zS x10)/\(Mod NoB w11 w12/\sx w12/\ts 9 (zS x10) w12))/\∀ x11:Slc,aA wv λa4=>∃ x12:Int,(∀ w',sx w'->Rd w' ((a4.add 0).add 2) [.int .i64 x12])/\((∀ w13,Mod NoB w4.drew w13->sx w13->ts 9 (zS x11) w13->aD prog 195 [.int .i64 x12] w13 (aG R) λv6 w14=>∃ x13:Slc,v6=(zS x13)/\(Mod NoB w13 w14/\sx w14/\ts 13 (zS x13) w14))/\∀ x14:Slc,aA wv λa5=>∃ x15:Slc,(∀ w',sx w'->Rd w' ((a5.add 0).add 3) [zS x15])/\((∀ w15,Mod NoB w4.drew w15->sx w15->ts 13 (zS x14) w15->aD prog 195 [.int .i64 x15.len] w15 (aG R) λv7 w16=>∃ x16:Slc,v7=(zS x16)/\(Mod NoB w15 w16/\sx w16/\ts 18 (zS x16) w16))/\∀ x17:Slc,((∀ w17,Mod NoB w4.drew w17->sx w17->ts 18 (zS x17) w17->ts 13 (zS x14) w17->ts 9 (zS x11) w17->ts 5 (zS x8) w17->ts 0 (zS x3) w17->aH prog (Instr.buildSlice 77 5 #[(0,(zS x3)),(1,(zS x8)),(2,(zS x11)),(3,(zS x14)),(4,(zS x17))]) w17 λv8 w18=>∃ x18:Slc,v8=(zS x18)/\(Mod NoB w17 w18/\sx w18/\ts 19 (zS x18) w18))/\∀ x19:Slc,∀ w19,Mod NoB w4.drew w19->sx w19->ts 19 (zS x19) w19->ts 18 (zS x17) w19->ts 13 (zS x14) w19->ts 9 (zS x11) w19->ts 5 (zS x8) w19->ts 4 (zS x6) w19->ts 0 (zS x3) w19->aA wv λa6=>∃ x20:Slc,Rd w19 ((a6.add 0).add 3) [zS x20]/\∃ (inv:zT) (mu:zU),inv [.sl x19,.i .i64 0] w19/\(∀ parts:Slc,∀ x21:Int,∀ w20:World,inv [.sl parts,.i .i64 x21] w20->aE (decide (x21<x20.len)) ((zB x21 x20.len/\aA x20.a λa7=>∃ xa xb:Int,Rd w20 (a7.add (x21.toNat*2)) [.int .i64 xa,.int .i64 xb]/\aH prog (Instr.alloc 52 true (.tuple #[])) w20 λv9 w21=>∃ d:zO,v9=(.pointer d)/\aA d λa8=>aJ prog (storeVar 52 a8 (.agg #[.int .i64 xa,.int .i64 xb])) w21 λw22=>∃ sx1:zP,sx1 w22.drew/\aA d λa9=>aA d λa10=>∃ x22:Int,(∀ w',sx1 w'->Rd w' (a9.add 0) [.int .i64 x22])/\∃ x23:Int,(∀ w',sx1 w'->Rd w' (a10.add 1) [.int .i64 x23])/\((aD prog 195 [.int .i64 x22] w22.drew (aG R) λv10 w23=>∃ x24:Slc,v10=(zS x24)/\(sx1 w23/\((aD prog 195 [.int .i64 x23] w23 (aG R) λv11 w24=>∃ x25:Slc,v11=(zS x25)/\(sx1 w24/\((aH prog (Instr.buildSlice 77 2 #[(0,(zS x24)),(1,(zS x25))]) w24 λv12 w25=>∃ x26:Slc,v12=(zS x26)/\(sx1 w25/\((aH prog (Builtin.append_ #[77,77] 77 #[zS parts,zS x26]) w25 λv13 w26=>∃ x27:Slc,v13=(zS x27)/\(sx1 w26/\(inv [.sl x27,.i .i64 (zW (x21+1))] w26/\mu [.sl x27,.i .i64 (zW (x21+1))] w26<mu [.sl parts,.i .i64 x21] w20)))/\True)))/\True)))/\True)))/\True))) (aA wv λa11=>∃ x28:Slc,Rd w20 ((a11.add 0).add 5) [zS x28]/\aD prog 194 [zS x28] w20 (aG R) λv14 w27=>∃ x29:Slc,v14=(zS x29)/\aH prog (Instr.buildSlice 77 2 #[(0,(zS x)),(1,(zS x29))]) w27 λv15 w28=>∃ x30:Slc,v15=(zS x30)/\aH prog (Builtin.append_ #[77,77] 77 #[zS parts,zS x30]) w28 λv16 w29=>∃ x31:Slc,v16=(zS x31)/\aD prog 196 [zS x31] w29 (aG R) λv17 w30=>∃ x32:Slc,v17=(zS x32)/\R (.returned (zS x32)) w30)))))))))))
theorem qRE (wa:zY) (wb wc:Int) (wd:Slc) (we:Bool) (wf wg:Slc) {w:World} {R:RW} (h9:qVA wa wb wc wd we wf wg w R):Calls prog 113 #[zR wa wb wc wd we wf wg] w R:=
 zC (q0 .z (q0 .z (.seq (some []) (q0 .z (.cond .z .z)) (q0 (.draw 1 (.safe [(0,.sl),(1,.p),(2,.p),(3,.s),(4,.sl),(5,.sl),(6,.p),(7,.p),(8,(.i .i64)),(9,.sl),(10,.p),(11,.p),(12,(.i .i64)),(13,.sl),(14,.p),(15,.p),(16,.sl),(17,(.i .i64)),(18,.sl),(19,.sl),(20,.sl)] .done)) (q0 (q0 .z (.block none (.loop [(4,.sl),(37,(.i .i64))] (q0 .z (q0 (.cond .z .z) (q0 (.block none (q0 .z (.draw 1 (.take 0 (.take 1 (.take 4 (.take 2 (.take 5 (.all [(3,(.all [(6,(.all [(7,(.all [(8,(.take 9 .done))]))]))]))]))))))))) .z)))))) (q0 .z .z)))))) func113 [.agg [.agg [.s wa,.i .i64 wb,.i .i64 wc,.sl wd,.b we,.sl wf,.sl wg]]] h9
def qXS (a b:Slc) (w:World) (R:RW):Prop:=
 ∃ v w1,(callFunc 270 #[zS a,zS b]).run prog w = .ok (.value v) w1/\∃ x:Int,v=(.int .i64 x)/\R (.returned (.int .i64 x)) w1
theorem qKY (a b:Slc) {w:World} {R:RW} (h9:qXS a b w R):Calls prog 206 #[zS a,zS b] w R:=
 zC (q0 .z (q0 .z .z)) func206 [.sl a,.sl b] h9
structure Hd where
 a:zY
 b:Int
 c:Int
 d:Slc
 e:Bool
 f:Slc
 g:Slc
def Hd.cells (h:Hd):List Value:=[.string ⟨h.a.toArray⟩,.int .i64 h.b,.int .i64 h.c,h.d.val,.bool h.e,h.f.val,h.g.val]
def Hd.val (h:Hd):Value:=.agg h.cells.toArray
structure bH (w:World) (h:Hd) (r:Rc):Prop where
 key:h.a=r.key
 cl:h.b=r.cl
 sq:h.c=r.sq
 gone:h.e=r.gone
 ctx:aK w h.d 2 (dts r.ctx)
 val:aK w h.f 1 (bys r.val)
 sig:aK w h.g 1 (bys r.sig)
 sm:r.key.length<=1000000/\r.ctx.length<=1000000/\r.val.length<=1000000/\r.sig.length<=1000000
 lt : ∀ x,h.d.blk=some x\/h.f.blk=some x\/h.g.blk=some x->x<w.heap.size
theorem bH.mod {w w':World} {h:Hd} {r:Rc} {S:Nat->Prop} (H:bH w h r) (hm:Mod S w w') (hs : ∀ x,h.d.blk=some x\/h.f.blk=some x\/h.g.blk=some x->¬ S x):bH w' h r:=
 ⟨H.key,H.cl,H.sq,H.gone,H.ctx.mod hm λx hx=>hs x (.inl hx),H.val.mod hm λx hx=>hs x (.inr (.inl hx)),H.sig.mod hm λx hx=>hs x (.inr (.inr hx)),H.sm,λx hx=>Nat.lt_of_lt_of_le (H.lt x hx) hm.size⟩
theorem bH.no {w w':World} {h:Hd} {r:Rc} (H:bH w h r) (hm:Mod NoB w w'):bH w' h r:=H.mod hm λ_ _ h=>h
theorem Hd.one (h:Hd) : ∀ y∈h.cells,y.oneCell'=true:=by
 intro y hy
 simp only [Hd.cells,List.mem_cons,List.not_mem_nil,or_false] at hy
 rcases hy with rfl | rfl | rfl | rfl | rfl | rfl | rfl <;> rfl
theorem Hd.len (h:Hd):h.cells.length=7:=rfl
theorem rdH {w:World} {p:Nat} {h:Hd} {T:TypeId} (hb:Blk w p h.cells T):Rd w ⟨p,0,none⟩ h.cells:=hb.rd λj v hj=>by simpa using hj
theorem mO {w:World} {p i:Nat} {h:Hd} {T:TypeId} {v:Value} (hb:Blk w p h.cells T) (hi:h.cells[i]? = some v):Rd w (Addr.add (Addr.add ⟨p,0,none⟩ 0) i) [v]:=by rw [aO,aO]; exact hb.rd1 (by simpa using hi)
theorem bT {w:World} {p i:Nat} {h:Hd} {T:TypeId} {v:Value} (hb:Blk w p h.cells T) (hi:h.cells[i]? = some v):Rd w (Addr.add ⟨p,0,none⟩ i) [v]:=by rw [aO]; exact hb.rd1 (by simpa using hi)
theorem iF : ∃ i,prog.info? 40=some i/\i.zero=some (Hd.val ⟨[],0,0,⟨none,0,0⟩,false,⟨none,0,0⟩,⟨none,0,0⟩⟩)/\i.size=7/\i.bytes=112:=bC (by kernel_rfl) (by kernel_rfl) (by kernel_rfl)
theorem qKE : ∃ i,prog.info? 101=some i/\i.zero=some (Hd.val ⟨[],0,0,⟨none,0,0⟩,false,⟨none,0,0⟩,⟨none,0,0⟩⟩)/\i.size=7/\i.bytes=112:=bC (by kernel_rfl) (by kernel_rfl) (by kernel_rfl)
theorem kU:prog.underlying 37=some (.slice 52):=by kernel_rfl
theorem cB {w:World} {T:TypeId} {p:Nat} {h:Hd} {l:List Value} {E:TypeId} {K:zP} (hi:(prog.info? T).isSome=true) (hsz:bE prog T=7) (hb:Blk w p l E) (hl:l.length=7) (hk : ∀ w',Tch w w' p->Blk w' p h.cells E->K w'):aJ prog (storeVar T ⟨p,0,none⟩ h.val) w K:=
 bU (vs:=h.cells) hi (by rw [Hd.len]; exact hsz) rfl hb (by rw [Hd.len]; omega) h.one λw' ht h9=>hk w' ht (by
  have e:putAt l 0 h.cells=h.cells:=by
   simp only [putAt,List.take_zero,List.nil_append,Hd.len]
   rw [List.drop_eq_nil_of_le (by omega),List.append_nil]
  rwa [e] at h9)
section
variable {w:World}
theorem qAH {h:Hd} : Calls prog 46 #[h.val] w (Ret λu w'=>u = .agg #[.int .i64 h.b,.int .i64 h.c]/\Mod NoB w w'):=by
 refine qZV h.a h.b h.c h.d h.e h.f h.g ?_
 unfold jGH
 obtain ⟨id,k4,hd2,k5,k6⟩:=qI
 refine aQ (l:=h.cells) rfl λp w1 hN hb=>⟨_,rfl,?_⟩
 refine aN (l:=[.int .i64 0,.int .i64 0]) k4 hd2 rfl λq w2 h9 hb2=>⟨_,rfl,?_⟩
 refine ⟨h.b,mO (i:=1) (hb.no h9.mod) rfl,h.c,mO (i:=2) (hb.no h9.mod) rfl,?_⟩
 refine bU (vs:=[.int .i64 h.b,.int .i64 h.c]) (by kernel_rfl) (by kernel_rfl) rfl hb2 (by simp) (by intro u hu; simp at hu; rcases hu with rfl | rfl <;> rfl) λw3 ht hb3=>?_
 have k3:Blk w3 q [.int .i64 h.b,.int .i64 h.c] 52:=by simpa [putAt] using hb3
 have e1:=hN.mod.size; have e2:=h9.at_
 exact ⟨h.b,h.c,k3.rd λj v hj=>by simpa using hj,rfl,(hN.mod.tr h9.mod).fresh ht.mod λx e=>by omega⟩
theorem lL {h:Hd} {r:Rc} (H:bH w h r):Calls prog 44 #[h.val] w (Ret λu w'=>u = .bool r.shaped/\Mod NoB w w'):=by
 refine jAI h.a h.b h.c h.d h.e h.f h.g ?_
 unfold jHJ
 obtain ⟨id,q9,hd2,t6,u4⟩:=qI
 obtain ⟨u5,u6,u7,u9⟩:=H.sm
 refine aQ (l:=h.cells) rfl λp w1 hN hb=>⟨_,rfl,?_⟩
 refine ⟨λl w'=>match l with | [.b t]=>t=r.bad/\Mod NoB w1 w' | _=>False,?_,?_⟩
 ·refine ⟨h.a,mO (i:=0) hb rfl,aC (λhk=>⟨?_,Mod.refl _ _⟩) λhk=>?_⟩
  ·have hk:=of_decide_eq_true hk
   rw [H.key] at hk
   have : ¬ 1<=r.key.length:=by omega
   simp [Rc.bad,this]
  have hk:=of_decide_eq_false hk
  rw [H.key] at hk
  have hk1:1<=r.key.length:=by omega
  refine ⟨h.a,mO (i:=0) hb rfl,aC (λhq=>⟨?_,Mod.refl _ _⟩) λhq=>?_⟩
  ·have hq:=of_decide_eq_true hq
   rw [H.key] at hq
   have : ¬ r.key.length<=64:=by omega
   simp [Rc.bad,this]
  have hq:=of_decide_eq_false hq
  rw [H.key] at hq
  have hq1:r.key.length<=64:=by omega
  refine ⟨h.a,h.b,h.c,h.d,h.e,h.f,h.g,rdH hb,?_⟩
  refine aB qAH ?_
  rintro u w2 ⟨rfl,t7⟩
  refine ⟨_,_,rfl,?_⟩
  refine bZ [.agg #[.int .i64 h.b,.int .i64 h.c]] (l:=dts [(h.b,h.c)]) kU q9 hd2 t6 (by omega) rfl (by omega) (by omega) rfl (by intro v hv; simp at hv; subst hv; rfl) rfl λq w3 u0 hb3=>⟨⟨_,_,_⟩,rfl,?_⟩
  have hv3:aK w3 ⟨some ⟨q,0,none⟩,1,1⟩ 2 (dts [(h.b,h.c)]):=(aY (n:=1) (k:=2) hb3 (by simp)).rd
  refine aB (tF hv3 (by simp)) ?_
  rintro u w4 ⟨rfl,u1⟩
  have h9:Mod NoB w1 w4:=(t7.tr u0.mod).tr u1
  have edot:bG [(h.b,h.c)]=aU r.dot:=by rw [H.cl,H.sq]; rfl
  rw [edot]
  refine ⟨_,rfl,aC (λhd=>⟨by simp at hd; simp [Rc.bad,hd],h9⟩) λhd=>?_⟩
  have hd:aU r.dot=true:=by simpa using hd
  refine ⟨h.d,mO (i:=3) (hb.no h9) rfl,?_⟩
  refine aB (tF (H.ctx.no (hN.mod.tr h9)) (by omega)) ?_
  rintro u w5 ⟨rfl,u2⟩
  have k4:=h9.tr u2
  refine ⟨_,rfl,aC (λhv=>⟨by simp at hv; simp [Rc.bad,hv],k4⟩) λhv=>?_⟩
  have hv:bG r.ctx=true:=by simpa using hv
  have hm1d:=k4.tr (Mod.drew NoB w5)
  refine ⟨Mod NoB w5.drew,Mod.refl _ _,h.d,λw' hm=>mO (i:=3) (hb.no (hm1d.tr hm)) rfl,h.a,h.b,h.c,h.d,h.e,h.f,h.g,λw' hm=>rdH (hb.no (hm1d.tr hm)),?_,trivial⟩
  refine aB qAH ?_
  rintro u w6 ⟨rfl,k5⟩
  refine ⟨_,_,rfl,k5,?_,trivial⟩
  refine aB (qTT (H.ctx.no (hN.mod.tr (hm1d.tr k5))) (by omega)) ?_
  rintro u w7 ⟨rfl,p9⟩
  refine ⟨_,rfl,k5.tr p9,?_,(hm1d.tr k5).tr p9⟩
  rw [H.cl,H.sq]
  have u3:aU (r.cl,r.sq)=true:=hd
  simp [Rc.bad,hk1,hq1,u3,hv,Rc.dot]
 ·rintro t w8 ⟨rfl,q8⟩
  have k6:=hN.mod.tr q8
  have p8:=hb.no q8
  have hfl:=aV H.val
  refine aC (λk3=>⟨congrArg Value.bool (by rw [fB,k3]; rfl),k6⟩) λk3=>?_
  refine ⟨h.f,mO (i:=5) p8 rfl,aC (λh1=>?_) λh1=>⟨congrArg Value.bool ?_,k6⟩⟩
  ·have h1:r.val.length<=1024:=by have:=of_decide_eq_true h1; omega
   refine ⟨h.e,mO (i:=4) p8 rfl,aC (λh2=>⟨congrArg Value.bool ?_,k6⟩) λh2=>⟨h.f,mO (i:=5) p8 rfl,congrArg Value.bool ?_,k6⟩⟩
   ·rw [H.gone] at h2
    rw [fB,k3,h2]; simp [h1]
   ·rw [H.gone] at h2
    have h2:r.gone=true:=by simpa using h2
    rw [fB,k3,h2]
    have e:((h.f.len:Int)==0)=decide (r.val.length=0):=by
     rw [<-hfl]
     apply Bool.eq_iff_iff.2
     simp
    rw [e]; simp [h1]
  ·have h1 : ¬ r.val.length<=1024:=by have:=of_decide_eq_false h1; omega
   rw [fB]; simp [h1]
theorem qEE {h:Hd} {r:Rc} (H:bH w h r):Calls prog 41 #[h.val] w (Ret λu w'=>u = .bool r.right/\Mod NoB w w'):=by
 refine jAX h.a h.b h.c h.d h.e h.f h.g ?_
 unfold jDF
 refine aQ (l:=h.cells) rfl λp w1 hN hb=>⟨_,rfl,?_⟩
 refine ⟨h.a,h.b,h.c,h.d,h.e,h.f,h.g,rdH hb,?_⟩
 refine aB (lL (h:=h) (H.no hN.mod)) ?_
 rintro u w2 ⟨rfl,h9⟩
 have hgl:=aV H.sig
 refine ⟨_,rfl,aC (λh1=>⟨h.g,bT (i:=6) (hb.no h9) rfl,congrArg Value.bool ?_,hN.mod.tr h9⟩) λh1=>⟨congrArg Value.bool (by simp [Rc.right,h1]),hN.mod.tr h9⟩⟩
 rw [Rc.right,h1,<-hgl]
 apply Bool.eq_iff_iff.2
 simp
 omega
end
def dZ (wb w:World) (x:Slc) (pl:List (zY)):Prop:=
 ∃ ss:List Slc,Sh.Own w x 1 (bL ss)/\FB wb x/\ss.length=pl.length/\∀ i (h:i<ss.length) (h':i<pl.length),aK w ss[i] 1 (bys pl[i])/\∀ z,ss[i].blk=some z->z<w.heap.size/\x.blk≠some z
theorem dZ.no {wb w w':World} {x:Slc} {pl:List (zY)} (h:dZ wb w x pl) (hm:Mod NoB w w'):dZ wb w' x pl:=by
 obtain ⟨ss,h1,h2,h3,h4⟩:=h
 exact ⟨ss,h1.no hm,h2,h3,λi a b=>⟨(h4 i a b).1.no hm,λz hz=>⟨Nat.lt_of_lt_of_le ((h4 i a b).2 z hz).1 hm.size,((h4 i a b).2 z hz).2⟩⟩⟩
theorem dZ.parts {wb w:World} {x:Slc} {pl:List (zY)} (h:dZ wb w x pl):PartsAt w x pl (λz=>z<w.heap.size):=by
 obtain ⟨ss,h1,h2,h3,h4⟩:=h
 exact ⟨ss,h1.rd,λz hz=>h1.lt hz,h3,λi a b=>⟨(h4 i a b).1,λz hz=>((h4 i a b).2 z hz).1⟩⟩
theorem dZ.len {wb w:World} {x:Slc} {pl:List (zY)} (h:dZ wb w x pl):pl.length=x.len:=by
 obtain ⟨ss,h1,h2,h3,h4⟩:=h
 have:=h1.1; rw [fH] at this; omega
theorem fL {K:Value->zP} {wb w:World} (ss:List Slc) (pl:List (zY)) {n:Nat} {ps:Array (Nat×Value)} (hps:ps.toList=((ss.map Slc.val).zipIdx 0).map λx=>(x.2,x.1)) (hn:n=ss.length) (h0:0<n) (hs:n<=10000) (hw:Mod NoB wb w) (hl:ss.length=pl.length)
 (hss : ∀ i (h:i<ss.length) (h':i<pl.length),aK w ss[i] 1 (bys pl[i])/\∀ z,ss[i].blk=some z->z<w.heap.size)
 (hK : ∀ (x:Slc) w',dZ wb w' x pl->Mod NoB w w'->aK w' x 1 (bL ss)->K x.val w'):aH prog (Instr.buildSlice 77 n ps) w K:=
 iL ss hps hn h0 hs λx b w' hN ex hb ho=>hK x w' ⟨ss,ho,by subst ex; exact FB.new (by have:=hN.at_; have:=hw.size; omega),hl,λi a b=>⟨(hss i a b).1.no hN.mod,λz hz=>⟨Nat.lt_of_lt_of_le ((hss i a b).2 z hz) hN.mod.size,λe=>by
  have h1:=(hss i a b).2 z hz
  have h2:=qEM ex z e
  have:=hN.at_
  omega⟩⟩⟩ hN.mod ho.rd
theorem yK {K:Value->zP} {wb wc w:World} {x y:Slc} {pl ql:List (zY)} (hx:dZ wb w x pl) (hy:dZ wc w y ql) (hn:pl.length+ql.length<=100000000) (hw:Mod NoB wb w)
 (hne : ∀ (tt:List Slc),aK w y 1 (bL tt)->∀ i (h:i<tt.length) z,tt[i].blk=some z->x.blk≠some z)
 (hK : ∀ (x':Slc) w',dZ wb w' x' (pl++ql)->Mod NoB wb w'->Mod (λz=>x.blk=some z) w w'->K x'.val w'):aH prog (Builtin.append_ #[77,77] 77 #[.slice x.a x.len x.cap,.slice y.a y.len y.cap]) w K:=by
 obtain ⟨i',h1,h2,h3,h4⟩:=i26
 have hxl:=hx.len; have hyl:=hy.len
 obtain ⟨ss,o1,f1,l1,c1⟩:=hx
 obtain ⟨tt,o2,f2,l2,c2⟩:=hy
 have h9:=hne tt o2.rd
 refine aS u22 h1 h2 h3 rfl h4 o1 o2.rd (lH _) (by omega) (by omega) λs' w' ho hlen hblk hm=>?_
 have hsz:=hm.size
 refine hK s' w' ⟨ss++tt,by simpa [bL] using ho,f1.step hw.size hblk,by simp [l1,l2],λi a b=>?_⟩ (f1.mod hw hm) hm
 have hkeep : ∀ {s:Slc} {l:zY},aK w s 1 (bys l)->(∀ z,s.blk=some z->z<w.heap.size/\x.blk≠some z)->aK w' s 1 (bys l)/\∀ z,s.blk=some z->z<w'.heap.size/\s'.blk≠some z:=λhr hz=>⟨hr.mod hm λz h e=>(hz z h).2 e,λz h=>⟨Nat.lt_of_lt_of_le (hz z h).1 hsz,λe=>by
  rcases hblk with hb | hb
  ·exact (hz z h).2 (by rw [<-hb]; exact e)
  ·rw [hb] at e; cases e; exact absurd (hz _ h).1 (Nat.lt_irrefl _)⟩⟩
 rcases Nat.lt_or_ge i ss.length with hi | hi
 ·have e1:(ss++tt)[i]=ss[i]:=List.getElem_append_left hi
  have e2:(pl++ql)[i]=pl[i]'(by omega):=List.getElem_append_left (by omega)
  rw [e1,e2]
  exact hkeep (c1 i hi (by omega)).1 (c1 i hi (by omega)).2
 ·have k3:i - ss.length<tt.length:=by simp at a; omega
  have e1:(ss++tt)[i]=tt[i - ss.length]:=List.getElem_append_right hi
  have e2:(pl++ql)[i]=ql[i - ss.length]'(by omega):=by rw [List.getElem_append_right (by omega)]; congr 1; omega
  rw [e1,e2]
  exact hkeep (c2 _ k3 (by omega)).1 λz hz=>⟨((c2 _ k3 (by omega)).2 z hz).1,h9 _ k3 z hz⟩
def TX (wb:World) (f:Nat->zY) (pl:List (zY)) (i:Nat) (v:Value) (w:World):Prop:=match v with
 | .slice a n c=>if i=19 then dZ wb w ⟨a,n,c⟩ pl else (Sh.Own w ⟨a,n,c⟩ 1 (bys (f i))/\FB wb ⟨a,n,c⟩)
 | _=>False
theorem TX.stable (wb:World) (f:Nat->zY) (pl:List (zY)) : ∀ i v w1 w2,Mod NoB w1 w2->TX wb f pl i v w1->TX wb f pl i v w2:=by
 intro i v w1 w2 hm h
 unfold TX at *
 split at h
 ·split at h
  ·next h9=>rw [if_pos h9]; exact h.no hm
  ·next h9=>rw [if_neg h9]; exact ⟨h.1.no hm,h.2⟩
 ·exact h.elim
theorem TX.mk {wb w:World} {f:Nat->zY} {pl:List (zY)} {i:Nat} {x:Slc} (hi:i≠19) (h1:Sh.Own w x 1 (bys (f i))) (h2:FB wb x):TX wb f pl i (.slice x.a x.len x.cap) w:=by
 unfold TX; simp only []; rw [if_neg hi]; exact ⟨h1,h2⟩
theorem TX.get {wb w:World} {f:Nat->zY} {pl:List (zY)} {i:Nat} {x:Slc} (hi:i≠19) (h:TX wb f pl i (.slice x.a x.len x.cap) w):Sh.Own w x 1 (bys (f i))/\FB wb x:=by
 unfold TX at h; simp only [] at h; rw [if_neg hi] at h; exact h
theorem TX.mk19 {wb w:World} {f:Nat->zY} {pl:List (zY)} {x:Slc} (h:dZ wb w x pl):TX wb f pl 19 (.slice x.a x.len x.cap) w:=h
theorem TX.get19 {wb w:World} {f:Nat->zY} {pl:List (zY)} {x:Slc} (h:TX wb f pl 19 (.slice x.a x.len x.cap) w):dZ wb w x pl:=h
section
variable {w:World}
def tf (h:Hd) (i:Nat):zY:=if i=0 then [1] else if i=4 then h.a else if i=5 then eG h.a else if i=9 then bI h.b else if i=13 then bI h.c else bI (h.d.len:Int)
def rW (l:List (Int×Int)):List (zY):=l.flatMap λd=>[bI d.1,bI d.2]
theorem yP (l:List (Int×Int)):(rW l).length=l.length*2:=by
 induction l with
 | nil=>rfl
 | cons a l ih=>simp only [rW,List.flatMap_cons,List.length_append] at ih ⊢; simp only [ih,List.length_cons,List.length_nil]; omega
theorem jE (l:List (Int×Int)):(rW l).flatten=l.flatMap λd=>bI d.1++bI d.2:=by
 induction l with
 | nil=>rfl
 | cons a l ih=>simp only [rW,List.flatMap_cons] at ih ⊢; rw [List.flatten_append,ih]; simp
theorem jC (l:zY):(eG l).length=8+l.length:=by simp [eG]
theorem fW (l:List (Int×Int)):(rW l).flatten.length=l.length*16:=by
 rw [jE]
 induction l with
 | nil=>rfl
 | cons a l ih=>simp only [List.flatMap_cons,List.length_append,ih,jF,List.length_cons]; omega
theorem qVC {W:World} {a b c d e:Slc} {p q r s t:zY} (ha:aK W a 1 (bys p)/\∀ x,a.blk=some x->x<W.heap.size) (hb:aK W b 1 (bys q)/\∀ x,b.blk=some x->x<W.heap.size) (hc:aK W c 1 (bys r)/\∀ x,c.blk=some x->x<W.heap.size) (hd:aK W d 1 (bys s)/\∀ x,d.blk=some x->x<W.heap.size) (he:aK W e 1 (bys t)/\∀ x,e.blk=some x->x<W.heap.size) :
 ∀ i (h:i<[a,b,c,d,e].length) (h':i<[p,q,r,s,t].length),aK W [a,b,c,d,e][i] 1 (bys [p,q,r,s,t][i])/\∀ x,[a,b,c,d,e][i].blk=some x->x<W.heap.size:=by
 intro i hi h9
 match i,hi with
 | 0,_=>exact ha
 | 1,_=>exact hb
 | 2,_=>exact hc
 | 3,_=>exact hd
 | 4,_=>exact he
theorem qIU {b:Nat} {n c:Nat} : ∀ z,Slc.blk ⟨some ⟨b,0,none⟩,n,c⟩=some z->z=b:=λz hz=>by rw [Slc.blk_mk] at hz; split at hz <;> simp_all
theorem qKM {w:World} {a b y:Slc} {tt:List Slc} (hr:aK w y 1 (bL tt)) (hy:aK w y 1 (bL [a,b])) {X:Nat->Prop} (ha : ∀ z,a.blk=some z->X z) (hb : ∀ z,b.blk=some z->X z) : ∀ i (h:i<tt.length) z,tt[i].blk=some z->X z:=by
 have hl:tt.length=2:=by have h1:=hr.1; have h2:=hy.1; rw [fH] at h1 h2; simp at h2; omega
 obtain ⟨t0,t1,rfl⟩ : ∃ t0 t1,tt=[t0,t1]:=by
  match tt,hl with
  | [t0,t1],_=>exact ⟨t0,t1,rfl⟩
 rcases hr.2.2 with h | ⟨A,e1,r1⟩
 ·simp [bL] at h
 rcases hy.2.2 with h | ⟨A',e2,r2⟩
 ·simp [bL] at h
 rw [e1] at e2; cases e2
 have g0:=(r1 0 _ rfl).symm.trans (r2 0 _ rfl)
 have g1:=(r1 1 _ rfl).symm.trans (r2 1 _ rfl)
 have hv : ∀ {s t:Slc},s.val=t.val->s=t:=λ{s t} h=>by
  obtain ⟨_,_,_⟩:=s; obtain ⟨_,_,_⟩:=t
  simp [Slc.val] at h; simp [h]
 have e0:t0=a:=hv (by simpa using g0)
 have e1:t1=b:=hv (by simpa using g1)
 subst e0 e1
 intro i hi z hz
 match i,hi with
 | 0,_=>exact ha z hz
 | 1,_=>exact hb z hz
theorem qEA {h:Hd} {r:Rc} (H:bH w h r):Calls prog 113 #[h.val] w (Ret (RL r.text w)):=by
 refine qRE h.a h.b h.c h.d h.e h.f h.g ?_
 unfold qVA
 obtain ⟨id,a8,hd2,o6,o7⟩:=qI
 obtain ⟨o8,o9,r0,r7⟩:=H.sm
 refine aQ (l:=h.cells) rfl λp w1 hN hb=>⟨_,rfl,?_⟩
 refine fQ [0] rfl rfl (by omega) (by omega) λx gb w2 y1 ex hb2 r8=>⟨x,rfl,?_⟩
 subst ex
 have hM2:Mod NoB w w2:=hN.mod.tr y1.mod
 have hgs:=y1.at_
 have t6:=hb.no y1.mod
 have r9:p<gb:=by have:=hb.lt; omega
 refine ⟨λl w'=>match l with | []=>Blk w' gb (bys [if h.e then 1 else 0]) 5/\Blk w' p h.cells 101/\Mod NoB w w' | _=>False,?_,?_⟩
 ·refine ⟨h.e,mO (i:=4) t6 rfl,aC (λhe=>?_) λhe=>?_⟩
  ·refine ⟨⟨by omega,by show (0:Int)<((1:Nat):Int); omega⟩,?_⟩
   refine iX (b:=gb) (n:=0) (by kernel_rfl) (by kernel_rfl) rfl hb2 (by simp [bys]) λw3 ht hb3=>?_
   exact ⟨by rw [he]; exact hb3,t6.mod ht.mod (by omega),hM2.fresh ht.mod λz e=>by subst e; have:=hN.mod.size; omega⟩
  ·exact ⟨by rw [he]; exact hb2,t6,hM2⟩
 rintro w4 ⟨hg4,hb4,i6⟩
 have y2:Mod NoB w w4.drew:=i6.tr (Mod.drew _ _)
 refine ⟨Mod NoB w4.drew,Mod.refl _ _,TX w4.drew (tf h) [[1],eG h.a,bI h.b,bI h.c,bI (h.d.len:Int)],TX.stable _ _ _,Mod.refl _ _,?_⟩
 refine ⟨λw5 hm _=>fQ [1] rfl rfl (by omega) (by omega) λy yb w6 y5 ey s4 k4=>⟨y,rfl,y5.mod,hm.tr y5.mod,TX.mk (by omega) k4 (by subst ey; exact FB.new (by have:=y5.at_; have:=hm.size; omega))⟩,λx3=>?_⟩
 refine ⟨h.a,λw' hm=>mO (i:=0) (hb4.drew.no hm) rfl,?_⟩
 refine ⟨λw5 hm _=>oB (by exact qL) u26 uU8 λy w6 k4 hlen hblk h9 i7=>⟨y,rfl,h9,hm.tr h9,TX.mk (by omega) k4 (λz hz=>by
  rcases hblk with e | e
  ·rw [e] at hz; cases hz; exact hm.size
  ·rw [e] at hz; cases hz)⟩,λx6=>?_⟩
 refine ⟨λw5 hm _ ht=>?_,λx8=>?_⟩
 ·obtain ⟨ho,hf⟩:=ht.get (by omega)
  refine dP (xU (l:=h.a) ho.rd (λz hz=>ho.lt hz) (by rw [H.key]; omega)) λy w6 k4 t7 h9=>⟨h9,hm.tr h9,TX.mk (by omega) k4 (t7.le hm.size)⟩
 refine ⟨h.b,λw' hm=>mO (i:=1) (hb4.drew.no hm) rfl,?_⟩
 refine ⟨λw5 hm _ ht=>dP gY λy w6 k4 t7 h9=>⟨h9,hm.tr h9,TX.mk (by omega) k4 (t7.le hm.size)⟩,λx11=>?_⟩
 refine ⟨h.c,λw' hm=>mO (i:=2) (hb4.drew.no hm) rfl,?_⟩
 refine ⟨λw5 hm _ ht=>dP gY λy w6 k4 t7 h9=>⟨h9,hm.tr h9,TX.mk (by omega) k4 (t7.le hm.size)⟩,λx14=>?_⟩
 refine ⟨h.d,λw' hm=>mO (i:=3) (hb4.drew.no hm) rfl,?_⟩
 refine ⟨λw5 hm _ ht=>dP gY λy w6 k4 t7 h9=>⟨h9,hm.tr h9,TX.mk (by omega) k4 (t7.le hm.size)⟩,λx17=>?_⟩
 refine ⟨λw5 hm _ t18 t13 t9 t5 t0=>?_,?_⟩
 ·have g : ∀ {i:Nat} {y:Slc},i≠19->TX w4.drew (tf h) [[1],eG h.a,bI h.b,bI h.c,bI (h.d.len:Int)] i (.slice y.a y.len y.cap) w5->aK w5 y 1 (bys (tf h i))/\∀ z,y.blk=some z->z<w5.heap.size:=λhi ht=>⟨(ht.get hi).1.rd,λz hz=>(ht.get hi).1.lt hz⟩
  exact fL [x3,x8,x11,x14,x17] _ rfl rfl (by omega) (by omega) hm rfl (qVC (g (by omega) t0) (g (by omega) t5) (g (by omega) t9) (g (by omega) t13) (g (by omega) t18)) λy w6 hR h9 hz=>⟨y,rfl,h9,hm.tr h9,TX.mk19 hR⟩
 intro x19 s5 u0 _ t19 t18 t13 t9 t5 t4 t0
 have y7:=t19.get19
 have i8:=y2.tr u0
 have y8:=hb4.drew.no u0
 have hdl:=dW H.ctx
 refine ⟨h.d,mO (i:=3) y8 rfl,?_⟩
 refine ⟨λl w'=>match l with | [.sl y,.i _ x]=>∃ k:Nat,x=(k:Int)/\k<=r.ctx.length/\dZ w4.drew w' y ([[1],eG h.a,bI h.b,bI h.c,bI (h.d.len:Int)]++rW (r.ctx.take k))/\Mod NoB w4.drew w' | _=>False,λl _=>match l with | [.sl _,.i _ x]=>(r.ctx.length - x).toNat | _=>0,⟨0,rfl,by omega,y7,u0⟩,?_⟩
 rintro y x p9 ⟨k,rfl,hk,hR,k5⟩
 have u1:=y2.tr k5
 refine aC (λhlt=>?_) λhge=>?_
 ·have hlt:k<r.ctx.length:=by have:=of_decide_eq_true hlt; omega
  obtain ⟨a,ea,hr⟩:=fP (H.ctx.no u1) hlt
  refine ⟨⟨by omega,by omega⟩,?_⟩
  rw [ea]
  refine ⟨_,_,hr,?_⟩
  refine aN (l:=[.int .i64 0,.int .i64 0]) a8 hd2 rfl λq v8 u4 y9=>⟨_,rfl,?_⟩
  refine bU (vs:=[.int .i64 r.ctx[k].1,.int .i64 r.ctx[k].2]) (by kernel_rfl) (by kernel_rfl) rfl y9 (by simp) (by intro u hu; simp at hu; rcases hu with rfl | rfl <;> rfl) λk6 ht z1=>?_
  have q8:Blk k6 q [.int .i64 r.ctx[k].1,.int .i64 r.ctx[k].2] 52:=by simpa [putAt] using z1
  have hq:=u4.at_
  have k3:Mod NoB p9 k6:=u4.mod.fresh ht.mod λz e=>by omega
  have z6:Mod NoB p9 k6.drew:=k3.tr (Mod.drew _ _)
  have y0 : ∀ z,y.blk=some z->z<p9.heap.size:=λz hz=>by obtain ⟨_,ho,_⟩:=hR; exact ho.lt hz
  have b6 : ∀ {S:Nat->Prop},¬ (y.blk=some q):=λe=>by have:=y0 q e; omega
  have tom : ∀ {w':World},Mod NoB k6.drew w'->Mod (λz=>y.blk=some z) k6.drew w':=λhm=>hm.mono λ_ _ h=>h.elim
  refine ⟨Mod (λz=>y.blk=some z) k6.drew,Mod.refl _ _,r.ctx[k].1,λw' hm=>by rw [aO]; exact (q8.drew.mod hm (b6 (S:=NoB))).rd1 rfl,r.ctx[k].2,λw' hm=>by rw [aO]; exact (q8.drew.mod hm (b6 (S:=NoB))).rd1 rfl,?_,trivial⟩
  refine dP gY λna a6 a7 hfa u3=>⟨tom u3,?_,trivial⟩
  refine dP gY λnb z7 u5 z8 p8=>⟨tom (u3.tr p8),?_,trivial⟩
  have u6:Mod NoB p9 z7:=z6.tr (u3.tr p8)
  refine fL (wb:=z7) [na,nb] [bI r.ctx[k].1,bI r.ctx[k].2] rfl rfl (by omega) (by omega) (Mod.refl _ _) rfl (uM (a7.no p8).rd (λz hz=>(a7.no p8).lt hz) u5.rd (λz hz=>u5.lt hz)) λyl o0 hRl u2 hyl=>⟨yl,rfl,tom ((u3.tr p8).tr u2),?_,trivial⟩
  have q9:=u6.tr u2
  have j2:=hR.no q9
  have u7:=yP (r.ctx.take k)
  rw [List.length_take] at u7
  have hne : ∀ (tt:List Slc),aK o0 yl 1 (bL tt)->∀ i (h:i<tt.length) z,tt[i].blk=some z->y.blk≠some z:=λtt j3 i hi z hz e=>by
   have h1:=qKM j3 hyl (X:=λz=>p9.heap.size<=z) (λz hz=>Nat.le_trans z6.size (hfa z hz)) (λz hz=>Nat.le_trans (z6.tr u3).size (z8 z hz)) i hi z hz
   have h2:=y0 z e
   omega
  refine yK j2 hRl (by rw [List.length_append,u7]; simp; omega) (k5.tr q9) hne λy' s6 j4 u9 j5=>⟨y',rfl,?_,?_⟩
  ·exact (tom ((u3.tr p8).tr u2)).tr j5
  ·rw [wrap_i64 (e:=(k:Int)+1) (by omega)]
   refine ⟨⟨k+1,by omega,by omega,?_,u9⟩,by (try simp only []); omega⟩
   have e:rW (r.ctx.take (k+1))=rW (r.ctx.take k)++[bI r.ctx[k].1,bI r.ctx[k].2]:=by
    rw [aL hlt]; unfold rW; rw [List.flatMap_append]; rfl
   rw [e,<-List.append_assoc]; exact j4
 ·have hkk:k=r.ctx.length:=by have:=of_decide_eq_false hge; omega
  subst hkk
  rw [List.take_length] at hR
  have y0 : ∀ z,y.blk=some z->z<p9.heap.size:=λz hz=>by obtain ⟨_,ho,_⟩:=hR; exact ho.lt hz
  have o1 : ∀ z,y.blk=some z->w4.heap.size<=z:=λz hz=>by obtain ⟨_,_,hf,_⟩:=hR; exact hf z hz
  have u7:=yP r.ctx
  refine ⟨h.f,mO (i:=5) (hb4.drew.no k5) rfl,?_⟩
  refine dP (xU (H.val.no u1) (λz hz=>Nat.lt_of_lt_of_le (H.lt z (.inr (.inl hz))) u1.size) (by omega)) λvb v8 u5 z8 p8=>?_
  have v1:Blk v8 gb (bys [if h.e then 1 else 0]) 5:=(hg4.drew.no k5).no p8
  have o2:aK v8 ⟨some ⟨gb,0,none⟩,1,1⟩ 1 (bys [if h.e then 1 else 0]):=(aY (n:=1) (k:=1) v1 rfl).rd
  refine fL (wb:=v8) [⟨some ⟨gb,0,none⟩,1,1⟩,vb] [[if h.e then 1 else 0],eG r.val] rfl rfl (by omega) (by omega) (Mod.refl _ _) rfl (uM o2 (λz hz=>by rw [qIU z hz]; exact v1.lt) u5.rd (λz hz=>u5.lt hz)) λyl k6 hRl j6 hyl=>⟨yl,rfl,?_⟩
  have k3:Mod NoB p9 k6:=p8.tr j6
  have hne : ∀ (tt:List Slc),aK k6 yl 1 (bL tt)->∀ i (h:i<tt.length) z,tt[i].blk=some z->y.blk≠some z:=λtt j3 i hi z hz e=>by
   have h1:=qKM j3 hyl (X:=λz=>z=gb\/p9.heap.size<=z) (λz hz=>.inl (qIU z hz)) (λz hz=>.inr (z8 z hz)) i hi z hz
   have h2:=y0 z e
   have h3:=o1 z e
   have h4:=hg4.lt
   omega
  refine yK (hR.no k3) hRl (by rw [List.length_append,u7]; simp; omega) (k5.tr k3) hne λy' a6 b5 v6 o3=>⟨y',rfl,?_⟩
  have v7:Mod NoB w a6:=y2.tr v6
  have hfin:([[1],eG h.a,bI h.b,bI h.c,bI (h.d.len:Int)]++rW r.ctx++[[if h.e then 1 else 0],eG r.val]).flatten=r.text:=by
   rw [List.flatten_append,List.flatten_append,jE,H.key,H.cl,H.sq,H.gone,<-hdl]
   simp [Rc.text]
  refine dP (vO b5.parts (λ_ h=>h) ?_ ?_) λt z7 o4 o5 hmt=>⟨t,rfl,?_,o5.le v7.size,v7.tr hmt⟩
  ·rw [List.flatten_append,List.flatten_append,List.length_append,List.length_append,fW,H.key]
   have e1:[[1],eG r.key,bI h.b,bI h.c,bI (h.d.len:Int)].flatten.length=33+r.key.length:=by simp [jC]; omega
   have e2:[[if h.e then (1:UInt8) else 0],eG r.val].flatten.length=9+r.val.length:=by simp [jC]; omega
   rw [e1,e2]; omega
  ·rw [List.length_append,List.length_append,u7]; simp; omega
  ·rw [<-hfin]; exact o4
end
theorem rd20 {w:World} {o:Nat} {ps:List UInt64} {r:List Value} {T:TypeId} (hB:Blk w o (us ps++r) T) (hp:ps.length=20) {K:UInt64->UInt64->UInt64->UInt64->UInt64->UInt64->UInt64->UInt64->UInt64->UInt64->UInt64->UInt64->UInt64->UInt64->UInt64->UInt64->UInt64->UInt64->UInt64->UInt64->Prop} (hK : ∀ x0 x1 x2 x3 x4 x5 x6 x7 x8 x9 x10 x11 x12 x13 x14 x15 x16 x17 x18 x19,K x0 x1 x2 x3 x4 x5 x6 x7 x8 x9 x10 x11 x12 x13 x14 x15 x16 x17 x18 x19) : ∃ x0:UInt64,∃ x1:UInt64,∃ x2:UInt64,∃ x3:UInt64,∃ x4:UInt64,∃ x5:UInt64,∃ x6:UInt64,∃ x7:UInt64,∃ x8:UInt64,∃ x9:UInt64,∃ x10:UInt64,∃ x11:UInt64,∃ x12:UInt64,∃ x13:UInt64,∃ x14:UInt64,∃ x15:UInt64,∃ x16:UInt64,∃ x17:UInt64,∃ x18:UInt64,∃ x19:UInt64,Rd w ((⟨o,0,none⟩:Addr).add 0) (l20 x0 x1 x2 x3 x4 x5 x6 x7 x8 x9 x10 x11 x12 x13 x14 x15 x16 x17 x18 x19)/\K x0 x1 x2 x3 x4 x5 x6 x7 x8 x9 x10 x11 x12 x13 x14 x15 x16 x17 x18 x19:=by
 obtain ⟨x0,x1,x2,x3,x4,x5,x6,x7,x8,x9,x10,x11,x12,x13,x14,x15,x16,x17,x18,x19,rfl⟩:=qUG hp
 refine ⟨x0,x1,x2,x3,x4,x5,x6,x7,x8,x9,x10,x11,x12,x13,x14,x15,x16,x17,x18,x19,?_,hK _ _ _ _ _ _ _ _ _ _ _ _ _ _ _ _ _ _ _ _⟩
 rw [aO]
 exact hB.rd λj v hj=>by
  rw [List.getElem?_append_left (by have:=(List.getElem?_eq_some_iff.1 hj).1; simpa [us] using this)]
  simpa [us] using hj
theorem xY {w w0:World} {o:Nat} (hO:OpenAt w0 w o):Calls prog 184 #[.pointer (some ⟨o,0,none⟩)] w (Ret (R32 w)):=by
 refine qLZ _ ?_
 unfold qYF
 obtain ⟨⟨ps,s,d,T,h1,hB,_⟩,_⟩:=hO
 refine rd20 hB h1 λx0 x1 x2 x3 x4 x5 x6 x7 x8 x9 x10 x11 x12 x13 x14 x15 x16 x17 x18 x19=>?_
 have hc:=qHC (w:=w) (x0:=x0) (x1:=x1) (x2:=x2) (x3:=x3) (x4:=x4) (x5:=x5) (x6:=x6) (x7:=x7) (x8:=x8) (x9:=x9) (x10:=x10) (x11:=x11) (x12:=x12) (x13:=x13) (x14:=x14) (x15:=x15) (x16:=x16) (x17:=x17) (x18:=x18) (x19:=x19)
 refine aB hc ?_
 rintro v w1 ⟨b,l,rfl,h⟩
 exact ⟨⟨some ⟨b,0,none⟩,32,32⟩,rfl,b,l,rfl,h⟩
theorem qKD {w:World} {seed:Slc} {l:zY} (hg:iW w) (hs:aK w seed 1 (bys l)) (hsl : ∀ z,seed.blk=some z->z<w.heap.size) (hl:l.length=32) :
 Calls prog 110 #[.slice seed.a seed.len seed.cap] w (Ret (R32 w)):=by
 refine qMP _ ?_
 unfold qYE
 refine aB (qJT hg hs hsl hl) ?_
 rintro v w1 ⟨o,rfl,hO,h9⟩
 refine ⟨_,_,rfl,aC (λh=>by simp at h) λ_=>?_⟩
 refine aB (xY hO) ?_
 rintro v w2 ⟨b,l',rfl,h1,h2,h3,h4⟩
 exact ⟨⟨some ⟨b,0,none⟩,32,32⟩,rfl,b,l',rfl,h1,h2,Nat.le_trans h9.size h3,h9.tr h4⟩
theorem jBF {w:World} {seed text:Slc} {l:zY} {ss:List Slc} {pl:List (zY)} (hg:iW w) (hs:aK w seed 1 (bys l)) (hsl : ∀ z,seed.blk=some z->z<w.heap.size) (hl:l.length=32)
 (hp:aK w text 1 (bL ss)) (hpl : ∀ z,text.blk=some z->z<w.heap.size) (p8:ss.length=pl.length)
 (hss : ∀ i (h:i<ss.length) (h':i<pl.length),aK w ss[i] 1 (bys pl[i])/\∀ z,ss[i].blk=some z->z<w.heap.size) (hn:pl.flatten.length<=700000000) (hm:pl.length<=10000) :
 Calls prog 112 #[.slice seed.a seed.len seed.cap,.slice text.a text.len text.cap] w (Ret (RN 64 w)):=by
 refine qPV _ _ ?_
 unfold qXE
 refine aB (qJT hg hs hsl hl) ?_
 rintro v w1 ⟨o,rfl,hO,p9⟩
 refine ⟨_,_,rfl,aC (λh=>by simp at h) λ_=>?_⟩
 obtain ⟨⟨ps,sc,dr,T,h1,hB,⟨ls,j5,u5⟩,⟨ld,hdr,j6⟩,hsb,b5⟩,hno⟩:=id hO
 have q8 : ∀ {w':World},Mod NoB w w'->∀ i (h:i<ss.length) (h':i<pl.length),aK w' ss[i] 1 (bys pl[i])/\∀ z,ss[i].blk=some z->z<w'.heap.size:=λhm i h h'=>⟨(hss i h h').1.no hm,λz hz=>Nat.lt_of_lt_of_le ((hss i h h').2 z hz) hm.size⟩
 have hlt : ∀ {w':World} {x:Slc},Mod NoB w w'->(∀ z,x.blk=some z->z<w.heap.size)->∀ z,x.blk=some z->z<w'.heap.size:=λhm h z hz=>Nat.lt_of_lt_of_le (h z hz) hm.size
 have q9 : ∀ {w':World},Mod NoB w1 w'->Rd w' ((⟨o,0,none⟩:Addr).add 21) [dr.val]/\Rd w' ((⟨o,0,none⟩:Addr).add 20) [sc.val]:=λhm=>by
  rw [aO,aO]
  exact ⟨(hB.no hm).rd1 (by rw [List.getElem?_append_right (by simp [h1])]; simp [h1]),(hB.no hm).rd1 (by rw [List.getElem?_append_right (by simp [h1])]; simp [h1])⟩
 refine ⟨dr,(q9 (Mod.refl _ _)).1,?_⟩
 refine yZ (yX (hg.no p9) hdr (λz hz=>(b5 z hz).2) (hp.no p9) (hlt p9 hpl) p8 (q8 p9) (by omega) (by omega)) λx1 l1 w2 v7 hl1 hf1 v8=>?_
 have hM2:=p9.tr v8
 refine aB (qHQ (hg.no hM2).curve) ?_
 rintro v w3 ⟨x0,x1,x2,x3,x4,x5,x6,x7,x8,x9,x10,x11,x12,x13,x14,x15,x16,x17,x18,x19,rfl,u4⟩
 refine ⟨_,_,_,_,_,_,_,_,_,_,_,_,_,_,_,_,_,_,_,_,rfl,?_⟩
 have z1:=hM2.tr u4
 have z6:=v7.no u4
 have hc:=qIM (x0:=x0) (x1:=x1) (x2:=x2) (x3:=x3) (x4:=x4) (x5:=x5) (x6:=x6) (x7:=x7) (x8:=x8) (x9:=x9) (x10:=x10) (x11:=x11) (x12:=x12) (x13:=x13) (x14:=x14) (x15:=x15) (x16:=x16) (x17:=x17) (x18:=x18) (x19:=x19) z6.rd (λz hz=>z6.lt hz) (hg.no z1).twice
 refine aB hc ?_
 clear hc
 rintro v w4 ⟨y0,y1,y2,y3,y4,y5,y6,y7,y8,y9,b6,a6,a7,y13,a8,i6,i7,i8,o0,o1,rfl,u6⟩
 refine ⟨_,_,_,_,_,_,_,_,_,_,_,_,_,_,_,_,_,_,_,_,rfl,?_⟩
 have o2:=z1.tr u6
 have hc:=qHC (w:=w4) (x0:=y0) (x1:=y1) (x2:=y2) (x3:=y3) (x4:=y4) (x5:=y5) (x6:=y6) (x7:=y7) (x8:=y8) (x9:=y9) (x10:=b6) (x11:=a6) (x12:=a7) (x13:=y13) (x14:=a8) (x15:=i6) (x16:=i7) (x17:=i8) (x18:=o0) (x19:=o1)
 refine aB hc ?_
 clear hc
 rintro v w5 ⟨b2,l2,rfl,hl2,hb2,hs2,u7⟩
 have o3:=o2.tr u7
 have k4:Mod NoB w1 w5:=((v8.tr u4).tr u6).tr u7
 refine ⟨⟨some ⟨b2,0,none⟩,32,32⟩,rfl,Mod NoB w5.drew,Mod.refl _ _,?_⟩
 have k5:Mod NoB w5 w5.drew:=Mod.drew _ _
 refine ⟨sc,λw' hm=>(q9 ((k4.tr k5).tr hm)).2,?_,trivial⟩
 refine aB (xY (hO.no (k4.tr k5))) ?_
 rintro v w6 ⟨b4,l4,rfl,hl4,hb4,hs4,h9⟩
 have t6:=(o3.tr k5).tr h9
 refine ⟨⟨some ⟨b4,0,none⟩,32,32⟩,rfl,h9,?_,trivial⟩
 have hx2:aK w6 ⟨some ⟨b2,0,none⟩,32,32⟩ 1 (bys l2):=(aY (n:=32) (k:=1) (hb2.no (k5.tr h9)) (by simp [bys,hl2])).rd
 have o4:aK w6 ⟨some ⟨b4,0,none⟩,32,32⟩ 1 (bys l4):=(aY (n:=32) (k:=1) hb4 (by simp [bys,hl4])).rd
 have t7:=(hb2.no (k5.tr h9)).lt
 have u9:=hb4.lt
 have hbk : ∀ {b z:Nat},Slc.blk ⟨some ⟨b,0,none⟩,32,32⟩=some z->z=b:=λhz=>by rw [Slc.blk_mk] at hz; simp at hz; exact hz.symm
 refine yZ (jFA (hg.no t6) hx2 (λz hz=>by rw [hbk hz]; exact t7) o4 (λz hz=>by rw [hbk hz]; exact u9) (hp.no t6) (hlt t6 hpl) p8 (q8 t6) (by omega) (by omega)) λx5 l5 w7 z7 o5 r0 k3=>?_
 have o6:=t6.tr k3
 refine ⟨h9.tr k3,?_,trivial⟩
 have u0:Mod NoB w1 w7:=((k4.tr k5).tr h9).tr k3
 have u1:=v7.no ((((u4.tr u6).tr u7).tr k5).tr (h9.tr k3))
 refine aB (qER z7.rd (λz hz=>z7.lt hz) (j5.no u0) (λz hz=>Nat.lt_of_lt_of_le (hsb z hz).2 u0.size) u1.rd (λz hz=>u1.lt hz) o5 u5 hl1) ?_
 rintro v w8 ⟨x6,rfl,⟨l6,z8,j2⟩,r7,r8,u2⟩
 refine ⟨x6,rfl,?_,trivial⟩
 have o7:=o6.tr u2
 refine iL [⟨some ⟨b2,0,none⟩,32,32⟩,x6] rfl rfl (by omega) (by omega) λx vb w9 k6 ex r9 j3=>⟨x,rfl,?_⟩
 have j4:=o7.tr k6.mod
 refine ⟨((h9.tr k3).tr u2).tr k6.mod,?_,trivial⟩
 have v1:aK w9 ⟨some ⟨b2,0,none⟩,32,32⟩ 1 (bys l2):=hx2.no ((k3.tr u2).tr k6.mod)
 have v6:b2<w9.heap.size:=Nat.lt_of_lt_of_le t7 ((k3.tr u2).tr k6.mod).size
 refine aB (zJ (pl:=[l2,l6]) (X:=λz=>z<w9.heap.size) ⟨_,j3.rd,λz hz=>j3.lt hz,rfl,uM v1 (λz hz=>by rw [hbk hz]; exact v6) (z8.no k6.mod).rd (λz hz=>(z8.no k6.mod).lt hz)⟩ (λ_ h=>h) (by simp [hl2,j2]) (by simp)) ?_
 rintro v s4 ⟨x8,rfl,o8,o9,u3⟩
 refine ⟨x8,rfl,(((h9.tr k3).tr u2).tr k6.mod).tr u3,x8,_,rfl,o8,by simp [hl2,j2],o9.le j4.size,j4.tr u3⟩
def uW (w0:World) (h:Hd):Prop:=∀ x,h.d.blk=some x\/h.f.blk=some x\/h.g.blk=some x->w0.heap.size<=x
section
variable {w:World}
theorem qJS {s:Slc} {l:List (Int×Int)} (hs:aK w s 2 (dts l)) (hn:l.length<=1000000000) :
 Calls prog 185 #[.slice s.a s.len s.cap] w (Ret λv w'=>∃ s',v=s'.val/\Sh.Own w' s' 2 (dts l)/\FB w s'/\Mod NoB w w'):=by
 obtain ⟨i',h1,h2,h3,h4⟩:=qI
 have hl:=dW hs
 refine qLK _ ?_
 unfold qTC
 refine kG (e:=52) kU ⟨_,rfl,aC (λh=>?_) (λh=>?_)⟩
 ·have:l=[]:=by
   rcases hs.2.2 with h0 | ⟨b,e1,_⟩
   ·exact List.eq_nil_of_length_eq_zero (by have:=congrArg List.length h0; simp at this; omega)
   ·rw [e1] at h; simp at h
  subst this
  exact ⟨⟨none,0,0⟩,rfl,bK _ _,FB.nil _,Mod.refl _ _⟩
 ·refine kZ kU h1 λb w1 hN=>⟨⟨some ⟨b,0,none⟩,0,0⟩,rfl,?_⟩
  refine aS (s:=⟨some ⟨b,0,none⟩,0,0⟩) kU h1 h2 h3 rfl h4 (kW _ _ _) (hs.no hN.mod) (qS _) (by simp only []; omega) (by simp only []; omega) λs' w2 ho hlen hblk hm=>⟨s',rfl,s',rfl,by simpa using ho,?_,?_⟩
  ·intro z hz
   rcases hblk with h | h
   ·rw [h] at hz; simp at hz
   ·rw [h] at hz; cases hz; exact hN.mod.size
  ·exact hN.mod.fresh hm λx e=>by simp at e
theorem lM {s:Slc} {l:zY} (hs:aK w s 1 (bys l)) (hn:l.length<=1000000000) :
 Calls prog 186 #[.slice s.a s.len s.cap] w (Ret λv w'=>∃ s',v=s'.val/\Sh.Own w' s' 1 (bys l)/\FB w s'/\Mod NoB w w'):=
 (uZ hs hn).mono λe w' h=>by
  cases e with
  | returned v=>obtain ⟨s',h1,h2,h3,h4⟩:=h; exact ⟨s',h1,h2,FB.of h3,h4⟩
  | panicked c=>exact h.elim
  | outgrown=>exact h.elim
theorem dH {T E:TypeId} {p i:Nat} {l:List Value} {v:Value} {K:zP} (hi:(prog.info? T).isSome=true) (hsz:bE prog T=1) (h1:v.oneCell'=true) (hb:Blk w p l E) (hl:i<l.length) (hk : ∀ w',Tch w w' p->Blk w' p (l.set i v) E->K w'):aJ prog (storeVar T (Addr.add ⟨p,0,none⟩ i) v) w K:=by
 rw [aO,Nat.zero_add]; exact aX hi hsz h1 hb hl hk
theorem jHA {h:Hd} {r:Rc} (H:bH w h r):Calls prog 111 #[h.val] w (Ret λv w'=>∃ h':Hd,v=h'.val/\bH w' h' r/\uW w h'/\Mod NoB w w'):=by
 refine qPZ h.a h.b h.c h.d h.e h.f h.g ?_
 unfold qVJ
 obtain ⟨ir,hr1,hr2,y2,y5⟩:=iF
 obtain ⟨y7,y8,y9,z1⟩:=H.sm
 refine aQ (l:=h.cells) rfl λp w1 hN hb=>⟨_,rfl,?_⟩
 refine aN (l:=Hd.cells ⟨[],0,0,⟨none,0,0⟩,false,⟨none,0,0⟩,⟨none,0,0⟩⟩) hr1 hr2 rfl λq w2 p9 hb2=>⟨_,rfl,?_⟩
 have hM2:=hN.mod.tr p9.mod
 have q8:=hM2.tr (Mod.drew NoB w2)
 have q9:=(hb.no p9.mod).drew
 have hp:=hN.at_; have hq:=p9.at_; have hpl:=hb.lt
 refine ⟨Mod NoB w2.drew,Mod.refl _ _,h.d,λw' hm=>bT (i:=3) (q9.no hm) rfl,h.f,λw' hm=>bT (i:=5) (q9.no hm) rfl,h.g,λw' hm=>bT (i:=6) (q9.no hm) rfl,?_,trivial⟩
 refine aB (qJS (H.ctx.no q8) (by omega)) ?_
 rintro v w3 ⟨xd,rfl,hod,u2,k4⟩
 refine ⟨xd,rfl,k4,?_,trivial⟩
 refine aB (lM (H.val.no (q8.tr k4)) (by omega)) ?_
 rintro v w4 ⟨xf,rfl,t7,u3,k5⟩
 refine ⟨xf,rfl,k4.tr k5,?_,trivial⟩
 refine aB (lM (H.sig.no ((q8.tr k4).tr k5)) (by omega)) ?_
 rintro v w5 ⟨xg,rfl,u0,u4,k6⟩
 have k3:=(k4.tr k5).tr k6
 refine ⟨xg,rfl,k3,?_,trivial⟩
 have u5:=q8.tr k3
 have u6:=q9.no k3
 have hs2:w2.heap.size=q+1:=p9.size
 refine dH (i:=3) (by kernel_rfl) (by kernel_rfl) rfl u6 (by rw [Hd.len]; omega) λw6 u7 u9=>⟨?_,trivial⟩
 refine dH (i:=5) (by kernel_rfl) (by kernel_rfl) rfl u9 (by rw [List.length_set,Hd.len]; omega) λw7 v1 v6=>⟨?_,trivial⟩
 refine dH (i:=6) (by kernel_rfl) (by kernel_rfl) rfl v6 (by rw [List.length_set,List.length_set,Hd.len]; omega) λw8 v7 v8=>?_
 have t6:Blk w8 p (Hd.cells ⟨h.a,h.b,h.c,xd,h.e,xf,xg⟩) 40:=v8
 have p8:Mod (λz=>z=p) w5 w8:=(u7.mod.tr v1.mod).tr v7.mod
 have hq8:=((hb2.drew.no k3).mod p8 (by omega))
 refine ⟨h.a,h.b,h.c,xd,h.e,xf,xg,rdH t6,?_⟩
 refine cB (h:=⟨h.a,h.b,h.c,xd,h.e,xf,xg⟩) (by kernel_rfl) (by kernel_rfl) hq8 rfl λw9 y0 y1=>?_
 refine ⟨h.a,h.b,h.c,xd,h.e,xf,xg,rdH y1,?_⟩
 have u1 : ∀ z,xd.blk=some z->w2.heap.size<=z:=λz hz=>u2 z hz
 have hf0 : ∀ z,xf.blk=some z->w2.heap.size<=z:=λz hz=>Nat.le_trans k4.size (u3 z hz)
 have hg0 : ∀ z,xg.blk=some z->w2.heap.size<=z:=λz hz=>Nat.le_trans (k4.tr k5).size (u4 z hz)
 have h9:Mod (λz=>z=p\/z=q) w5 w9:=(p8.mono λ_ _ e=>.inl e).tr (y0.mod.mono λ_ _ e=>.inr e)
 have hne : ∀ {x:Slc},(∀ z,x.blk=some z->w2.heap.size<=z)->∀ z,x.blk=some z->¬ (z=p\/z=q):=λhx z hz=>by have:=hx z hz; omega
 have hsz:=hM2.size
 refine ⟨⟨h.a,h.b,h.c,xd,h.e,xf,xg⟩,rfl,⟨H.key,H.cl,H.sq,H.gone,((hod.no (k5.tr k6)).rd).mod h9 (hne u1),((t7.no k6).rd).mod h9 (hne hf0),u0.rd.mod h9 (hne hg0),H.sm,?_⟩,?_,u5.fresh h9 λz e=>by have:=hN.mod.size; omega⟩
 ·rintro z (hz | hz | hz)
  ·exact Nat.lt_of_lt_of_le (hod.lt hz) (Nat.le_trans (k5.tr k6).size h9.size)
  ·exact Nat.lt_of_lt_of_le (t7.lt hz) (Nat.le_trans k6.size h9.size)
  ·exact Nat.lt_of_lt_of_le (u0.lt hz) h9.size
 ·rintro z (hz | hz | hz)
  ·exact Nat.le_trans hsz (u1 z hz)
  ·exact Nat.le_trans hsz (hf0 z hz)
  ·exact Nat.le_trans hsz (hg0 z hz)
theorem jCG {h:Hd} {r:Rc} (H:bH w h r) (hs:r.shaped=true):Calls prog 268 #[h.val] w (Ret (RL r.text w)):=by
 refine qMB h.a h.b h.c h.d h.e h.f h.g ?_
 unfold qUA
 obtain ⟨ir,hr1,hr2,k6,p8⟩:=qKE
 refine aQ (l:=h.cells) rfl λp w1 hN hb=>⟨_,rfl,h.a,h.b,h.c,h.d,h.e,h.f,h.g,rdH hb,?_⟩
 refine aN (l:=Hd.cells ⟨[],0,0,⟨none,0,0⟩,false,⟨none,0,0⟩,⟨none,0,0⟩⟩) hr1 hr2 rfl λq w2 k4 hb2=>⟨_,rfl,?_⟩
 have hM2:=hN.mod.tr k4.mod
 have hq:=k4.at_; have hsz:=hN.mod.size
 refine cB (h:=h) (by kernel_rfl) (by kernel_rfl) hb2 rfl λw3 ht3 hq3=>?_
 have h9:Mod NoB w w3:=hM2.fresh ht3.mod λz e=>by omega
 refine ⟨h.a,h.b,h.c,h.d,h.e,h.f,h.g,rdH hq3,?_⟩
 refine aB (lL (h:=h) (H.no h9)) ?_
 rintro u w4 ⟨rfl,k3⟩
 rw [hs]
 refine ⟨_,rfl,aC (λh=>by cases h) λ_=>⟨h.a,h.b,h.c,h.d,h.e,h.f,h.g,rdH (hq3.no k3),?_⟩⟩
 exact dP (qEA (h:=h) (H.no (h9.tr k3))) λx w5 ho hf k5=>⟨x,rfl,ho,hf.le (h9.tr k3).size,(h9.tr k3).tr k5⟩
theorem qZK {l:List (Int×Int)} (h:bG l=true):l.length<=8:=by
 rcases Nat.eq_zero_or_pos l.length with h0 | h0
 ·omega
 have key : ∀ i (hi:i<l.length),(i:Int)+1<=l[i].1:=by
  intro i
  induction i with
  | zero=>intro hi; have:=((bX.1 h) 0 hi).1; simp [aU] at this; omega
  | succ i ih=>intro hi; have:=((bX.1 h) (i+1) hi).2 (by omega); have h2:=ih (by omega); simp only [Nat.add_sub_cancel] at this; omega
 have h1:=key (l.length - 1) (by omega)
 have h2:=((bX.1 h) (l.length - 1) (by omega)).1
 simp [aU] at h2
 omega
theorem rM {r:Rc} : r.text.length=42+r.key.length+r.val.length+r.ctx.length*16:=by
 have h:=fW r.ctx
 rw [jE] at h
 simp only [Rc.text,List.length_append,jC,jF,h,List.length_cons,List.length_nil]
 omega
theorem qWO {h:Hd} {r:Rc} (H:bH w h r):Calls prog 200 #[h.val] w (Ret λv w'=>Mod NoB w w'/\if r.right then ∃ x:Slc,v = .tuple #[x.val,.int .i64 0]/\Sh.Own w' x 1 (bys r.enc)/\FB w x else v = .tuple #[.slice none 0 0,.int .i64 4]):=by
 refine qLM h.a h.b h.c h.d h.e h.f h.g ?_
 unfold qYG
 obtain ⟨t6,t7,u0,u1⟩:=H.sm
 refine aQ (l:=h.cells) rfl λp w1 hN hb=>⟨_,rfl,h.a,h.b,h.c,h.d,h.e,h.f,h.g,rdH hb,?_⟩
 refine aB (qEE (h:=h) (H.no hN.mod)) ?_
 rintro u w2 ⟨rfl,k5⟩
 have hM2:=hN.mod.tr k5
 refine ⟨_,rfl,aC (λhr=>⟨hM2,?_⟩) λhr=>?_⟩
 ·have hr:r.right=false:=by simpa using hr
  rw [hr]; rfl
 have hr:r.right=true:=by simpa using hr
 have hsh:r.shaped=true:=by simp [Rc.right] at hr; exact hr.1
 have k6:=hM2.tr (Mod.drew NoB w2)
 have hb2:=(hb.no k5).drew
 refine ⟨Mod NoB w2.drew,Mod.refl _ _,h.a,h.b,h.c,h.d,h.e,h.f,h.g,λw' hm=>rdH (hb2.no hm),h.g,λw' hm=>bT (i:=6) (hb2.no hm) rfl,?_,trivial⟩
 refine dP (jCG (h:=h) (H.no k6) hsh) λx w3 p8 u2 h9=>⟨h9,?_,trivial⟩
 have k3:=k6.tr h9
 refine fL (wb:=w3) [x,h.g] [r.text,r.sig] rfl rfl (by omega) (by omega) (Mod.refl _ _) rfl (uM p8.rd (λz hz=>p8.lt hz) (H.sig.no k3) (λz hz=>Nat.lt_of_lt_of_le (H.lt z (.inr (.inr hz))) k3.size)) λy w4 hR k4 _=>⟨y,rfl,h9.tr k4,?_,trivial⟩
 have p9:=k3.tr k4
 refine dP (vO hR.parts (λ_ h=>h) (by have:=rM (r:=r); simp; omega) (by simp)) λt w5 q8 q9 hmt=>⟨(h9.tr k4).tr hmt,p9.tr hmt,?_⟩
 rw [hr]
 refine ⟨t,rfl,?_,q9.le p9.size⟩
 have e:[r.text,r.sig].flatten=r.enc:=by simp [Rc.enc]
 rwa [e] at q8
theorem qYS {a b:Hd} {r s:Rc} (A:bH w a r) (B:bH w b s):Calls prog 23 #[a.val,b.val] w (Ret λv w'=>v = .bool (r.over s)/\Mod NoB w w'):=by
 refine qZI a.a a.b a.c a.d a.e a.f a.g b.a b.b b.c b.d b.e b.f b.g ?_
 unfold jDO
 obtain ⟨ir,hr1,hr2,u9,v1⟩:=qKE
 obtain ⟨v6,v7,v8,y0⟩:=A.sm
 refine aQ (l:=a.cells) rfl λp w1 hN hb=>⟨_,rfl,?_⟩
 refine aQ (l:=b.cells) rfl λq w2 u2 hb2=>⟨_,rfl,?_⟩
 have hM2:=hN.mod.tr u2.mod
 have u7:=hM2.tr (Mod.drew NoB w2)
 have u3:=(hb.no u2.mod).drew
 have u4:=hb2.drew
 refine ⟨λl w'=>match l with | [.p x,.p y]=>∃ m n,x=some ⟨m,0,none⟩/\y=some ⟨n,0,none⟩/\Blk w' m a.cells 101/\Blk w' n b.cells 101/\Mod NoB w2.drew w' | _=>False,?_,?_⟩
 ·refine ⟨Mod NoB w2.drew,Mod.refl _ _,a.a,a.b,a.c,a.d,a.e,a.f,a.g,λw' hm=>rdH (u3.no hm),b.a,b.b,b.c,b.d,b.e,b.f,b.g,λw' hm=>rdH (u4.no hm),?_,?_,trivial⟩
  ·refine aN (l:=Hd.cells ⟨[],0,0,⟨none,0,0⟩,false,⟨none,0,0⟩,⟨none,0,0⟩⟩) hr1 hr2 rfl λm w3 k3 hb3=>⟨_,rfl,k3.mod,?_,trivial⟩
   refine aN (l:=Hd.cells ⟨[],0,0,⟨none,0,0⟩,false,⟨none,0,0⟩,⟨none,0,0⟩⟩) hr1 hr2 rfl λn w4 k4 hb4=>⟨_,rfl,k3.mod.tr k4.mod,?_,trivial⟩
   have e3:=k3.at_; have e4:=k4.at_; have e5:=k3.size; have e6:w2.drew.heap.size=w2.heap.size:=rfl; have e7:=k4.mod.size
   refine cB (h:=a) (by kernel_rfl) (by kernel_rfl) (hb3.no k4.mod) rfl λw5 q8 t7=>?_
   have k5:Mod NoB w2.drew w5:=(k3.mod.tr k4.mod).fresh q8.mod λz e=>by omega
   refine ⟨k5,?_,trivial⟩
   refine cB (h:=b) (by kernel_rfl) (by kernel_rfl) (hb4.mod q8.mod (by omega)) rfl λw6 q9 u0=>?_
   exact ⟨m,n,rfl,rfl,t7.mod q9.mod (by omega),u0,k5.fresh q9.mod λz e=>by omega⟩
  ·refine aN (l:=Hd.cells ⟨[],0,0,⟨none,0,0⟩,false,⟨none,0,0⟩,⟨none,0,0⟩⟩) hr1 hr2 rfl λn w3 k3 hb3=>⟨_,rfl,k3.mod,?_,trivial⟩
   refine aN (l:=Hd.cells ⟨[],0,0,⟨none,0,0⟩,false,⟨none,0,0⟩,⟨none,0,0⟩⟩) hr1 hr2 rfl λm w4 k4 hb4=>⟨_,rfl,k3.mod.tr k4.mod,?_,trivial⟩
   have e3:=k3.at_; have e4:=k4.at_; have e5:=k3.size; have e6:w2.drew.heap.size=w2.heap.size:=rfl; have e7:=k4.mod.size
   refine cB (h:=a) (by kernel_rfl) (by kernel_rfl) hb4 rfl λw5 q8 t7=>?_
   have k5:Mod NoB w2.drew w5:=(k3.mod.tr k4.mod).fresh q8.mod λz e=>by omega
   refine ⟨k5,?_,trivial⟩
   refine cB (h:=b) (by kernel_rfl) (by kernel_rfl) ((hb3.no k4.mod).mod q8.mod (by omega)) rfl λw6 q9 u0=>?_
   exact ⟨m,n,rfl,rfl,t7.mod q9.mod (by omega),u0,k5.fresh q9.mod λz e=>by omega⟩
 rintro x y w3 ⟨m,n,rfl,rfl,hm,hn,u1⟩
 have k6:=(u7.tr u1).tr (Mod.drew NoB w3)
 have u5:=(u3.no u1).drew
 have hq3:=(u4.no u1).drew
 refine ⟨Mod NoB w3.drew,Mod.refl _ _,a.a,λw' hm=>bT (i:=0) (u5.no hm) rfl,b.a,λw' hm=>bT (i:=0) (hq3.no hm) rfl,?_⟩
 refine aC (λhk=>?_) λhk=>⟨⟨Mod.refl _ _,⟨Mod.refl _ _,⟨Mod.refl _ _,⟨Mod.refl _ _,?_,k6⟩,trivial⟩,trivial⟩,trivial⟩,trivial⟩
 ·have hk:r.key=s.key:=by rw [<-A.key,<-B.key]; simpa using hk
  refine ⟨a.a,a.b,a.c,a.d,a.e,a.f,a.g,λw' p8=>rdH (hm.drew.no p8),?_,trivial⟩
  refine aB (lL (h:=a) (A.no k6)) ?_
  rintro u w4 ⟨rfl,p9⟩
  refine ⟨_,rfl,p9,aC (λh1=>?_) λh1=>⟨⟨p9,⟨p9,⟨p9,?_,k6.tr p9⟩,trivial⟩,trivial⟩,trivial⟩⟩
  ·refine ⟨b.a,b.b,b.c,b.d,b.e,b.f,b.g,λw' p8=>rdH (hn.drew.no p8),?_,trivial⟩
   refine aB (lL (h:=b) (B.no (k6.tr p9))) ?_
   rintro u w5 ⟨rfl,k5⟩
   have h9:=p9.tr k5
   refine ⟨_,rfl,h9,aC (λh2=>?_) λh2=>⟨⟨h9,⟨h9,?_,k6.tr h9⟩,trivial⟩,trivial⟩⟩
   ·refine ⟨a.d,λw' p8=>bT (i:=3) (u5.no p8) rfl,b.a,b.b,b.c,b.d,b.e,b.f,b.g,λw' p8=>rdH (hn.drew.no p8),?_,trivial⟩
    refine aB qAH ?_
    rintro u w6 ⟨rfl,t6⟩
    refine ⟨_,_,rfl,h9.tr t6,?_,trivial⟩
    refine aB (qTT (A.ctx.no (k6.tr (h9.tr t6))) (by omega)) ?_
    rintro u w7 ⟨rfl,u6⟩
    refine ⟨_,rfl,(h9.tr t6).tr u6,?_,k6.tr ((h9.tr t6).tr u6)⟩
    rw [B.cl,B.sq]
    simp [Rc.over,hk,h1,h2,Rc.dot]
   ·simp [Rc.over,h2]
  ·simp [Rc.over,h1]
 ·have hk : ¬ r.key=s.key:=by rw [<-A.key,<-B.key]; simpa using hk
  simp [Rc.over,hk]
end
def qVB (b:Slc) (w:World) (R:RW):Prop:=
 aD prog 186 [zS b] w (aG R) λv w1=>∃ x:Slc,v=(zS x)/\aH prog (Instr.box 442 (.agg #[zS x,.bool true,.bool false])) w1 λv1 w2=>∃ x1:zO,v1=(.pointer x1)/\R (.returned (.pointer x1)) w2
theorem qNE (b:Slc) {w:World} {R:RW} (h9:qVB b w R):Calls prog 273 #[zS b] w R:=
 zC (q0 .z (q0 .z .z)) func273 [.sl b] h9
def qTP (r:zO) (w:World) (R:RW):Prop:=
 bB prog (do eqGuard .eql 373 (.tmp 3) (.const (.pointer none)) (.pointer r) (.pointer none); binOp .eql 373 (.pointer r) (.pointer none)) λv=>∃ x:Bool,v=(.bool x)/\aE x (R (.returned (.int .u8 ((0:UInt8)).toNat)) w) (aA r λa=>aD prog 334 [.pointer r,.func (.func 335) #[.pointer (some (a.add 0))] #[]] w (aG R) λv1 w1=>∃ x1:UInt8,v1=(.int .u8 x1.toNat)/\R (.returned (.int .u8 x1.toNat)) w1)
theorem qLW (r:zO) {w:World} {R:RW} (h9:qTP r w R):Calls prog 274 #[.pointer r] w R:=
 zC (q0 .z (q0 (q0 .z (.cond (q0 .z .z) .z)) (q0 .z .z))) func274 [.p r] h9
def qVX (r:zO) (most:Int) (w:World) (R:RW):Prop:=
 aH prog (Instr.box 373 (.pointer r)) w λv w1=>∃ r1:zO,v=(.pointer r1)/\aH prog (Instr.box 3 (.int .i64 most)) w1 λv1 w2=>∃ most1:zO,v1=(.pointer most1)/\aA r1 λa=>∃ x:zO,Rd w2 a [.pointer x]/\aD prog 336 [.pointer x,.func (.func 337) #[] #[.pointer r1,.pointer most1]] w2 (aG R) λv2 w3=>∃ x1:Slc,v2=(zS x1)/\R (.returned (zS x1)) w3
theorem qLU (r:zO) (most:Int) {w:World} {R:RW} (h9:qVX r most w R):Calls prog 275 #[.pointer r,.int .i64 most] w R:=
 zC (q0 .z (q0 .z .z)) func275 [.p r,.i .i64 most] h9
def qXO (r:zO) (w:World) (R:RW):Prop:=
 bB prog (do eqGuard .eql 373 (.tmp 3) (.const (.pointer none)) (.pointer r) (.pointer none); binOp .eql 373 (.pointer r) (.pointer none)) λv=>∃ x:Bool,v=(.bool x)/\aE x (R (.returned (.int .i64 0)) w) (aA r λa=>aD prog 340 [.pointer r,.func (.func 341) #[.pointer (some (a.add 0))] #[]] w (aG R) λv1 w1=>∃ x1:Int,v1=(.int .i64 x1)/\R (.returned (.int .i64 x1)) w1)
theorem qRO (r:zO) {w:World} {R:RW} (h9:qXO r w R):Calls prog 276 #[.pointer r] w R:=
 zC (q0 .z (q0 (q0 .z (.cond (q0 .z .z) .z)) (q0 .z .z))) func276 [.p r] h9
def qWQ (r:zO) (most:Int) (w:World) (R:RW):Prop:=
 aH prog (Instr.box 373 (.pointer r)) w λv w1=>∃ r1:zO,v=(.pointer r1)/\aH prog (Instr.box 3 (.int .i64 most)) w1 λv1 w2=>∃ most1:zO,v1=(.pointer most1)/\aA r1 λa=>∃ x:zO,Rd w2 a [.pointer x]/\aD prog 340 [.pointer x,.func (.func 342) #[] #[.pointer r1,.pointer most1]] w2 (aG R) λv2 w3=>∃ x1:Int,v2=(.int .i64 x1)/\R (.returned (.int .i64 x1)) w3
theorem qQD (r:zO) (most:Int) {w:World} {R:RW} (h9:qWQ r most w R):Calls prog 277 #[.pointer r,.int .i64 most] w R:=
 zC (q0 .z (q0 .z .z)) func277 [.p r,.i .i64 most] h9
def qUC (r:zO) (w:World) (R:RW):Prop:=
 aD prog 343 [.pointer r] w (aG R) λv w1=>∃ x:Bool,v=(.bool x)/\aE x (aA r λa=>∃ x1:Slc,Rd w1 ((a.add 0).add 0) [zS x1]/\R (.returned (.bool ((x1.len:Int)==(0:Int)))) w1) (zF R false w1)
theorem qOR (r:zO) {w:World} {R:RW} (h9:qUC r w R):Calls prog 278 #[.pointer r] w R:=
 zC (q0 .z (q0 .z .z)) func278 [.p r] h9
def qTL (r:zO) (read:Value) (w:World) (R:RW):Prop:=
 aH prog (Instr.box 373 (.pointer r)) w λv w1=>∃ r1:zO,v=(.pointer r1)/\aH prog (Instr.alloc 5 true (.tuple #[])) w1 λv1 w2=>∃ x:zO,v1=(.pointer x)/\aA r1 λa=>∃ x1:zO,Rd w2 a [.pointer x1]/\aD prog 343 [.pointer x1] w2 (aG R) λv2 w3=>∃ x2:Bool,v2=(.bool x2)/\aE (!x2) (aA x λa1=>∃ x3:UInt8,Rd w3 a1 [.int .u8 x3.toNat]/\aA x λa2=>aJ prog (storeVar 5 a2 (.int .u8 x3.toNat)) w3 λw4=>aA x λa3=>∃ x4:UInt8,Rd w4 a3 [.int .u8 x4.toNat]/\R (.returned (.int .u8 x4.toNat)) w4) (dY prog read [] w3 (λc2 w7=>(eF prog 365 #[.pointer r1,.pointer x] (.panicking c2) w7 λu1 w8=>fS u1 (aA x λa5=>∃ x6:UInt8,Rd w8 a5 [.int .u8 x6.toNat]/\R (.returned (.int .u8 x6.toNat)) w8) (λc3=>R (.panicked c3) w8))) λv3 w9=>∃ x7:UInt8,v3=(.int .u8 x7.toNat)/\aA x λa7=>aJ prog (storeVar 5 a7 (.int .u8 x7.toNat)) w9 λw12=>(eF prog 365 #[.pointer r1,.pointer x] .returning w12 λu3 w13=>fS u3 (aA x λa8=>∃ x9:UInt8,Rd w13 a8 [.int .u8 x9.toNat]/\R (.returned (.int .u8 x9.toNat)) w13) (λc6=>R (.panicked c6) w13)))
theorem qMD (r:zO) (read:Value) {w:World} {R:RW} (h9:qTL r read w R):Calls prog 334 #[.pointer r,read] w R:=
 zC (q0 .z (q0 (q0 .z (.cond (q0 .z .z) .z)) (q0 .z (q0 .z .z)))) func334 [.p r,.v read] h9
def qTH (l:zO) (w:World) (R:RW):Prop:=
 aD prog 338 [.pointer l,.int .i64 1] w (aG R) λv w1=>∃ x:Slc,v=(zS x)/\((0<=(0:Int)/\(0:Int)<(x.len:Nat))/\aA x.a λa=>∃ x1:UInt8,Rd w1 (a.add (((0:Int)).toNat*1)) [.int .u8 x1.toNat]/\R (.returned (.int .u8 x1.toNat)) w1)
theorem qSN (l:zO) {w:World} {R:RW} (h9:qTH l w R):Calls prog 335 #[.pointer l] w R:=
 zC (q0 .z (q0 .z .z)) func335 [.p l] h9
def qWZ (r:zO) (read:Value) (w:World) (R:RW):Prop:=
 aH prog (Instr.box 373 (.pointer r)) w λv w1=>∃ r1:zO,v=(.pointer r1)/\aH prog (Instr.alloc 38 true (.tuple #[])) w1 λv1 w2=>∃ x:zO,v1=(.pointer x)/\aA r1 λa=>∃ x1:zO,Rd w2 a [.pointer x1]/\aD prog 343 [.pointer x1] w2 (aG R) λv2 w3=>∃ x2:Bool,v2=(.bool x2)/\aE (!x2) (aA x λa1=>∃ x3:Slc,Rd w3 a1 [zS x3]/\aA x λa2=>aJ prog (storeVar 38 a2 (zS x3)) w3 λw4=>aA x λa3=>∃ x4:Slc,Rd w4 a3 [zS x4]/\R (.returned (zS x4)) w4) (dY prog read [] w3 (λc2 w7=>(eF prog 366 #[.pointer r1,.pointer x] (.panicking c2) w7 λu1 w8=>fS u1 (aA x λa5=>∃ x6:Slc,Rd w8 a5 [zS x6]/\R (.returned (zS x6)) w8) (λc3=>R (.panicked c3) w8))) λv3 w9=>∃ x7:Slc,v3=(zS x7)/\aA x λa7=>aJ prog (storeVar 38 a7 (zS x7)) w9 λw12=>(eF prog 366 #[.pointer r1,.pointer x] .returning w12 λu3 w13=>fS u3 (aA x λa8=>∃ x9:Slc,Rd w13 a8 [zS x9]/\R (.returned (zS x9)) w13) (λc6=>R (.panicked c6) w13)))
theorem qOI (r:zO) (read:Value) {w:World} {R:RW} (h9:qWZ r read w R):Calls prog 336 #[.pointer r,read] w R:=
 zC (q0 .z (q0 (q0 .z (.cond (q0 .z .z) .z)) (q0 .z (q0 .z .z)))) func336 [.p r,.v read] h9
def qUE (c c1:zO) (w:World) (R:RW):Prop:=
 ∃ sx:zP,sx w.drew/\aA c λa=>∃ x:zO,(∀ w',sx w'->Rd w' a [.pointer x])/\aA x λa1=>aA c λa2=>∃ x1:zO,(∀ w',sx w'->Rd w' a2 [.pointer x1])/\aA x1 λa3=>aA c1 λa4=>∃ x2:Int,(∀ w',sx w'->Rd w' a4 [.int .i64 x2])/\((aD prog 339 [.pointer (some (a3.add 0)),.int .i64 x2] w.drew (aG R) λv w1=>∃ x3:Int,v=(.int .i64 x3)/\(sx w1/\((aD prog 338 [.pointer (some (a1.add 0)),.int .i64 x3] w1 (aG R) λv1 w2=>∃ x4:Slc,v1=(zS x4)/\(sx w2/\((aD prog 186 [zS x4] w2 (aG R) λv2 w3=>∃ x5:Slc,v2=(zS x5)/\(sx w3/\R (.returned (zS x5)) w3))/\True)))/\True)))/\True)
theorem qQM (c c1:zO) {w:World} {R:RW} (h9:qUE c c1 w R):Calls prog 337 #[.pointer c,.pointer c1] w R:=
 zC (q0 .z (q0 (.draw 1 (.take 0 (.take 1 (.take 2 (.take 3 (.take 4 (.take 5 (.take 6 (.all [(7,(.all [(8,(.all [(9,(.take 10 .done))]))]))]))))))))) .z)) func337 [.p c,.p c1] h9
def qYB (l:zO) (n:Int) (w:World) (R:RW):Prop:=
 ∃ j:zT,(aE (decide (n>=0)) (aA l λa=>∃ x:Slc,Rd w (a.add 0) [zS x]/\aD prog 367 [.bool (decide (n<=(x.len:Int)))] w (aG R) λv w1=>v=(.tuple #[])/\j [] w1) (aD prog 367 [.bool false] w (aG R) λv1 w2=>v1=(.tuple #[])/\j [] w2))/\(∀ w3:World,j [] w3->aA l λa1=>∃ x1:Slc,Rd w3 (a1.add 0) [zS x1]/\((0<=n/\n<=(x1.cap:Nat))/\aA l λa2=>∃ x2:Slc,Rd w3 (a2.add 0) [zS x2]/\((0<=n/\n<=(x2.len:Nat))/\aA l λa3=>aJ prog (storeVar 38 (a3.add 0) (.slice (aF x2 1 (n.toNat) x2.len x2.cap).a (aF x2 1 (n.toNat) x2.len x2.cap).len (aF x2 1 (n.toNat) x2.len x2.cap).cap)) w3 λw4=>R (.returned (.slice (aF x1 1 0 (n.toNat) x1.cap).a (aF x1 1 0 (n.toNat) x1.cap).len (aF x1 1 0 (n.toNat) x1.cap).cap)) w4)))
theorem qPX (l:zO) (n:Int) {w:World} {R:RW} (h9:qYB l n w R):Calls prog 338 #[.pointer l,.int .i64 n] w R:=
 zC (q0 .z (.seq (some []) .z (q0 .z (q0 .z (q0 .z .z))))) func338 [.p l,.i .i64 n] h9
def qUN (l:zO) (most:Int) (w:World) (R:RW):Prop:=
 aD prog 341 [.pointer l] w (aG R) λv w1=>∃ x:Int,v=(.int .i64 x)/\aE (decide (x>=0)) (aD prog 367 [.bool (decide (x<=most))] w1 (aG R) λv1 w2=>v1=(.tuple #[])/\R (.returned (.int .i64 x)) w2) (aD prog 367 [.bool false] w1 (aG R) λv2 w3=>v2=(.tuple #[])/\R (.returned (.int .i64 x)) w3)
theorem qNW (l:zO) (most:Int) {w:World} {R:RW} (h9:qUN l most w R):Calls prog 339 #[.pointer l,.int .i64 most] w R:=
 zC (q0 .z (q0 .z (q0 .z (q0 .z .z)))) func339 [.p l,.i .i64 most] h9
def qVI (r:zO) (read:Value) (w:World) (R:RW):Prop:=
 aH prog (Instr.box 373 (.pointer r)) w λv w1=>∃ r1:zO,v=(.pointer r1)/\aH prog (Instr.alloc 3 true (.tuple #[])) w1 λv1 w2=>∃ x:zO,v1=(.pointer x)/\aA r1 λa=>∃ x1:zO,Rd w2 a [.pointer x1]/\aD prog 343 [.pointer x1] w2 (aG R) λv2 w3=>∃ x2:Bool,v2=(.bool x2)/\aE (!x2) (aA x λa1=>∃ x3:Int,Rd w3 a1 [.int .i64 x3]/\aA x λa2=>aJ prog (storeVar 3 a2 (.int .i64 x3)) w3 λw4=>aA x λa3=>∃ x4:Int,Rd w4 a3 [.int .i64 x4]/\R (.returned (.int .i64 x4)) w4) (dY prog read [] w3 (λc2 w7=>(eF prog 368 #[.pointer r1,.pointer x] (.panicking c2) w7 λu1 w8=>fS u1 (aA x λa5=>∃ x6:Int,Rd w8 a5 [.int .i64 x6]/\R (.returned (.int .i64 x6)) w8) (λc3=>R (.panicked c3) w8))) λv3 w9=>∃ x7:Int,v3=(.int .i64 x7)/\aA x λa7=>aJ prog (storeVar 3 a7 (.int .i64 x7)) w9 λw12=>(eF prog 368 #[.pointer r1,.pointer x] .returning w12 λu3 w13=>fS u3 (aA x λa8=>∃ x9:Int,Rd w13 a8 [.int .i64 x9]/\R (.returned (.int .i64 x9)) w13) (λc6=>R (.panicked c6) w13)))
theorem qOQ (r:zO) (read:Value) {w:World} {R:RW} (h9:qVI r read w R):Calls prog 340 #[.pointer r,read] w R:=
 zC (q0 .z (q0 (q0 .z (.cond (q0 .z .z) .z)) (q0 .z (q0 .z .z)))) func340 [.p r,.v read] h9
def qUW (l:zO) (w:World) (R:RW):Prop:=
 aD prog 338 [.pointer l,.int .i64 8] w (aG R) λv w1=>∃ x:Slc,v=(zS x)/\∃ (inv:zT) (mu:zU),inv [.u64 (0:UInt64),.i .i64 0] w1/\(∀ n:UInt64,∀ x1:Int,∀ w2:World,inv [.u64 n,.i .i64 x1] w2->aE (decide (x1<x.len)) ((zB x1 x.len/\aA x.a λa=>∃ x2:UInt8,Rd w2 (a.add (x1.toNat*1)) [.int .u8 x2.toNat]/\(0<=(((8:UInt64)).toNat:Int)/\(inv [.u64 ((dS n ((((8:UInt64)).toNat:Int)).toNat) ||| (x2).toUInt64),.i .i64 (zW (x1+1))] w2/\mu [.u64 ((dS n ((((8:UInt64)).toNat:Int)).toNat) ||| (x2).toUInt64),.i .i64 (zW (x1+1))] w2<mu [.u64 n,.i .i64 x1] w2)))) (R (.returned (.int .i64 (zW (n.toNat:Int)))) w2))
theorem qOO (l:zO) {w:World} {R:RW} (h9:qUW l w R):Calls prog 341 #[.pointer l] w R:=
 zC (q0 .z (q0 .z (q0 (q0 .z (.block none (.loop [(3,.u64),(9,(.i .i64))] (q0 .z (q0 (.cond .z .z) (q0 (.block none (q0 .z .z)) .z)))))) (q0 .z .z)))) func341 [.p l] h9
def qXN (c c1:zO) (w:World) (R:RW):Prop:=
 ∃ sx:zP,sx w.drew/\aA c λa=>∃ x:zO,(∀ w',sx w'->Rd w' a [.pointer x])/\aA x λa1=>aA c1 λa2=>∃ x1:Int,(∀ w',sx w'->Rd w' a2 [.int .i64 x1])/\((aD prog 339 [.pointer (some (a1.add 0)),.int .i64 x1] w.drew (aG R) λv w1=>∃ x2:Int,v=(.int .i64 x2)/\(sx w1/\R (.returned (.int .i64 x2)) w1))/\True)
theorem qOE (c c1:zO) {w:World} {R:RW} (h9:qXN c c1 w R):Calls prog 342 #[.pointer c,.pointer c1] w R:=
 zC (q0 .z (q0 (.draw 1 (.take 0 (.take 1 (.take 2 (.take 3 (.all [(4,(.take 5 .done))])))))) .z)) func342 [.p c,.p c1] h9
def qWJ (r:zO) (w:World) (R:RW):Prop:=
 bB prog (do eqGuard .neq 373 (.tmp 3) (.const (.pointer none)) (.pointer r) (.pointer none); binOp .neq 373 (.pointer r) (.pointer none)) λv=>∃ x:Bool,v=(.bool x)/\aE x (aA r λa=>∃ x1:Bool,Rd w (a.add 1) [.bool x1]/\aE x1 (aA r λa1=>∃ x2:Bool,Rd w (a1.add 2) [.bool x2]/\R (.returned (.bool (!x2))) w) (zF R false w)) (zF R false w)
theorem qNV (r:zO) {w:World} {R:RW} (h9:qWJ r w R):Calls prog 343 #[.pointer r] w R:=
 zC (q0 .z (q0 .z .z)) func343 [.p r] h9
def qKN (c c1:zO) (u:FrameMode) (w:World) (R:Ending->FrameMode->zP):Prop:=
 qEJ u λv u1=>bB prog (do eqGuard .neq 20 (.tmp 7) (.const .nilIface) v .nilIface; binOp .neq 20 v .nilIface) λv1=>∃ x:Bool,v1=(.bool x)/\aE x (aH prog (Instr.typeAssert v 20 464 true) w λv2 w1=>∃ xb:Bool,v2=(.tuple #[.agg #[],.bool xb])/\aH prog (Instr.alloc 464 true (.tuple #[])) w1 λv3 w2=>∃ x1:zO,v3=(.pointer x1)/\aA x1 λa=>aJ prog (storeVar 464 a (.agg #[])) w2 λw3=>aE (!xb) (zV v λz=>(λc w=>R (.panicked c) u1 w) [{v:=z,recovered:=false}] w3) (aA c λa1=>∃ x2:zO,Rd w3 a1 [.pointer x2]/\aA x2 λa2=>aJ prog (storeVar 4 (a2.add 2) (.bool true)) w3 λw4=>aA c1 λa3=>aJ prog (storeVar 5 a3 (.int .u8 ((0:UInt8)).toNat)) w4 λw5=>R (.returned (.tuple #[])) u1 w5)) (R (.returned (.tuple #[])) u1 w)
theorem qKQ (c c1:zO) (u:FrameMode) (w:World) (R:Ending->FrameMode->zP):qKN c c1 u w R=gQ prog (Func.ntmps f365) (jZ f365) (zI prog f365 R) u (gK 0 [.p c,.p c1]) w:=by kernel_rfl
theorem qOL (c c1:zO) {u:FrameMode} {w:World} {R:Ending->FrameMode->zP} (h9:qKN c c1 u w R):CallsDIn Fence.wide 0 prog 365 #[.pointer c,.pointer c1] u w R:=
 gU func365 (gG (by kernel_rfl)) [.p c,.p c1] (Nat.le_of_ble_eq_true (by kernel_rfl)) ((qKQ c c1 u w R) ▸ h9)
def qJK (c c1:zO) (u:FrameMode) (w:World) (R:Ending->FrameMode->zP):Prop:=
 qEJ u λv u1=>bB prog (do eqGuard .neq 20 (.tmp 7) (.const .nilIface) v .nilIface; binOp .neq 20 v .nilIface) λv1=>∃ x:Bool,v1=(.bool x)/\aE x (aH prog (Instr.typeAssert v 20 464 true) w λv2 w1=>∃ xb:Bool,v2=(.tuple #[.agg #[],.bool xb])/\aH prog (Instr.alloc 464 true (.tuple #[])) w1 λv3 w2=>∃ x1:zO,v3=(.pointer x1)/\aA x1 λa=>aJ prog (storeVar 464 a (.agg #[])) w2 λw3=>aE (!xb) (zV v λz=>(λc w=>R (.panicked c) u1 w) [{v:=z,recovered:=false}] w3) (aA c λa1=>∃ x2:zO,Rd w3 a1 [.pointer x2]/\aA x2 λa2=>aJ prog (storeVar 4 (a2.add 2) (.bool true)) w3 λw4=>aA c1 λa3=>aJ prog (storeVar 38 a3 (.slice none 0 0)) w4 λw5=>R (.returned (.tuple #[])) u1 w5)) (R (.returned (.tuple #[])) u1 w)
theorem qHY (c c1:zO) (u:FrameMode) (w:World) (R:Ending->FrameMode->zP):qJK c c1 u w R=gQ prog (Func.ntmps f366) (jZ f366) (zI prog f366 R) u (gK 0 [.p c,.p c1]) w:=by kernel_rfl
theorem qON (c c1:zO) {u:FrameMode} {w:World} {R:Ending->FrameMode->zP} (h9:qJK c c1 u w R):CallsDIn Fence.wide 0 prog 366 #[.pointer c,.pointer c1] u w R:=
 gU func366 (gG (by kernel_rfl)) [.p c,.p c1] (Nat.le_of_ble_eq_true (by kernel_rfl)) ((qHY c c1 u w R) ▸ h9)
def qYD (is:Bool) (w:World) (R:RW):Prop:=
 aE (!is) ((aG R) [{v:=(.iface 464 (.agg #[])),recovered:=false}] w) (R (.returned (.tuple #[])) w)
theorem qMI (is:Bool) {w:World} {R:RW} (h9:qYD is w R):Calls prog 367 #[.bool is] w R:=
 zC (q0 .z (.cond .z .z)) func367 [.b is] h9
def qJE (c c1:zO) (u:FrameMode) (w:World) (R:Ending->FrameMode->zP):Prop:=
 qEJ u λv u1=>bB prog (do eqGuard .neq 20 (.tmp 7) (.const .nilIface) v .nilIface; binOp .neq 20 v .nilIface) λv1=>∃ x:Bool,v1=(.bool x)/\aE x (aH prog (Instr.typeAssert v 20 464 true) w λv2 w1=>∃ xb:Bool,v2=(.tuple #[.agg #[],.bool xb])/\aH prog (Instr.alloc 464 true (.tuple #[])) w1 λv3 w2=>∃ x1:zO,v3=(.pointer x1)/\aA x1 λa=>aJ prog (storeVar 464 a (.agg #[])) w2 λw3=>aE (!xb) (zV v λz=>(λc w=>R (.panicked c) u1 w) [{v:=z,recovered:=false}] w3) (aA c λa1=>∃ x2:zO,Rd w3 a1 [.pointer x2]/\aA x2 λa2=>aJ prog (storeVar 4 (a2.add 2) (.bool true)) w3 λw4=>aA c1 λa3=>aJ prog (storeVar 3 a3 (.int .i64 0)) w4 λw5=>R (.returned (.tuple #[])) u1 w5)) (R (.returned (.tuple #[])) u1 w)
theorem qIE (c c1:zO) (u:FrameMode) (w:World) (R:Ending->FrameMode->zP):qJE c c1 u w R=gQ prog (Func.ntmps f368) (jZ f368) (zI prog f368 R) u (gK 0 [.p c,.p c1]) w:=by kernel_rfl
theorem qRB (c c1:zO) {u:FrameMode} {w:World} {R:Ending->FrameMode->zP} (h9:qJE c c1 u w R):CallsDIn Fence.wide 0 prog 368 #[.pointer c,.pointer c1] u w R:=
 gU func368 (gG (by kernel_rfl)) [.p c,.p c1] (Nat.le_of_ble_eq_true (by kernel_rfl)) ((qIE c c1 u w R) ▸ h9)
def qYN (b:Slc) (w:World) (R:RW):Prop:=
 aH prog (Instr.alloc 40 true (.tuple #[])) w λv w1=>∃ x:zO,v=(.pointer x)/\aE (decide ((zW ((b.len:Int) - 64))<(0:Int))) (aA x λa=>aJ prog (storeVar 40 a (.agg #[.string ⟨([]).toArray⟩,.int .i64 0,.int .i64 0,.slice none 0 0,.bool false,.slice none 0 0,.slice none 0 0])) w1 λw2=>aA x λa1=>∃ xa:zY,∃ xb xc:Int,∃ xd:Slc,∃ xe:Bool,∃ xf xg:Slc,Rd w2 a1 (yR xa xb xc xd xe xf xg)/\R (.returned (.tuple #[zR xa xb xc xd xe xf xg,.int .i64 4])) w2) (((0<=(zW ((b.len:Int) - 64))/\(zW ((b.len:Int) - 64))<=(b.cap:Nat))/\aD prog 273 [.slice (aF b 1 0 (((zW ((b.len:Int) - 64))).toNat) b.cap).a (aF b 1 0 (((zW ((b.len:Int) - 64))).toNat) b.cap).len (aF b 1 0 (((zW ((b.len:Int) - 64))).toNat) b.cap).cap] w1 (aG R) λv1 w3=>∃ x1:zO,v1=(.pointer x1)/\aD prog 274 [.pointer x1] w3 (aG R) λv2 w4=>∃ x2:UInt8,v2=(.int .u8 x2.toNat)/\∃ j:zT,(((aD prog 275 [.pointer x1,.int .i64 64] w4.drew (aG R) λv3 w5=>∃ x3:Slc,v3=(zS x3)/\((aH prog (convert 38 9 (zS x3)) w5 λv4 w6=>∃ x4:zY,v4=(.string ⟨x4.toArray⟩)/\((aD prog 276 [.pointer x1] w6 (aG R) λv5 w7=>∃ x5:Int,v5=(.int .i64 x5)/\((aD prog 276 [.pointer x1] w7 (aG R) λv6 w8=>∃ x6:Int,v6=(.int .i64 x6)/\((aH prog (Instr.alloc 40 true (.tuple #[])) w8 λv7 w9=>∃ r:zO,v7=(.pointer r)/\((aA r λa2=>aJ prog (storeVar 40 a2 (.agg #[.string ⟨x4.toArray⟩,.int .i64 x5,.int .i64 x6,.slice none 0 0,.bool false,.slice none 0 0,.slice none 0 0])) w9 λw10=>j [.p r] w10)/\True))/\True))/\(aH prog (Instr.alloc 40 true (.tuple #[])) w7 λv8 w11=>∃ r1:zO,v8=(.pointer r1)/\((aD prog 276 [.pointer x1] w11 (aG R) λv9 w12=>∃ x7:Int,v9=(.int .i64 x7)/\((aA r1 λa3=>aJ prog (storeVar 40 a3 (.agg #[.string ⟨x4.toArray⟩,.int .i64 x5,.int .i64 x7,.slice none 0 0,.bool false,.slice none 0 0,.slice none 0 0])) w12 λw13=>j [.p r1] w13)/\True))/\True))/\True))/\(aH prog (Instr.alloc 40 true (.tuple #[])) w6 λv10 w14=>∃ r2:zO,v10=(.pointer r2)/\((aD prog 276 [.pointer x1] w14 (aG R) λv11 w15=>∃ x8:Int,v11=(.int .i64 x8)/\((aD prog 276 [.pointer x1] w15 (aG R) λv12 w16=>∃ x9:Int,v12=(.int .i64 x9)/\((aA r2 λa4=>aJ prog (storeVar 40 a4 (.agg #[.string ⟨x4.toArray⟩,.int .i64 x8,.int .i64 x9,.slice none 0 0,.bool false,.slice none 0 0,.slice none 0 0])) w16 λw17=>j [.p r2] w17)/\True))/\True))/\True))/\True))/\(aD prog 276 [.pointer x1] w5 (aG R) λv13 w18=>∃ x10:Int,v13=(.int .i64 x10)/\((aH prog (convert 38 9 (zS x3)) w18 λv14 w19=>∃ x11:zY,v14=(.string ⟨x11.toArray⟩)/\((aD prog 276 [.pointer x1] w19 (aG R) λv15 w20=>∃ x12:Int,v15=(.int .i64 x12)/\((aH prog (Instr.alloc 40 true (.tuple #[])) w20 λv16 w21=>∃ r3:zO,v16=(.pointer r3)/\((aA r3 λa5=>aJ prog (storeVar 40 a5 (.agg #[.string ⟨x11.toArray⟩,.int .i64 x10,.int .i64 x12,.slice none 0 0,.bool false,.slice none 0 0,.slice none 0 0])) w21 λw22=>j [.p r3] w22)/\True))/\True))/\(aH prog (Instr.alloc 40 true (.tuple #[])) w19 λv17 w23=>∃ r4:zO,v17=(.pointer r4)/\((aD prog 276 [.pointer x1] w23 (aG R) λv18 w24=>∃ x13:Int,v18=(.int .i64 x13)/\((aA r4 λa6=>aJ prog (storeVar 40 a6 (.agg #[.string ⟨x11.toArray⟩,.int .i64 x10,.int .i64 x13,.slice none 0 0,.bool false,.slice none 0 0,.slice none 0 0])) w24 λw25=>j [.p r4] w25)/\True))/\True))/\True))/\(aD prog 276 [.pointer x1] w18 (aG R) λv19 w26=>∃ x14:Int,v19=(.int .i64 x14)/\((aH prog (convert 38 9 (zS x3)) w26 λv20 w27=>∃ x15:zY,v20=(.string ⟨x15.toArray⟩)/\((aH prog (Instr.alloc 40 true (.tuple #[])) w27 λv21 w28=>∃ r5:zO,v21=(.pointer r5)/\((aA r5 λa7=>aJ prog (storeVar 40 a7 (.agg #[.string ⟨x15.toArray⟩,.int .i64 x10,.int .i64 x14,.slice none 0 0,.bool false,.slice none 0 0,.slice none 0 0])) w28 λw29=>j [.p r5] w29)/\True))/\True))/\(aH prog (Instr.alloc 40 true (.tuple #[])) w26 λv22 w30=>∃ r6:zO,v22=(.pointer r6)/\((aH prog (convert 38 9 (zS x3)) w30 λv23 w31=>∃ x16:zY,v23=(.string ⟨x16.toArray⟩)/\((aA r6 λa8=>aJ prog (storeVar 40 a8 (.agg #[.string ⟨x16.toArray⟩,.int .i64 x10,.int .i64 x14,.slice none 0 0,.bool false,.slice none 0 0,.slice none 0 0])) w31 λw32=>j [.p r6] w32)/\True))/\True))/\True))/\(aH prog (Instr.alloc 40 true (.tuple #[])) w18 λv24 w33=>∃ r7:zO,v24=(.pointer r7)/\((aH prog (convert 38 9 (zS x3)) w33 λv25 w34=>∃ x17:zY,v25=(.string ⟨x17.toArray⟩)/\((aD prog 276 [.pointer x1] w34 (aG R) λv26 w35=>∃ x18:Int,v26=(.int .i64 x18)/\((aA r7 λa9=>aJ prog (storeVar 40 a9 (.agg #[.string ⟨x17.toArray⟩,.int .i64 x10,.int .i64 x18,.slice none 0 0,.bool false,.slice none 0 0,.slice none 0 0])) w35 λw36=>j [.p r7] w36)/\True))/\True))/\(aD prog 276 [.pointer x1] w33 (aG R) λv27 w37=>∃ x19:Int,v27=(.int .i64 x19)/\((aH prog (convert 38 9 (zS x3)) w37 λv28 w38=>∃ x20:zY,v28=(.string ⟨x20.toArray⟩)/\((aA r7 λa10=>aJ prog (storeVar 40 a10 (.agg #[.string ⟨x20.toArray⟩,.int .i64 x10,.int .i64 x19,.slice none 0 0,.bool false,.slice none 0 0,.slice none 0 0])) w38 λw39=>j [.p r7] w39)/\True))/\True))/\True))/\True))/\(aH prog (Instr.alloc 40 true (.tuple #[])) w5 λv29 w40=>∃ r8:zO,v29=(.pointer r8)/\((aH prog (convert 38 9 (zS x3)) w40 λv30 w41=>∃ x21:zY,v30=(.string ⟨x21.toArray⟩)/\((aD prog 276 [.pointer x1] w41 (aG R) λv31 w42=>∃ x22:Int,v31=(.int .i64 x22)/\((aD prog 276 [.pointer x1] w42 (aG R) λv32 w43=>∃ x23:Int,v32=(.int .i64 x23)/\((aA r8 λa11=>aJ prog (storeVar 40 a11 (.agg #[.string ⟨x21.toArray⟩,.int .i64 x22,.int .i64 x23,.slice none 0 0,.bool false,.slice none 0 0,.slice none 0 0])) w43 λw44=>j [.p r8] w44)/\True))/\True))/\True))/\(aD prog 276 [.pointer x1] w40 (aG R) λv33 w45=>∃ x24:Int,v33=(.int .i64 x24)/\((aH prog (convert 38 9 (zS x3)) w45 λv34 w46=>∃ x25:zY,v34=(.string ⟨x25.toArray⟩)/\((aD prog 276 [.pointer x1] w46 (aG R) λv35 w47=>∃ x26:Int,v35=(.int .i64 x26)/\((aA r8 λa12=>aJ prog (storeVar 40 a12 (.agg #[.string ⟨x25.toArray⟩,.int .i64 x24,.int .i64 x26,.slice none 0 0,.bool false,.slice none 0 0,.slice none 0 0])) w47 λw48=>j [.p r8] w48)/\True))/\True))/\(aD prog 276 [.pointer x1] w45 (aG R) λv36 w49=>∃ x27:Int,v36=(.int .i64 x27)/\((aH prog (convert 38 9 (zS x3)) w49 λv37 w50=>∃ x28:zY,v37=(.string ⟨x28.toArray⟩)/\((aA r8 λa13=>aJ prog (storeVar 40 a13 (.agg #[.string ⟨x28.toArray⟩,.int .i64 x24,.int .i64 x27,.slice none 0 0,.bool false,.slice none 0 0,.slice none 0 0])) w50 λw51=>j [.p r8] w51)/\True))/\True))/\True))/\True))/\True))/\(aH prog (Instr.alloc 40 true (.tuple #[])) w4.drew λv38 w52=>∃ r9:zO,v38=(.pointer r9)/\((aD prog 275 [.pointer x1,.int .i64 64] w52 (aG R) λv39 w53=>∃ x29:Slc,v39=(zS x29)/\((aH prog (convert 38 9 (zS x29)) w53 λv40 w54=>∃ x30:zY,v40=(.string ⟨x30.toArray⟩)/\((aD prog 276 [.pointer x1] w54 (aG R) λv41 w55=>∃ x31:Int,v41=(.int .i64 x31)/\((aD prog 276 [.pointer x1] w55 (aG R) λv42 w56=>∃ x32:Int,v42=(.int .i64 x32)/\((aA r9 λa14=>aJ prog (storeVar 40 a14 (.agg #[.string ⟨x30.toArray⟩,.int .i64 x31,.int .i64 x32,.slice none 0 0,.bool false,.slice none 0 0,.slice none 0 0])) w56 λw57=>j [.p r9] w57)/\True))/\True))/\True))/\(aD prog 276 [.pointer x1] w53 (aG R) λv43 w58=>∃ x33:Int,v43=(.int .i64 x33)/\((aH prog (convert 38 9 (zS x29)) w58 λv44 w59=>∃ x34:zY,v44=(.string ⟨x34.toArray⟩)/\((aD prog 276 [.pointer x1] w59 (aG R) λv45 w60=>∃ x35:Int,v45=(.int .i64 x35)/\((aA r9 λa15=>aJ prog (storeVar 40 a15 (.agg #[.string ⟨x34.toArray⟩,.int .i64 x33,.int .i64 x35,.slice none 0 0,.bool false,.slice none 0 0,.slice none 0 0])) w60 λw61=>j [.p r9] w61)/\True))/\True))/\(aD prog 276 [.pointer x1] w58 (aG R) λv46 w62=>∃ x36:Int,v46=(.int .i64 x36)/\((aH prog (convert 38 9 (zS x29)) w62 λv47 w63=>∃ x37:zY,v47=(.string ⟨x37.toArray⟩)/\((aA r9 λa16=>aJ prog (storeVar 40 a16 (.agg #[.string ⟨x37.toArray⟩,.int .i64 x33,.int .i64 x36,.slice none 0 0,.bool false,.slice none 0 0,.slice none 0 0])) w63 λw64=>j [.p r9] w64)/\True))/\True))/\True))/\True))/\True))/\True))/\(∀ r10:zO,∀ w65:World,j [.p r10] w65->aD prog 277 [.pointer x1,.int .i64 8] w65 (aG R) λv48 w66=>∃ x38:Int,v48=(.int .i64 x38)/\∃ (inv:zT) (mu:zU),inv [.i .i64 0] w66/\(∀ x39:Int,∀ w67:World,inv [.i .i64 x39] w67->aE (decide (x39<x38)) (∃ sx:zP,sx w67.drew/\aA r10 λa17=>∃ x40:Slc,(∀ w',sx w'->Rd w' (a17.add 3) [zS x40])/\((aD prog 276 [.pointer x1] w67.drew (aG R) λv49 w68=>∃ x41:Int,v49=(.int .i64 x41)/\(sx w68/\((aD prog 276 [.pointer x1] w68 (aG R) λv50 w69=>∃ x42:Int,v50=(.int .i64 x42)/\(sx w69/\((aH prog (Instr.buildSlice 37 1 #[(0,(.agg #[.int .i64 x41,.int .i64 x42]))]) w69 λv51 w70=>∃ x43:Slc,v51=(zS x43)/\(sx w70/\((aH prog (Builtin.append_ #[37,37] 37 #[zS x40,zS x43]) w70 λv52 w71=>∃ x44:Slc,v52=(zS x44)/\aA r10 λa18=>((aJ prog (storeVar 37 (a18.add 3) (zS x44)) w71 λw72=>(inv [.i .i64 (zW (x39+1))] w72/\mu [.i .i64 (zW (x39+1))] w72<mu [.i .i64 x39] w67))/\True))/\True)))/\True)))/\True)))/\True)) (aD prog 274 [.pointer x1] w67 (aG R) λv53 w73=>∃ x45:UInt8,v53=(.int .u8 x45.toNat)/\aA r10 λa19=>aJ prog (storeVar 4 (a19.add 4) (.bool (x45 != (0:UInt8)))) w73 λw74=>((0<=(zW ((b.len:Int) - 64))/\(zW ((b.len:Int) - 64))<=(b.len:Nat))/\((aD prog 275 [.pointer x1,.int .i64 1024] w74.drew (aG R) λv54 w75=>∃ x46:Slc,v54=(zS x46)/\aA r10 λa20=>((aD prog 186 [.slice (aF b 1 (((zW ((b.len:Int) - 64))).toNat) b.len b.cap).a (aF b 1 (((zW ((b.len:Int) - 64))).toNat) b.len b.cap).len (aF b 1 (((zW ((b.len:Int) - 64))).toNat) b.len b.cap).cap] w75 (aG R) λv55 w76=>∃ x47:Slc,v55=(zS x47)/\((aJ prog (storeVar 38 (a20.add 5) (zS x46)) w76 λw77=>aA r10 λa21=>((aJ prog (storeVar 38 (a21.add 6) (zS x47)) w77 λw78=>aA r10 λa22=>∃ xa1:zY,∃ xb1 xc1:Int,∃ xd1:Slc,∃ xe1:Bool,∃ xf1 xg1:Slc,Rd w78 a22 (yR xa1 xb1 xc1 xd1 xe1 xf1 xg1)/\aD prog 200 [zR xa1 xb1 xc1 xd1 xe1 xf1 xg1] w78 (aG R) λv56 w79=>∃ xa2:Slc,∃ xb2:Int,v56=(.tuple #[zS xa2,.int .i64 xb2])/\∃ j1:zT,(aD prog 278 [.pointer x1] w79 (aG R) λv57 w80=>∃ x48:Bool,v57=(.bool x48)/\aE (!x48) (j1 [.b true] w80) (aE (xb2 != (0:Int)) (j1 [.b true] w80) (aD prog 279 [zS xa2,zS b] w80 (aG R) λv58 w81=>∃ x49:Bool,v58=(.bool x49)/\j1 [.b (!x49)] w81)))/\(∀ x50:Bool,∀ w82:World,j1 [.b x50] w82->aE x50 (aA x λa23=>aJ prog (storeVar 40 a23 (.agg #[.string ⟨([]).toArray⟩,.int .i64 0,.int .i64 0,.slice none 0 0,.bool false,.slice none 0 0,.slice none 0 0])) w82 λw83=>aA x λa24=>∃ xa3:zY,∃ xb3 xc2:Int,∃ xd2:Slc,∃ xe2:Bool,∃ xf2 xg2:Slc,Rd w83 a24 (yR xa3 xb3 xc2 xd2 xe2 xf2 xg2)/\R (.returned (.tuple #[zR xa3 xb3 xc2 xd2 xe2 xf2 xg2,.int .i64 4])) w83) (aA r10 λa25=>∃ xa4:zY,∃ xb4 xc3:Int,∃ xd3:Slc,∃ xe3:Bool,∃ xf3 xg3:Slc,Rd w82 a25 (yR xa4 xb4 xc3 xd3 xe3 xf3 xg3)/\aA x λa26=>aJ prog (storeVar 40 a26 (zR xa4 xb4 xc3 xd3 xe3 xf3 xg3)) w82 λw84=>aA x λa27=>∃ xa5:zY,∃ xb5 xc4:Int,∃ xd4:Slc,∃ xe4:Bool,∃ xf4 xg4:Slc,Rd w84 a27 (yR xa5 xb5 xc4 xd4 xe4 xf4 xg4)/\R (.returned (.tuple #[zR xa5 xb5 xc4 xd4 xe4 xf4 xg4,.int .i64 0])) w84)))/\True))/\True))/\True))/\True)))))))
theorem qLS (b:Slc) {w:World} {R:RW} (h9:qYN b w R):Calls prog 210 #[zS b] w R:=
 zC (q0 .z (q0 .z (q0 (q0 .z (.cond (q0 .z .z) .z)) (q0 .z (q0 .z (.seq (some [(6,.p)]) (.draw 0 (.take 0 (.take 3 (.take 5 (.all [(1,(.all [(2,(.all [(4,(.all [(6,(.take 7 (.all [(8,(.all [(9,.done)]))]))),(8,(.all [(6,(.take 7 (.all [(9,.done)])))]))])),(8,(.all [(4,(.all [(6,(.take 7 (.all [(9,.done)])))]))]))])),(4,(.all [(2,(.all [(6,(.take 7 (.all [(8,(.all [(9,.done)]))]))),(8,(.all [(6,(.take 7 (.all [(9,.done)])))]))])),(6,(.all [(2,(.take 7 (.all [(8,(.all [(9,.done)]))]))),(8,(.all [(2,(.take 7 (.all [(9,.done)])))]))])),(8,(.all [(2,(.all [(6,(.take 7 (.all [(9,.done)])))])),(6,(.all [(2,(.take 7 (.all [(9,.done)])))]))]))])),(8,(.all [(2,(.all [(4,(.all [(6,(.take 7 (.all [(9,.done)])))]))])),(4,(.all [(2,(.all [(6,(.take 7 (.all [(9,.done)])))])),(6,(.all [(2,(.take 7 (.all [(9,.done)])))]))]))]))])),(8,(.all [(1,(.all [(2,(.all [(4,(.all [(6,(.take 7 (.all [(9,.done)])))]))])),(4,(.all [(2,(.all [(6,(.take 7 (.all [(9,.done)])))])),(6,(.all [(2,(.take 7 (.all [(9,.done)])))]))]))]))]))]))))) (q0 (q0 .z (.block none (.loop [(31,(.i .i64))] (q0 .z (q0 (.cond .z .z) (q0 (.block none (.draw 1 (.take 0 (.take 2 (.take 4 (.take 1 (.all [(3,(.all [(5,(.take 6 (.all [(7,(.all [(8,(.take 9 (.all [(10,.done)])))]))])))]))]))))))) .z)))))) (q0 .z (q0 (.draw 0 (.take 0 (.take 2 (.take 3 (.take 4 (.all [(1,(.take 6 (.all [(5,(.all [(7,(.take 8 (.all [(9,.done)])))]))])))])))))) (q0 .z (q0 (.seq (some [(73,.b)]) .z (.cond (q0 .z .z) .z)) (q0 .z .z)))))))))))) func210 [.sl b] h9
def bM (w:World) (rb:Nat) (xb:Option Nat) (l:zY):Prop:=∃ x:Slc,Blk w rb [x.val,.bool true,.bool false] 442/\aK w x 1 (bys l)/\(∀ z,x.blk=some z->xb=some z)/\(∀ z,xb=some z->z<w.heap.size/\z≠rb)/\l.length<=1000000000
theorem bM.mod {w w':World} {rb:Nat} {xb:Option Nat} {l:zY} {S:Nat->Prop} (h:bM w rb xb l) (hm:Mod S w w') (h1 : ¬ S rb) (h2 : ∀ z,xb=some z->¬ S z):bM w' rb xb l:=by
 obtain ⟨x,g1,g2,g3,g4,g5⟩:=h
 exact ⟨x,g1.mod hm h1,g2.mod hm λz hz=>h2 z (g3 z hz),g3,λz hz=>⟨Nat.lt_of_lt_of_le (g4 z hz).1 hm.size,(g4 z hz).2⟩,g5⟩
theorem bM.no {w w':World} {rb:Nat} {xb:Option Nat} {l:zY} (h:bM w rb xb l) (hm:Mod NoB w w'):bM w' rb xb l:=h.mod hm (λh=>h) λ_ _ h=>h
theorem bM.lt {w:World} {rb:Nat} {xb:Option Nat} {l:zY} (h:bM w rb xb l):rb<w.heap.size:=by obtain ⟨x,h1,_⟩:=h; exact h1.lt
theorem bM.xlt {w:World} {rb:Nat} {xb:Option Nat} {l:zY} (h:bM w rb xb l) : ∀ z,xb=some z->z<w.heap.size/\z≠rb:=by obtain ⟨x,_,_,_,h1,_⟩:=h; exact h1
theorem qIF:prog.underlying 373=some (.pointer 442):=by kernel_rfl
theorem iI : ∃ i,prog.info? 3=some i/\i.zero=some (.int .i64 0)/\i.size=1/\i.bytes=8:=bC (by kernel_rfl) (by kernel_rfl) (by kernel_rfl)
section
variable {w:World}
theorem qJU {b:Slc} {l:zY} (hb:aK w b 1 (bys l)) (hn:l.length<=1000000000):Calls prog 273 #[.slice b.a b.len b.cap] w (Ret λv w'=>∃ rb xb,v = .pointer (some ⟨rb,0,none⟩)/\bM w' rb xb l/\w.heap.size<=rb/\(∀ z,xb=some z->w.heap.size<=z)/\Mod NoB w w'):=by
 refine qNE _ ?_
 unfold qVB
 refine aB (lM hb hn) ?_
 rintro v w1 ⟨x,rfl,ho,hf,h9⟩
 refine ⟨x,rfl,?_⟩
 refine aQ (l:=[x.val,.bool true,.bool false]) rfl λp w2 hN hb2=>⟨_,rfl,p,x.blk,rfl,⟨x,hb2,(ho.no hN.mod).rd,λz hz=>hz,λz hz=>⟨(ho.no hN.mod).lt hz,λe=>by have:=ho.lt hz; have:=hN.at_; omega⟩,hn⟩,by have:=hN.at_; have:=h9.size; omega,hf,h9.tr hN.mod⟩
theorem qDK {t:Bool} (h:t=true):Calls prog 367 #[.bool t] w (Ret λv w'=>v = .tuple #[]/\w'=w):=by
 refine qMI _ ?_
 unfold qYD
 subst h
 exact aC (λh=>by cases h) λ_=>⟨rfl,rfl⟩
theorem qAV {rb:Nat} {xb:Option Nat} {a b:zY} (h:bM w rb xb (a++b)):Calls prog 338 #[.pointer (some (Addr.add ⟨rb,0,none⟩ 0)),.int .i64 (a.length:Int)] w (Ret λv w'=>∃ y:Slc,v=y.val/\aK w' y 1 (bys a)/\(∀ z,y.blk=some z->xb=some z)/\bM w' rb xb b/\Mod (λz=>z=rb) w w'):=by
 refine qPX _ _ ?_
 unfold qYB
 obtain ⟨x,hb,hx,hz,hz2,hn⟩:=h
 have hxl:=aV hx
 rw [List.length_append] at hxl hn
 have k3:=hx.2.1
 have rd:Rd w (Addr.add (Addr.add ⟨rb,0,none⟩ 0) 0) [x.val]:=by rw [aO,aO]; exact hb.rd1 rfl
 refine ⟨λl w'=>w'=w,aC (λ_=>⟨x,rd,?_⟩) (λh=>(by simp at h)),?_⟩
 ·refine aB (qDK (decide_eq_true (by omega))) ?_
  rintro v w1 ⟨rfl,hw⟩
  exact ⟨rfl,hw⟩
 rintro w3 rfl
 refine ⟨x,rd,⟨by omega,by omega⟩,x,rd,⟨by omega,by omega⟩,?_⟩
 have e1:((a.length:Nat):Int).toNat=a.length:=by omega
 simp only [e1]
 have rd1:=hx.cut (l:=0) (n:=a.length) (m:=x.cap) (by omega) (by omega) (by omega) (Nat.le_refl _)
 have h9:=hx.cut (l:=a.length) (n:=x.len) (m:=x.cap) (by omega) (by omega) (by omega) (Nat.le_refl _)
 rw [fV] at rd1 h9
 have t1:((a++b).drop 0).take (a.length - 0)=a:=by simp
 have t2:((a++b).drop a.length).take (x.len - a.length)=b:=by rw [List.drop_left]; exact List.take_of_length_le (by omega)
 rw [t1] at rd1; rw [t2] at h9
 show aJ _ (storeVar _ (Addr.add (Addr.add ⟨rb,0,none⟩ 0) 0) _) _ _
 rw [aO,aO]
 refine aX (by kernel_rfl) (by kernel_rfl) rfl hb (by simp) λw4 ht hb4=>?_
 have k1 : ∀ z,(aF x 1 0 a.length x.cap).blk=some z->xb=some z:=λz hh=>hz z (nQ hh (Nat.le_refl _))
 have k2 : ∀ z,(aF x 1 a.length x.len x.cap).blk=some z->xb=some z:=λz hh=>hz z (nQ hh (Nat.le_refl _))
 exact ⟨_,rfl,rd1.mod ht.mod λz hh=>(hz2 z (k1 z hh)).2,k1,⟨_,hb4,h9.mod ht.mod λz hh=>(hz2 z (k2 z hh)).2,k2,λz hh=>⟨Nat.lt_of_lt_of_le (hz2 z hh).1 ht.mod.size,(hz2 z hh).2⟩,by omega⟩,ht.mod⟩
theorem jDU {rb:Nat} {xb:Option Nat} {c:UInt8} {b:zY} (h:bM w rb xb (c :: b)):Calls prog 335 #[.pointer (some (Addr.add ⟨rb,0,none⟩ 0))] w (Ret λv w'=>v = .int .u8 c.toNat/\bM w' rb xb b/\Mod (λz=>z=rb) w w'):=by
 refine qSN _ ?_
 unfold qTH
 refine aB (qAV (a:=[c]) (b:=b) h) ?_
 rintro v w1 ⟨y,rfl,hy,hz,hr,hm⟩
 have hl:=aV hy
 obtain ⟨A,ea,h9⟩:=gL hy (i:=0) (by simp)
 refine ⟨y,rfl,⟨by omega,by simp at hl; omega⟩,?_⟩
 rw [ea]
 exact ⟨c,h9,rfl,hr,hm⟩
theorem rF {n:Int} {k:Nat} (h:k<8):(dS (aM (aP n) (8*(8 - k))) 8 ||| (aM (aP n) (8*(7 - k))).toUInt8.toUInt64)=aM (aP n) (8*(7 - k)):=by
 generalize aP n=X
 apply UInt64.toNat_inj.1
 have hX:=X.toNat_lt
 have sh : ∀ m,m<64->(aM X m).toNat=X.toNat / 2 ^ m:=λm hm=>by
  unfold aM
  rw [if_pos hm,UInt64.toNat_shiftRight,Nat.shiftRight_eq_div_pow,UInt64.toNat_ofNat',Nat.mod_eq_of_lt (a:=m) (by omega),Nat.mod_eq_of_lt hm]
 have hy:(aM X (8*(8 - k))).toNat=X.toNat / 2 ^ (8*(7 - k)) / 256:=by
  rcases Nat.eq_zero_or_pos k with h0 | h0
  ·subst h0
   unfold aM
   rw [if_neg (by omega)]
   show 0=_
   rw [Nat.div_div_eq_div_mul]
   exact (Nat.div_eq_of_lt (by have:2 ^ (8*(7 - 0))*256=2 ^ 64:=by decide
                               omega)).symm
  ·rw [sh _ (by omega),Nat.div_div_eq_div_mul]
   congr 1
   rw [show (256:Nat)=2 ^ 8 from rfl,<-Nat.pow_add]
   congr 1; omega
 rw [UInt64.toNat_or,sh _ (by omega)]
 have hlow:((aM X (8*(7 - k))).toUInt8.toUInt64).toNat=X.toNat / 2 ^ (8*(7 - k)) % 256:=by
  rw [UInt8.toNat_toUInt64,UInt64.toNat_toUInt8,sh _ (by omega)]
 rw [hlow]
 have h9:(dS (aM X (8*(8 - k))) 8).toNat=(X.toNat / 2 ^ (8*(7 - k)) / 256) <<< 8:=by
  unfold dS
  rw [if_pos (by omega),UInt64.toNat_shiftLeft,hy]
  have e8:(UInt64.ofNat 8).toNat % 64=8:=by decide
  rw [e8,Nat.shiftLeft_eq]
  refine Nat.mod_eq_of_lt ?_
  have:X.toNat / 2 ^ (8*(7 - k))<=X.toNat:=Nat.div_le_self _ _
  have e:(2:Nat) ^ 8=256:=rfl
  omega
 rw [h9,<-Nat.shiftLeft_add_eq_or_of_lt (show X.toNat / 2 ^ (8*(7 - k)) % 256<2 ^ 8 by omega),Nat.shiftLeft_eq]
 have e:(2:Nat) ^ 8=256:=rfl
 omega
theorem qU {n:Int} {k:Nat} (h:k<8):(bI n)[k]'(by simp; exact h)=(aM (aP n) (8*(7 - k))).toUInt8:=by simp [bI]
theorem qKW {rb:Nat} {xb:Option Nat} {n:Int} {b:zY} (h:bM w rb xb (bI n++b)) (hn:0<=n/\n<4611686018427387904):Calls prog 341 #[.pointer (some (Addr.add ⟨rb,0,none⟩ 0))] w (Ret λv w'=>v = .int .i64 n/\bM w' rb xb b/\Mod (λz=>z=rb) w w'):=by
 refine qOO _ ?_
 unfold qUW
 have h8:(8:Int)=(((bI n).length:Nat):Int):=by rw [jF]; rfl
 rw [h8]
 refine aB (qAV h) ?_
 rintro v w1 ⟨y,rfl,hy,hz,hr,hm⟩
 have hl:=aV hy
 rw [jF] at hl
 refine ⟨y,rfl,?_⟩
 refine ⟨λl w'=>match l with | [.u64 m,.i _ x]=>∃ k:Nat,x=(k:Int)/\k<=8/\m=aM (aP n) (8*(8 - k))/\w'=w1 | _=>False,λl _=>match l with | [.u64 _,.i _ x]=>(8 - x).toNat | _=>0,⟨0,rfl,by omega,rfl,rfl⟩,?_⟩
 rintro m x w2 ⟨k,rfl,hk,rfl,rfl⟩
 refine aC (λhlt=>?_) λhge=>?_
 ·have hlt:k<8:=by have:=of_decide_eq_true hlt; omega
  obtain ⟨A,ea,h9⟩:=gL hy (i:=k) (by rw [jF]; exact hlt)
  refine ⟨⟨by omega,by omega⟩,?_⟩
  rw [ea]
  refine ⟨_,h9,Int.natCast_nonneg _,?_⟩
  rw [wrap_i64 (e:=(k:Int)+1) (by omega),qU hlt]
  have e8:((((8:UInt64)).toNat:Int)).toNat=8:=rfl
  rw [e8,rF hlt]
  exact ⟨⟨k+1,by omega,by omega,(by congr 1; omega),rfl⟩,by (try simp only []); omega⟩
 ·have k3:k=8:=by have:=of_decide_eq_false hge; omega
  subst k3
  refine ⟨congrArg _ ?_,hr,hm⟩
  have e:(aM (aP n) (8*(8 - 8))).toNat=n.toNat:=by
   unfold aM aP
   rw [if_pos (by omega),UInt64.toNat_shiftRight]
   have e0:(UInt64.ofNat (8*(8 - 8))).toNat % 64=0:=by decide
   rw [e0,Nat.shiftRight_zero,UInt64.toNat_ofNat']
   omega
  rw [e,wrap_i64 (by omega)]; omega
theorem wR {rb:Nat} {xb:Option Nat} {n most:Int} {b:zY} (h:bM w rb xb (bI n++b)) (hn:0<=n/\n<4611686018427387904) (hm:n<=most):Calls prog 339 #[.pointer (some (Addr.add ⟨rb,0,none⟩ 0)),.int .i64 most] w (Ret λv w'=>v = .int .i64 n/\bM w' rb xb b/\Mod (λz=>z=rb) w w'):=by
 refine qNW _ _ ?_
 unfold qUN
 refine aB (qKW h hn) ?_
 rintro v w1 ⟨rfl,hr,h9⟩
 refine ⟨n,rfl,aC (λ_=>?_) λh=>by simp at h; omega⟩
 refine aB (qDK (by simpa using hm)) ?_
 rintro v w2 ⟨rfl,hw⟩
 exact ⟨rfl,rfl,by rw [hw]; exact hr,by rw [hw]; exact h9⟩
theorem vN {rb:Nat} {xb:Option Nat} {l:zY} (h:bM w rb xb l):Calls prog 343 #[.pointer (some ⟨rb,0,none⟩)] w (Ret λv w'=>v = .bool true/\w'=w):=by
 refine qNV _ ?_
 unfold qWJ
 obtain ⟨x,hb,hx,hz,hz2,hn⟩:=h
 refine rU qIF ⟨_,rfl,aC (λ_=>?_) λh=>by simp at h⟩
 refine ⟨true,by rw [aO]; exact hb.rd1 rfl,aC (λ_=>⟨false,by rw [aO]; exact hb.rd1 rfl,rfl,rfl⟩) λh=>by cases h⟩
theorem jBR {rb:Nat} {xb:Option Nat} {l:zY} (h:bM w rb xb l):Calls prog 278 #[.pointer (some ⟨rb,0,none⟩)] w (Ret λv w'=>v = .bool (l.length==0)/\w'=w):=by
 refine qOR _ ?_
 unfold qUC
 refine aB (vN h) ?_
 rintro v w1 ⟨rfl,hw⟩
 obtain ⟨x,hb,hx,hz,hz2,hn⟩:=h
 have hxl:=aV hx
 rw [hw]
 refine ⟨_,rfl,aC (λ_=>⟨x,by rw [aO,aO]; exact hb.rd1 rfl,congrArg Value.bool ?_,rfl⟩) λh=>by cases h⟩
 rw [hxl]
 apply Bool.eq_iff_iff.2
 simp
theorem jBB {p q:Nat} {K:FrameMode->zP} (hk:K .returning w):eF prog 365 #[.pointer (some ⟨p,0,none⟩),.pointer (some ⟨q,0,none⟩)] .returning w K:=by
 unfold eF
 refine qOL _ _ ?_
 unfold qKN
 show bB _ _ _
 refine ⟨.bool false,λw=>?_,false,rfl,aC (λh=>by cases h) λ_=>⟨(λh=>(by cases h)),hk⟩⟩
 rfl
theorem qHI {rb:Nat} {xb:Option Nat} {l l':zY} {f:FuncId} {first cap:Array Value} {c:UInt8} (h:bM w rb xb l) (he:enters prog f=true)
 (hc : ∀ w3,Mod NoB w w3->bM w3 rb xb l->Calls prog f (first.toList++[]++cap.toList).toArray w3 (Ret λv w'=>v = .int .u8 c.toNat/\bM w' rb xb l'/\Mod (λz=>z=rb) w3 w')) :
 Calls prog 334 #[.pointer (some ⟨rb,0,none⟩),.func (.func f) first cap] w (Ret λv w'=>v = .int .u8 c.toNat/\bM w' rb xb l'/\Mod (λz=>z=rb) w w'):=by
 refine qMD _ _ ?_
 unfold qTL
 obtain ⟨ii,k5,k6,t7,u0⟩:=i5
 have hrl:=h.lt
 refine aQ (l:=[.pointer (some ⟨rb,0,none⟩)]) rfl λp w1 hN hb=>⟨_,rfl,?_⟩
 refine aN (l:=[.int .u8 0]) k5 k6 rfl λq w2 h9 hb2=>⟨_,rfl,?_⟩
 have e1:=hN.at_; have e2:=h9.at_; have e3:=hN.size
 have hM2:=hN.mod.tr h9.mod
 refine ⟨some ⟨rb,0,none⟩,(hb.no h9.mod).rd1 rfl,?_⟩
 refine aB (vN (h.no hM2)) ?_
 rintro v w3 ⟨rfl,rfl⟩
 refine ⟨_,rfl,aC (λh=>by cases h) λ_=>?_⟩
 refine dX he ?_
 refine aB (hc _ hM2 (h.no hM2)) ?_
 rintro v w4 ⟨rfl,p8,k3⟩
 refine ⟨c,rfl,?_⟩
 have p9:=hb2.mod k3 (by omega)
 refine aX (by kernel_rfl) (by kernel_rfl) rfl p9 (by simp) λw5 k4 q8=>?_
 have u1:w3.heap.size<=w4.heap.size:=k3.size
 refine jBB ?_
 unfold fS
 dsimp only
 have hx0:=h.xlt
 have q9:bM w5 rb xb l':=p8.mod k4.mod (by omega) λz hz e=>by have e:z=q:=e; have:=(hx0 z hz).1; omega
 have t6:Mod (λz=>z=rb) w w5:=(hM2.no k3).trans k4.mod (λ_ _ e=>e) λz hz e=>by have e:z=q:=e; omega
 exact ⟨c,q8.rd1 rfl,rfl,q9,t6⟩
theorem qZD {p q:Nat} {K:FrameMode->zP} (hk:K .returning w):eF prog 368 #[.pointer (some ⟨p,0,none⟩),.pointer (some ⟨q,0,none⟩)] .returning w K:=by
 unfold eF
 refine qRB _ _ ?_
 unfold qJE
 show bB _ _ _
 refine ⟨.bool false,λw=>?_,false,rfl,aC (λh=>by cases h) λ_=>⟨(λh=>(by cases h)),hk⟩⟩
 rfl
theorem yD {rb:Nat} {xb:Option Nat} {l l':zY} {f:FuncId} {first cap:Array Value} {n:Int} (h:bM w rb xb l) (he:enters prog f=true)
 (hc : ∀ w3,Mod NoB w w3->bM w3 rb xb l->Calls prog f (first.toList++[]++cap.toList).toArray w3 (Ret λv w'=>v = .int .i64 n/\bM w' rb xb l'/\Mod (λz=>z=rb) w3 w')) :
 Calls prog 340 #[.pointer (some ⟨rb,0,none⟩),.func (.func f) first cap] w (Ret λv w'=>v = .int .i64 n/\bM w' rb xb l'/\Mod (λz=>z=rb) w w'):=by
 refine qOQ _ _ ?_
 unfold qVI
 obtain ⟨ii,k5,k6,t7,u0⟩:=iI
 have hrl:=h.lt
 refine aQ (l:=[.pointer (some ⟨rb,0,none⟩)]) rfl λp w1 hN hb=>⟨_,rfl,?_⟩
 refine aN (l:=[.int .i64 0]) k5 k6 rfl λq w2 h9 hb2=>⟨_,rfl,?_⟩
 have e1:=hN.at_; have e2:=h9.at_; have e3:=hN.size
 have hM2:=hN.mod.tr h9.mod
 refine ⟨some ⟨rb,0,none⟩,(hb.no h9.mod).rd1 rfl,?_⟩
 refine aB (vN (h.no hM2)) ?_
 rintro v w3 ⟨rfl,rfl⟩
 refine ⟨_,rfl,aC (λh=>by cases h) λ_=>?_⟩
 refine dX he ?_
 refine aB (hc _ hM2 (h.no hM2)) ?_
 rintro v w4 ⟨rfl,p8,k3⟩
 refine ⟨n,rfl,?_⟩
 have p9:=hb2.mod k3 (by omega)
 refine aX (by kernel_rfl) (by kernel_rfl) rfl p9 (by simp) λw5 k4 q8=>?_
 have u1:w3.heap.size<=w4.heap.size:=k3.size
 refine qZD ?_
 unfold fS
 dsimp only
 have hx0:=h.xlt
 have q9:bM w5 rb xb l':=p8.mod k4.mod (by omega) λz hz e=>by have e:z=q:=e; have:=(hx0 z hz).1; omega
 have t6:Mod (λz=>z=rb) w w5:=(hM2.no k3).trans k4.mod (λ_ _ e=>e) λz hz e=>by have e:z=q:=e; omega
 exact ⟨n,q8.rd1 rfl,rfl,q9,t6⟩
theorem qYZ {p q:Nat} {K:FrameMode->zP} (hk:K .returning w):eF prog 366 #[.pointer (some ⟨p,0,none⟩),.pointer (some ⟨q,0,none⟩)] .returning w K:=by
 unfold eF
 refine qON _ _ ?_
 unfold qJK
 show bB _ _ _
 refine ⟨.bool false,λw=>?_,false,rfl,aC (λh=>by cases h) λ_=>⟨(λh=>(by cases h)),hk⟩⟩
 rfl
theorem qJJ {rb:Nat} {xb:Option Nat} {l l':zY} {f:FuncId} {first cap:Array Value} {bs:zY} (h:bM w rb xb l) (he:enters prog f=true)
 (hc : ∀ w3,Mod NoB w w3->bM w3 rb xb l->Calls prog f (first.toList++[]++cap.toList).toArray w3 (Ret λv w'=>(∃ s:Slc,v=s.val/\Sh.Own w' s 1 (bys bs)/\FB w3 s)/\bM w' rb xb l'/\Mod (λz=>z=rb) w3 w')) :
 Calls prog 336 #[.pointer (some ⟨rb,0,none⟩),.func (.func f) first cap] w (Ret λv w'=>(∃ s:Slc,v=s.val/\Sh.Own w' s 1 (bys bs)/\FB w s)/\bM w' rb xb l'/\Mod (λz=>z=rb) w w'):=by
 refine qOI _ _ ?_
 unfold qWZ
 obtain ⟨ii,k6,p8,u1,u2⟩:=i26
 have hrl:=h.lt
 refine aQ (l:=[.pointer (some ⟨rb,0,none⟩)]) rfl λp w1 hN hb=>⟨_,rfl,?_⟩
 refine aN (l:=[.slice none 0 0]) k6 p8 rfl λq w2 h9 hb2=>⟨_,rfl,?_⟩
 have e1:=hN.at_; have e2:=h9.at_; have e3:=hN.size
 have hM2:=hN.mod.tr h9.mod
 refine ⟨some ⟨rb,0,none⟩,(hb.no h9.mod).rd1 rfl,?_⟩
 refine aB (vN (h.no hM2)) ?_
 rintro v w3 ⟨rfl,rfl⟩
 refine ⟨_,rfl,aC (λh=>by cases h) λ_=>?_⟩
 refine dX he ?_
 refine aB (hc _ hM2 (h.no hM2)) ?_
 rintro v w4 ⟨⟨s,rfl,p9,k5⟩,q8,k3⟩
 refine ⟨s,rfl,?_⟩
 have q9:=hb2.mod k3 (by omega)
 refine aX (by kernel_rfl) (by kernel_rfl) rfl q9 (by simp) λw5 k4 t6=>?_
 have u3:w3.heap.size<=w4.heap.size:=k3.size
 refine qYZ ?_
 unfold fS
 dsimp only
 have hx0:=h.xlt
 have t7:bM w5 rb xb l':=q8.mod k4.mod (by omega) λz hz e=>by have e:z=q:=e; have:=(hx0 z hz).1; omega
 have u0:Mod (λz=>z=rb) w w5:=(hM2.no k3).trans k4.mod (λ_ _ e=>e) λz hz e=>by have e:z=q:=e; omega
 exact ⟨s,t6.rd1 rfl,⟨s,rfl,p9.mod k4.mod λz hz e=>by have e:z=q:=e; have:=k5 z hz; have:=h9.size; omega,k5.le hM2.size⟩,t7,u0⟩
theorem qCS {rb:Nat} {xb:Option Nat} {c:UInt8} {b:zY} (h:bM w rb xb (c :: b)):Calls prog 274 #[.pointer (some ⟨rb,0,none⟩)] w (Ret λv w'=>v = .int .u8 c.toNat/\bM w' rb xb b/\Mod (λz=>z=rb) w w'):=by
 refine qLW _ ?_
 unfold qTP
 refine mX qIF ⟨_,rfl,aC (λh=>by simp at h) λ_=>?_⟩
 refine aB (qHI (c:=c) (l':=b) h (by kernel_rfl) λw3 hm h3=>jDU h3) ?_
 rintro v w1 ⟨rfl,hr,hm⟩
 exact ⟨c,rfl,rfl,hr,hm⟩
theorem qBI {rb:Nat} {xb:Option Nat} {n:Int} {b:zY} (h:bM w rb xb (bI n++b)) (hn:0<=n/\n<4611686018427387904):Calls prog 276 #[.pointer (some ⟨rb,0,none⟩)] w (Ret λv w'=>v = .int .i64 n/\bM w' rb xb b/\Mod (λz=>z=rb) w w'):=by
 refine qRO _ ?_
 unfold qXO
 refine mX qIF ⟨_,rfl,aC (λh=>by simp at h) λ_=>?_⟩
 refine aB (yD (n:=n) (l':=b) h (by kernel_rfl) λw3 hm h3=>qKW h3 hn) ?_
 rintro v w1 ⟨rfl,hr,hm⟩
 exact ⟨n,rfl,rfl,hr,hm⟩
theorem qKH {rb:Nat} {xb:Option Nat} {n most:Int} {b:zY} (h:bM w rb xb (bI n++b)) (hn:0<=n/\n<4611686018427387904) (k4:n<=most):Calls prog 277 #[.pointer (some ⟨rb,0,none⟩),.int .i64 most] w (Ret λv w'=>v = .int .i64 n/\bM w' rb xb b/\Mod (λz=>z=rb) w w'):=by
 refine qQD _ _ ?_
 unfold qWQ
 refine aQ (l:=[.pointer (some ⟨rb,0,none⟩)]) rfl λp w1 hN hb=>⟨_,rfl,?_⟩
 refine aQ (l:=[.int .i64 most]) rfl λq w2 h9 hb2=>⟨_,rfl,?_⟩
 have hM2:=hN.mod.tr h9.mod
 refine ⟨_,(hb.no h9.mod).rd1 rfl,?_⟩
 refine aB (yD (n:=n) (l':=b) (h.no hM2) (by kernel_rfl) λw3 hm h3=>?_) ?_
 ·show Calls _ _ #[.pointer (some ⟨p,0,none⟩),.pointer (some ⟨q,0,none⟩)] _ _
  refine qOE _ _ ?_
  unfold qXN
  have hd:Mod NoB w2 w3.drew:=hm.tr (Mod.drew _ _)
  refine ⟨λw'=>Mod (λz=>z=rb) w3.drew w',Mod.refl _ _,some ⟨rb,0,none⟩,λw' hw=>(((hb.no h9.mod).no hd).mod hw (by have:=h.lt; have:=hN.at_; omega)).rd1 rfl,most,λw' hw=>((hb2.no hd).mod hw (by have:=h.lt; have:=h9.at_; have:=hN.mod.size; omega)).rd1 rfl,?_,trivial⟩
  refine aB (wR (h3.no (Mod.drew _ _)) hn k4) ?_
  rintro v w4 ⟨rfl,hr,k3⟩
  exact ⟨n,rfl,k3,rfl,hr,(Mod.drew NoB w3).no k3⟩
 rintro v w3 ⟨rfl,hr,hm⟩
 exact ⟨n,rfl,rfl,hr,hM2.no hm⟩
theorem xD {rb:Nat} {xb:Option Nat} {most:Int} {a b:zY} (h:bM w rb xb (eG a++b)) (p8:(a.length:Int)<=most):Calls prog 275 #[.pointer (some ⟨rb,0,none⟩),.int .i64 most] w (Ret λv w'=>(∃ s:Slc,v=s.val/\Sh.Own w' s 1 (bys a)/\FB w s)/\bM w' rb xb b/\Mod (λz=>z=rb) w w'):=by
 refine qLU _ _ ?_
 unfold qVX
 refine aQ (l:=[.pointer (some ⟨rb,0,none⟩)]) rfl λp w1 hN hb=>⟨_,rfl,?_⟩
 refine aQ (l:=[.int .i64 most]) rfl λq w2 k3 hb2=>⟨_,rfl,?_⟩
 have hM2:=hN.mod.tr k3.mod
 have hal:a.length<=1000000000:=by obtain ⟨x,_,_,_,_,hn⟩:=h; rw [List.length_append,eG] at hn; simp at hn; omega
 refine ⟨_,(hb.no k3.mod).rd1 rfl,?_⟩
 refine aB (qJJ (bs:=a) (l':=b) (h.no hM2) (by kernel_rfl) λw3 hm h3=>?_) ?_
 ·show Calls _ _ #[.pointer (some ⟨p,0,none⟩),.pointer (some ⟨q,0,none⟩)] _ _
  refine qQM _ _ ?_
  unfold qUE
  have hd:Mod NoB w2 w3.drew:=hm.tr (Mod.drew _ _)
  have rp : ∀ w',Mod (λz=>z=rb) w3.drew w'->Rd w' ⟨p,0,none⟩ [.pointer (some ⟨rb,0,none⟩)]:=λw' hw=>(((hb.no k3.mod).no hd).mod hw (by have:=h.lt; have:=hN.at_; omega)).rd1 rfl
  refine ⟨λw'=>Mod (λz=>z=rb) w3.drew w',Mod.refl _ _,some ⟨rb,0,none⟩,rp,some ⟨rb,0,none⟩,rp,most,λw' hw=>((hb2.no hd).mod hw (by have:=h.lt; have:=k3.at_; have:=hN.mod.size; omega)).rd1 rfl,?_,trivial⟩
  have h3d:=h3.no (Mod.drew NoB w3)
  rw [eG,List.append_assoc] at h3d
  refine aB (wR h3d (by omega) p8) ?_
  rintro v w4 ⟨rfl,p9,h9⟩
  refine ⟨_,rfl,h9,?_,trivial⟩
  refine aB (qAV p9) ?_
  rintro v w5 ⟨y,rfl,hy,hz,q8,k4⟩
  refine ⟨y,rfl,h9.tr k4,?_,trivial⟩
  refine aB (lM hy hal) ?_
  rintro v w6 ⟨s,rfl,ho,hf,k5⟩
  have k6:Mod (λz=>z=rb) w3 w6:=((Mod.drew NoB w3).no (h9.tr k4)).no' k5
  exact ⟨s,rfl,(h9.tr k4).no' k5,⟨s,rfl,ho,λz hz=>Nat.le_trans ((Mod.drew NoB w3).no (h9.tr k4)).size (hf z hz)⟩,q8.no k5,k6⟩
 rintro v w3 ⟨⟨s,rfl,ho,hf⟩,hr,hm⟩
 exact ⟨s,rfl,⟨s,rfl,ho,hf.le hM2.size⟩,hr,hM2.no hm⟩
end
theorem oW {w:World} {f:FuncId} {args:Array Value} {Q Q':Value->zP} (h:Calls prog f args w (Ret Q)) (hq : ∀ v w',Q v w'->Q' v w'):Calls prog f args w (Ret Q'):=
 Calls.mono h λe w' he=>by cases e with | returned v=>exact hq v w' he | panicked c=>exact he | outgrown=>exact he
def Hd.on (h:Hd) (z:Nat):Prop:=h.d.blk=some z\/h.f.blk=some z\/h.g.blk=some z
def Dis (s t:Slc):Prop:=∀ z,s.blk=some z->t.blk≠some z
theorem Dis.symm {s t:Slc} (h:Dis s t):Dis t s:=λz h1 h2=>h z h2 h1
theorem eD {N:Nat} {s t:Slc} (h1 : ∀ z,s.blk=some z->z<N) (h2 : ∀ z,t.blk=some z->N<=z):Dis s t:=λz a b=>by have:=h1 z a; have:=h2 z b; omega
def pieces (hs:List Hd):List Slc:=hs.flatMap λh=>[h.d,h.f,h.g]
theorem qBL {s:Slc} {hs:List Hd} (h:s∈pieces hs) : ∃ x∈hs,s=x.d\/s=x.f\/s=x.g:=by
 obtain ⟨x,hx,e⟩:=List.mem_flatMap.1 h
 simp at e
 exact ⟨x,hx,e⟩
theorem iB {P:Nat->Prop} {hs:List Hd} (h : ∀ x∈hs,∀ z,x.on z->P z) : ∀ s∈pieces hs,∀ z,s.blk=some z->P z:=λs h9 z hz=>by
 obtain ⟨x,hx,e⟩:=qBL h9
 rcases e with rfl | rfl | rfl
 ·exact h x hx z (.inl hz)
 ·exact h x hx z (.inr (.inl hz))
 ·exact h x hx z (.inr (.inr hz))
theorem iO (a b:List Hd):pieces (a++b)=pieces a++pieces b:=by simp [pieces]
theorem qAD (h:Hd):pieces [h]=[h.d,h.f,h.g]:=by simp [pieces]
theorem qC {N:Nat} {hs:List Hd} {h:Hd} (h1:(pieces hs).Pairwise Dis) (h2:[h.d,h.f,h.g].Pairwise Dis) (h3 : ∀ x∈hs,∀ z,x.on z->z<N) (h4 : ∀ z,h.on z->N<=z):(pieces (hs++[h])).Pairwise Dis:=by
 rw [iO,qAD]
 refine List.pairwise_append.2 ⟨h1,h2,λa ha b hb=>eD (iB h3 a ha) λz hz=>?_⟩
 simp at hb
 rcases hb with rfl | rfl | rfl
 ·exact h4 z (.inl hz)
 ·exact h4 z (.inr (.inl hz))
 ·exact h4 z (.inr (.inr hz))
structure fN (w:World) (h:Hd):Prop where
 d:(∃ l,Sh.Own w h.d 2 (dts l))/\h.d.len<=1000000000
 f:(∃ vs,Sh.Own w h.f 1 vs)/\h.f.len<=1000000000
 g:(∃ vs,Sh.Own w h.g 1 vs)/\h.g.len<=1000000000
theorem fN.mod {w w':World} {h:Hd} {S:Nat->Prop} (a:fN w h) (hm:Mod S w w') (hS : ∀ z,h.on z->¬ S z):fN w' h:=
 ⟨⟨a.d.1.imp λ_ g=>g.mod hm λz hz=>hS z (.inl hz),a.d.2⟩,⟨a.f.1.imp λ_ g=>g.mod hm λz hz=>hS z (.inr (.inl hz)),a.f.2⟩,⟨a.g.1.imp λ_ g=>g.mod hm λz hz=>hS z (.inr (.inr hz)),a.g.2⟩⟩
theorem fN.no {w w':World} {h:Hd} (a:fN w h) (hm:Mod NoB w w'):fN w' h:=a.mod hm λ_ _ h=>h
def qTO (a b:Slc) (w:World) (R:RW):Prop:=
 aH prog (convert 38 9 (zS a)) w λv w1=>∃ x:zY,v=(.string ⟨x.toArray⟩)/\aH prog (convert 38 9 (zS b)) w1 λv1 w2=>∃ x1:zY,v1=(.string ⟨x1.toArray⟩)/\R (.returned (.bool (x==x1))) w2
theorem qPO (a b:Slc) {w:World} {R:RW} (h9:qTO a b w R):Calls prog 279 #[zS a,zS b] w R:=
 zC (q0 .z (q0 .z .z)) func279 [.sl a,.sl b] h9
section
variable {w:World}
theorem qKC {a b:Slc} {l m:zY} (ha:aK w a 1 (bys l)) (hb:aK w b 1 (bys m)):Calls prog 279 #[.slice a.a a.len a.cap,.slice b.a b.len b.cap] w (Ret λv w'=>v = .bool (l==m)/\w'=w):=by
 refine qPO _ _ ?_
 unfold qTO
 refine fG u26 qL uU8 ha ⟨l,rfl,?_⟩
 exact fG u26 qL uU8 hb ⟨m,rfl,rfl,rfl⟩
end
def hz0:List Value:=Hd.cells ⟨[],0,0,⟨none,0,0⟩,false,⟨none,0,0⟩,⟨none,0,0⟩⟩
structure GST (wB:World) (rb:Nat) (xb:Option Nat) (key rest:zY) (os:Option Slc) (oq:Option Nat) (w:World):Prop where
 rd:bM w rb xb rest
 m:Mod (λz=>z=rb) wB w
 s : ∀ s,os=some s->Sh.Own w s 1 (bys key)/\FB wB s
 q : ∀ q,oq=some q->Blk w q hz0 40/\wB.heap.size<=q
 lt:rb<wB.heap.size
section
variable {wB w:World} {rb:Nat} {xb:Option Nat} {key rest:zY} {os:Option Slc} {oq:Option Nat} {pan:List PanicEntry->zP}
theorem GST.next {rest':zY} {w':World} (h:GST wB rb xb key rest os oq w) (hr:bM w' rb xb rest') (hm:Mod (λz=>z=rb) w w'):GST wB rb xb key rest' os oq w':=
 ⟨hr,h.m.tr hm,λs hs=>⟨(h.s s hs).1.mod hm λz hz e=>by have:=(h.s s hs).2 z hz; have e:z=rb:=e; have:=h.lt; omega,(h.s s hs).2⟩,λq hq=>⟨(h.q q hq).1.mod hm (λe=>by have e:q=rb:=e; have:=(h.q q hq).2; have:=h.lt; omega),(h.q q hq).2⟩,h.lt⟩
theorem qNJ {K:Slc->zP} (h:GST wB rb xb key (eG key++rest) none oq w) (hk:key.length<=64) (hK : ∀ s w',GST wB rb xb key rest (some s) oq w'->K s w') :
 aD prog 275 [.pointer (some ⟨rb,0,none⟩),.int .i64 64] w pan λv w'=>∃ s:Slc,v = .slice s.a s.len s.cap/\K s w':=by
 refine aB (xD h.rd (by omega)) ?_
 rintro v w' ⟨⟨s,rfl,ho,hf⟩,hr,hm⟩
 have h':=h.next hr hm
 exact ⟨s,rfl,hK s w' ⟨h'.rd,h'.m,λt ht=>by cases ht; exact ⟨ho,λz hz=>Nat.le_trans h.m.size (hf z hz)⟩,h'.q,h'.lt⟩⟩
theorem jBA {s:Slc} {K:zY->zP} (h:GST wB rb xb key rest (some s) oq w) (hK:K key w):aH prog (convert 38 9 (.slice s.a s.len s.cap)) w λv w'=>∃ x:zY,v = .string ⟨x.toArray⟩/\K x w':=
 fG u26 qL uU8 (h.s s rfl).1.rd ⟨key,rfl,hK⟩
theorem qXR {n:Int} {K:Int->zP} (h:GST wB rb xb key (bI n++rest) os oq w) (hn:0<=n/\n<4611686018427387904) (hK : ∀ w',GST wB rb xb key rest os oq w'->K n w') :
 aD prog 276 [.pointer (some ⟨rb,0,none⟩)] w pan λv w'=>∃ x:Int,v = .int .i64 x/\K x w':=by
 refine aB (qBI h.rd hn) ?_
 rintro v w' ⟨rfl,hr,hm⟩
 exact ⟨n,rfl,hK w' (h.next hr hm)⟩
theorem qLV {K:zO->zP} (h:GST wB rb xb key rest os none w) (hK : ∀ q w',GST wB rb xb key rest os (some q) w'->K (some ⟨q,0,none⟩) w') :
 aH prog (Instr.alloc 40 true (.tuple #[])) w λv w'=>∃ r:zO,v = .pointer r/\K r w':=by
 obtain ⟨ir,hr1,hr2,h9,k3⟩:=iF
 refine aN (l:=hz0) hr1 hr2 rfl λq w' hN hb=>⟨_,rfl,hK q w' ?_⟩
 have h':=h.next (h.rd.no hN.mod) (hN.mod.mono λ_ _ h=>h.elim)
 exact ⟨h'.rd,h'.m,h'.s,λt ht=>by cases ht; exact ⟨hb,by have:=hN.at_; have:=h.m.size; omega⟩,h'.lt⟩
def GJ (wB:World) (rb:Nat) (xb:Option Nat) (hd:Hd) (rest:zY) (l:List TV) (w:World):Prop:=match l with
 | [.p r]=>∃ q,r=some ⟨q,0,none⟩/\Blk w q hd.cells 40/\bM w rb xb rest/\Mod (λz=>z=rb) wB w/\wB.heap.size<=q
 | _=>False
theorem jEN {hd:Hd} {q:Nat} {w':World} (h:GST wB rb xb key rest os (some q) w) (hx : ∀ z,xb=some z->z<wB.heap.size):aJ prog (storeVar 40 ⟨q,0,none⟩ hd.val) w λw'=>GJ wB rb xb hd rest [.p (some ⟨q,0,none⟩)] w':=
 cB (by kernel_rfl) (by kernel_rfl) (h.q q rfl).1 rfl λw' ht hb=>by
  have hq:=(h.q q rfl).2
  have hl:=h.lt
  exact ⟨q,rfl,hb,h.rd.mod ht.mod (by omega) (λz hz e=>by have:=hx z hz; have e:z=q:=e; omega),h.m.trans ht.mod (λ_ _ e=>e) (λz hz e=>by have e:z=q:=e; omega),hq⟩
end
section
variable {w:World}
def lN (r:Rc) (k:Nat):zY:=((r.ctx.drop k).flatMap λd=>bI d.1++bI d.2)++((if r.gone then 1 else 0) :: (eG r.val++[]))
theorem qBR {r:Rc} {k:Nat} (h:k<r.ctx.length):lN r k=bI r.ctx[k].1++(bI r.ctx[k].2++lN r (k+1)):=by
 simp only [lN]
 rw [List.drop_eq_getElem_cons h,List.flatMap_cons,List.append_assoc,List.append_assoc]
theorem qFQ (r:Rc):r.text=1 :: (eG r.key++(bI r.cl++(bI r.sq++(bI (r.ctx.length:Int)++lN r 0)))):=by
 simp [Rc.text,lN]
theorem xG {r:Rc} (h:r.right=true):r.shaped=true/\r.key.length<=64/\aU (r.cl,r.sq)=true/\bG r.ctx=true/\r.val.length<=1024/\r.sig.length=64:=by
 simp only [Rc.right,Bool.and_eq_true,decide_eq_true_eq] at h
 obtain ⟨hs,hg⟩:=h
 have h9:=hs
 simp only [Rc.shaped,Bool.and_eq_true,decide_eq_true_eq] at h9
 exact ⟨hs,h9.1.1.1.1.1.2,h9.1.1.1.1.2,h9.1.1.1.2,h9.1.2,hg⟩
theorem uA {a b:Int} (h:aU (a,b)=true):1<=a/\a<=8/\1<=b/\b<=1073741824:=by
 simp only [aU,Bool.and_eq_true,decide_eq_true_eq] at h
 exact ⟨h.1.1.1,h.1.1.2,h.1.2,h.2⟩
theorem jAN {b:Slc} {r:Rc} (hb:aK w b 1 (bys r.enc)) (hbl : ∀ z,b.blk=some z->z<w.heap.size) (hr:r.right=true) :
 Calls prog 210 #[.slice b.a b.len b.cap] w (Ret λv w'=>∃ h:Hd,v = .tuple #[h.val,.int .i64 0]/\bH w' h r/\uW w h/\(fN w' h/\[h.d,h.f,h.g].Pairwise Dis)/\Mod NoB w w'):=by
 refine qLS _ ?_
 unfold qYN
 obtain ⟨hsh,a8,i6,y2,hval,i7⟩:=xG hr
 obtain ⟨hc1,hc2,hs1,hs2⟩:=uA i6
 have gm:=qZK y2
 obtain ⟨ir,hr1,hr2,jb,jc⟩:=iF
 obtain ⟨id,ga,hd2,gb,gn⟩:=qI
 have jd:r.enc.length=r.text.length+64:=by rw [Rc.enc,List.length_append,i7]
 have htl:=rM (r:=r)
 have gp:=aV hb
 have hbc:=hb.2.1
 refine aN (l:=hz0) hr1 hr2 rfl λxx w1 hN1 hb1=>⟨_,rfl,?_⟩
 have en:zW ((b.len:Int) - 64)=((r.text.length:Nat):Int):=by rw [wrap_i64 (by omega)]; omega
 rw [en]
 have ent:((r.text.length:Nat):Int).toNat=r.text.length:=by omega
 simp only [ent]
 refine aC (λh=>by simp at h; omega) λ_=>?_
 refine ⟨⟨by omega,by omega⟩,?_⟩
 have hcut:=hb.cut (l:=0) (n:=r.text.length) (m:=b.cap) (by omega) (by omega) (by omega) (Nat.le_refl _)
 rw [fV] at hcut
 have e1:(r.enc.drop 0).take (r.text.length - 0)=r.text:=by simp [Rc.enc]
 rw [e1] at hcut
 refine aB (qJU (hcut.no hN1.mod) (by omega)) ?_
 rintro v w3 ⟨rb,xb,rfl,u3,gq,gr,i8⟩
 refine ⟨_,rfl,?_⟩
 have gf:=hN1.mod.tr i8
 rw [qFQ] at u3
 refine aB (qCS u3) ?_
 rintro v w4 ⟨rfl,t6,o0⟩
 refine ⟨_,rfl,?_⟩
 have e1:=hN1.mod.size
 have o1:Mod NoB w w4.drew:=(gf.fresh o0 λz e=>by have e:z=rb:=e; omega).tr (Mod.drew _ _)
 have y5 : ∀ z,xb=some z->z<w4.drew.heap.size:=λz hz=>(t6.xlt z hz).1
 have o2:rb<w4.drew.heap.size:=t6.lt
 have hG:GST w4.drew rb xb r.key (eG r.key++(bI r.cl++(bI r.sq++(bI (r.ctx.length:Int)++lN r 0)))) none none w4.drew:=⟨t6.no (Mod.drew _ _),Mod.refl _ _,λs hs=>(by cases hs),λq hq=>(by cases hq),o2⟩
 have t7:Blk w4.drew xx hz0 40:=((hb1.no i8).mod o0 (by have:=hb1.lt; omega)).drew
 have hN1a:=hN1.at_
 refine ⟨GJ w4.drew rb xb ⟨r.key,r.cl,r.sq,⟨none,0,0⟩,false,⟨none,0,0⟩,⟨none,0,0⟩⟩ (bI (r.ctx.length:Int)++lN r 0),?_,?_⟩
 ·clear hb hcut u3 i8 gf t6 o0
  repeat' (first
   | (refine qNJ (by assumption) a8 λs w' hG=>?_)
   | (refine jBA (by assumption) ?_)
   | (refine qXR (n:=r.cl) (by assumption) (by omega) λw' hG=>?_)
   | (refine qXR (n:=r.sq) (by assumption) (by omega) λw' hG=>?_)
   | (refine qLV (by assumption) λq w' hG=>?_)
   | (refine jEN (hd:=⟨r.key,r.cl,r.sq,⟨none,0,0⟩,false,⟨none,0,0⟩,⟨none,0,0⟩⟩) (w':=w) (by assumption) y5)
   | (refine And.intro ?_ trivial)
   | (refine And.intro ?_ ?_))
 rintro je w5 ⟨q,rfl,gu,o3,gv,jf⟩
 refine aB (qKH o3 (by omega) (by omega)) ?_
 rintro v w6 ⟨rfl,o4,gg⟩
 refine ⟨_,rfl,?_⟩
 have k5:q≠rb:=by omega
 have o5:=gv.tr gg
 refine ⟨λl w'=>match l with | [.i _ x]=>∃ (k:Nat) (cs:Slc),x=(k:Int)/\k<=r.ctx.length/\Blk w' q (Hd.cells ⟨r.key,r.cl,r.sq,cs,false,⟨none,0,0⟩,⟨none,0,0⟩⟩) 40/\Sh.Own w' cs 2 (dts (r.ctx.take k))/\(∀ z,cs.blk=some z->w4.drew.heap.size<=z/\z≠q)/\bM w' rb xb (lN r k)/\Mod (λz=>z=rb) w4.drew w' | _=>False,λl _=>match l with | [.i _ x]=>(r.ctx.length - x).toNat | _=>0,⟨0,⟨none,0,0⟩,rfl,by omega,gu.mod gg k5,bK _ _,λz hz=>by simp at hz,o4,o5⟩,?_⟩
 rintro x w7 ⟨k,cs,rfl,hk,o6,u0,hcz,u1,o7⟩
 refine aC (λhlt=>?_) λhge=>?_
 ·have hlt:k<r.ctx.length:=by have:=of_decide_eq_true hlt; omega
  have hdk:1<=r.ctx[k].1/\r.ctx[k].1<=8/\1<=r.ctx[k].2/\r.ctx[k].2<=1073741824:=uA (((bX.1 y2) k hlt).1)
  have gh : ∀ {w':World},Mod (λz=>z=rb) w7.drew w'->Blk w' q (Hd.cells ⟨r.key,r.cl,r.sq,cs,false,⟨none,0,0⟩,⟨none,0,0⟩⟩) 40:=λhm=>o6.drew.mod hm k5
  refine ⟨λw'=>Mod (λz=>z=rb) w7.drew w',Mod.refl _ _,cs,λw' hm=>bT (i:=3) (gh hm) rfl,?_,trivial⟩
  rw [qBR hlt] at u1
  refine aB (qBI (u1.no (Mod.drew _ _)) (by omega)) ?_
  rintro v w8 ⟨rfl,u4,v8⟩
  refine ⟨_,rfl,v8,?_,trivial⟩
  refine aB (qBI u4 (by omega)) ?_
  rintro v w9 ⟨rfl,u5,gw⟩
  have u6:=v8.tr gw
  refine ⟨_,rfl,u6,?_,trivial⟩
  refine bZ [.agg #[.int .i64 r.ctx[k].1,.int .i64 r.ctx[k].2]] (l:=dts [r.ctx[k]]) kU ga hd2 gb (by omega) rfl (by omega) (by omega) rfl (by intro v hv; simp at hv; subst hv; rfl) rfl λlb u7 u9 o8=>⟨⟨_,_,_⟩,rfl,u6.no' u9.mod,?_,trivial⟩
  have k6:=u6.no' u9.mod
  have o9:aK u7 ⟨some ⟨lb,0,none⟩,1,1⟩ 2 (dts [r.ctx[k]]):=(aY (n:=1) (k:=2) o8 (by simp)).rd
  have y7:Sh.Own u7 cs 2 (dts (r.ctx.take k)):=(u0.no (Mod.drew _ _)).mod k6 λz hz e=>by have:=hcz z hz; have e:z=rb:=e; omega
  have hcl:=dW u0.rd
  rw [List.length_take] at hcl
  refine aS kU ga hd2 gb rfl gn y7 o9 (qS _) (by simp only []; omega) (by simp only []; omega) λcs' y8 r0 hlen hblk k3=>⟨cs',rfl,?_,trivial⟩
  have y9:=k6.size
  have hs7:=o7.size
  have jg:w7.drew.heap.size=w7.heap.size:=rfl
  have hq7l:=o6.lt
  have hq11:Blk y8 q (Hd.cells ⟨r.key,r.cl,r.sq,cs,false,⟨none,0,0⟩,⟨none,0,0⟩⟩) 40:=(gh k6).mod k3 λe=>(hcz q e).2 rfl
  have z1 : ∀ z,cs'.blk=some z->w4.drew.heap.size<=z/\z≠q:=λz hz=>by
   rcases hblk with e | e
   ·exact hcz z (by rw [<-e]; exact hz)
   ·rw [e] at hz; cases hz; omega
  refine dH (i:=3) (by kernel_rfl) (by kernel_rfl) rfl hq11 (by rw [Hd.len]; omega) λz6 p9 hq12=>?_
  have z7:Blk z6 q (Hd.cells ⟨r.key,r.cl,r.sq,cs',false,⟨none,0,0⟩,⟨none,0,0⟩⟩) 40:=hq12
  rw [wrap_i64 (e:=(k:Int)+1) (by omega)]
  have z8:bM z6 rb xb (lN r (k+1)):=((u5.no u9.mod).mod k3 (λe=>by have:=(hcz rb e).1; omega) λz hz e=>by have:=(hcz z e).1; have:=y5 z hz; omega).mod p9.mod (λe=>k5 e.symm) λz hz e=>by have:=y5 z hz; have e:z=q:=e; omega
  have r7:Mod (λz=>z=rb) w4.drew z6:=(((o7.tr (Mod.drew _ _)).tr k6).trans k3 (λ_ _ e=>e) λz hz e=>by have:=(hcz z e).1; omega).trans p9.mod (λ_ _ e=>e) λz hz e=>by have e:z=q:=e; omega
  have r8:Sh.Own z6 cs' 2 (dts (r.ctx.take (k+1))):=by
   have:=r0.mod p9.mod λz hz e=>(z1 z hz).2 e
   rw [aL hlt,qNO]; exact this
  exact ⟨⟨k+1,cs',by omega,by omega,z7,r8,z1,z8,r7⟩,by (try simp only []); omega⟩
 ·have hkk:k=r.ctx.length:=by have:=of_decide_eq_false hge; omega
  subst hkk
  rw [List.take_length] at u0
  have hrl:lN r r.ctx.length=(if r.gone then 1 else 0) :: (eG r.val++[]):=by simp [lN]
  rw [hrl] at u1
  refine aB (qCS u1) ?_
  rintro v w8 ⟨rfl,u4,v8⟩
  refine ⟨_,rfl,?_⟩
  refine dH (i:=4) (by kernel_rfl) (by kernel_rfl) rfl (o6.mod v8 k5) (by rw [Hd.len]; omega) λw9 r9 gj=>?_
  have eg:((if r.gone then (1:UInt8) else 0) != 0)=r.gone:=by cases r.gone <;> rfl
  rw [eg] at gj
  have j2:Blk w9 q (Hd.cells ⟨r.key,r.cl,r.sq,cs,r.gone,⟨none,0,0⟩,⟨none,0,0⟩⟩) 40:=gj
  have u5:bM w9 rb xb (eG r.val++[]):=u4.mod r9.mod (λe=>k5 e.symm) λz hz e=>by have:=y5 z hz; have e:z=q:=e; omega
  have v1:Mod (λz=>z=rb) w4.drew w9:=(o7.tr v8).trans r9.mod (λ_ _ e=>e) λz hz e=>by have e:z=q:=e; omega
  have q8:Sh.Own w9 cs 2 (dts r.ctx):=(u0.mod v8 λz hz e=>by have:=(hcz z hz).1; have e:z=rb:=e; omega).mod r9.mod λz hz e=>(hcz z hz).2 e
  refine ⟨⟨by omega,by omega⟩,?_,trivial⟩
  refine aB (xD (u5.no (Mod.drew _ _)) (by omega)) ?_
  rintro v u7 ⟨⟨vs,rfl,hov,gx⟩,j3,v6⟩
  refine ⟨vs,rfl,?_,trivial⟩
  have j4:Mod (λz=>z=rb) w4.drew u7:=(v1.tr (Mod.drew _ _)).tr v6
  have j5:Mod NoB w u7:=o1.fresh j4 λz e=>by have e:z=rb:=e; omega
  have q9:=hb.cut (l:=r.text.length) (n:=b.len) (m:=b.cap) (by omega) (by omega) (by omega) (Nat.le_refl _)
  rw [fV] at q9
  have e2:(r.enc.drop r.text.length).take (b.len - r.text.length)=r.sig:=by
   rw [Rc.enc,List.drop_left]; exact List.take_of_length_le (by omega)
  rw [e2] at q9
  refine aB (lM (q9.no j5) (by omega)) ?_
  rintro v y8 ⟨gs,rfl,a7,gk,k3⟩
  refine ⟨gs,rfl,?_,trivial⟩
  have k4:Mod (λz=>z=rb) w9.drew y8:=v6.no' k3
  have jh:w4.drew.heap.size<=w9.heap.size:=v1.size
  have y9:w9.heap.size<=u7.heap.size:=v6.size
  have hq9l:=j2.lt
  have y0 : ∀ z,vs.blk=some z->w9.heap.size<=z:=λz hz=>gx z hz
  have y1 : ∀ z,gs.blk=some z->w9.heap.size<=z:=λz hz=>Nat.le_trans y9 (gk z hz)
  refine dH (i:=5) (by kernel_rfl) (by kernel_rfl) rfl (j2.drew.mod k4 k5) (by rw [Hd.len]; omega) λz6 p9 hq12=>⟨?_,trivial⟩
  refine dH (i:=6) (by kernel_rfl) (by kernel_rfl) rfl hq12 (by rw [List.length_set,Hd.len]; omega) λj6 s4 s5=>?_
  have u2:Blk j6 q (Hd.cells ⟨r.key,r.cl,r.sq,cs,r.gone,vs,gs⟩) 40:=s5
  refine ⟨r.key,r.cl,r.sq,cs,r.gone,vs,gs,rdH u2,?_⟩
  have h9:Mod (λz=>z=q) y8 j6:=p9.mod.tr s4.mod
  have H:bH j6 ⟨r.key,r.cl,r.sq,cs,r.gone,vs,gs⟩ r:=by
   refine ⟨rfl,rfl,rfl,rfl,?_,?_,?_,⟨by omega,by omega,by omega,by omega⟩,?_⟩
   ·exact (((q8.no (Mod.drew _ _)).mod k4 λz hz e=>by have:=(hcz z hz).1; have e:z=rb:=e; omega).mod h9 λz hz e=>(hcz z hz).2 e).rd
   ·exact ((hov.no k3).mod h9 λz hz e=>by have:=y0 z hz; have e:z=q:=e; omega).rd
   ·exact (a7.mod h9 λz hz e=>by have:=y1 z hz; have e:z=q:=e; omega).rd
   ·rintro z (hz | hz | hz)
    ·exact Nat.lt_of_lt_of_le (q8.lt hz) (Nat.le_trans (show w9.heap.size<=y8.heap.size from k4.size) h9.size)
    ·exact Nat.lt_of_lt_of_le (hov.lt hz) (Nat.le_trans k3.size h9.size)
    ·exact Nat.lt_of_lt_of_le (a7.lt hz) h9.size
  have HO:fN j6 ⟨r.key,r.cl,r.sq,cs,r.gone,vs,gs⟩:=by
   refine ⟨⟨⟨_,((q8.no (Mod.drew _ _)).mod k4 λz hz e=>by have:=(hcz z hz).1; have e:z=rb:=e; omega).mod h9 λz hz e=>(hcz z hz).2 e⟩,?_⟩,⟨⟨_,(hov.no k3).mod h9 λz hz e=>by have:=y0 z hz; have e:z=q:=e; omega⟩,?_⟩,⟨_,a7.mod h9 λz hz e=>by have:=y1 z hz; have e:z=q:=e; omega⟩,?_⟩
   ·have:=dW q8.rd; show cs.len<=_; omega
   ·have:=aV hov.rd; show vs.len<=_; omega
   ·have:=aV a7.rd; show gs.len<=_; omega
  have HP:[cs,vs,gs].Pairwise Dis:=by
   have lc : ∀ z,cs.blk=some z->z<w9.heap.size:=λz hz=>q8.lt hz
   have lv : ∀ z,vs.blk=some z->z<u7.heap.size:=λz hz=>hov.lt hz
   have a1:Dis cs vs:=eD lc y0
   have a2:Dis cs gs:=eD lc y1
   have a3:Dis vs gs:=eD lv gk
   simp [a1,a2,a3]
  refine aB (qWO (h:=⟨r.key,r.cl,r.sq,cs,r.gone,vs,gs⟩) H) ?_
  rintro v s6 ⟨p8,hv⟩
  rw [hr] at hv
  obtain ⟨ps,rfl,gy,jj⟩:=hv
  refine ⟨ps,0,rfl,?_⟩
  have b5:bM s6 rb xb []:=((j3.no k3).mod h9 (λe=>k5 e.symm) λz hz e=>by have:=y5 z hz; have e:z=q:=e; omega).no p8
  have s7:Mod NoB w j6:=(j5.tr k3).fresh h9 λz e=>by have e:z=q:=e; have:=o1.size; omega
  have b6:=s7.tr p8
  have a6:Blk s6 xx hz0 40:=by
   have hN1s:=hN1.size
   have a1:=t7.mod v1 (by omega)
   have a2:=a1.drew.mod k4 (by omega)
   have hxl:xx<w4.drew.heap.size:=t7.lt
   exact (a2.mod h9 (by omega)).no p8
  refine ⟨λl w'=>match l with | [.b t]=>t=false/\w'=s6 | _=>False,?_,?_⟩
  ·refine aB (jBR b5) ?_
   rintro v gz ⟨rfl,hw⟩
   rw [hw]
   refine ⟨_,rfl,aC (λh=>by simp at h) λ_=>aC (λh=>by simp at h) λ_=>?_⟩
   refine aB (qKC gy.rd (hb.no b6)) ?_
   rintro v ja ⟨rfl,hw⟩
   exact ⟨_,rfl,by simp,hw⟩
  rintro t gz ⟨rfl,rfl⟩
  refine aC (λh=>by cases h) λ_=>?_
  have s8:=u2.no p8
  refine ⟨r.key,r.cl,r.sq,cs,r.gone,vs,gs,rdH s8,?_⟩
  refine cB (h:=⟨r.key,r.cl,r.sq,cs,r.gone,vs,gs⟩) (by kernel_rfl) (by kernel_rfl) a6 rfl λja v7 s9=>?_
  refine ⟨r.key,r.cl,r.sq,cs,r.gone,vs,gs,rdH s9,⟨r.key,r.cl,r.sq,cs,r.gone,vs,gs⟩,rfl,(H.no p8).mod v7.mod λz hz e=>?_,λz hz=>?_,⟨(HO.no p8).mod v7.mod λz hz e=>?_,HP⟩,b6.fresh v7.mod λz e=>by have e:z=xx:=e; omega⟩
  ·have e:z=xx:=e
   have hxl:xx<w4.drew.heap.size:=t7.lt
   rcases hz with hz | hz | hz
   ·have:=(hcz z hz).1; omega
   ·have:=y0 z hz; omega
   ·have:=y1 z hz; omega
  ·have:=o1.size
   rcases hz with hz | hz | hz
   ·have:=(hcz z hz).1; omega
   ·have:=y0 z hz; omega
   ·have:=y1 z hz; omega
  ·have e:z=xx:=e
   have hxl:xx<w4.drew.heap.size:=t7.lt
   rcases hz with hz | hz | hz
   ·have:=(hcz z hz).1; omega
   ·have:=y0 z hz; omega
   ·have:=y1 z hz; omega
end
def jFP (sets:Slc) (w:World) (R:RW):Prop:=
 aH prog (Instr.box 33 (zS sets)) w λv w1=>∃ sets1:zO,v=(.pointer sets1)/\aD prog 119 [.func (.func 120) #[] #[.pointer sets1]] w1 (aG R) λv1 w2=>∃ xa:Slc,∃ xb:Int,v1=(.tuple #[zS xa,.int .i64 xb])/\R (.returned (.tuple #[zS xa,.int .i64 xb])) w2
theorem jBV (sets:Slc) {w:World} {R:RW} (h9:jFP sets w R):Calls prog 63 #[zS sets] w R:=
 zC (q0 .z (q0 .z .z)) func63 [.sl sets] h9
def qYJ (what:Value) (w:World) (R:RW):Prop:=
 aH prog (Instr.alloc 22 true (.tuple #[])) w λv w1=>∃ x:zO,v=(.pointer x)/\aH prog (Instr.alloc 47 true (.tuple #[])) w1 λv1 w2=>∃ e:zO,v1=(.pointer e)/\dY prog what [] w2 (λc2 w5=>(eF prog 199 #[.pointer e,.pointer x] (.panicking c2) w5 λu1 w6=>fS u1 (aA x λa2=>∃ x2:Slc,Rd w6 a2 [zS x2]/\aA e λa3=>∃ e2:Int,Rd w6 a3 [.int .i64 e2]/\R (.returned (.tuple #[zS x2,.int .i64 e2])) w6) (λc3=>R (.panicked c3) w6))) λv2 w7=>∃ x3:Slc,v2=(zS x3)/\aA x λa6=>aJ prog (storeVar 22 a6 (zS x3)) w7 λw10=>aA e λa9=>aJ prog (storeVar 47 a9 (.int .i64 0)) w10 λw13=>(eF prog 199 #[.pointer e,.pointer x] .returning w13 λu4 w14=>fS u4 (aA x λa10=>∃ x6:Slc,Rd w14 a10 [zS x6]/\aA e λa11=>∃ e5:Int,Rd w14 a11 [.int .i64 e5]/\R (.returned (.tuple #[zS x6,.int .i64 e5])) w14) (λc8=>R (.panicked c8) w14))
theorem qRD (what:Value) {w:World} {R:RW} (h9:qYJ what w R):Calls prog 119 #[what] w R:=
 zC (q0 .z (q0 .z (q0 .z .z))) func119 [.v what] h9
def qSV (c:zO) (w:World) (R:RW):Prop:=
 aH prog (Instr.box 179 (.agg #[.slice none 0 0])) w λv w1=>∃ x:zO,v=(.pointer x)/\aA c λa=>∃ x1:Slc,Rd w1 a [zS x1]/\∃ (inv:zT) (mu:zU),inv [.i .i64 0] w1/\(∀ x2:Int,∀ w2:World,inv [.i .i64 x2] w2->aE (decide (x2<x1.len)) ((zB x2 x1.len/\aA x1.a λa1=>∃ x3:Slc,Rd w2 (a1.add (x2.toNat*1)) [zS x3]/\aA x λa2=>aD prog 121 [.pointer (some (a2.add 0)),zS x3] w2 (aG R) λv1 w3=>v1=(.tuple #[])/\(inv [.i .i64 (zW (x2+1))] w3/\mu [.i .i64 (zW (x2+1))] w3<mu [.i .i64 x2] w2))) (aD prog 122 [.pointer x] w2 (aG R) λv2 w4=>v2=(.tuple #[])/\aA x λa3=>aD prog 123 [.pointer (some (a3.add 0))] w4 (aG R) λv3 w5=>∃ x4:Slc,v3=(zS x4)/\R (.returned (zS x4)) w5))
theorem qMS (c:zO) {w:World} {R:RW} (h9:qSV c w R):Calls prog 120 #[.pointer c] w R:=
 zC (q0 .z (q0 .z (q0 (q0 .z (.block none (.loop [(9,(.i .i64))] (q0 .z (q0 (.cond .z .z) (q0 (.block none (q0 .z .z)) .z)))))) (q0 .z (q0 .z .z))))) func120 [.p c] h9
def qUM (r:zO) (l:Slc) (w:World) (R:RW):Prop:=
 ∃ (inv:zT) (mu:zU),inv [.i .i64 0] w/\(∀ x:Int,∀ w1:World,inv [.i .i64 x] w1->aE (decide (x<l.len)) ((zB x l.len/\aA l.a λa=>∃ xa:zY,∃ xb xc:Int,∃ xd:Slc,∃ xe:Bool,∃ xf xg:Slc,Rd w1 (a.add (x.toNat*7)) (yR xa xb xc xd xe xf xg)/\aH prog (Instr.alloc 40 true (.tuple #[])) w1 λv w2=>∃ x1:zO,v=(.pointer x1)/\aA x1 λa1=>aJ prog (storeVar 40 a1 (zR xa xb xc xd xe xf xg)) w2 λw3=>aA x1 λa2=>∃ xa1:zY,∃ xb1 xc1:Int,∃ xd1:Slc,∃ xe1:Bool,∃ xf1 xg1:Slc,Rd w3 a2 (yR xa1 xb1 xc1 xd1 xe1 xf1 xg1)/\aD prog 200 [zR xa1 xb1 xc1 xd1 xe1 xf1 xg1] w3 (aG R) λv1 w4=>∃ xa2:Slc,∃ xb2:Int,v1=(.tuple #[zS xa2,.int .i64 xb2])/\∃ j:zT,(∃ sx:zP,sx w4.drew/\aE (xb2==(0:Int)) (aA r λa3=>∃ x2:Slc,(∀ w',sx w'->Rd w' (a3.add 0) [zS x2])/\aE ((x2.len:Int)==(0:Int)) (((aD prog 201 [.bool true] w4.drew (aG R) λv2 w5=>v2=(.tuple #[])/\(sx w5/\j [] w5))/\True)) (aA r λa4=>aA x1 λa5=>∃ x3:Slc,(∀ w',sx w'->Rd w' (a4.add 0) [zS x3])/\((0<=(0:Int)/\(0:Int)<(x3.len:Nat))/\aA x3.a λa6=>∃ x4:zY,(∀ w',sx w'->Rd w' (((a6.add (((0:Int)).toNat*8)).add 0).add 0) [.string ⟨x4.toArray⟩])/\∃ x5:zY,(∀ w',sx w'->Rd w' (a5.add 0) [.string ⟨x5.toArray⟩])/\((aD prog 201 [.bool (x4==x5)] w4.drew (aG R) λv3 w6=>v3=(.tuple #[])/\(sx w6/\j [] w6))/\True)))) (((aD prog 201 [.bool false] w4.drew (aG R) λv4 w7=>v4=(.tuple #[])/\(sx w7/\j [] w7))/\True)))/\(∀ w8:World,j [] w8->∃ sx1:zP,sx1 w8.drew/\aA r λa7=>∃ x6:Slc,(∀ w',sx1 w'->Rd w' (a7.add 0) [zS x6])/\aA x1 λa8=>∃ xa3:zY,∃ xb3 xc2:Int,∃ xd2:Slc,∃ xe2:Bool,∃ xf2 xg2:Slc,(∀ w',sx1 w'->Rd w' a8 (yR xa3 xb3 xc2 xd2 xe2 xf2 xg2))/\((aH prog (Instr.buildSlice 175 1 #[(0,(.agg #[.string ⟨xa3.toArray⟩,.int .i64 xb3,.int .i64 xc2,zS xd2,.bool xe2,zS xf2,zS xg2,zS xa2]))]) w8.drew λv5 w9=>∃ x7:Slc,v5=(zS x7)/\(sx1 w9/\((aH prog (Builtin.append_ #[175,175] 175 #[zS x6,zS x7]) w9 λv6 w10=>∃ x8:Slc,v6=(zS x8)/\(sx1 w10/\aA r λa9=>((aJ prog (storeVar 175 (a9.add 0) (zS x8)) w10 λw11=>(inv [.i .i64 (zW (x+1))] w11/\mu [.i .i64 (zW (x+1))] w11<mu [.i .i64 x] w1))/\True)))/\True)))/\True)))) (R (.returned (.tuple #[])) w1))
theorem qSD (r:zO) (l:Slc) {w:World} {R:RW} (h9:qUM r l w R):Calls prog 121 #[.pointer r,zS l] w R:=
 zC (q0 .z (.block none (.loop [(10,(.i .i64))] (q0 .z (q0 (.cond .z .z) (q0 (.block none (q0 .z (q0 .z (.seq (some []) (.draw 1 (.take 0 (.take 1 (.take 2 (.take 3 (.take 4 (.take 5 (.take 6 (.take 7 (.take 8 (.take 9 (.take 10 (.take 11 (.take 12 (.take 18 (.take 13 (.take 14 (.take 15 (.take 16 (.take 17 (.take 19 (.take 20 (.take 21 (.take 22 (.all [(23,.done)]))))))))))))))))))))))))) (.draw 1 (.take 0 (.take 1 (.take 2 (.take 3 (.take 6 (.take 4 (.take 5 (.take 7 (.all [(8,(.all [(9,(.take 10 (.take 11 (.all [(12,.done)]))))]))])))))))))))))) .z)))))) func121 [.p r,.sl l] h9
def qHH (u:zO) (w:World) (R:RW):Prop:=
 aA u λa=>∃ x:Slc,Rd w ((a.add 0).add 0) [zS x]/\aD prog 202 [zS x,.func (.func 203) #[] #[]] w (aG R) λv w1=>v=(.tuple #[])/\aA u λa1=>∃ x1:Slc,Rd w1 ((a1.add 0).add 0) [zS x1]/\aD prog 207 [zS x1,.func (.func 208) #[] #[]] w1 (aG R) λv1 w2=>∃ x2:Slc,v1=(zS x2)/\aA u λa2=>aJ prog (storeVar 175 ((a2.add 0).add 0) (zS x2)) w2 λw3=>aA u λa3=>∃ x3:Slc,Rd w3 ((a3.add 0).add 0) [zS x3]/\∃ (inv:zT) (mu:zU),inv [.sl ⟨none,0,0⟩,.i .i64 0] w3/\(∀ out:Slc,∀ x4:Int,∀ w4:World,inv [.sl out,.i .i64 x4] w4->aE (decide (x4<x3.len)) ((zB x4 x3.len/\aA x3.a λa4=>∃ xaa:zY,∃ xab xac:Int,∃ xad:Slc,∃ xae:Bool,∃ xaf xag xb:Slc,Rd w4 (a4.add (x4.toNat*8)) [.string ⟨xaa.toArray⟩,.int .i64 xab,.int .i64 xac,zS xad,.bool xae,zS xaf,zS xag,zS xb]/\aH prog (Instr.alloc 302 true (.tuple #[])) w4 λv2 w5=>∃ x5:zO,v2=(.pointer x5)/\aA x5 λa5=>aJ prog (storeVar 302 a5 (.agg #[.string ⟨xaa.toArray⟩,.int .i64 xab,.int .i64 xac,zS xad,.bool xae,zS xaf,zS xag,zS xb])) w5 λw6=>∃ sx:zP,sx w6.drew/\aA u λa6=>aA x5 λa7=>∃ xaa1:zY,∃ xab1 xac1:Int,∃ xad1:Slc,∃ xae1:Bool,∃ xaf1 xag1 xb1:Slc,(∀ w',sx w'->Rd w' a7 [.string ⟨xaa1.toArray⟩,.int .i64 xab1,.int .i64 xac1,zS xad1,.bool xae1,zS xaf1,zS xag1,zS xb1])/\((aD prog 209 [.pointer (some (a6.add 0)),.agg #[.string ⟨xaa1.toArray⟩,.int .i64 xab1,.int .i64 xac1,zS xad1,.bool xae1,zS xaf1,zS xag1,zS xb1]] w6.drew (aG R) λv3 w7=>∃ x6:Bool,v3=(.bool x6)/\aE (!x6) (aA x5 λa8=>∃ xaa2:zY,∃ xab2 xac2:Int,∃ xad2:Slc,∃ xae2:Bool,∃ xaf2 xag2 xb2:Slc,Rd w7 a8 [.string ⟨xaa2.toArray⟩,.int .i64 xab2,.int .i64 xac2,zS xad2,.bool xae2,zS xaf2,zS xag2,zS xb2]/\aH prog (Instr.buildSlice 175 1 #[(0,(.agg #[.string ⟨xaa2.toArray⟩,.int .i64 xab2,.int .i64 xac2,zS xad2,.bool xae2,zS xaf2,zS xag2,zS xb2]))]) w7 λv4 w8=>∃ x7:Slc,v4=(zS x7)/\aH prog (Builtin.append_ #[175,175] 175 #[zS out,zS x7]) w8 λv5 w9=>∃ x8:Slc,v5=(zS x8)/\(inv [.sl x8,.i .i64 (zW (x4+1))] w9/\mu [.sl x8,.i .i64 (zW (x4+1))] w9<mu [.sl out,.i .i64 x4] w4)) ((inv [.sl out,.i .i64 (zW (x4+1))] w7/\mu [.sl out,.i .i64 (zW (x4+1))] w7<mu [.sl out,.i .i64 x4] w4)))/\True))) (aA u λa9=>aJ prog (storeVar 175 ((a9.add 0).add 0) (zS out)) w4 λw10=>R (.returned (.tuple #[])) w10))
theorem qCL (u:zO) {w:World} {R:RW} (h9:qHH u w R):Calls prog 122 #[.pointer u] w R:=
 zC (q0 .z (q0 .z (q0 .z (q0 (q0 .z (.block none (.loop [(2,.sl),(27,(.i .i64))] (q0 .z (q0 (.cond .z .z) (q0 (.block none (q0 .z (q0 (.draw 1 (.take 0 (.take 1 (.take 2 (.take 3 (.all [(4,(.take 5 .done))])))))) (.cond .z .z)))) .z)))))) .z)))) func122 [.p u] h9
def qUO (r:zO) (w:World) (R:RW):Prop:=
 aA r λa=>∃ x:Slc,Rd w (a.add 0) [zS x]/\∃ (inv:zT) (mu:zU),inv [.sl ⟨none,0,0⟩,.i .i64 0] w/\(∀ out:Slc,∀ x1:Int,∀ w1:World,inv [.sl out,.i .i64 x1] w1->aE (decide (x1<x.len)) ((zB x1 x.len/\aA x.a λa1=>∃ xaa:zY,∃ xab xac:Int,∃ xad:Slc,∃ xae:Bool,∃ xaf xag xb:Slc,Rd w1 (a1.add (x1.toNat*8)) [.string ⟨xaa.toArray⟩,.int .i64 xab,.int .i64 xac,zS xad,.bool xae,zS xaf,zS xag,zS xb]/\aH prog (Instr.alloc 302 true (.tuple #[])) w1 λv w2=>∃ x2:zO,v=(.pointer x2)/\aA x2 λa2=>aJ prog (storeVar 302 a2 (.agg #[.string ⟨xaa.toArray⟩,.int .i64 xab,.int .i64 xac,zS xad,.bool xae,zS xaf,zS xag,zS xb])) w2 λw3=>aA x2 λa3=>∃ x3:Slc,Rd w3 (a3.add 7) [zS x3]/\aD prog 210 [zS x3] w3 (aG R) λv1 w4=>∃ xaa1:zY,∃ xab1 xac1:Int,∃ xad1:Slc,∃ xae1:Bool,∃ xaf1 xag1:Slc,∃ xb1:Int,v1=(.tuple #[zR xaa1 xab1 xac1 xad1 xae1 xaf1 xag1,.int .i64 xb1])/\aH prog (Instr.alloc 40 true (.tuple #[])) w4 λv2 w5=>∃ y:zO,v2=(.pointer y)/\aA y λa4=>aJ prog (storeVar 40 a4 (zR xaa1 xab1 xac1 xad1 xae1 xaf1 xag1)) w5 λw6=>aD prog 201 [.bool (xb1==(0:Int))] w6 (aG R) λv3 w7=>v3=(.tuple #[])/\aA y λa5=>∃ xa:zY,∃ xb2 xc:Int,∃ xd:Slc,∃ xe:Bool,∃ xf xg:Slc,Rd w7 a5 (yR xa xb2 xc xd xe xf xg)/\aH prog (Instr.buildSlice 22 1 #[(0,(zR xa xb2 xc xd xe xf xg))]) w7 λv4 w8=>∃ x4:Slc,v4=(zS x4)/\aH prog (Builtin.append_ #[22,22] 22 #[zS out,zS x4]) w8 λv5 w9=>∃ x5:Slc,v5=(zS x5)/\(inv [.sl x5,.i .i64 (zW (x1+1))] w9/\mu [.sl x5,.i .i64 (zW (x1+1))] w9<mu [.sl out,.i .i64 x1] w1))) (R (.returned (zS out)) w1))
theorem qMZ (r:zO) {w:World} {R:RW} (h9:qUO r w R):Calls prog 123 #[.pointer r] w R:=
 zC (q0 .z (q0 .z (q0 (q0 .z (.block none (.loop [(3,.sl),(13,(.i .i64))] (q0 .z (q0 (.cond .z .z) (q0 (.block none (q0 .z (q0 .z (q0 .z .z)))) .z)))))) (q0 .z .z)))) func123 [.p r] h9
def qJP (c c1:zO) (u:FrameMode) (w:World) (R:Ending->FrameMode->zP):Prop:=
 qEJ u λv u1=>bB prog (do eqGuard .neq 20 (.tmp 6) (.const .nilIface) v .nilIface; binOp .neq 20 v .nilIface) λv1=>∃ x:Bool,v1=(.bool x)/\aE x (aH prog (Instr.typeAssert v 20 47 true) w λv2 w1=>∃ xa:Int,∃ xb:Bool,v2=(.tuple #[.int .i64 xa,.bool xb])/\aA c λa=>aJ prog (storeVar 47 a (.int .i64 xa)) w1 λw2=>aE (!xb) (zV v λz=>(λc w=>R (.panicked c) u1 w) [{v:=z,recovered:=false}] w2) (aA c1 λa1=>aJ prog (storeVar 22 a1 (.slice none 0 0)) w2 λw3=>R (.returned (.tuple #[])) u1 w3)) (R (.returned (.tuple #[])) u1 w)
theorem qHS (c c1:zO) (u:FrameMode) (w:World) (R:Ending->FrameMode->zP):qJP c c1 u w R=gQ prog (Func.ntmps f199) (jZ f199) (zI prog f199 R) u (gK 0 [.p c,.p c1]) w:=by kernel_rfl
theorem qLB (c c1:zO) {u:FrameMode} {w:World} {R:Ending->FrameMode->zP} (h9:qJP c c1 u w R):CallsDIn Fence.wide 0 prog 199 #[.pointer c,.pointer c1] u w R:=
 gU func199 (gG (by kernel_rfl)) [.p c,.p c1] (Nat.le_of_ble_eq_true (by kernel_rfl)) ((qHS c c1 u w R) ▸ h9)
def qUY (is:Bool) (w:World) (R:RW):Prop:=
 aE (!is) ((aG R) [{v:=(.iface 47 (.int .i64 4)),recovered:=false}] w) (R (.returned (.tuple #[])) w)
theorem qSK (is:Bool) {w:World} {R:RW} (h9:qUY is w R):Calls prog 201 #[.bool is] w R:=
 zC (q0 .z (.cond .z .z)) func201 [.b is] h9
def qXU (aaa:zY) (aab aac:Int) (aad:Slc) (aae:Bool) (aaf aag ab:Slc) (baa:zY) (bab bac:Int) (bad:Slc) (bae:Bool) (baf bag bb:Slc) (w:World) (R:RW):Prop:=
 aH prog (Instr.box 302 (.agg #[.string ⟨aaa.toArray⟩,.int .i64 aab,.int .i64 aac,zS aad,.bool aae,zS aaf,zS aag,zS ab])) w λv w1=>∃ a:zO,v=(.pointer a)/\aH prog (Instr.box 302 (.agg #[.string ⟨baa.toArray⟩,.int .i64 bab,.int .i64 bac,zS bad,.bool bae,zS baf,zS bag,zS bb])) w1 λv1 w2=>∃ b:zO,v1=(.pointer b)/\∃ sx:zP,sx w2.drew/\aA a λa1=>aA b λa2=>aA a λa3=>∃ xaa:zY,∃ xab xac:Int,∃ xad:Slc,∃ xae:Bool,∃ xaf xag xb:Slc,(∀ w',sx w'->Rd w' a3 [.string ⟨xaa.toArray⟩,.int .i64 xab,.int .i64 xac,zS xad,.bool xae,zS xaf,zS xag,zS xb])/\aA b λa4=>∃ xaa1:zY,∃ xab1 xac1:Int,∃ xad1:Slc,∃ xae1:Bool,∃ xaf1 xag1 xb1:Slc,(∀ w',sx w'->Rd w' a4 [.string ⟨xaa1.toArray⟩,.int .i64 xab1,.int .i64 xac1,zS xad1,.bool xae1,zS xaf1,zS xag1,zS xb1])/\∃ x:Slc,(∀ w',sx w'->Rd w' (a1.add 7) [zS x])/\∃ x1:Slc,(∀ w',sx w'->Rd w' (a2.add 7) [zS x1])/\((aD prog 205 [.agg #[.string ⟨xaa.toArray⟩,.int .i64 xab,.int .i64 xac,zS xad,.bool xae,zS xaf,zS xag,zS xb],.agg #[.string ⟨xaa1.toArray⟩,.int .i64 xab1,.int .i64 xac1,zS xad1,.bool xae1,zS xaf1,zS xag1,zS xb1]] w2.drew (aG R) λv2 w3=>∃ x2:Int,v2=(.int .i64 x2)/\(sx w3/\((aD prog 206 [zS x,zS x1] w3 (aG R) λv3 w4=>∃ x3:Int,v3=(.int .i64 x3)/\(sx w4/\((aH prog (Instr.buildSlice 36 2 #[(0,(.int .i64 x2)),(1,(.int .i64 x3))]) w4 λv4 w5=>∃ x4:Slc,v4=(zS x4)/\(sx w5/\((aD prog 204 [zS x4] w5 (aG R) λv5 w6=>∃ x5:Int,v5=(.int .i64 x5)/\(sx w6/\R (.returned (.int .i64 x5)) w6))/\True)))/\True)))/\True)))/\True)
theorem qPF (aaa:zY) (aab aac:Int) (aad:Slc) (aae:Bool) (aaf aag ab:Slc) (baa:zY) (bab bac:Int) (bad:Slc) (bae:Bool) (baf bag bb:Slc) {w:World} {R:RW} (h9:qXU aaa aab aac aad aae aaf aag ab baa bab bac bad bae baf bag bb w R):Calls prog 203 #[.agg #[.string ⟨aaa.toArray⟩,.int .i64 aab,.int .i64 aac,zS aad,.bool aae,zS aaf,zS aag,zS ab],.agg #[.string ⟨baa.toArray⟩,.int .i64 bab,.int .i64 bac,zS bad,.bool bae,zS baf,zS bag,zS bb]] w R:=
 zC (q0 .z (q0 (.draw 1 (.take 3 (.take 5 (.take 0 (.take 1 (.take 4 (.take 6 (.all [(2,(.all [(7,(.all [(8,(.all [(9,(.take 10 .done))]))]))]))])))))))) .z)) func203 [.agg [.agg [.s aaa,.i .i64 aab,.i .i64 aac,.sl aad,.b aae,.sl aaf,.sl aag],.sl ab],.agg [.agg [.s baa,.i .i64 bab,.i .i64 bac,.sl bad,.b bae,.sl baf,.sl bag],.sl bb]] h9
def qXH (s:Slc) (eq:Value) (w:World) (R:RW):Prop:=
 aE (decide ((s.len:Int)<(2:Int))) (R (.returned (zS s)) w) (∃ (inv:zT) (mu:zU),inv [.i .i64 1] w/\(∀ k:Int,∀ w1:World,inv [.i .i64 k] w1->aE (decide (k<s.len)) (∃ sx:zP,sx w1.drew/\(zB k s.len/\aA s.a λa=>((0<=(zW (k - 1))/\(zW (k - 1))<(s.len:Nat))/\aA s.a λa1=>∃ xaa:zY,∃ xab xac:Int,∃ xad:Slc,∃ xae:Bool,∃ xaf xag xb:Slc,(∀ w',sx w'->Rd w' (a.add (k.toNat*8)) [.string ⟨xaa.toArray⟩,.int .i64 xab,.int .i64 xac,zS xad,.bool xae,zS xaf,zS xag,zS xb])/\∃ xaa1:zY,∃ xab1 xac1:Int,∃ xad1:Slc,∃ xae1:Bool,∃ xaf1 xag1 xb1:Slc,(∀ w',sx w'->Rd w' (a1.add (((zW (k - 1))).toNat*8)) [.string ⟨xaa1.toArray⟩,.int .i64 xab1,.int .i64 xac1,zS xad1,.bool xae1,zS xaf1,zS xag1,zS xb1])/\((dY prog eq [.agg #[.string ⟨xaa.toArray⟩,.int .i64 xab,.int .i64 xac,zS xad,.bool xae,zS xaf,zS xag,zS xb],.agg #[.string ⟨xaa1.toArray⟩,.int .i64 xab1,.int .i64 xac1,zS xad1,.bool xae1,zS xaf1,zS xag1,zS xb1]] w1.drew (aG R) λv w2=>∃ x:Bool,v=(.bool x)/\aE x (((0<=k/\k<=(s.len:Nat))/\∃ (inv1:zT) (mu1:zU),inv1 [.i .i64 k,.i .i64 1] w2/\(∀ k1 k2:Int,∀ w3:World,inv1 [.i .i64 k1,.i .i64 k2] w3->aE (decide (k2<((aF s 8 (k.toNat) s.len s.cap).len:Int))) (∃ sx1:zP,sx1 w3.drew/\((0<=k2/\k2<((aF s 8 (k.toNat) s.len s.cap).len:Nat))/\aA (aF s 8 (k.toNat) s.len s.cap).a λa2=>((0<=(zW (k2 - 1))/\(zW (k2 - 1))<((aF s 8 (k.toNat) s.len s.cap).len:Nat))/\aA (aF s 8 (k.toNat) s.len s.cap).a λa3=>∃ xaa2:zY,∃ xab2 xac2:Int,∃ xad2:Slc,∃ xae2:Bool,∃ xaf2 xag2 xb2:Slc,(∀ w',sx1 w'->Rd w' (a2.add (k2.toNat*8)) [.string ⟨xaa2.toArray⟩,.int .i64 xab2,.int .i64 xac2,zS xad2,.bool xae2,zS xaf2,zS xag2,zS xb2])/\∃ xaa3:zY,∃ xab3 xac3:Int,∃ xad3:Slc,∃ xae3:Bool,∃ xaf3 xag3 xb3:Slc,(∀ w',sx1 w'->Rd w' (a3.add (((zW (k2 - 1))).toNat*8)) [.string ⟨xaa3.toArray⟩,.int .i64 xab3,.int .i64 xac3,zS xad3,.bool xae3,zS xaf3,zS xag3,zS xb3])/\((dY prog eq [.agg #[.string ⟨xaa2.toArray⟩,.int .i64 xab2,.int .i64 xac2,zS xad2,.bool xae2,zS xaf2,zS xag2,zS xb2],.agg #[.string ⟨xaa3.toArray⟩,.int .i64 xab3,.int .i64 xac3,zS xad3,.bool xae3,zS xaf3,zS xag3,zS xb3]] w3.drew (aG R) λv1 w4=>∃ x1:Bool,v1=(.bool x1)/\aE (!x1) (((0<=k2/\k2<((aF s 8 (k.toNat) s.len s.cap).len:Nat))/\aA (aF s 8 (k.toNat) s.len s.cap).a λa4=>∃ xaa4:zY,∃ xab4 xac4:Int,∃ xad4:Slc,∃ xae4:Bool,∃ xaf4 xag4 xb4:Slc,Rd w4 (a4.add (k2.toNat*8)) [.string ⟨xaa4.toArray⟩,.int .i64 xab4,.int .i64 xac4,zS xad4,.bool xae4,zS xaf4,zS xag4,zS xb4]/\(zB k1 s.len/\aA s.a λa5=>aJ prog (storeVar 302 (a5.add (k1.toNat*8)) (.agg #[.string ⟨xaa4.toArray⟩,.int .i64 xab4,.int .i64 xac4,zS xad4,.bool xae4,zS xaf4,zS xag4,zS xb4])) w4 λw5=>(inv1 [.i .i64 (zW (k1+1)),.i .i64 (zW (k2+1))] w5/\mu1 [.i .i64 (zW (k1+1)),.i .i64 (zW (k2+1))] w5<mu1 [.i .i64 k1,.i .i64 k2] w3)))) ((inv1 [.i .i64 k1,.i .i64 (zW (k2+1))] w4/\mu1 [.i .i64 k1,.i .i64 (zW (k2+1))] w4<mu1 [.i .i64 k1,.i .i64 k2] w3)))/\True)))) (((0<=k1/\k1<=(s.len:Nat))/\aH prog (Builtin.clear_ #[175] 0 #[.slice (aF s 8 (k1.toNat) s.len s.cap).a (aF s 8 (k1.toNat) s.len s.cap).len (aF s 8 (k1.toNat) s.len s.cap).cap]) w3 λv2 w6=>v2=(.tuple #[])/\((0<=k1/\k1<=(s.cap:Nat))/\R (.returned (.slice (aF s 8 0 (k1.toNat) s.cap).a (aF s 8 0 (k1.toNat) s.cap).len (aF s 8 0 (k1.toNat) s.cap).cap)) w6)))))) ((inv [.i .i64 (zW (k+1))] w2/\mu [.i .i64 (zW (k+1))] w2<mu [.i .i64 k] w1)))/\True)))) (R (.returned (zS s)) w1)))
theorem qOT (s:Slc) (eq:Value) {w:World} {R:RW} (h9:qXH s eq w R):Calls prog 207 #[zS s,eq] w R:=
 zC (q0 .z (q0 (q0 .z (.cond (q0 .z .z) .z)) (q0 (q0 .z (.block none (.loop [(5,(.i .i64))] (q0 (q0 .z (.cond .z .z)) (q0 (.block none (q0 (.draw 1 (.take 0 (.take 1 (.take 2 (.take 3 (.take 5 (.take 6 (.take 7 (.take 8 (.take 4 (.take 9 (.all [(10,.done)])))))))))))) (.cond (q0 .z (q0 (q0 .z (.block none (.loop [(5,(.i .i64)),(7,(.i .i64))] (q0 (q0 .z (.cond .z .z)) (q0 (.block none (q0 (.draw 1 (.take 0 (.take 1 (.take 2 (.take 3 (.take 5 (.take 6 (.take 7 (.take 8 (.take 4 (.take 9 (.all [(10,(.take 11 .done))])))))))))))) (.cond (q0 .z .z) .z))) .z))))) (q0 .z (q0 .z .z)))) .z))) .z))))) (q0 .z .z)))) func207 [.sl s,.v eq] h9
def qVT (aaa:zY) (aab aac:Int) (aad:Slc) (aae:Bool) (aaf aag ab:Slc) (baa:zY) (bab bac:Int) (bad:Slc) (bae:Bool) (baf bag bb:Slc) (w:World) (R:RW):Prop:=
 aH prog (Instr.box 302 (.agg #[.string ⟨aaa.toArray⟩,.int .i64 aab,.int .i64 aac,zS aad,.bool aae,zS aaf,zS aag,zS ab])) w λv w1=>∃ a:zO,v=(.pointer a)/\aH prog (Instr.box 302 (.agg #[.string ⟨baa.toArray⟩,.int .i64 bab,.int .i64 bac,zS bad,.bool bae,zS baf,zS bag,zS bb])) w1 λv1 w2=>∃ b:zO,v1=(.pointer b)/\aA a λa1=>∃ xaa:zY,∃ xab xac:Int,∃ xad:Slc,∃ xae:Bool,∃ xaf xag xb:Slc,Rd w2 a1 [.string ⟨xaa.toArray⟩,.int .i64 xab,.int .i64 xac,zS xad,.bool xae,zS xaf,zS xag,zS xb]/\aA b λa2=>∃ xaa1:zY,∃ xab1 xac1:Int,∃ xad1:Slc,∃ xae1:Bool,∃ xaf1 xag1 xb1:Slc,Rd w2 a2 [.string ⟨xaa1.toArray⟩,.int .i64 xab1,.int .i64 xac1,zS xad1,.bool xae1,zS xaf1,zS xag1,zS xb1]/\aD prog 205 [.agg #[.string ⟨xaa.toArray⟩,.int .i64 xab,.int .i64 xac,zS xad,.bool xae,zS xaf,zS xag,zS xb],.agg #[.string ⟨xaa1.toArray⟩,.int .i64 xab1,.int .i64 xac1,zS xad1,.bool xae1,zS xaf1,zS xag1,zS xb1]] w2 (aG R) λv2 w3=>∃ x:Int,v2=(.int .i64 x)/\R (.returned (.bool (x==(0:Int)))) w3
theorem qOD (aaa:zY) (aab aac:Int) (aad:Slc) (aae:Bool) (aaf aag ab:Slc) (baa:zY) (bab bac:Int) (bad:Slc) (bae:Bool) (baf bag bb:Slc) {w:World} {R:RW} (h9:qVT aaa aab aac aad aae aaf aag ab baa bab bac bad bae baf bag bb w R):Calls prog 208 #[.agg #[.string ⟨aaa.toArray⟩,.int .i64 aab,.int .i64 aac,zS aad,.bool aae,zS aaf,zS aag,zS ab],.agg #[.string ⟨baa.toArray⟩,.int .i64 bab,.int .i64 bac,zS bad,.bool bae,zS baf,zS bag,zS bb]] w R:=
 zC (q0 .z (q0 .z .z)) func208 [.agg [.agg [.s aaa,.i .i64 aab,.i .i64 aac,.sl aad,.b aae,.sl aaf,.sl aag],.sl ab],.agg [.agg [.s baa,.i .i64 bab,.i .i64 bac,.sl bad,.b bae,.sl baf,.sl bag],.sl bb]] h9
def qXY (r:zO) (xaa:zY) (xab xac:Int) (xad:Slc) (xae:Bool) (xaf xag xb:Slc) (w:World) (R:RW):Prop:=
 aH prog (Instr.box 302 (.agg #[.string ⟨xaa.toArray⟩,.int .i64 xab,.int .i64 xac,zS xad,.bool xae,zS xaf,zS xag,zS xb])) w λv w1=>∃ x:zO,v=(.pointer x)/\aA r λa=>∃ x1:Slc,Rd w1 (a.add 0) [zS x1]/\aD prog 271 [zS x1,.func (.func 272) #[] #[.pointer x]] w1 (aG R) λv1 w2=>∃ x2:Bool,v1=(.bool x2)/\R (.returned (.bool x2)) w2
theorem qQA (r:zO) (xaa:zY) (xab xac:Int) (xad:Slc) (xae:Bool) (xaf xag xb:Slc) {w:World} {R:RW} (h9:qXY r xaa xab xac xad xae xaf xag xb w R):Calls prog 209 #[.pointer r,.agg #[.string ⟨xaa.toArray⟩,.int .i64 xab,.int .i64 xac,zS xad,.bool xae,zS xaf,zS xag,zS xb]] w R:=
 zC (q0 .z (q0 .z .z)) func209 [.p r,.agg [.agg [.s xaa,.i .i64 xab,.i .i64 xac,.sl xad,.b xae,.sl xaf,.sl xag],.sl xb]] h9
def qYM (s:Slc) (f:Value) (w:World) (R:RW):Prop:=
 aD prog 333 [zS s,f] w (aG R) λv w1=>∃ x:Int,v=(.int .i64 x)/\R (.returned (.bool (decide (x>=0)))) w1
theorem qNZ (s:Slc) (f:Value) {w:World} {R:RW} (h9:qYM s f w R):Calls prog 271 #[zS s,f] w R:=
 zC (q0 .z (q0 .z .z)) func271 [.sl s,.v f] h9
def qWY (yaa:zY) (yab yac:Int) (yad:Slc) (yae:Bool) (yaf yag yb:Slc) (c:zO) (w:World) (R:RW):Prop:=
 aH prog (Instr.box 302 (.agg #[.string ⟨yaa.toArray⟩,.int .i64 yab,.int .i64 yac,zS yad,.bool yae,zS yaf,zS yag,zS yb])) w λv w1=>∃ y:zO,v=(.pointer y)/\aA c λa=>∃ xaa:zY,∃ xab xac:Int,∃ xad:Slc,∃ xae:Bool,∃ xaf xag xb:Slc,Rd w1 a [.string ⟨xaa.toArray⟩,.int .i64 xab,.int .i64 xac,zS xad,.bool xae,zS xaf,zS xag,zS xb]/\aA y λa1=>∃ xaa1:zY,∃ xab1 xac1:Int,∃ xad1:Slc,∃ xae1:Bool,∃ xaf1 xag1 xb1:Slc,Rd w1 a1 [.string ⟨xaa1.toArray⟩,.int .i64 xab1,.int .i64 xac1,zS xad1,.bool xae1,zS xaf1,zS xag1,zS xb1]/\aD prog 205 [.agg #[.string ⟨xaa.toArray⟩,.int .i64 xab,.int .i64 xac,zS xad,.bool xae,zS xaf,zS xag,zS xb],.agg #[.string ⟨xaa1.toArray⟩,.int .i64 xab1,.int .i64 xac1,zS xad1,.bool xae1,zS xaf1,zS xag1,zS xb1]] w1 (aG R) λv1 w2=>∃ x:Int,v1=(.int .i64 x)/\aE (x != (0:Int)) (aA y λa2=>∃ xa:zY,∃ xb2 xc:Int,∃ xd:Slc,∃ xe:Bool,∃ xf xg:Slc,Rd w2 (a2.add 0) (yR xa xb2 xc xd xe xf xg)/\aA c λa3=>∃ xa1:zY,∃ xb3 xc1:Int,∃ xd1:Slc,∃ xe1:Bool,∃ xf1 xg1:Slc,Rd w2 (a3.add 0) (yR xa1 xb3 xc1 xd1 xe1 xf1 xg1)/\aD prog 23 [zR xa xb2 xc xd xe xf xg,zR xa1 xb3 xc1 xd1 xe1 xf1 xg1] w2 (aG R) λv2 w3=>∃ x1:Bool,v2=(.bool x1)/\R (.returned (.bool x1)) w3) (zF R false w2)
theorem qRI (yaa:zY) (yab yac:Int) (yad:Slc) (yae:Bool) (yaf yag yb:Slc) (c:zO) {w:World} {R:RW} (h9:qWY yaa yab yac yad yae yaf yag yb c w R):Calls prog 272 #[.agg #[.string ⟨yaa.toArray⟩,.int .i64 yab,.int .i64 yac,zS yad,.bool yae,zS yaf,zS yag,zS yb],.pointer c] w R:=
 zC (q0 .z (q0 .z .z)) func272 [.agg [.agg [.s yaa,.i .i64 yab,.i .i64 yac,.sl yad,.b yae,.sl yaf,.sl yag],.sl yb],.p c] h9
def qWE (s:Slc) (f:Value) (w:World) (R:RW):Prop:=
 ∃ (inv:zT) (mu:zU),inv [.i .i64 0] w/\(∀ x:Int,∀ w1:World,inv [.i .i64 x] w1->aE (decide (x<s.len)) ((zB x s.len/\aA s.a λa=>∃ xaa:zY,∃ xab xac:Int,∃ xad:Slc,∃ xae:Bool,∃ xaf xag xb:Slc,Rd w1 (a.add (x.toNat*8)) [.string ⟨xaa.toArray⟩,.int .i64 xab,.int .i64 xac,zS xad,.bool xae,zS xaf,zS xag,zS xb]/\dY prog f [.agg #[.string ⟨xaa.toArray⟩,.int .i64 xab,.int .i64 xac,zS xad,.bool xae,zS xaf,zS xag,zS xb]] w1 (aG R) λv w2=>∃ x1:Bool,v=(.bool x1)/\aE x1 (R (.returned (.int .i64 x)) w2) ((inv [.i .i64 (zW (x+1))] w2/\mu [.i .i64 (zW (x+1))] w2<mu [.i .i64 x] w1)))) (R (.returned (.int .i64 (-1:Int))) w1))
theorem qSG (s:Slc) (f:Value) {w:World} {R:RW} (h9:qWE s f w R):Calls prog 333 #[zS s,f] w R:=
 zC (q0 .z (q0 (q0 .z (.block none (.loop [(8,(.i .i64))] (q0 .z (q0 (.cond .z .z) (q0 (.block none (q0 .z (q0 .z (.cond (q0 .z .z) .z)))) .z)))))) (q0 .z .z))) func333 [.sl s,.v f] h9
section
variable {α:Type} {f:α->List Value} {k:Nat}
def aR (f:α->List Value) (l:List α):List Value:=l.flatMap f
theorem cJ (hk : ∀ x,(f x).length=k) (l:List α):(aR f l).length=l.length*k:=by
 induction l with
 | nil=>simp [aR]
 | cons a l ih=>simp only [aR,List.flatMap_cons,List.length_append] at ih ⊢; rw [ih,hk,List.length_cons,Nat.add_mul]; omega
theorem bP (a b:List α):aR f (a++b)=aR f a++aR f b:=by simp [aR]
theorem oX (hk : ∀ x,(f x).length=k) : ∀ {l:List α} {i j:Nat} (h:i<l.length),j<k->(aR f l)[i*k+j]? = (f l[i])[j]?
 | [],i,j,h,_=>by simp at h
 | a :: l,0,j,h,hj=>by
   simp only [aR,List.flatMap_cons]
   rw [Nat.zero_mul,Nat.zero_add,List.getElem?_append_left (by rw [hk]; exact hj)]; rfl
 | a :: l,i+1,j,h,hj=>by
   have ih:=oX hk (l:=l) (i:=i) (j:=j) (by simpa using h) hj
   simp only [aR,List.flatMap_cons] at ih ⊢
   rw [List.getElem?_append_right (by rw [hk,Nat.add_mul]; omega),hk,show (i+1)*k+j - k=i*k+j by rw [Nat.add_mul]; omega,ih]
   rfl
theorem dF (h1 : ∀ x,∀ v∈f x,v.oneCell'=true) (l:List α) : ∀ y∈aR f l,y.oneCell'=true:=by
 intro y hy
 simp only [aR,List.mem_flatMap] at hy
 obtain ⟨d,_,hd⟩:=hy
 exact h1 d y hd
theorem aZ {w:World} {s:Slc} {l:List α} (hk : ∀ x,(f x).length=k) (hk0:0<k) (h:aK w s k (aR f l)) {i:Nat} (hi:i<l.length) : ∃ a,s.a=some a/\Rd w (a.add (i*k)) (f l[i]):=by
 have hl:l.length=s.len:=by
  have:=h.1; rw [cJ hk] at this
  exact Nat.eq_of_mul_eq_mul_right hk0 this
 refine h.at (by omega) hk0 λj u hu=>?_
 have hj:j<k:=by have:=(List.getElem?_eq_some_iff.1 hu).1; rw [hk] at this; exact this
 rw [oX hk hi hj]; exact hu
theorem bA {w:World} {s:Slc} {l:List α} (hk : ∀ x,(f x).length=k) (hk0:0<k) (h:aK w s k (aR f l)):l.length=s.len:=by
 have:=h.1; rw [cJ hk] at this
 exact Nat.eq_of_mul_eq_mul_right hk0 this
end
structure It where
 hd:Hd
 s:Slc
def It.cells (i:It):List Value:=i.hd.cells++[i.s.val]
theorem It.len (i:It):i.cells.length=8:=rfl
theorem It.one (i:It) : ∀ y∈i.cells,y.oneCell'=true:=by
 intro y hy
 rcases List.mem_append.1 hy with h | h
 ·exact i.hd.one y h
 ·simp at h; subst h; rfl
def It.on (i:It) (z:Nat):Prop:=i.hd.on z\/i.s.blk=some z
structure jA (w:World) (i:It) (r:Rc):Prop where
 hd:bH w i.hd r
 s:aK w i.s 1 (bys r.enc)
 lt : ∀ z,i.s.blk=some z->z<w.heap.size
theorem jA.mod {w w':World} {i:It} {r:Rc} {S:Nat->Prop} (h:jA w i r) (hm:Mod S w w') (hs : ∀ z,i.on z->¬ S z):jA w' i r:=
 ⟨h.hd.mod hm λz hz=>hs z (.inl hz),h.s.mod hm λz hz=>hs z (.inr hz),λz hz=>Nat.lt_of_lt_of_le (h.lt z hz) hm.size⟩
theorem jA.low {w:World} {i:It} {r:Rc} (h:jA w i r) : ∀ z,i.on z->z<w.heap.size:=λz hz=>hz.elim (h.hd.lt z) (h.lt z)
def hcells (hs:List Hd):List Value:=aR Hd.cells hs
def dI (is:List It):List Value:=aR It.cells is
theorem rV:prog.underlying 175=some (.slice 302):=by kernel_rfl
theorem fA:prog.underlying 22=some (.slice 40):=by kernel_rfl
theorem qDZ : ∃ i,prog.info? 302=some i/\i.zero=some (.agg (It.cells ⟨⟨[],0,0,⟨none,0,0⟩,false,⟨none,0,0⟩,⟨none,0,0⟩⟩,⟨none,0,0⟩⟩).toArray)/\i.size=8/\i.bytes=136:=bC (by kernel_rfl) (by kernel_rfl) (by kernel_rfl)
def bO (B:Nat) (w:World) (l:Slc) (rs:List Rc):Prop:=
 ∃ hs:List Hd,aK w l 7 (hcells hs)/\(∀ z,l.blk=some z->z<B)/\hs.length=rs.length/\∀ i (h:i<hs.length) (h':i<rs.length),bH w hs[i] rs[i]/\∀ z,hs[i].on z->z<B
theorem bO.mod {B:Nat} {w w':World} {l:Slc} {rs:List Rc} (h:bO B w l rs) (hm:Mod (λz=>B<=z) w w'):bO B w' l rs:=by
 obtain ⟨hs,h1,h2,h3,h4⟩:=h
 exact ⟨hs,h1.mod hm λz hz e=>by have:=h2 z hz; omega,h2,h3,λi a b=>⟨(h4 i a b).1.mod hm λz hz e=>by have:=(h4 i a b).2 z hz; omega,(h4 i a b).2⟩⟩
theorem bO.len {B:Nat} {w:World} {l:Slc} {rs:List Rc} (h:bO B w l rs):rs.length=l.len:=by
 obtain ⟨hs,h1,h2,h3,h4⟩:=h
 have:=bA Hd.len (by omega) h1; omega
def mP (B:Nat) (w:World) (rb:Nat) (T:TypeId) (x:Slc) (rs:List Rc):Prop:=
 B<=rb/\∃ is:List It,Blk w rb [x.val] T/\Sh.Own w x 8 (dI is)/\(∀ z,x.blk=some z->B<=z/\z≠rb)/\is.length=rs.length/\∀ i (h:i<is.length) (h':i<rs.length),jA w is[i] rs[i]/\∀ z,is[i].on z->z≠rb/\x.blk≠some z
theorem mP.len {B:Nat} {w:World} {rb:Nat} {T:TypeId} {x:Slc} {rs:List Rc} (h:mP B w rb T x rs):rs.length=x.len:=by
 obtain ⟨_,is,_,h1,_,h2,_⟩:=h
 have:=bA It.len (by omega) h1.rd; omega
theorem mP.no {B:Nat} {w w':World} {rb:Nat} {T:TypeId} {x:Slc} {rs:List Rc} (h:mP B w rb T x rs) (hm:Mod NoB w w'):mP B w' rb T x rs:=by
 obtain ⟨h0,is,h1,h2,h3,h4,h5⟩:=h
 exact ⟨h0,is,h1.no hm,h2.no hm,h3,h4,λi a b=>⟨(h5 i a b).1.mod hm λ_ _ h=>h,(h5 i a b).2⟩⟩
theorem kP {B:Nat} {S:Nat->Prop} {w w':World} (h:Mod S w w') (hs : ∀ z,S z->B<=z):Mod (λz=>B<=z) w w':=h.mono λz _ hz=>hs z hz
section
variable {w:World}
theorem vJ {t:Bool} (h:t=true):Calls prog 201 #[.bool t] w (Ret λv w'=>v = .tuple #[]/\w'=w):=by
 refine qSK _ ?_
 unfold qUY
 subst h
 exact aC (λh=>by cases h) λ_=>⟨rfl,rfl⟩
theorem jBZ {B rb:Nat} {T:TypeId} {x l:Slc} {rs ls:List Rc} {K:zY} (hR:mP B w rb T x rs) (hl:bO B w l ls) (hls : ∀ r∈ls,r.right=true/\r.key=K) (hrs : ∀ r∈rs,r.key=K) (hn:rs.length+ls.length<=100000) (z1:B<=w.heap.size) :
 Calls prog 121 #[.pointer (some (Addr.add ⟨rb,0,none⟩ 0)),.slice l.a l.len l.cap] w (Ret λv w'=>v = .tuple #[]/\∃ x',mP B w' rb T x' (rs++ls)/\Mod (λz=>B<=z) w w'):=by
 refine qSD _ _ ?_
 unfold qUM
 obtain ⟨ir,hr1,hr2,z6,z7⟩:=iF
 obtain ⟨ii,u2,u3,u4,v1⟩:=qDZ
 have hll:=hl.len
 refine ⟨λl' w'=>match l' with | [.i _ y]=>∃ (k:Nat) (x':Slc),y=(k:Int)/\k<=ls.length/\mP B w' rb T x' (rs++ls.take k)/\Mod (λz=>B<=z) w w' | _=>False,λl' _=>match l' with | [.i _ y]=>(ls.length - y).toNat | _=>0,⟨0,x,rfl,by omega,by simpa using hR,Mod.refl _ _⟩,?_⟩
 rintro y w1 ⟨k,x1,rfl,hk,k5,k6⟩
 refine aC (λhlt=>?_) λhge=>?_
 ·have hlt:k<ls.length:=by have:=of_decide_eq_true hlt; omega
  obtain ⟨hs,g1,g2,g3,g4⟩:=hl.mod k6
  have hks:k<hs.length:=by omega
  obtain ⟨a,ea,v6⟩:=aZ Hd.len (by omega) g1 hks
  obtain ⟨H,hHB⟩:=g4 k hks hlt
  obtain ⟨v7,hkk⟩:=hls ls[k] (List.getElem_mem _)
  refine ⟨⟨by omega,by omega⟩,?_⟩
  rw [ea]
  refine ⟨hs[k].a,hs[k].b,hs[k].c,hs[k].d,hs[k].e,hs[k].f,hs[k].g,v6,?_⟩
  refine aN (l:=hz0) hr1 hr2 rfl λq w2 u5 hb2=>⟨_,rfl,?_⟩
  refine cB (h:=hs[k]) (by kernel_rfl) (by kernel_rfl) hb2 rfl λw3 ht3 hq3=>?_
  have hq:=u5.at_
  have k3:Mod NoB w1 w3:=u5.mod.fresh ht3.mod λz e=>by have e:z=q:=e; omega
  refine ⟨hs[k].a,hs[k].b,hs[k].c,hs[k].d,hs[k].e,hs[k].f,hs[k].g,rdH hq3,?_⟩
  refine aB (qWO (h:=hs[k]) (H.no k3)) ?_
  rintro v w4 ⟨p9,hv⟩
  rw [v7] at hv
  obtain ⟨ps,rfl,q8,v8⟩:=hv
  have h9:=k3.tr p9
  have u6:=k5.no h9
  have hR4d:=u6.no (Mod.drew NoB w4)
  obtain ⟨q9,is,j1,j2,j3,j4,j5⟩:=hR4d
  have hxl:=u6.len
  refine ⟨ps,0,rfl,λl' w'=>match l' with | []=>w'=w4.drew | _=>False,?_,?_⟩
  ·refine ⟨Mod NoB w4.drew,Mod.refl _ _,aC (λ_=>?_) λh=>by simp at h⟩
   have rx : ∀ w',Mod NoB w4.drew w'->Rd w' (Addr.add (Addr.add ⟨rb,0,none⟩ 0) 0) [x1.val]:=λw' hm=>by rw [aO,aO]; exact (j1.no hm).rd1 rfl
   refine ⟨x1,rx,aC (λh0=>⟨?_,trivial⟩) λh0=>?_⟩
   ·refine aB (vJ rfl) ?_
    rintro v w5 ⟨rfl,rfl⟩
    exact ⟨rfl,Mod.refl _ _,rfl⟩
   ·have u7:0<is.length:=by rw [j4]; have:x1.len≠0:=by simpa using h0
                            omega
    obtain ⟨A,eA,hA⟩:=aZ It.len (by omega) j2.rd u7
    obtain ⟨y0,hI1⟩:=j5 0 u7 (by omega)
    refine ⟨x1,rx,⟨by omega,by have:=bA It.len (by omega) j2.rd; omega⟩,?_⟩
    rw [eA]
    refine ⟨is[0].hd.a,λw' hm=>?_,hs[k].a,λw' hm=>bT (i:=0) ((hq3.no p9).drew.no hm) rfl,?_,trivial⟩
    ·rw [add0,add0]
     have:=(hA.mod hm λh=>h)
     exact cW.2 (by simpa [It.cells,Hd.cells] using this 0 _ rfl)
    ·have ek:(rs++ls.take k)[0]'(by omega)∈rs++ls.take k:=List.getElem_mem _
     have ekey:((rs++ls.take k)[0]'(by omega)).key=K:=by
      rcases List.mem_append.1 ek with h | h
      ·exact hrs _ h
      ·exact (hls _ (List.mem_of_mem_take h)).2
     refine aB (vJ (by rw [y0.hd.key,H.key,ekey,hkk]; simp)) ?_
     rintro v w5 ⟨rfl,rfl⟩
     exact ⟨rfl,Mod.refl _ _,rfl⟩
  rintro w5 rfl
  have y1:rb<w1.heap.size:=by obtain ⟨_,_,h,_⟩:=k5; exact h.lt
  have hx1l : ∀ z,x1.blk=some z->z<w1.heap.size:=λz hz=>by obtain ⟨_,_,_,h,_⟩:=k5; exact h.lt hz
  have y2:w1.heap.size<=w4.heap.size:=h9.size
  have y5:=((hq3.no p9).drew).drew
  have j1d:=j1.drew; have j2d:Sh.Own w4.drew.drew x1 8 (dI is):=j2
  have rbx : ¬ (x1.blk=some rb):=λe=>(j3 rb e).2 rfl
  have qx : ¬ (x1.blk=some q):=λe=>by have:=hx1l q e; omega
  refine ⟨Mod (λz=>x1.blk=some z) w4.drew.drew,Mod.refl _ _,x1,λw' hm=>by rw [aO,aO]; exact (j1d.mod hm rbx).rd1 rfl,hs[k].a,hs[k].b,hs[k].c,hs[k].d,hs[k].e,hs[k].f,hs[k].g,λw' hm=>rdH (y5.mod hm qx),?_,trivial⟩
  refine bZ [.agg (It.cells ⟨hs[k],ps⟩).toArray] (l:=dI [⟨hs[k],ps⟩]) rV u2 u3 u4 (by omega) rfl (by omega) (by omega) rfl (by intro v hv; simp at hv; subst hv; rfl) (by simp [dI,aR,Value.cells]) λlb w6 p8 y7=>⟨⟨_,_,_⟩,rfl,p8.mod.mono λ_ _ h=>h.elim,?_,trivial⟩
  have t6:aK w6 ⟨some ⟨lb,0,none⟩,1,1⟩ 8 (dI [⟨hs[k],ps⟩]):=(aY (n:=1) (k:=8) y7 (by rw [dI,cJ It.len]; rfl)).rd
  have hil:=bA It.len (by omega) j2.rd
  rw [List.length_append,List.length_take] at j4
  refine aS rV u2 u3 u4 rfl v1 (j2d.no p8.mod) t6 (dF It.one _) (by simp only []; omega) (by simp only []; omega) λx' w7 y8 hlen hblk u9=>⟨x',rfl,(p8.mod.mono λ_ _ h=>h.elim).tr u9,?_,trivial⟩
  have k4:Mod (λz=>x1.blk=some z) w4.drew.drew w7:=p8.mod.no u9
  have t7:Blk w7 rb [x1.val] T:=j1d.mod k4 rbx
  have hs6:w4.heap.size<=w6.heap.size:=p8.mod.size
  have hx'z : ∀ z,x'.blk=some z->B<=z/\z≠rb/\(x1.blk=some z\/w4.heap.size<=z):=λz hz=>by
   rcases hblk with e | e
   ·exact ⟨(j3 z (by rw [<-e]; exact hz)).1,(j3 z (by rw [<-e]; exact hz)).2,.inl (by rw [<-e]; exact hz)⟩
   ·rw [e] at hz; cases hz
    have:=k6.size
    exact ⟨by omega,by omega,.inr hs6⟩
  rw [aO,aO]
  refine aX (by kernel_rfl) (by kernel_rfl) rfl t7 (by simp) λw8 u0 u1=>?_
  rw [wrap_i64 (e:=(k:Int)+1) (by omega)]
  have y9:Mod (λz=>B<=z) w w8:=by
   have a1:Mod (λz=>B<=z) w w4.drew.drew:=k6.no' ((h9.tr (Mod.drew _ _)).tr (Mod.drew _ _))
   exact (a1.tr (kP k4 λz hz=>(j3 z hz).1)).tr (kP u0.mod λz hz=>by have hz:z=rb:=hz; omega)
  refine ⟨⟨k+1,x',by omega,by omega,⟨q9,is++[⟨hs[k],ps⟩],u1,?_,λz hz=>⟨(hx'z z hz).1,(hx'z z hz).2.1⟩,?_,λi a b=>?_⟩,y9⟩,by (try simp only []); omega⟩
  ·have h8:=y8.mod u0.mod λz hz e=>(hx'z z hz).2.1 e
   rw [dI,bP]; exact h8
  ·rw [List.length_append,List.length_append,List.length_take]; simp; omega
  ·have e2:rs++ls.take (k+1)=(rs++ls.take k)++[ls[k]]:=by rw [aL hlt,List.append_assoc]
   have hkeep : ∀ {i:It} {r:Rc},jA w4.drew.drew i r->(∀ z,i.on z->z≠rb/\x1.blk≠some z/\z<w4.heap.size)->jA w8 i r/\∀ z,i.on z->z≠rb/\x'.blk≠some z:=λhI hz=>by
    refine ⟨(hI.mod k4 λz h e=>(hz z h).2.1 e).mod u0.mod λz h e=>(hz z h).1 e,λz h=>⟨(hz z h).1,λe=>?_⟩⟩
    rcases (hx'z z e).2.2 with h1 | h1
    ·exact (hz z h).2.1 h1
    ·have:=(hz z h).2.2; omega
   rcases Nat.lt_or_ge i is.length with hi | hi
   ·have e1:(is++[⟨hs[k],ps⟩])[i]=is[i]:=List.getElem_append_left hi
    have e3:(rs++ls.take (k+1))[i]=(rs++ls.take k)[i]'(by rw [List.length_append,List.length_take]; omega):=by
     simp only [e2]; exact List.getElem_append_left (by rw [List.length_append,List.length_take]; omega)
    rw [e1,e3]
    obtain ⟨hI,hz⟩:=j5 i hi (by rw [List.length_append,List.length_take]; omega)
    exact hkeep (hI.mod (Mod.drew NoB _) λ_ _ h=>h) λz h=>⟨(hz z h).1,(hz z h).2,hI.low z h⟩
   ·have hie:i=is.length:=by simp at a; omega
    subst hie
    have e1:(is++[⟨hs[k],ps⟩])[is.length]=⟨hs[k],ps⟩:=by simp
    have e3:(rs++ls.take (k+1))[is.length]=ls[k]:=by
     simp only [e2]
     rw [List.getElem_append_right (by rw [List.length_append,List.length_take]; omega)]; simp
    rw [e1,e3]
    refine hkeep ⟨(H.no h9).no (Mod.drew _ _) |>.no (Mod.drew _ _),q8.rd,λz hz=>q8.lt hz⟩ λz hz=>?_
    rcases hz with hz | hz
    ·have h1:=hHB z hz
     exact ⟨by omega,λe=>by have:=(j3 z e).1; omega,by have:=k6.size; omega⟩
    ·have h1:=v8 z hz
     have h2:w3.heap.size<=z:=h1
     have h3:=k3.size
     exact ⟨by omega,λe=>by have:=hx1l z e; omega,q8.lt hz⟩
 ·have hkk:k=ls.length:=by have:=of_decide_eq_false hge; omega
  subst hkk
  rw [List.take_length] at k5
  exact ⟨rfl,x1,k5,k6⟩
end
end Go.Proofs.YthaefcgpbccmbaaGreatDoor
end
section
namespace Go.Proofs.YthaefcgpbccmbaaGreatDoor
open Go Go.Sh Go.ChangeShapes Go.WideShapes Go.ChangeAt Go.RowKit
open Go.Proofs.Tryz
structure wZ (w:World) (h:Hd) (r:Rc):Prop where
 key:h.a=r.key
 cl:h.b=r.cl
 sq:h.c=r.sq
 gone:h.e=r.gone
 ctx:aK w h.d 2 (dts r.ctx)
 val:aK w h.f 1 (bys r.val)
 sig:aK w h.g 1 (bys r.sig)
 lt : ∀ x,h.on x->x<w.heap.size
theorem wZ.at {w:World} {h:Hd} {r:Rc} (H:wZ w h r) (sm:r.key.length<=1000000/\r.ctx.length<=1000000/\r.val.length<=1000000/\r.sig.length<=1000000):bH w h r:=
 ⟨H.key,H.cl,H.sq,H.gone,H.ctx,H.val,H.sig,sm,H.lt⟩
theorem wZ.no {w w':World} {h:Hd} {r:Rc} (H:wZ w h r) (hm:Mod NoB w w'):wZ w' h r:=
 ⟨H.key,H.cl,H.sq,H.gone,H.ctx.no hm,H.val.no hm,H.sig.no hm,λx hx=>Nat.lt_of_lt_of_le (H.lt x hx) hm.size⟩
def iY (w:World) (s:Slc) (ls:List Rc):Prop:=
 ∃ hs:List Hd,aK w s 7 (hcells hs)/\(∀ z,s.blk=some z->z<w.heap.size)/\hs.length=ls.length/\∀ i (h:i<hs.length) (h':i<ls.length),wZ w hs[i] ls[i]
theorem iY.no {w w':World} {s:Slc} {ls:List Rc} (h:iY w s ls) (hm:Mod NoB w w'):iY w' s ls:=by
 obtain ⟨hs,h1,h2,h3,h4⟩:=h
 exact ⟨hs,h1.no hm,λz hz=>Nat.lt_of_lt_of_le (h2 z hz) hm.size,h3,λi a b=>(h4 i a b).no hm⟩
theorem iY.len {w:World} {s:Slc} {ls:List Rc} (h:iY w s ls):ls.length=s.len:=by
 obtain ⟨hs,h1,h2,h3,h4⟩:=h
 have:=bA Hd.len (by omega) h1; omega
section
variable {H:Type} {enc:TypeId×Value->H} {W:World} {spare:Nat->Bool} {held:Bool} {fuel:Nat}
theorem qBW {t e:TypeId} {k:Nat} {a:zO} {len cap:Nat} {x:DataW H×List MemPlace} (ht:prog.underlying t=some (.slice e)) (hc:prog.cellsOf e=k) (hk:0<k) (h:DataW.trod enc prog W 0 (λ_=>true) held fuel t [.slice a len cap]=some x) :
 ∃ C:Nat->List Value,aK W ⟨a,len,cap⟩ k ((List.range len).flatMap C)/\(∀ i,i<len->(C i).length=k)/\(∀ y,Slc.blk ⟨a,len,cap⟩=some y->y<W.heap.size)/\(∀ i,i<len->∃ (n:Nat) (y:DataW H×List MemPlace),DataW.trod enc prog W 0 (λ_=>true) held n e (C i)=some y)/\
   ((x.1 = .nil/\cap=0)\/∃ es ss,x.1 = .slice es ss/\es.length+ss.length=cap):=by
 rcases Deep.open_slice ht h with ⟨hcs,hx⟩ | ⟨ad,l,c,m,n,D,Pl,hcs,_,hl,_,hm,hx,hV⟩
 ·cases hcs
  exact ⟨λ_=>[],⟨by simp,Nat.le_refl _,.inl rfl⟩,λi hi=>by omega,λy hy=>by simp at hy,λi hi=>by omega,.inl ⟨by rw [hx],rfl⟩⟩
 ·cases hcs
  simp only [if_true] at hm
  rw [hc] at hV hx
  obtain ⟨C,hC⟩:=Deep.choose_lt (α:=List Value) hV
  have hc1 : ∀ i,i<m->(C i).length=k/\∀ j,j<k->W.cell? ((ad.add (i*k)).add j)=(C i)[j]?:=λi hi=>by
   obtain ⟨_,g1,g2⟩:=World.cells?_some (hC i hi).1
   exact ⟨g1,g2⟩
  have hfl : ∀ n,n<=m->((List.range n).flatMap C).length=n*k/\∀ i j,i<n->j<k->((List.range n).flatMap C)[i*k+j]? = (C i)[j]?:=by
   intro n hn
   induction n with
   | zero=>exact ⟨by simp,λi j hi=>by omega⟩
   | succ n ih=>
     obtain ⟨g1,g2⟩:=ih (by omega)
     have g3:=(hc1 n (by omega)).1
     have e:(List.range (n+1)).flatMap C=(List.range n).flatMap C++C n:=by rw [List.range_succ,List.flatMap_append]; simp
     rw [e]
     refine ⟨by rw [List.length_append,g1,g3,Nat.succ_mul],λi j hi hj=>?_⟩
     rcases Nat.lt_or_ge i n with h9 | h9
     ·rw [List.getElem?_append_left,g2 i j h9 hj]
      rw [g1]
      have:=Nat.mul_le_mul_right k (show i+1<=n by omega)
      rw [Nat.succ_mul] at this; omega
     ·obtain rfl:i=n:=by omega
      rw [List.getElem?_append_right (by rw [g1]; omega),g1,Nat.add_sub_cancel_left]
  obtain ⟨f1,f2⟩:=hfl len (by omega)
  refine ⟨C,⟨f1,hl,.inr ⟨ad,rfl,λj v hj=>?_⟩⟩,λi hi=>(hc1 i (by omega)).1,λy hy=>?_,λi hi=>⟨n,_,(hC i (by omega)).2⟩,.inr ⟨_,_,by rw [hx],by simp; omega⟩⟩
  ·have k3:j<len*k:=by
    rcases Nat.lt_or_ge j (len*k) with h | h
    ·exact h
    ·rw [List.getElem?_eq_none (by rw [f1]; exact h)] at hj; cases hj
   have hi:j / k<len:=(Nat.div_lt_iff_lt_mul hk).2 k3
   have hd:(j / k)*k+j % k=j:=by rw [Nat.mul_comm]; exact Nat.div_add_mod j k
   have:=f2 (j / k) (j % k) hi (Nat.mod_lt _ hk)
   rw [hd,hj] at this
   have h2:=(hc1 (j / k) (by omega)).2 (j % k) (Nat.mod_lt _ hk)
   rw [Go.Sh.Addr.add_add',hd] at h2
   rw [h2,<-this]
  ·unfold Slc.blk at hy
   split at hy
   ·cases hy
   ·next hc0=>
    simp at hy; subst hy
    have k4 : ¬ cap=0:=hc0
    obtain ⟨g1,g2⟩:=hc1 0 (by omega)
    have g3:=g2 0 hk
    rw [List.getElem?_eq_getElem (by omega)] at g3
    have:=World.block_lt_of_cell? W _ g3
    simpa using this
theorem flat_get {α:Type} (g:α->List Value) (C:Nat->List Value) (n:Nat) (h : ∀ i,i<n->∃ c,C i=g c) : ∃ l:List α,l.length=n/\(List.range n).flatMap C=l.flatMap g/\∀ i (h:i<l.length),C i=g l[i]:=by
 induction n with
 | zero=>exact ⟨[],rfl,rfl,λi h=>by simp at h⟩
 | succ n ih=>
   obtain ⟨l,h0,hl,h1⟩:=ih λi hi=>h i (by omega)
   obtain ⟨c,hc⟩:=h n (by omega)
   refine ⟨l++[c],by simp [h0],by rw [List.range_succ,List.flatMap_append,hl,List.flatMap_append]; simp [hc],λi hi=>?_⟩
   rcases Nat.lt_or_ge i n with h9 | h9
   ·rw [List.getElem_append_left (by omega)]; exact h1 i (by omega)
   ·have:i=n:=by simp at hi; omega
    subst this
    rw [List.getElem_append_right (by omega)]; simpa using hc
theorem cellsD:prog.cellsOf 52=2:=by kernel_rfl
theorem qNC:prog.cellsOf 40=7:=by kernel_rfl
def fieldAt (fs:Array Field) (i:Nat) (t:TypeDesc):Prop:=∃ f,fs[i]? = some f/\prog.underlying f.type=some t/\f.offset=i/\prog.cellsOf f.type=1
theorem dV {fs:Array Field} {i:Nat} {t:TypeDesc} (h:i<fs.size) (h1:prog.underlying (fs[i]'h).type=some t) (h2:(fs[i]'h).offset=i) (h3:prog.cellsOf (fs[i]'h).type=1):fieldAt fs i t:=
 ⟨_,Array.getElem?_eq_getElem h,h1,h2,h3⟩
theorem fI {fs:Array Field} {i:Nat} {t:TypeDesc} {C:List Value} {xs:List (DataW H×List MemPlace)} {n:Nat} (hF:fieldAt fs i t) (hi:i<C.length) (hxs:xs.length=fs.size)
 (hf : ∀ (i:Nat) (f:Field),fs[i]? = some f->DataW.trod enc prog W 0 spare held n f.type ((C.drop f.offset).take (prog.cellsOf f.type))=xs[i]?) : ∃ (u:TypeId) (y:DataW H×List MemPlace),prog.underlying u=some t/\DataW.trod enc prog W 0 spare held n u [C[i]]=some y:=by
 obtain ⟨f,a1,a2,a3,a4⟩:=hF
 have g:=hf i f a1
 have hs:i<fs.size:=by rcases Nat.lt_or_ge i fs.size with h | h; exact h; rw [Array.getElem?_eq_none h] at a1; cases a1
 rw [a3,a4,List.getElem?_eq_getElem (by omega)] at g
 have e:(C.drop i).take 1=[C[i]]:=by rw [List.drop_eq_getElem_cons hi]; rfl
 rw [e] at g
 exact ⟨f.type,_,a2,g⟩
theorem jHM:prog.underlying 52=some (.struct (prog.fieldsOf 52)):=by kernel_rfl
theorem jED:prog.underlying 40=some (.struct (prog.fieldsOf 40)):=by kernel_rfl
theorem jCK {n:Nat} {C:List Value} (hl:C.length=2) {y:DataW H×List MemPlace} (h:DataW.trod enc prog W 0 spare held n 52 C=some y) : ∃ d:Int×Int,C=[.int .i64 d.1,.int .i64 d.2]:=by
 obtain ⟨c0,c1,rfl⟩ : ∃ c0 c1,C=[c0,c1]:=by
  match C,hl with
  | [c0,c1],_=>exact ⟨c0,c1,rfl⟩
 have g (i:Nat) (h:Nat.blt i (prog.fieldsOf 52).size=true):i<(prog.fieldsOf 52).size:=Nat.le_of_ble_eq_true h
 have h0:fieldAt (prog.fieldsOf 52) 0 (.int .i64):=dV (g 0 (by kernel_rfl)) (by kernel_rfl) (by kernel_rfl) (by kernel_rfl)
 have h1:fieldAt (prog.fieldsOf 52) 1 (.int .i64):=dV (g 1 (by kernel_rfl)) (by kernel_rfl) (by kernel_rfl) (by kernel_rfl)
 obtain ⟨xs,m,_,hx,hlen,hxs,hf⟩:=DataW.trod_struct jHM h
 obtain ⟨u0,y0,a0,b0⟩:=fI h0 (by omega) hxs hf
 obtain ⟨u1,y1,a1,b1⟩:=fI h1 (by omega) hxs hf
 obtain ⟨k0,e0,-,-⟩:=DataW.trod_int a0 b0
 obtain ⟨k1,e1,-,-⟩:=DataW.trod_int a1 b1
 simp at e0 e1
 exact ⟨(k0,k1),by rw [e0,e1]⟩
theorem qBP {t e:TypeId} {n:Nat} {v:Value} {y:DataW H×List MemPlace} (ht:prog.underlying t=some (.slice e)) (h:DataW.trod enc prog W 0 spare held n t [v]=some y) : ∃ s:Slc,v=s.val:=by
 rcases Deep.open_slice ht h with ⟨hcs,_⟩ | ⟨ad,l,c,_,_,_,_,hcs,_⟩
 ·simp at hcs; exact ⟨⟨none,0,0⟩,hcs⟩
 ·simp at hcs; exact ⟨⟨some ad,l,c⟩,hcs⟩
theorem qYQ {n:Nat} {C:List Value} (hl:C.length=7) {y:DataW H×List MemPlace} (h:DataW.trod enc prog W 0 (λ_=>true) held n 40 C=some y) : ∃ (p:Hd×Rc),C=p.1.cells/\wZ W p.1 p.2:=by
 obtain ⟨c0,c1,c2,c3,c4,c5,c6,rfl⟩ : ∃ c0 c1 c2 c3 c4 c5 c6,C=[c0,c1,c2,c3,c4,c5,c6]:=by
  match C,hl with
  | [c0,c1,c2,c3,c4,c5,c6],_=>exact ⟨c0,c1,c2,c3,c4,c5,c6,rfl⟩
 have g (i:Nat) (h:Nat.blt i (prog.fieldsOf 40).size=true):i<(prog.fieldsOf 40).size:=Nat.le_of_ble_eq_true h
 have h0:fieldAt (prog.fieldsOf 40) 0 .string:=dV (g 0 (by kernel_rfl)) (by kernel_rfl) (by kernel_rfl) (by kernel_rfl)
 have h1:fieldAt (prog.fieldsOf 40) 1 (.int .i64):=dV (g 1 (by kernel_rfl)) (by kernel_rfl) (by kernel_rfl) (by kernel_rfl)
 have h2:fieldAt (prog.fieldsOf 40) 2 (.int .i64):=dV (g 2 (by kernel_rfl)) (by kernel_rfl) (by kernel_rfl) (by kernel_rfl)
 have h3:fieldAt (prog.fieldsOf 40) 3 (.slice 52):=dV (g 3 (by kernel_rfl)) (by kernel_rfl) (by kernel_rfl) (by kernel_rfl)
 have h4:fieldAt (prog.fieldsOf 40) 4 .bool:=dV (g 4 (by kernel_rfl)) (by kernel_rfl) (by kernel_rfl) (by kernel_rfl)
 have h5:fieldAt (prog.fieldsOf 40) 5 (.slice 5):=dV (g 5 (by kernel_rfl)) (by kernel_rfl) (by kernel_rfl) (by kernel_rfl)
 have h6:fieldAt (prog.fieldsOf 40) 6 (.slice 5):=dV (g 6 (by kernel_rfl)) (by kernel_rfl) (by kernel_rfl) (by kernel_rfl)
 obtain ⟨xs,m,_,hx,hlen,hxs,hf⟩:=DataW.trod_struct jED h
 obtain ⟨u0,y0,a0,b0⟩:=fI h0 (by omega) hxs hf
 obtain ⟨u1,y1,a1,b1⟩:=fI h1 (by omega) hxs hf
 obtain ⟨u2,y2,a2,b2⟩:=fI h2 (by omega) hxs hf
 obtain ⟨u3,y3,a3,b3⟩:=fI h3 (by omega) hxs hf
 obtain ⟨u4,y4,a4,b4⟩:=fI h4 (by omega) hxs hf
 obtain ⟨u5,y5,a5,b5⟩:=fI h5 (by omega) hxs hf
 obtain ⟨u6,y6,a6,b6⟩:=fI h6 (by omega) hxs hf
 replace b0:DataW.trod enc prog W 0 (λ_=>true) held m u0 [c0]=some y0:=b0
 replace b1:DataW.trod enc prog W 0 (λ_=>true) held m u1 [c1]=some y1:=b1
 replace b2:DataW.trod enc prog W 0 (λ_=>true) held m u2 [c2]=some y2:=b2
 replace b3:DataW.trod enc prog W 0 (λ_=>true) held m u3 [c3]=some y3:=b3
 replace b4:DataW.trod enc prog W 0 (λ_=>true) held m u4 [c4]=some y4:=b4
 replace b5:DataW.trod enc prog W 0 (λ_=>true) held m u5 [c5]=some y5:=b5
 replace b6:DataW.trod enc prog W 0 (λ_=>true) held m u6 [c6]=some y6:=b6
 obtain ⟨s0,e0,-,-⟩:=DataW.trod_string a0 b0
 obtain ⟨k1,e1,-,-⟩:=DataW.trod_int a1 b1
 obtain ⟨k2,e2,-,-⟩:=DataW.trod_int a2 b2
 obtain ⟨s3,rfl⟩:=qBP a3 b3
 obtain ⟨k4,e4,-⟩:=DataW.trod_bool a4 b4
 obtain ⟨s5,rfl⟩:=qBP a5 b5
 obtain ⟨s6,rfl⟩:=qBP a6 b6
 obtain ⟨C3,g1,g2,g3,g4,_⟩:=qBW a3 cellsD (by omega) b3
 obtain ⟨l3,k6,h9,_⟩:=flat_get (λd:Int×Int=>[Value.int .i64 d.1,.int .i64 d.2]) C3 s3.len λi hi=>by
  obtain ⟨n,y,hy⟩:=g4 i hi
  exact jCK (g2 i hi) hy
 rw [h9] at g1
 obtain ⟨V5,p1,p2,p3,_⟩:=row_of a5 cells5 b5
 obtain ⟨l5,k3⟩:=qBT (λc:UInt8=>Value.int .u8 c.toNat) 0 V5 s5.len λi hi=>by
  obtain ⟨n,y,hy⟩:=p3 i hi
  exact qXL hy
 rw [k3] at p1
 obtain ⟨V6,q1,q2,q3,_⟩:=row_of a6 cells5 b6
 obtain ⟨l6,k5⟩:=qBT (λc:UInt8=>Value.int .u8 c.toNat) 0 V6 s6.len λi hi=>by
  obtain ⟨n,y,hy⟩:=q3 i hi
  exact qXL hy
 rw [k5] at q1
 simp at e0 e1 e2 e4
 refine ⟨(⟨s0.data.toList,k1,k2,s3,k4,s5,s6⟩,⟨s0.data.toList,k1,k2,l3,k4,l5,l6⟩),?_,rfl,rfl,rfl,rfl,g1,p1,q1,?_⟩
 ·rw [e0,e1,e2,e4]; simp [Hd.cells]
 ·rintro z (hz | hz | hz)
  ·exact g3 z hz
  ·exact p2 z hz
  ·exact q2 z hz
theorem qRY {a:zO} {len cap:Nat} {x:DataW H×List MemPlace} (h:DataW.trod enc prog W 0 (λ_=>true) held fuel 22 [.slice a len cap]=some x) :
 ∃ ls,iY W ⟨a,len,cap⟩ ls/\((x.1 = .nil/\cap=0)\/∃ es ss,x.1 = .slice es ss/\es.length+ss.length=cap):=by
 obtain ⟨C,h1,h2,h3,h4,h5⟩:=qBW fA qNC (by omega) h
 have hall : ∀ i,i<len->∃ p:Hd×Rc,C i=p.1.cells/\wZ W p.1 p.2:=λi hi=>by
  obtain ⟨n,y,hy⟩:=h4 i hi
  exact qYQ (h2 i hi) hy
 have:Inhabited (Hd×Rc):=⟨(⟨[],0,0,⟨none,0,0⟩,false,⟨none,0,0⟩,⟨none,0,0⟩⟩,⟨[],0,0,[],false,[],[]⟩)⟩
 obtain ⟨f,hf⟩:=Deep.choose_lt (α:=Hd×Rc) hall
 refine ⟨(List.range len).map λi=>(f i).2,⟨(List.range len).map λi=>(f i).1,?_,h3,by simp,λi hi h9=>?_⟩,h5⟩
 ·have e:(List.range len).flatMap C=hcells ((List.range len).map λi=>(f i).1):=by
   show _=((List.range len).map λi=>(f i).1).flatMap Hd.cells
   rw [List.flatMap_map]
   exact Deep.flatMap_congr_range λi hi=>(hf i hi).1
  rw [<-e]; exact h1
 ·simp only [List.getElem_map,List.getElem_range]
  exact (hf i (by simpa using hi)).2
end
end Go.Proofs.YthaefcgpbccmbaaGreatDoor
end
