/- The forms of the translated functions,their contracts and the plain laws behind them,put together by a program. -/
import Derived.Test.YtihafpcnhgapdaaGreatDoorPQ10
import Derived.Deep.Slices
import Derived.Deep.Strs
import Derived.Lib.LaidTab
import Derived.Stop.LaidErr
import Derived.LaidHandle
import Derived.MakeChecks
import Derived.SizedLaws
import Derived.WalkKit
import Derived.ProofKit
import Derived.OpenShut
import Derived.ShutString
import Derived.ChangeOld
import Derived.Below
import Derived.LaidMore
import Derived.Stop.Joined
import Derived.SevenTiedAt
import Derived.Test.YtihafpcnhgapdaaGreatDoorProg
set_option linter.unusedSimpArgs false
set_option linter.unusedVariables false
set_option maxRecDepth 1000000
set_option maxHeartbeats 8000000
section
namespace Go.Proofs.YtihafpcnhgapdaaGreatDoor
open Go Go.Sh Go.ChangeShapes Go.WideShapes Go.ChangeAt Go.RowKit
section
variable {H:Type} {enc:TypeId×Value→H} {W:World} {spare:Nat→Bool} {held:Bool} {fuel:Nat}
theorem cells5:Tryz.prog.cellsOf 5=1:=by kernel_rfl
theorem cells26:Tryz.prog.cellsOf 22=1:=by kernel_rfl
theorem row_of {t e:TypeId} {a:Option Addr} {len cap:Nat} {x:DataW H×List MemPlace} (ht:Tryz.prog.underlying t=some (.slice e)) (hc:Tryz.prog.cellsOf e=1) (h:DataW.trod enc Tryz.prog W 0 (fun _=>true) held fuel t [.slice a len cap]=some x) :
 ∃ V:Nat→Value,SlRd W ⟨a,len,cap⟩ 1 ((List.range len).map V)∧(∀ y,Slc.blk ⟨a,len,cap⟩=some y→y<W.heap.size)∧(∀ i,i<len→∃ (n:Nat) (y:DataW H×List MemPlace),DataW.trod enc Tryz.prog W 0 (fun _=>true) held n e [V i]=some y)∧
   ((x.1 = .nil∧cap=0)∨∃ es ss,x.1 = .slice es ss∧es.length+ss.length=cap):=by
 rcases Deep.open_slice1 ht hc h with ⟨hcs,hx⟩ | ⟨ad,l,c,m,n,V,D,Pl,hcs,_,hl,_,hm,hx,hV⟩
 ·cases hcs
  exact ⟨fun _=>undef,rd_nil _ _,fun y hy=>by simp at hy,fun i hi=>by omega,.inl ⟨by rw [hx],rfl⟩⟩
 ·cases hcs
  simp only [if_true] at hm
  refine ⟨V,⟨by simp,hl,?_⟩,fun y hy=>?_,fun i hi=>⟨n,_,(hV i (by omega)).2⟩,.inr ⟨_,_,by rw [hx],by simp; omega⟩⟩
  ·refine .inr ⟨ad,rfl,fun j v hj=>?_⟩
   have hj':j<len:=by
    rcases Nat.lt_or_ge j len with h | h
    ·exact h
    ·rw [List.getElem?_eq_none (by simpa using h)] at hj; cases hj
   rw [List.getElem?_map,List.getElem?_range hj'] at hj
   simp at hj; subst hj
   exact (hV j (by omega)).1
  ·unfold Slc.blk at hy
   split at hy
   ·cases hy
   ·next hc0=>
    simp at hy; subst hy
    have hc0' : ¬ cap=0:=hc0
    have:=World.block_lt_of_cell? W _ (hV 0 (by omega)).1
    rwa [add0] at this
theorem u8_of {n:Nat} {v:Value} {y:DataW H×List MemPlace} (h:DataW.trod enc Tryz.prog W 0 spare held n 5 [v]=some y) : ∃ c:UInt8,v = .int .u8 c.toNat:=by
 obtain ⟨k,h1,h2,h3⟩:=DataW.trod_int Tryz.underlying5 h
 simp at h1
 simp only [Lit.wf,Bool.and_eq_true,decide_eq_true_eq] at h3
 have e1:IntKind.u8.min=0:=by decide
 have e2:IntKind.u8.max=255:=by decide
 rw [e1,e2] at h3
 refine ⟨UInt8.ofNat k.toNat,?_⟩
 rw [h1]
 congr 1
 simp [UInt8.toNat_ofNat']; omega
theorem map_get {α:Type} (g:α→Value) (d:α) (V:Nat→Value) (n:Nat) (h : ∀ i,i<n→∃ c,V i=g c) : ∃ l:List α,(List.range n).map V=l.map g:=by
 induction n with
 | zero=>exact ⟨[],rfl⟩
 | succ n ih=>
   obtain ⟨l,hl⟩:=ih fun i hi=>h i (by omega)
   obtain ⟨c,hc⟩:=h n (by omega)
   exact ⟨l++[c],by rw [List.range_succ,List.map_append,hl,List.map_append]; simp [hc]⟩
theorem bytes_of {a:Option Addr} {len cap:Nat} {x:DataW H×List MemPlace} (h:DataW.trod enc Tryz.prog W 0 (fun _=>true) held fuel 22 [.slice a len cap]=some x) :
 ∃ l,SlRd W ⟨a,len,cap⟩ 1 (bys l)∧(∀ y,Slc.blk ⟨a,len,cap⟩=some y→y<W.heap.size)∧((x.1 = .nil∧cap=0)∨∃ es ss,x.1 = .slice es ss∧es.length+ss.length=cap):=by
 obtain ⟨V,h1,h2,h3,h4⟩:=row_of u26 cells5 h
 obtain ⟨l,hl⟩:=map_get (fun c:UInt8=>Value.int .u8 c.toNat) 0 V len fun i hi=>by
  obtain ⟨n,y,hy⟩:=h3 i hi
  exact u8_of hy
 rw [hl] at h1
 exact ⟨l,h1,h2,h4⟩
theorem val_of {n:Nat} {v:Value} {y:DataW H×List MemPlace} (h:DataW.trod enc Tryz.prog W 0 (fun _=>true) held n 22 [v]=some y) : ∃ s:Slc,v=s.val:=by
 rcases Deep.open_slice1 u26 cells5 h with ⟨hcs,_⟩ | ⟨ad,l,c,_,_,_,_,_,hcs,_⟩
 ·simp at hcs; exact ⟨⟨none,0,0⟩,hcs⟩
 ·simp at hcs; exact ⟨⟨some ad,l,c⟩,hcs⟩
theorem rows_of {a:Option Addr} {len cap:Nat} {x:DataW H×List MemPlace} (h:DataW.trod enc Tryz.prog W 0 (fun _=>true) held fuel 23 [.slice a len cap]=some x) :
 ∃ pl,PartsAt W ⟨a,len,cap⟩ pl (fun y=>y<W.heap.size):=by
 obtain ⟨V,h1,h2,h3,h4⟩:=row_of u22 cells26 h
 obtain ⟨ss,hl⟩:=map_get Slc.val ⟨none,0,0⟩ V len fun i hi=>by
  obtain ⟨n,y,hy⟩:=h3 i hi
  exact val_of hy
 have hsl:ss.length=len:=by have:=congrArg List.length hl; simpa using this.symm
 have hb : ∀ i,i<len→∃ l:List UInt8,SlRd W (ss.getD i ⟨none,0,0⟩) 1 (bys l)∧(∀ y,(ss.getD i ⟨none,0,0⟩).blk=some y→y<W.heap.size):=fun i hi=>by
  obtain ⟨n,y,hy⟩:=h3 i hi
  have hv:V i=(ss.getD i ⟨none,0,0⟩).val:=by
   have:=congrArg (·[i]?) hl
   simp [List.getElem?_range hi,List.getElem?_eq_getElem (show i<ss.length by omega)] at this
   rw [this,List.getD,List.getElem?_eq_getElem (show i<ss.length by omega)]; rfl
  rw [hv] at hy
  obtain ⟨l,g1,g2,_⟩:=bytes_of hy
  exact ⟨l,g1,g2⟩
 obtain ⟨L,hL⟩:=Deep.choose_lt (α:=List UInt8) hb
 refine ⟨(List.range len).map L,ss,by rw [← hl]; exact h1,h2,by simp [hsl],fun i hi hi'=>?_⟩
 have hi2:i<len:=by omega
 have:=hL i hi2
 have e:ss.getD i ⟨none,0,0⟩=ss[i]:=by rw [List.getD,List.getElem?_eq_getElem hi]; rfl
 rw [e] at this
 simpa using this
theorem own:ownKnob Tryz.prog.godebug=none:=by kernel_rfl
theorem laidOut1:(List.range Tryz.prog.types.size).all (rowFine Tryz.prog)=true:=by kernel_rfl
theorem laidOut2:Tryz.prog.globals.all (fun g=>decide (g.type<Tryz.prog.types.size))=true:=by kernel_rfl
theorem laidOut3:Tryz.prog.funcs.all (fun f=>f.params.all fun t=>decide (t<Tryz.prog.types.size))=true:=by kernel_rfl
theorem laidOut:laidOutB Tryz.prog=true:=by unfold laidOutB; rw [laidOut1,laidOut2,laidOut3]; rfl
theorem below_of {w w':World} (h:Mod NoB w w'):Below w.heap.size w w':=⟨h.os,h.tape,h.output,h.size,fun k hk=>h.block k hk (fun h=>h)⟩
theorem say_of {k:FuncId} {args:Array Value} {w:World} (h:Calls Tryz.prog k args w (Ret fun v w'=>v = .bool true∧Mod NoB w w')):Calls Tryz.prog k args w fun e w'=>e = .returned (.bool true)∧Below w.heap.size w w':=
 h.mono fun e w' he=>by
  cases e with
  | returned v=>exact ⟨congrArg _ he.1,below_of he.2⟩
  | panicked c=>exact he.elim
  | outgrown=>exact he.elim
end
end Go.Proofs.YtihafpcnhgapdaaGreatDoor
end
section
namespace Go.Proofs.YtihafpcnhgapdaaGreatDoor
open Go Go.Sh
def sh74 (a b:Slc) (w:World) (R:Ending→World→Prop):Prop:=
 condK ((a.len:Int) != (b.len:Int)) (R (.returned (.bool false)) w) (∃ (inv:List TV→World→Prop) (mu:List TV→World→Nat),inv [.i .i64 (0:Int)] w∧(∀ i:Int,∀ w1:World,inv [.i .i64 i] w1→condK (decide (i<(a.len:Int))) (((0≤i∧i<(a.len:Nat))∧onSome a.a fun a1=>((0≤i∧i<(b.len:Nat))∧onSome b.a fun a2=>∃ x:UInt8,Rd w1.drew (a1.add (i.toNat*1)) [.int .u8 x.toNat]∧∃ x1:UInt8,Rd w1.drew (a2.add (i.toNat*1)) [.int .u8 x1.toNat]∧condK (x != x1) (R (.returned (.bool false)) w1.drew) ((inv [.i .i64 (IntKind.i64.wrap (i+(1:Int)))] w1.drew∧mu [.i .i64 (IntKind.i64.wrap (i+(1:Int)))] w1.drew<mu [.i .i64 i] w1))))) (R (.returned (.bool true)) w1)))
theorem call74 (a b:Slc) {w:World} {R:Ending→World→Prop} (hden:sh74 a b w R):Calls Tryz.prog 74 #[.slice a.a a.len a.cap,.slice b.a b.len b.cap] w R:=
 calls_of_form (.seq none .z (.seq none (.seq none .z (.cond (.seq none .z .z) .z)) (.seq none (.seq none .z (.block none (.loop [(5,(.i .i64))] (.seq none (.seq none .z (.cond .z .z)) (.seq none (.block none (.seq none (.draw 2 (.take 0 (.take 1 (.take 2 (.take 4 (.take 5 (.take 6 (.take 3 (.take 7 (.take 8 .done)))))))))) (.cond (.seq none .z .z) .z))) .z))))) (.seq none .z .z)))) Tryz.func74 (by kernel_rfl) [.sl a,.sl b] (by kernel_rfl) (by kernel_rfl) hden
theorem c_same {w:World} {a b:Slc} {l m:List UInt8} (ha:SlRd w a 1 (bys l)) (hb:SlRd w b 1 (bys m)) (hn:l.length≤9000000000000000000) :
 Calls Tryz.prog 74 #[.slice a.a a.len a.cap,.slice b.a b.len b.cap] w (Ret fun v w'=>v = .bool (decide (l=m))∧Mod NoB w w'):=by
 refine call74 _ _ ?_
 unfold sh74
 have hla:=rd_len8 ha; have hlb:=rd_len8 hb
 refine condK_i (fun h=>⟨?_,Mod.refl _ _⟩) (fun h=>?_)
 ·have:l≠m:=by rintro rfl; simp at h; omega
  simp [this]
 ·have hlen:l.length=m.length:=by simp at h; omega
  refine ⟨fun l' w'=>match l' with | [.i _ x]=>∃ k:Nat,x=k∧k≤l.length∧l.take k=m.take k∧Mod NoB w w' | _=>False,fun l' _=>match l' with | [.i _ x]=>(l.length - x).toNat | _=>0,⟨0,rfl,by omega,rfl,Mod.refl _ _⟩,?_⟩
  rintro x w1 ⟨k,rfl,hk,hkk,hm1⟩
  refine condK_i (fun h=>?_) (fun h=>?_)
  ·have hk':k<l.length:=by simp at h; omega
   obtain ⟨a1,ea,hra⟩:=rd_u8 ha hk'
   obtain ⟨a2,eb,hrb⟩:=rd_u8 hb (i:=k) (by omega)
   rw [ea,eb]
   refine ⟨⟨by omega,by omega⟩,⟨by omega,by omega⟩,_,Rd.drew (hra.mod hm1 fun h=>h),_,Rd.drew (hrb.mod hm1 fun h=>h),condK_i (fun hne=>⟨?_,Mod.dr hm1⟩) (fun hne=>⟨⟨k+1,wrap_nat (by omega),by omega,?_,Mod.dr hm1⟩,?_⟩)⟩
   ·have:l≠m:=by rintro rfl; simp at hne
    simp [this]
   ·have:l[k]=m[k]'(by omega):=by simpa using hne
    rw [take_snoc hk',take_snoc (by omega),hkk,this]
   ·rw [wrap_nat (by omega)]; (try simp only []); omega
  ·have hk':k=l.length:=by simp at h; omega
   rw [hk',List.take_length,hlen,List.take_length] at hkk
   exact ⟨by simp [hkk],hm1⟩
end Go.Proofs.YtihafpcnhgapdaaGreatDoor
end
