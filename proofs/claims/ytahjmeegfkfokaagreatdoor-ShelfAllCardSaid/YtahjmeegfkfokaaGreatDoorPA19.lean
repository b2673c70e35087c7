/- The forms of the translated functions,their contracts and the plain laws behind them,put together by a program. -/
import Derived.Test.YtahjmeegfkfokaaGreatDoorPA18
import Derived.Laws.StructEq
import Derived.Test.YtahjmeegfkfokaaGreatDoorProg
import Derived.Shelf.SlSortCmp.WholeK
import Derived.Ground.SlsfProg
set_option linter.unusedSimpArgs false
set_option linter.unusedVariables false
set_option maxRecDepth 100000
set_option maxHeartbeats 4000000
section
namespace Go.Proofs.YtahjmeegfkfokaaGreatDoor
open Go Go.Sh Go.MapKept
open Go.Proofs.Tryz
theorem jBF:prog.underlying 35=some (.struct (prog.fieldsOf 35)):=by kernel_rfl
theorem qUY {ox oy:Operand} {x y:Int×Int} {K:Value→Prop} (hk:K (.bool (!decide (x=y)))) :
 aU prog (do eqGuard .neq 35 ox oy (.agg #[.int .i64 x.1,.int .i64 x.2]) (.agg #[.int .i64 y.1,.int .i64 y.2]); binOp .neq 35 (.agg #[.int .i64 x.1,.int .i64 x.2]) (.agg #[.int .i64 y.1,.int .i64 y.2])) K:=by
 refine zX (fun w=>?_) hk
 have hg:prog.eqGuardType prog.depth 35=false:=by kernel_rfl
 have u3:=Tryz.underlying3
 have a3:=Tryz.isAgg3
 have z3:=Tryz.sizeOf3
 have he':(Op.equal 35 (.agg #[.int .i64 x.1,.int .i64 x.2]) (.agg #[.int .i64 y.1,.int .i64 y.2])).run prog w = .ok (decide (x=y)) w:=by
  show (Op.equalIn 10000 35 _ _).run _ _=_
  rw [show (10000:Nat)=9999+1 from rfl,run_equalIn_agg w 9999 35 _ _ jBF (by kernel_rfl)]
  simp only [Program.fieldsOf,Tryz.underlying35]
  go_simp
  by_cases h1:x.1=y.1 <;> by_cases h2:x.2=y.2 <;> simp [h1,h2,Prod.ext_iff]
 simp only [Sem.run_bind,run_eqGuard_agg w .neq 35 ox oy _ _ hg,Result.andThen_ok]
 show (do pure (Value.bool (!(← Op.equal 35 _ _))):Sem Value).run prog w=_
 simp only [Sem.run_bind,he',Result.andThen_ok]
 rfl
theorem qPN {w:World} {a b:Slc} {l m:List (Int×Int)} (ha:aL w a 2 (dts l)) (hb:aL w b 2 (dts m)) (hn:l.length≤9000000000000000000) :
 Calls prog 39 #[.slice a.a a.len a.cap,.slice b.a b.len b.cap] w (Ret fun v w'=>v = .bool (decide (l=m))∧Mod NoB w w'):=by
 refine qWM _ _ ?_
 unfold jAN
 have hla:l.length=a.len:=by have:=ha.1; simp at this; omega
 have hlb:m.length=b.len:=by have:=hb.1; simp at this; omega
 refine aE (fun h=>⟨?_,Mod.refl _ _⟩) (fun h=>?_)
 ·have:l≠m:=by rintro rfl; simp at h; omega
  simp [this]
 ·have hlen:l.length=m.length:=by simp at h; omega
  refine ⟨fun l' w'=>match l' with | [.i _ x]=>∃ k:Nat,x=k∧k≤l.length∧l.take k=m.take k∧Mod NoB w w' | _=>False,fun l' _=>match l' with | [.i _ x]=>(l.length - x).toNat | _=>0,⟨0,rfl,by omega,rfl,Mod.refl _ _⟩,?_⟩
  rintro x w1 ⟨k,rfl,hk,hkk,hm1⟩
  refine aE (fun h=>?_) (fun h=>?_)
  ·have hk':k<l.length:=by simp at h; omega
   obtain ⟨a1,ea,hra⟩:=kV ha hk'
   obtain ⟨a2,eb,hrb⟩:=kV hb (i:=k) (by omega)
   rw [ea,eb]
   refine ⟨⟨by omega,by omega⟩,⟨by omega,by omega⟩,l[k].1,l[k].2,Rd.drew (hra.mod hm1 fun h=>h),(m[k]'(by omega)).1,(m[k]'(by omega)).2,Rd.drew (hrb.mod hm1 fun h=>h),qUY ⟨_,rfl,aE (fun hne=>⟨?_,hm1.tr (Mod.drew _ _)⟩) (fun hne=>⟨⟨k+1,wrap_i64 (e:=(k:Int)+1) (by omega),by omega,?_,hm1.tr (Mod.drew _ _)⟩,?_⟩)⟩⟩
   ·have:l≠m:=by rintro rfl; simp at hne
    simp [this]
   ·have:l[k]=m[k]'(by omega):=by simpa using hne
    rw [aV hk',aV (by omega),hkk,this]
   ·rw [wrap_i64 (e:=(k:Int)+1) (by omega)]; (try simp only []); omega
  ·have hk':k=l.length:=by simp at h; omega
   rw [hk',List.take_length,hlen,List.take_length] at hkk
   exact ⟨by simp [hkk],hm1⟩
theorem qWH {r s:Rc} (h1:r.key=s.key) (h2:r.cl=s.cl) (h3:r.sq=s.sq) (h4:r.ctx=s.ctx) (h5:r.gone=s.gone) (h6:r.val=s.val) (h7:r.sig=s.sig):r=s:=by
 obtain ⟨a,b,c,d,e,f,g⟩:=r
 obtain ⟨a',b',c',d',e',f',g'⟩:=s
 simp only at h1 h2 h3 h4 h5 h6 h7
 subst h1 h2 h3 h4 h5 h6 h7
 rfl
theorem qDB {w:World} {a b:Hd} {r s:Rc} (ha:cK w a r) (hb:cK w b s) :
 Calls prog 20 #[a.val,b.val] w (Ret fun v w'=>v = .bool (decide (r=s))∧Mod NoB w w'):=by
 refine qYZ a.a a.b a.c a.d a.e a.f a.g b.a b.b b.c b.d b.e b.f b.g ?_
 unfold jCI
 refine aT (l:=a.cells) rfl fun p w1 hN1 hb1=>⟨_,rfl,?_⟩
 refine aT (l:=b.cells) rfl fun q w2 hN2 hb2=>⟨_,rfl,?_⟩
 have hm2:Mod NoB w w2:=hN1.mod.tr hN2.mod
 have p2:=hb1.no hN2.mod
 obtain ⟨sm1,sm2,sm3,sm4⟩:=ha.sm
 refine ⟨a.a,fY p2 rfl,b.a,fY hb2 rfl,aE (fun h1=>?_) fun h1=>⟨?_,hm2⟩⟩
 rotate_left
 ·have:r≠s:=fun e=>by subst e; rw [ha.key,hb.key] at h1; simp at h1
  simp [this]
 refine ⟨a.b,fY p2 rfl,b.b,fY hb2 rfl,aE (fun h2=>?_) fun h2=>⟨?_,hm2⟩⟩
 rotate_left
 ·have:r≠s:=fun e=>by subst e; rw [ha.cl,hb.cl] at h2; simp at h2
  simp [this]
 refine ⟨a.c,fY p2 rfl,b.c,fY hb2 rfl,aE (fun h3=>?_) fun h3=>⟨?_,hm2⟩⟩
 rotate_left
 ·have:r≠s:=fun e=>by subst e; rw [ha.sq,hb.sq] at h3; simp at h3
  simp [this]
 refine ⟨a.d,fY p2 rfl,b.d,fY hb2 rfl,?_⟩
 refine aC (qPN (ha.no hm2).ctx (hb.no hm2).ctx (by omega)) ?_
 rintro v w3 ⟨rfl,hm3⟩
 have hm23:=hm2.tr hm3
 refine ⟨_,rfl,aE (fun h4=>?_) fun h4=>⟨?_,hm23⟩⟩
 rotate_left
 ·have:r≠s:=fun e=>by subst e; simp at h4
  simp [this]
 refine ⟨a.e,fY (p2.no hm3) rfl,b.e,fY (hb2.no hm3) rfl,xO (by kernel_rfl) ⟨_,rfl,aE (fun h5=>?_) fun h5=>⟨?_,hm23⟩⟩⟩
 rotate_left
 ·have:r≠s:=fun e=>by subst e; rw [ha.gone,hb.gone] at h5; simp at h5
  simp [this]
 refine ⟨a.f,fY (p2.no hm3) rfl,b.f,fY (hb2.no hm3) rfl,?_⟩
 refine aC (qFD (ha.no hm23).val (hb.no hm23).val (by omega)) ?_
 rintro v w4 ⟨rfl,hm4⟩
 have hm24:=hm23.tr hm4
 refine ⟨_,rfl,aE (fun h6=>?_) fun h6=>⟨?_,hm24⟩⟩
 rotate_left
 ·have:r≠s:=fun e=>by subst e; simp at h6
  simp [this]
 refine ⟨a.g,fY ((p2.no hm3).no hm4) rfl,b.g,fY ((hb2.no hm3).no hm4) rfl,?_⟩
 refine aC (qFD (ha.no hm24).sig (hb.no hm24).sig (by omega)) ?_
 rintro v w5 ⟨rfl,hm5⟩
 refine ⟨_,rfl,congrArg Value.bool (decide_eq_decide.2 ?_),hm24.tr hm5⟩
 rw [ha.key,hb.key] at h1
 rw [ha.cl,hb.cl] at h2
 rw [ha.sq,hb.sq] at h3
 rw [ha.gone,hb.gone] at h5
 exact ⟨fun h7=>qWH (by simpa using h1) (by simpa using h2) (by simpa using h3) (by simpa using h4) (by simpa using h5) (by simpa using h6) h7,fun e=>by rw [e]⟩
def kH (w:World) (s:Slc) (rs:List Rc):Prop:=∃ hs:List Hd,aL w s 7 (hcells hs)∧hs.length=rs.length∧∀ i (h:i<hs.length) (h':i<rs.length),cK w hs[i] rs[i]
theorem kH.no {w w':World} {s:Slc} {rs:List Rc} (h:kH w s rs) (hm:Mod NoB w w'):kH w' s rs:=by
 obtain ⟨hs,h1,h2,h3⟩:=h
 exact ⟨hs,h1.no hm,h2,fun i a b=>(h3 i a b).no hm⟩
theorem kH.len {w:World} {s:Slc} {rs:List Rc} (h:kH w s rs):rs.length=s.len:=by
 obtain ⟨hs,h1,h2,h3⟩:=h
 have:=bK Hd.len (by omega) h1; omega
theorem fK.r {Q:Nat→Prop} {w:World} {s:Slc} {rs:List Rc} (h:fK Q w s rs):kH w s rs:=by
 obtain ⟨hs,h1,h2,h3,h4⟩:=h
 exact ⟨hs,h1.rd,h3,fun i a b=>(h4 i a b).1⟩
def iE (w:World) (o:Slc) (L:Lv):Prop:=
 ∃ es:List (List UInt8×Slc),aL w o 2 (aR bE es)∧es.length=L.length∧∀ i (h:i<es.length) (h':i<L.length),es[i].1=L[i].1∧kH w es[i].2 L[i].2
theorem iE.no {w w':World} {o:Slc} {L:Lv} (h:iE w o L) (hm:Mod NoB w w'):iE w' o L:=by
 obtain ⟨es,h1,h2,h3⟩:=h
 exact ⟨es,h1.no hm,h2,fun i a b=>⟨(h3 i a b).1,(h3 i a b).2.no hm⟩⟩
theorem dI.r {Q:Nat→Prop} {w:World} {o:Slc} {L:Lv} (h:dI Q w o L):iE w o L:=by
 obtain ⟨es,h1,h2,h3,h4⟩:=h
 exact ⟨es,h1.rd,h3,fun i a b=>⟨(h4 i a b).1,(h4 i a b).2.r⟩⟩
section
variable {w:World}
theorem qW {a b:Slc} {l m:List Rc} (ha:kH w a l) (hb:kH w b m) (hn:l.length≤1000000000) :
 Calls prog 12 #[.slice a.a a.len a.cap,.slice b.a b.len b.cap] w (Ret fun v w'=>v = .bool (decide (l=m))∧Mod NoB w w'):=by
 refine qVY _ _ ?_
 unfold jDZ
 have hla:=ha.len; have hlb:=hb.len
 refine aE (fun h=>⟨?_,Mod.refl _ _⟩) (fun h=>?_)
 ·have:l≠m:=by rintro rfl; simp at h; omega
  simp [this]
 ·have hlen:l.length=m.length:=by simp at h; omega
  refine ⟨fun l' w'=>match l' with | [.i _ x]=>∃ k:Nat,x=k∧k≤l.length∧l.take k=m.take k∧Mod NoB w w' | _=>False,fun l' _=>match l' with | [.i _ x]=>(l.length - x).toNat | _=>0,⟨0,rfl,by omega,rfl,Mod.refl _ _⟩,?_⟩
  rintro x w1 ⟨k,rfl,hk,hkk,hm1⟩
  refine aE (fun h=>?_) (fun h=>?_)
  ·have hk':k<l.length:=by have:=of_decide_eq_true h; omega
   have hm1d:=hm1.tr (Mod.drew NoB w1)
   obtain ⟨hs,g1,g2,g3⟩:=ha.no hm1d
   obtain ⟨ht,f1,f2,f3⟩:=hb.no hm1d
   obtain ⟨A,ea,hra⟩:=bX Hd.len (by omega) g1 (i:=k) (by omega)
   obtain ⟨A',eb,hrb⟩:=bX Hd.len (by omega) f1 (i:=k) (by omega)
   rw [ea,eb]
   let p:=hs[k]'(by omega)
   let q:=ht[k]'(by omega)
   refine ⟨Mod NoB w1.drew,Mod.refl _ _,⟨by omega,by omega⟩,⟨by omega,by omega⟩,p.a,p.b,p.c,p.d,p.e,p.f,p.g,fun w' hm=>hra.mod hm fun h=>h,q.a,q.b,q.c,q.d,q.e,q.f,q.g,fun w' hm=>hrb.mod hm fun h=>h,?_,trivial⟩
   refine aC (qDB (g3 k (by omega) hk') (f3 k (by omega) (by omega))) ?_
   rintro v w2 ⟨rfl,hm2⟩
   refine ⟨_,rfl,aE (fun hne=>⟨?_,hm1d.tr hm2⟩) (fun hne=>⟨⟨k+1,wrap_i64 (e:=(k:Int)+1) (by omega),by omega,?_,hm1d.tr hm2⟩,?_⟩)⟩
   ·have:l≠m:=by rintro rfl; simp at hne
    simp [this]
   ·have:l[k]=m[k]'(by omega):=by simpa using hne
    rw [aV hk',aV (by omega),hkk,this]
   ·rw [wrap_i64 (e:=(k:Int)+1) (by omega)]; (try simp only []); omega
  ·have hk':k=l.length:=by have:=of_decide_eq_false h; omega
   rw [hk',List.take_length,hlen,List.take_length] at hkk
   exact ⟨by simp [hkk],hm1⟩
theorem yW {a b:List UInt8×Slc} {l m:List Rc} (ha:kH w a.2 l) (hb:kH w b.2 m) (hn:l.length≤1000000000) :
 Calls prog 32 #[.agg (bE a).toArray,.agg (bE b).toArray] w (Ret fun v w'=>v = .bool (decide ((a.1,l)=(b.1,m)))∧Mod NoB w w'):=by
 refine qXD a.1 a.2 b.1 b.2 ?_
 unfold jDA
 refine aT (l:=bE a) rfl fun p w1 hN1 hb1=>⟨_,rfl,?_⟩
 refine aT (l:=bE b) rfl fun q w2 hN2 hb2=>⟨_,rfl,?_⟩
 have hm2:Mod NoB w w2:=hN1.mod.tr hN2.mod
 have p2:=hb1.no hN2.mod
 refine ⟨a.1,by rw [aK]; exact p2.rd1 rfl,b.1,by rw [aK]; exact hb2.rd1 rfl,aE (fun h1=>?_) fun h1=>⟨?_,hm2⟩⟩
 ·refine ⟨a.2,by rw [aK]; exact p2.rd1 rfl,b.2,by rw [aK]; exact hb2.rd1 rfl,?_⟩
  refine aC (qW (ha.no hm2) (hb.no hm2) hn) ?_
  rintro v w3 ⟨rfl,hm3⟩
  have h1:a.1=b.1:=by simpa using h1
  exact ⟨_,rfl,congrArg Value.bool (decide_eq_decide.2 (by rw [Prod.mk.injEq]; simp [h1])),hm2.tr hm3⟩
 ·have h1:a.1≠b.1:=by simpa using h1
  simp [Prod.mk.injEq,h1]
theorem uF {a b:Slc} {l m:Lv} (ha:iE w a l) (hb:iE w b m) (hn:l.length≤1000000000) (hn2 : ∀ e∈l,e.2.length≤1000000000) :
 Calls prog 17 #[.slice a.a a.len a.cap,.slice b.a b.len b.cap] w (Ret fun v w'=>v = .bool (decide (l=m))∧Mod NoB w w'):=by
 refine qWQ _ _ ?_
 unfold jBL
 have hla:l.length=a.len:=by obtain ⟨es,g1,g2,_⟩:=ha; have:=bK aZ (by omega) g1; omega
 have hlb:m.length=b.len:=by obtain ⟨es,g1,g2,_⟩:=hb; have:=bK aZ (by omega) g1; omega
 refine aE (fun h=>⟨?_,Mod.refl _ _⟩) (fun h=>?_)
 ·have:l≠m:=by rintro rfl; simp at h; omega
  simp [this]
 ·have hlen:l.length=m.length:=by simp at h; omega
  refine ⟨fun l' w'=>match l' with | [.i _ x]=>∃ k:Nat,x=k∧k≤l.length∧l.take k=m.take k∧Mod NoB w w' | _=>False,fun l' _=>match l' with | [.i _ x]=>(l.length - x).toNat | _=>0,⟨0,rfl,by omega,rfl,Mod.refl _ _⟩,?_⟩
  rintro x w1 ⟨k,rfl,hk,hkk,hm1⟩
  refine aE (fun h=>?_) (fun h=>?_)
  ·have hk':k<l.length:=by have:=of_decide_eq_true h; omega
   have hm1d:=hm1.tr (Mod.drew NoB w1)
   obtain ⟨hs,g1,g2,g3⟩:=ha.no hm1d
   obtain ⟨ht,f1,f2,f3⟩:=hb.no hm1d
   obtain ⟨A,ea,hra⟩:=bX aZ (by omega) g1 (i:=k) (by omega)
   obtain ⟨A',eb,hrb⟩:=bX aZ (by omega) f1 (i:=k) (by omega)
   rw [ea,eb]
   let p:=hs[k]'(by omega)
   let q:=ht[k]'(by omega)
   obtain ⟨c1,c2⟩:=g3 k (by omega) hk'
   obtain ⟨d1,d2⟩:=f3 k (by omega) (by omega)
   refine ⟨Mod NoB w1.drew,Mod.refl _ _,⟨by omega,by omega⟩,⟨by omega,by omega⟩,p.1,p.2,fun w' hm=>hra.mod hm fun h=>h,q.1,q.2,fun w' hm=>hrb.mod hm fun h=>h,?_,trivial⟩
   refine aC (yW (a:=p) (b:=q) c2 d2 (hn2 _ (List.getElem_mem _))) ?_
   rintro v w2 ⟨rfl,hm2⟩
   have ek:decide ((p.1,l[k].2)=(q.1,(m[k]'(by omega)).2))=decide (l[k]=m[k]'(by omega)):=by
    have e1:p.1=l[k].1:=c1
    have e2:q.1=(m[k]'(by omega)).1:=d1
    rw [e1,e2]
   rw [ek]
   refine ⟨_,rfl,aE (fun hne=>⟨?_,hm1d.tr hm2⟩) (fun hne=>⟨⟨k+1,wrap_i64 (e:=(k:Int)+1) (by omega),by omega,?_,hm1d.tr hm2⟩,?_⟩)⟩
   ·have:l≠m:=by rintro rfl; simp at hne
    simp [this]
   ·have:l[k]=m[k]'(by omega):=by simpa using hne
    rw [aV hk',aV (by omega),hkk,this]
   ·rw [wrap_i64 (e:=(k:Int)+1) (by omega)]; (try simp only []); omega
  ·have hk':k=l.length:=by have:=of_decide_eq_false h; omega
   rw [hk',List.take_length,hlen,List.take_length] at hkk
   exact ⟨by simp [hkk],hm1⟩
end
end Go.Proofs.YtahjmeegfkfokaaGreatDoor
end
section
namespace Go.Proofs.YtahjmeegfkfokaaGreatDoor
open Go Go.Sh
open Go.Proofs.Tryz
def jDN (key:List UInt8) (w:World) (R:RW):Prop:=
 aI prog (Instr.alloc 135 true (.tuple #[])) w fun v w1=>∃ d:Option Addr,v=(.pointer d)∧aA d fun a=>((aI prog (Instr.buildSlice 28 1 #[(0,(.int .u8 ((6:UInt8)).toNat))]) w1.drew fun v1 w2=>∃ x:Slc,v1=(zS x)∧((aI prog (convert 9 28 (.string ⟨key.toArray⟩)) w2 fun v2 w3=>∃ x1:Slc,v2=(zS x1)∧((aI prog (Instr.buildSlice 118 2 #[(0,(zS x)),(1,(zS x1))]) w3 fun v3 w4=>∃ x2:Slc,v3=(zS x2)∧((aD prog 122 [zS x2] w4 (aG R) fun v4 w5=>∃ x3:Slc,v4=(zS x3)∧((aI prog (Builtin.copy_ #[28,28] 3 #[.slice (aF ⟨some (a.add 0),64,64⟩ 1 0 64 64).a (aF ⟨some (a.add 0),64,64⟩ 1 0 64 64).len (aF ⟨some (a.add 0),64,64⟩ 1 0 64 64).cap,zS x3]) w5 fun v5 w6=>∃ x4:Int,v5=(.int .i64 x4)∧R (.returned (.pointer d)) w6)∧True))∧True))∧True))∧True))∧(aI prog (convert 9 28 (.string ⟨key.toArray⟩)) w1.drew fun v6 w7=>∃ x5:Slc,v6=(zS x5)∧((aI prog (Instr.buildSlice 28 1 #[(0,(.int .u8 ((6:UInt8)).toNat))]) w7 fun v7 w8=>∃ x6:Slc,v7=(zS x6)∧((aI prog (Instr.buildSlice 118 2 #[(0,(zS x6)),(1,(zS x5))]) w8 fun v8 w9=>∃ x7:Slc,v8=(zS x7)∧((aD prog 122 [zS x7] w9 (aG R) fun v9 w10=>∃ x8:Slc,v9=(zS x8)∧((aI prog (Builtin.copy_ #[28,28] 3 #[.slice (aF ⟨some (a.add 0),64,64⟩ 1 0 64 64).a (aF ⟨some (a.add 0),64,64⟩ 1 0 64 64).len (aF ⟨some (a.add 0),64,64⟩ 1 0 64 64).cap,zS x8]) w10 fun v10 w11=>∃ x9:Int,v10=(.int .i64 x9)∧R (.returned (.pointer d)) w11)∧True))∧True))∧True))∧True))∧True)
theorem qVG (key:List UInt8) {w:World} {R:RW} (hden:jDN key w R):Calls prog 84 #[.string ⟨key.toArray⟩] w R:=
 aB (q0 .z (q0 .z (q0 (.draw 0 (.take 0 (.take 1 (.take 3 (.all [(2,(.all [(4,(.all [(5,(.all [(6,(.all [(7,.done)]))]))]))])),(4,(.all [(2,(.all [(5,(.all [(6,(.all [(7,.done)]))]))]))]))]))))) (q0 .z .z)))) func84 (by kernel_rfl) [.s key] (by kernel_rfl) (by kernel_rfl) hden
def jEZ (key:List UInt8) (w:World) (R:RW):Prop:=
 aD prog 84 [.string ⟨key.toArray⟩] w (aG R) fun v w1=>∃ x:Option Addr,v=(.pointer x)∧aA x fun a=>((0≤(0:Int)∧(0:Int)<(64:Nat))∧∃ x1:UInt8,Rd w1 ((a.add 0).add (((0:Int)).toNat*1)) [.int .u8 x1.toNat]∧(0≤(((6:UInt64)).toNat:Int)∧R (.returned (.int .i64 (((iF x1 ((((6:UInt64)).toNat:Int)).toNat)).toNat:Int))) w1))
theorem qWW (key:List UInt8) {w:World} {R:RW} (hden:jEZ key w R):Calls prog 48 #[.string ⟨key.toArray⟩] w R:=
 aB (q0 .z (q0 .z .z)) func48 (by kernel_rfl) [.s key] (by kernel_rfl) (by kernel_rfl) hden
def jAY (key:List UInt8) (w:World) (R:RW):Prop:=
 aI prog (Instr.alloc 173 true (.tuple #[])) w fun v w1=>∃ out:Option Addr,v=(.pointer out)∧aD prog 84 [.string ⟨key.toArray⟩] w1 (aG R) fun v1 w2=>∃ x:Option Addr,v1=(.pointer x)∧aA x fun a=>aD prog 118 [.pointer (some (a.add 0)),.int .i64 (2:Int)] w2 (aG R) fun v2 w3=>∃ x1:Value,v2=x1∧∃ (fn:FuncId) (first cap:Array Value),x1 = .func (.func fn) first cap∧enters prog fn=true∧∀ (rec:LoopState→Option Code→Obj) (dd ll:Nat) (w4:World),dd=w3.heap.size→ll=dd+1→w4=(w3.alloc (.deferred (some []))).alloc (rec .ready none)→(∀ x2:UInt8,∀ (w5:World) (kk:Value→World→Prop),w5.heap[ll]? = some (rec .ready none)→((w5.heap[ll]? = some (rec .ready none)∧aI prog (Instr.buildSlice 28 1 #[(0,(.int .u8 x2.toNat))]) (w5.putObj ll (rec .busy none)) fun v3 w6=>∃ x3:Slc,v3=(zS x3)∧aD prog 119 [.pointer out,zS x3] w6 (fun _ _=>False) fun v4 w7=>v4=(.tuple #[])∧(w7.heap[ll]? = some (rec .busy none)∧kk (.bool true) (w7.putObj ll (rec .ready none)))))→fF prog ll [.int .u8 x2.toNat] w5 kk)→aD prog fn (first.toList++[.func (.yield ll) #[] #[]]++cap.toList) w4 (xN R [(mkD dd)]) fun _ w8=>(w8.heap[ll]? = some (rec .ready none)∧aD prog 120 [.pointer out] (w8.putObj ll (rec .exhausted none)) (xN R [(mkD dd)]) fun v5 w9=>∃ x4:List UInt8,v5=(.string ⟨x4.toArray⟩)∧(w9.heap[dd]? = some (.deferred (some []))∧R (.returned (.string ⟨x4.toArray⟩)) (w9.putObj dd (.deferred none))))∨False∨False
theorem qVZ (key:List UInt8) {w:World} {R:RW} (hden:jAY key w R):Calls prog 68 #[.string ⟨key.toArray⟩] w R:=
 aB (q0 .z (q0 .z (q0 (q0 .z (.block none (.rf false [] [.u8] .z (.block none .z)))) (q0 .z .z)))) func68 (by kernel_rfl) [.s key] (by kernel_rfl) (by kernel_rfl) hden
def qSU (out:Option Addr) (bits:Slc) (w:World) (R:RW):Prop:=
 ∃ (inv:List TV→World→Prop) (mu:List TV→World→Nat),inv [.i .i64 (0:Int)] w∧(∀ x:Int,∀ w1:World,inv [.i .i64 x] w1→aH (decide (x<(bits.len:Int))) (((0≤x∧x<(bits.len:Nat))∧aA bits.a fun a=>∃ x1:UInt8,Rd w1 (a.add (x.toNat*1)) [.int .u8 x1.toNat]∧aD prog 168 [.pointer out,.int .u8 (((48:UInt8)+x1)).toNat] w1 (aG R) fun v w2=>∃ x2:Value,v=x2∧(inv [.i .i64 (IntKind.i64.wrap (x+(1:Int)))] w2∧mu [.i .i64 (IntKind.i64.wrap (x+(1:Int)))] w2<mu [.i .i64 x] w1))) (R (.returned (.tuple #[])) w1))
theorem qMB (out:Option Addr) (bits:Slc) {w:World} {R:RW} (hden:qSU out bits w R):Calls prog 119 #[.pointer out,zS bits] w R:=
 aB (q0 .z (.block none (.loop [(8,(.i .i64))] (q0 .z (q0 (.cond .z .z) (q0 (.block none (q0 .z .z)) .z)))))) func119 (by kernel_rfl) [.p out,.sl bits] (by kernel_rfl) (by kernel_rfl) hden
def qRN (b:Option Addr) (from0:Int) (w:World) (R:RW):Prop:=
 aI prog (Instr.box 223 (.pointer b)) w fun v w1=>∃ b1:Option Addr,v=(.pointer b1)∧aI prog (Instr.box 3 (.int .i64 from0)) w1 fun v1 w2=>∃ from1:Option Addr,v1=(.pointer from1)∧R (.returned (.func (.func 167) #[] #[.pointer from1,.pointer b1])) w2
theorem qPE (b:Option Addr) (from0:Int) {w:World} {R:RW} (hden:qRN b from0 w R):Calls prog 118 #[.pointer b,.int .i64 from0] w R:=
 aB (q0 .z (q0 .z .z)) func118 (by kernel_rfl) [.p b,.i .i64 from0] (by kernel_rfl) (by kernel_rfl) hden
def qUD (yield:Value) (c c1:Option Addr) (w:World) (R:RW):Prop:=
 aA c fun a=>∃ x:Int,Rd w a [.int .i64 x]∧∃ (inv:List TV→World→Prop) (mu:List TV→World→Nat),inv [.i .i64 x] w∧(∀ i:Int,∀ w1:World,inv [.i .i64 i] w1→aH (decide (i<(512:Int))) (aA c1 fun a1=>∃ x1:Option Addr,Rd w1 a1 [.pointer x1]∧((8:Int)≠0∧aA x1 fun a2=>((0≤(IntKind.i64.wrap (Int.tdiv i (8:Int)))∧(IntKind.i64.wrap (Int.tdiv i (8:Int)))<(64:Nat))∧∃ x2:UInt8,Rd w1 (a2.add (((IntKind.i64.wrap (Int.tdiv i (8:Int)))).toNat*1)) [.int .u8 x2.toNat]∧((8:Int)≠0∧(0≤(IntKind.i64.wrap ((7:Int) - (Int.tmod i (8:Int))))∧dL prog yield [.int .u8 (((iF x2 ((IntKind.i64.wrap ((7:Int) - (Int.tmod i (8:Int))))).toNat) &&& (1:UInt8))).toNat] w1 (aG R) fun v w2=>∃ x3:Bool,v=(.bool x3)∧aH (!x3) (R (.returned (.tuple #[])) w2) ((inv [.i .i64 (IntKind.i64.wrap (i+(1:Int)))] w2∧mu [.i .i64 (IntKind.i64.wrap (i+(1:Int)))] w2<mu [.i .i64 i] w1))))))) (R (.returned (.tuple #[])) w1))
theorem qNI (yield:Value) (c c1:Option Addr) {w:World} {R:RW} (hden:qUD yield c c1 w R):Calls prog 167 #[yield,.pointer c,.pointer c1] w R:=
 aB (q0 .z (.block none (.loop [(4,(.i .i64))] (q0 (q0 .z (.cond .z .z)) (q0 (.block none (q0 .z (.cond .z .z))) .z))))) func167 (by kernel_rfl) [.v yield,.p c,.p c1] (by kernel_rfl) (by kernel_rfl) hden
def qRI (b:Option Addr) (w:World) (R:RW):Prop:=
 aA b fun a=>∃ x:Option Addr,Rd w (a.add 0) [.pointer x]∧aU prog (do eqGuard .eql 171 (.tmp 5) (.const (.pointer none)) (.pointer x) (.pointer none); binOp .eql 171 (.pointer x) (.pointer none)) fun v=>∃ x1:Bool,v=(.bool x1)∧aH x1 (aI prog (convert 171 305 (.pointer b)) w fun v1 w1=>∃ x2:Option Addr,v1=(.pointer x2)∧∃ v2 w2,(callFunc 244 #[.pointer x2]).run prog w1 = .ok (.value v2) w2∧∃ x3:Option Addr,v2=(.pointer x3)∧aI prog (convert 305 171 (.pointer x3)) w2 fun v3 w3=>∃ x4:Option Addr,v3=(.pointer x4)∧aA b fun a1=>aJ prog (storeVar 171 (a1.add 0) (.pointer x4)) w3 fun w4=>R (.returned (.tuple #[])) w4) (aA b fun a2=>∃ x5:Option Addr,Rd w (a2.add 0) [.pointer x5]∧aU prog (do eqGuard .neq 171 (.tmp 17) (.tmp 18) (.pointer x5) (.pointer b); binOp .neq 171 (.pointer x5) (.pointer b)) fun v4=>∃ x6:Bool,v4=(.bool x6)∧aH x6 (False) (R (.returned (.tuple #[])) w))
theorem qNB (b:Option Addr) {w:World} {R:RW} (hden:qRI b w R):Calls prog 221 #[.pointer b] w R:=
 aB (q0 .z (.cond .z (q0 .z (.cond .z .z)))) func221 (by kernel_rfl) [.p b] (by kernel_rfl) (by kernel_rfl) hden
def qSL (b:Option Addr) (c:UInt8) (w:World) (R:RW):Prop:=
 aD prog 221 [.pointer b] w (aG R) fun v w1=>v=(.tuple #[])∧aA b fun a=>∃ x:Slc,Rd w1 (a.add 1) [zS x]∧aI prog (Instr.buildSlice 28 1 #[(0,(.int .u8 c.toNat))]) w1 fun v1 w2=>∃ x1:Slc,v1=(zS x1)∧aI prog (Builtin.append_ #[28,28] 28 #[zS x,zS x1]) w2 fun v2 w3=>∃ x2:Slc,v2=(zS x2)∧aA b fun a1=>aJ prog (storeVar 28 (a1.add 1) (zS x2)) w3 fun w4=>R (.returned .nilIface) w4
theorem qOY (b:Option Addr) (c:UInt8) {w:World} {R:RW} (hden:qSL b c w R):Calls prog 168 #[.pointer b,.int .u8 c.toNat] w R:=
 aB (q0 .z (q0 .z (q0 .z (q0 .z .z)))) func168 (by kernel_rfl) [.p b,.u8 c] (by kernel_rfl) (by kernel_rfl) hden
def qQP (b:Option Addr) (w:World) (R:RW):Prop:=
 ∃ sx:World→Prop,sx w.drew∧aA b fun a=>aA b fun a1=>∃ x:Slc,(∀ w',sx w'→Rd w' (a.add 1) [zS x])∧∃ x1:Slc,(∀ w',sx w'→Rd w' (a1.add 1) [zS x1])∧((aI prog (Builtin.unsafeSliceData_ #[28] 222 #[zS x]) w.drew fun v w1=>∃ x2:Option Addr,v=(.pointer x2)∧(sx w1∧((aI prog (Builtin.unsafeString_ #[222,3] 9 #[.pointer x2,.int .i64 (x1.len:Int)]) w1 fun v1 w2=>∃ x3:List UInt8,v1=(.string ⟨x3.toArray⟩)∧(sx w2∧R (.returned (.string ⟨x3.toArray⟩)) w2))∧True)))∧True)
theorem qPB (b:Option Addr) {w:World} {R:RW} (hden:qQP b w R):Calls prog 120 #[.pointer b] w R:=
 aB (q0 .z (q0 (.draw 1 (.take 0 (.take 1 (.take 2 (.take 5 (.take 6 (.take 7 (.take 3 (.take 8 (.take 9 (.all [(4,(.all [(10,(.take 11 .done))]))]))))))))))) .z)) func120 (by kernel_rfl) [.p b] (by kernel_rfl) (by kernel_rfl) hden
abbrev gP:TypeId:=173
theorem rQ : ∃ i,prog.info? 173=some i∧i.zero=some (.agg #[.pointer none,.slice none 0 0])∧i.size=2∧i.bytes=32:=bM (by kernel_rfl) (by kernel_rfl) (by kernel_rfl)
structure BuilderAt (w:World) (b:Nat) (s:Slc) (l:List UInt8):Prop where
 blk : ∃ p,(p=none∨p=some ⟨b,0,none⟩)∧Blk w b [.pointer p,s.val] gP
 row:pG 5 w s (bys l)
 ne:s.blk≠some b
theorem xD {ox oy:Operand} {b:Nat} {K:Value→Prop} (hk:K (.bool false)) :
 aU prog (do eqGuard .neq 171 ox oy (.pointer (some ⟨b,0,none⟩)) (.pointer (some ⟨b,0,none⟩)); binOp .neq 171 (.pointer (some ⟨b,0,none⟩)) (.pointer (some ⟨b,0,none⟩))) K:=by
 obtain ⟨i,h1,-,-,-⟩:=rQ
 exact zX (fun w=>by rw [eqGuard_at_pointer]; exact Lib.run_neq_ptr_same (te:=gP) w _ (by kernel_rfl) h1) hk
theorem mW {w:World} {b:Nat} {l:List Value} {T:TypeId} (h:Blk w b l T):w.shape? b=some (T,l.length):=by
 obtain ⟨fr,h1,_⟩:=h
 simp [World.shape?,h1]
theorem vH {w:World} {b:Nat} {s:Slc} {l:List UInt8} (h:BuilderAt w b s l) :
 Calls prog 221 #[.pointer (some ⟨b,0,none⟩)] w (Ret fun v w'=>v = .tuple #[]∧Blk w' b [.pointer (some ⟨b,0,none⟩),s.val] gP∧Mod (fun x=>x=b) w w'):=by
 refine qNB _ ?_
 unfold qRI
 obtain ⟨p,hp,hb⟩:=h.blk
 obtain ⟨i,h1,h2,h3,h4⟩:=rQ
 have hr:Rd w ((⟨b,0,none⟩:Addr).add 0) [.pointer p]:=by rw [aK]; exact hb.rd1 rfl
 refine ⟨p,hr,gK (e:=gP) (by kernel_rfl) ⟨_,rfl,?_⟩⟩
 rcases hp with rfl | rfl
 ·refine aE (fun _=>?_) fun e=>by cases e
  refine ⟨_,_,Lib.run_to_unsafe w ⟨b,0,none⟩ (t:=gP) (by kernel_rfl) (by kernel_rfl) h1 (by omega) (mW hb) (by simp),_,rfl,?_⟩
  refine ⟨.pointer (some ⟨b,0,none⟩),w,?_,some ⟨b,0,none⟩,rfl,?_⟩
  ·rw [run_callFunc_extern func244 (by kernel_rfl) (by kernel_rfl) (by kernel_rfl) (e:=Extern.AbiNoEscape.same) (by kernel_rfl),Lib.run_noEscape]; rfl
  ·refine ⟨_,_,Lib.run_from_unsafe w ⟨b,0,none⟩ (u:=gP) (by kernel_rfl) (by kernel_rfl) h1 (mW hb) (by kernel_rfl),_,rfl,?_⟩
   show aJ _ (storeVar _ ((⟨b,0,none⟩:Addr).add 0) _) _ _
   rw [aK]
   refine aP (b:=b) (o:=0+0) (by kernel_rfl) (by kernel_rfl) rfl hb (by simp) fun w' ht hb'=>⟨rfl,hb',ht.mod⟩
 ·refine aE (fun e=>by cases e) fun _=>⟨_,hr,xD ⟨_,rfl,aE (fun e=>by cases e) fun _=>⟨rfl,hb,Mod.refl _ _⟩⟩⟩
theorem BuilderAt.mod {w w':World} {b:Nat} {s:Slc} {l:List UInt8} {S:Nat→Prop} (h:BuilderAt w b s l) (hm:Mod S w w') (hb : ¬ S b) (hs : ∀ x,s.blk=some x→¬ S x):BuilderAt w' b s l:=by
 obtain ⟨p,hp,h1⟩:=h.blk
 exact ⟨⟨p,hp,h1.mod hm hb⟩,h.row.mod hm hs,h.ne⟩
theorem BuilderAt.lt {w:World} {b:Nat} {s:Slc} {l:List UInt8} (h:BuilderAt w b s l):b<w.heap.size:=by
 obtain ⟨p,hp,h1⟩:=h.blk
 exact h1.lt
theorem xG {w:World} {b:Nat} {s:Slc} {l:List UInt8} {c:UInt8} (h:BuilderAt w b s l) (hn:l.length≤2000000000) :
 Calls prog 168 #[.pointer (some ⟨b,0,none⟩),.int .u8 c.toNat] w (Ret fun v w'=>v = .nilIface∧∃ s',BuilderAt w' b s' (l++[c])∧(s'.blk=s.blk∨∃ x,s'.blk=some x∧w.heap.size≤x)∧Mod (fun x=>x=b∨s.blk=some x) w w'):=by
 refine qOY _ _ ?_
 unfold qSL
 obtain ⟨i5',h51,h52,h53,h54⟩:=i5
 refine aC (vH h) ?_
 rintro v w1 ⟨rfl,hb1,hm1⟩
 have hr1:pG 5 w1 s (bys l):=h.row.mod hm1 fun x hx e=>h.ne (by rw [hx,e])
 have hbl:=hb1.lt
 have hsl:=aW hr1.own.rd
 refine ⟨rfl,s,by rw [aK]; exact hb1.rd1 rfl,?_⟩
 refine bZ (l:=[.int .u8 c.toNat]) [.int .u8 c.toNat] u26 h51 h52 h53 (by decide) rfl (by decide) (by decide) rfl (by simp [Value.cells]) rfl fun e w2 hN hbe=>⟨⟨_,_,_⟩,rfl,?_⟩
 refine qH u26 h51 h52 h53 rfl h54 (hr1.mod hN.mod fun _ _ h=>h) (aX (n:=1) (k:=1) hbe rfl).rd (fM [c]) (by simp) (by simp only []; omega) (by simp only []; omega) fun s' w3 hr' hlen hblk hm3=>⟨s',rfl,?_⟩
 have hsb : ∀ x,s.blk=some x→x≠b:=fun x hx e=>h.ne (by rw [hx,e])
 have hb3:Blk w3 b [.pointer (some ⟨b,0,none⟩),s.val] gP:=(hb1.no hN.mod).mod hm3 fun e=>hsb b e rfl
 show aJ _ (storeVar _ ((⟨b,0,none⟩:Addr).add 1) _) _ _
 rw [aK]
 have hat:=hN.at_; have hsz:=hN.size
 have hs'b:s'.blk≠some b:=by
  rcases hblk with e | e
  ·rw [e]; exact h.ne
  ·rw [e]; intro e'; cases e'; omega
 refine aP (b:=b) (o:=0+1) (l:=[.pointer (some ⟨b,0,none⟩),s.val]) (by kernel_rfl) (by kernel_rfl) rfl hb3 (by simp) fun w4 ht4 hb4=>⟨rfl,s',⟨⟨_,.inr rfl,hb4⟩,?_,hs'b⟩,?_,?_⟩
 ·have:=hr'.mod ht4.mod fun x hx e=>hs'b (by rw [hx,e])
  rw [lK]
  exact this
 ·rcases hblk with e | e
  ·exact .inl e
  ·exact .inr ⟨_,e,by have:=hm1.size; omega⟩
 ·have e1:Mod (fun x=>x=b∨s.blk=some x) w w1:=hm1.mono fun x _ e=>.inl e
  have e3:Mod (fun x=>x=b∨s.blk=some x) w2 w3:=hm3.mono fun x _ e=>.inr e
  have e4:Mod (fun x=>x=b∨s.blk=some x) w3 w4:=ht4.mod.mono fun x _ e=>.inl e
  exact ((e1.no' hN.mod).tr e3).tr e4
theorem pW {w:World} {b n:Nat} {l:List Value} {T:TypeId} (h:Blk w b l T):Mod (fun x=>x=b) w (w.freeze ⟨b,0,none⟩ n):=by
 have hlt:=h.lt
 unfold World.freeze
 split
 ·exact Mod.refl _ _
 ·exact ⟨rfl,rfl,rfl,by simp,fun x hx hne=>by
   simp only [Array.getElem?_modify]
   rw [if_neg (fun e=>hne e.symm)]⟩
theorem uPB:prog.underlying 222=some (.pointer 5):=by kernel_rfl
theorem qFP {w:World} {b:Nat} {s:Slc} {l:List UInt8} (h:BuilderAt w b s l) (hn:l.length≤2000000000) :
 Calls prog 120 #[.pointer (some ⟨b,0,none⟩)] w (Ret fun v w'=>v = .string ⟨l.toArray⟩∧Mod (fun x=>s.blk=some x) w w'):=by
 refine qPB _ ?_
 unfold qQP
 obtain ⟨p,hp,hb⟩:=h.blk
 have hrd : ∀ w',Mod (fun x=>s.blk=some x) w w'→Rd w' ((⟨b,0,none⟩:Addr).add 1) [s.val]:=fun w' hm=>by rw [aK]; exact (hb.mod hm h.ne).rd1 rfl
 refine ⟨fun w'=>Mod (fun x=>s.blk=some x) w w',Mod.drew _ _,s,hrd,s,hrd,?_,trivial⟩
 have hlen:=aW h.row.own.rd
 rcases h.row with ⟨rfl,e2⟩ | ⟨g,n,c,r,rfl,hc,hg,e1,e2,e3⟩
 ·obtain rfl:l=[]:=pP (b:=[]) e2
  refine ⟨_,_,Lib.run_unsafeSliceData_nil _ _ _ _ _,none,rfl,Mod.drew _ _,?_,trivial⟩
  refine ⟨_,_,Lib.run_unsafeString_none _ _ _ _ _,[],rfl,Mod.drew _ _,rfl,Mod.drew _ _⟩
 ·have hgb:Slc.blk ⟨some ⟨g,0,none⟩,n,c⟩=some g:=by rw [Slc.blk_mk,if_neg (by omega)]
  refine ⟨_,_,Lib.run_unsafeSliceData_row _ _ _ _ _ _ (show c≠0 by omega),some ⟨g,0,none⟩,rfl,Mod.drew _ _,?_,trivial⟩
  have hln:l.length=n:=hlen
  by_cases h0:l=[]
  ·subst h0
   obtain rfl:n=0:=by simpa using hln.symm
   refine ⟨_,_,Lib.run_unsafeString_none _ _ _ _ _,[],rfl,Mod.drew _ _,rfl,Mod.drew _ _⟩
  ·subst hln
   have hm:Mod (fun x=>Slc.blk ⟨some ⟨g,0,none⟩,l.length,c⟩=some x) w (w.drew.freeze ⟨g,0,none⟩ l.length):=
    (Mod.drew _ w).tr ((pW hg.drew).mono fun x _ e=>by rw [hgb,e])
   refine ⟨_,_,Lib.run_unsafeString_row _ 222 3 9 5 uPB (by kernel_rfl) g r.length (mW hg.drew) l h0 (by omega) (by omega) (fun j x hj=>?_),l,rfl,hm,rfl,hm⟩
   rw [aK,Nat.zero_add,hg.drew.cell]
   have hlt:j<l.length:=(List.getElem?_eq_some_iff.1 hj).1
   have:(r.take l.length)[j]? = some (.int .u8 x.toNat):=by rw [e2]; simp [bys,hj]
   rwa [List.getElem?_take,if_pos hlt] at this
theorem qZN {w:World} {b:Nat} {s:Slc} {l:List UInt8} {bits:Slc} {bs:List UInt8} (h:BuilderAt w b s l) (hbs:aL w bits 1 (bys bs)) (hbb : ∀ x,bits.blk=some x→x<w.heap.size∧x≠b∧s.blk≠some x) (hn:l.length+bs.length≤1000000000) :
 Calls prog 119 #[.pointer (some ⟨b,0,none⟩),.slice bits.a bits.len bits.cap] w (Ret fun v w'=>v = .tuple #[]∧∃ s',BuilderAt w' b s' (l++bs.map (48 + ·))∧(s'.blk=s.blk∨∃ x,s'.blk=some x∧w.heap.size≤x)∧Mod (fun x=>x=b∨s.blk=some x) w w'):=by
 refine qMB _ _ ?_
 unfold qSU
 have hbl:=aW hbs
 refine ⟨fun l' w'=>match l' with | [.i _ x]=>∃ (k:Nat) (s':Slc),x=k∧k≤bs.length∧BuilderAt w' b s' (l++(bs.take k).map (48 + ·))∧(s'.blk=s.blk∨∃ x,s'.blk=some x∧w.heap.size≤x)∧Mod (fun x=>x=b∨s.blk=some x) w w' | _=>False,
  fun l' _=>match l' with | [.i _ x]=>(bs.length - x).toNat | _=>0,⟨0,s,rfl,by omega,by simpa using h,.inl rfl,Mod.refl _ _⟩,?_⟩
 rintro x w1 ⟨k,s1,rfl,hk,hb1,hs1,hm1⟩
 refine aE (fun hlt=>?_) fun hge=>?_
 ·have hk':k<bs.length:=by simp at hlt; omega
  have hbs1:aL w1 bits 1 (bys bs):=hbs.mod hm1 fun x hx e=>e.elim (hbb x hx).2.1 (hbb x hx).2.2
  obtain ⟨a,ea,hra⟩:=gU hbs1 hk'
  rw [ea]
  refine ⟨⟨by omega,by omega⟩,_,hra,?_⟩
  refine aC (xG hb1 (by simp; omega)) ?_
  rintro v w2 ⟨rfl,s2,hb2,hs2,hm2⟩
  refine ⟨_,rfl,⟨k+1,s2,aS (by omega),by omega,?_,?_,?_⟩,?_⟩
  ·rw [aV hk',List.map_append,← List.append_assoc]; exact hb2
  ·rcases hs2 with e | ⟨y,e,hy⟩
   ·rw [e]; exact hs1
   ·exact .inr ⟨y,e,Nat.le_trans hm1.size hy⟩
  ·refine hm1.trans hm2 (fun _ _ h=>h) fun x hx e=>?_
   rcases e with e | e
   ·exact .inl e
   ·rcases hs1 with h1 | ⟨y,h1,hy⟩
    ·exact .inr (by rw [← h1]; exact e)
    ·rw [h1] at e; cases e; omega
  ·rw [aS (by omega)]; (try simp only []); omega
 ·have hk':k=bs.length:=by simp at hge; omega
  subst hk'
  rw [List.take_length] at hb1
  exact ⟨rfl,s1,hb1,hs1,hm1⟩
def dg (key:List UInt8):List UInt8:=sha (6 :: key)
def bit (d:List UInt8) (i:Nat):UInt8:=iF (d.getD (i / 8) 0) (7 - i % 8) &&& 1
def fT (d:List UInt8) (i n:Nat):List UInt8:=(List.range' i n).map (bit d)
theorem sG (d:List UInt8) (i n:Nat):fT d i (n+1)=fT d i n++[bit d (i+n)]:=by
 simp [fT,List.range'_concat]
@[simp] theorem qJZ (d:List UInt8) (i n:Nat):(fT d i n).length=n:=by simp [fT]
def way (d:List UInt8):List UInt8:=(fT d 2 510).map (48 + ·)
def tZ (d:List UInt8):Int:=((iF (d.getD 0 0) 6).toNat:Int)
theorem qGL {W w:World} {ss:List Slc} {pl:List (List UInt8)} {n:Nat} {ps:Array (Nat×Value)} {pan:List PanicEntry→World→Prop} {K:Slc→World→Prop}
 (hg:dM w) (hm:Mod NoB W w)
 (hps:ps.toList=((ss.map Slc.val).zipIdx 0).map fun x=>(x.2,x.1)) (hn:n=ss.length) (h0:0<n) (hs:n≤10000) (hl:ss.length=pl.length)
 (hr : ∀ i (h:i<ss.length) (h':i<pl.length),aL W ss[i] 1 (bys pl[i])∧∀ x,ss[i].blk=some x→x<W.heap.size) (hb:(pl.flatten).length≤900000000)
 (hK : ∀ x w',Sh.Own w' x 1 (bys (sha pl.flatten))→FB w x→Mod NoB w w'→K x w') :
 aI prog (Instr.buildSlice 118 n ps) w fun v w2=>∃ x:Slc,v=(.slice x.a x.len x.cap)∧aD prog 122 [(.slice x.a x.len x.cap)] w2 pan fun v w3=>∃ x:Slc,v=(.slice x.a x.len x.cap)∧K x w3:=by
 refine fR ss hps hn h0 hs fun x e w1 hN hx hbz hox=>⟨x,rfl,?_⟩
 have hat:=hN.at_; have hsz:=hN.size
 have hm1:=hm.tr hN.mod
 have hWw:=hm.size
 have hxe:=jH hx
 refine aC (qFK (hg.no hN.mod) (qEM (pl:=pl) (X:=fun y=>y=e∨y<W.heap.size) hox.rd (fun y hy=>.inl (hxe y hy)) hl fun i hi hi'=>⟨(hr i hi hi').1.no hm1,fun y hy=>.inr ((hr i hi hi').2 y hy)⟩)
  (fun y hy=>by omega) hb (by omega)) ?_
 rintro v w2 ⟨y,rfl,ho,hf,hm2⟩
 exact ⟨y,rfl,hK y w2 ho (hf.le hN.mod.size) (hN.mod.tr hm2)⟩
theorem qGK (key:List UInt8):(dg key).length=64:=jY _
theorem qPI : ∃ i,prog.info? 135=some i∧i.zero=some (.agg (List.replicate 64 (Value.int .u8 0)).toArray)∧i.size=64∧i.bytes=64:=bM (by kernel_rfl) (by kernel_rfl) (by kernel_rfl)
theorem qCC {w0 w:World} {b:Nat} {x y:Slc} {key:List UInt8} {R:RW} (hg:dM w) (hb:Blk w b (bys (List.replicate 64 0)) 135) (hbl:b=w0.heap.size)
 (hm:Mod NoB w0 w) (hx:aL w x 1 (bys [6])) (hxl : ∀ z,x.blk=some z→z<w.heap.size) (hy:aL w y 1 (bys key)) (hyl : ∀ z,y.blk=some z→z<w.heap.size) (hn:key.length≤800000000)
 (hR : ∀ w',Blk w' b (bys (dg key)) 135→Mod NoB w0 w'→R (.returned (.pointer (some ⟨b,0,none⟩))) w') :
 aI prog (Instr.buildSlice 118 2 #[(0,(.slice x.a x.len x.cap)),(1,(.slice y.a y.len y.cap))]) w fun v3 w4=>∃ x2:Slc,v3=(.slice x2.a x2.len x2.cap)∧((aD prog 122 [(.slice x2.a x2.len x2.cap)] w4 (aG R) fun v4 w5=>∃ x3:Slc,v4=(.slice x3.a x3.len x3.cap)∧
  ((aI prog (Builtin.copy_ #[28,28] 3 #[(.slice (aF ⟨some ((⟨b,0,none⟩:Addr).add 0),64,64⟩ 1 0 64 64).a (aF ⟨some ((⟨b,0,none⟩:Addr).add 0),64,64⟩ 1 0 64 64).len (aF ⟨some ((⟨b,0,none⟩:Addr).add 0),64,64⟩ 1 0 64 64).cap),(.slice x3.a x3.len x3.cap)]) w5 fun v5 w6=>∃ x4:Int,v5=(.int .i64 x4)∧R (.returned (.pointer (some ⟨b,0,none⟩))) w6)∧True))∧True):=by
 obtain ⟨i5',h51,h52,h53,h54⟩:=i5
 suffices hk:aI prog (Instr.buildSlice 118 2 #[(0,(.slice x.a x.len x.cap)),(1,(.slice y.a y.len y.cap))]) w fun v3 w4=>∃ x2:Slc,v3=(.slice x2.a x2.len x2.cap)∧(aD prog 122 [(.slice x2.a x2.len x2.cap)] w4 (aG R) fun v4 w5=>∃ x3:Slc,v4=(.slice x3.a x3.len x3.cap)∧(aI prog (Builtin.copy_ #[28,28] 3 #[(.slice (aF ⟨some ((⟨b,0,none⟩:Addr).add 0),64,64⟩ 1 0 64 64).a (aF ⟨some ((⟨b,0,none⟩:Addr).add 0),64,64⟩ 1 0 64 64).len (aF ⟨some ((⟨b,0,none⟩:Addr).add 0),64,64⟩ 1 0 64 64).cap),(.slice x3.a x3.len x3.cap)]) w5 fun v5 w6=>∃ x4:Int,v5=(.int .i64 x4)∧R (.returned (.pointer (some ⟨b,0,none⟩))) w6)) by
  obtain ⟨v,w4,h1,x2,h2,h3⟩:=hk
  refine ⟨v,w4,h1,x2,h2,yL h3 fun v w5 ⟨x3,h4,h5⟩=>⟨x3,h4,h5,trivial⟩,trivial⟩
 refine qGL (W:=w) (ss:=[x,y]) (pl:=[[6],key]) hg (Mod.refl _ _) rfl rfl (by omega) (by omega) rfl (sN hx hxl hy hyl) (by simp; omega) ?_
 intro z w5 ho hf hm5
 simp only [List.flatten_cons,List.flatten_nil,List.append_nil,List.singleton_append] at ho
 have hzl:z.len=64:=by have:=aW ho.rd; rw [jY] at this; omega
 refine nJ (d:=aF ⟨some ((⟨b,0,none⟩:Addr).add 0),64,64⟩ 1 0 64 64) (b:=b) (o:=0) (l:=bys (List.replicate 64 0)) u26 h51 h53 (by simp [aF]) (hb.no hm5) (by simp [aF]) ho.rd (fM _) fun w6 hb6 hm6 hs6=>⟨_,rfl,hR w6 ?_ ?_⟩
 ·rw [show min z.len (aF ⟨some ((⟨b,0,none⟩:Addr).add 0),64,64⟩ 1 0 64 64).len*1=64 by simp [aF,hzl]] at hb6
  have e:putAt (bys (List.replicate 64 0)) 0 ((bys (sha (6 :: key))).take 64)=bys (dg key):=by
   rw [List.take_of_length_le (by rw [qBO,jY]; omega)]
   simp [putAt,dg,jY,bys]
  rw [e] at hb6
  exact hb6
 ·exact (hm.tr hm5).fresh hm6 fun x e=>by omega
theorem jCM {w:World} {key:List UInt8} (hg:dM w) (hn:key.length≤800000000) :
 Calls prog 84 #[.string ⟨key.toArray⟩] w (Ret fun v w'=>∃ b,v = .pointer (some ⟨b,0,none⟩)∧w.heap.size≤b∧Blk w' b (bys (dg key)) 135∧Mod NoB w w'):=by
 refine qVG _ ?_
 unfold jDN
 obtain ⟨id,hd1,hd2,hd3,hd4⟩:=qPI
 refine aO (l:=bys (List.replicate 64 0)) hd1 hd2 (by simp [Value.cells,bys]) fun b w1 hN hb=>⟨_,rfl,?_⟩
 have hat:=hN.at_; have hsz:=hN.size
 have hm1:Mod NoB w w1.drew:=hN.mod.tr (Mod.drew _ _)
 have end' : ∀ w',Blk w' b (bys (dg key)) 135→Mod NoB w w'→Ret (fun v w'=>∃ b,v = .pointer (some ⟨b,0,none⟩)∧w.heap.size≤b∧Blk w' b (bys (dg key)) 135∧Mod NoB w w') (.returned (.pointer (some ⟨b,0,none⟩))) w':=
  fun w' h1 h2=>⟨b,rfl,by omega,h1,h2⟩
 refine ⟨?_,?_,trivial⟩
 ·refine gJ [6] (by rfl) rfl (by decide) (by decide) fun x e w2 hN2 hx hbx hox=>⟨x,rfl,?_,trivial⟩
  have hxb:=jH hx
  refine kD qDV u26 uU8 fun y w3 hoy hyl hyb hm3 hs3=>⟨y,rfl,?_,trivial⟩
  have hs2:w2.heap.size=e+1:=hN2.size
  have hm2:Mod NoB w w3:=(hm1.tr hN2.mod).tr hm3
  have:=qCC (w0:=w) (b:=b) (x:=x) (y:=y) (key:=key) (hg.no hm2) ((hb.drew.no hN2.mod).no hm3) hat hm2 (hox.rd.no hm3) (fun z hz=>by have:=hxb z hz; omega) hoy.rd (fun z hz=>by rcases hyb with h | h <;> rw [h] at hz <;> cases hz; omega) hn end'
  exact this
 ·refine kD qDV u26 uU8 fun y w2 hoy hyl hyb hm2 hs2=>⟨y,rfl,?_,trivial⟩
  refine gJ [6] (by rfl) rfl (by decide) (by decide) fun x e w3 hN3 hx hbx hox=>⟨x,rfl,?_,trivial⟩
  have hxb:=jH hx
  have hs3:w3.heap.size=e+1:=hN3.size
  have hm3:Mod NoB w w3:=(hm1.tr hm2).tr hN3.mod
  have:=qCC (w0:=w) (b:=b) (x:=x) (y:=y) (key:=key) (hg.no hm3) ((hb.drew.no hm2).no hN3.mod) hat hm3 hox.rd (fun z hz=>by have:=hxb z hz; omega) (hoy.rd.no hN3.mod) (fun z hz=>by have:=hN3.at_; rcases hyb with h | h <;> rw [h] at hz <;> cases hz; omega) hn end'
  exact this
theorem qIC {w:World} {b:Option Addr} {n:Int} : Calls prog 118 #[.pointer b,.int .i64 n] w (Ret fun v w'=>∃ p q,v = .func (.func 167) #[] #[.pointer (some ⟨q,0,none⟩),.pointer (some ⟨p,0,none⟩)]∧
 (∃ T,Blk w' p [.pointer b] T)∧(∃ T,Blk w' q [.int .i64 n] T)∧w.heap.size≤p∧w.heap.size≤q∧Mod NoB w w'):=by
 refine qPE _ _ ?_
 unfold qRN
 refine aT (l:=[.pointer b]) rfl fun p w1 hN1 hb1=>⟨_,rfl,?_⟩
 refine aT (l:=[.int .i64 n]) rfl fun q w2 hN2 hb2=>⟨_,rfl,?_⟩
 have h1:=hN1.at_; have h2:=hN2.at_; have h3:=hN1.size
 exact ⟨p,q,rfl,⟨_,hb1.no hN2.mod⟩,⟨_,hb2⟩,by omega,by omega,hN1.mod.tr hN2.mod⟩
theorem jED {w:World} {ll:Nat} {p q:Nat} {db:Addr} {d:List UInt8} {n:Nat} {I:Nat→World→Prop} (hd:d.length=64) (h0:I n w) (hq : ∃ T,Blk w q [.int .i64 (n:Int)] T) (hn:n≤512)
 (hI : ∀ i w1,n≤i→i<512→I i w1→Rd w1 ⟨p,0,none⟩ [.pointer (some db)]∧(∀ j,j<64→Rd w1 (db.add (j*1)) [.int .u8 (d.getD j 0).toNat])∧fF prog ll [.int .u8 (bit d i).toNat] w1 fun v w2=>v = .bool true∧I (i+1) w2) :
 Calls prog 167 #[.func (.yield ll) #[] #[],.pointer (some ⟨q,0,none⟩),.pointer (some ⟨p,0,none⟩)] w (Ret fun v w'=>v = .tuple #[]∧I 512 w'):=by
 refine qNI _ _ _ ?_
 unfold qUD
 obtain ⟨T,hq⟩:=hq
 refine ⟨n,hq.rd1 rfl,?_⟩
 refine ⟨fun l' w'=>match l' with | [.i _ x]=>∃ k:Nat,x=k∧n≤k∧k≤512∧I k w' | _=>False,fun l' _=>match l' with | [.i _ x]=>(512 - x).toNat | _=>0,⟨n,rfl,by omega,hn,h0⟩,?_⟩
 rintro i w1 ⟨k,rfl,hk1,hk2,hI1⟩
 refine aE (fun hlt=>?_) fun hge=>?_
 ·have hk:k<512:=by simp at hlt; omega
  obtain ⟨hr1,hr2,hy⟩:=hI k w1 hk1 hk hI1
  have e1:IntKind.i64.wrap (Int.tdiv (k:Int) 8)=((k / 8:Nat):Int):=by
   rw [show Int.tdiv (k:Int) 8=((k / 8:Nat):Int) from rfl,wrap_i64 (by omega)]
  have e2:IntKind.i64.wrap (7 - Int.tmod (k:Int) 8)=((7 - k % 8:Nat):Int):=by
   rw [show Int.tmod (k:Int) 8=((k % 8:Nat):Int) from rfl,wrap_i64 (by omega)]; omega
  rw [e1,e2]
  refine ⟨some db,hr1,by omega,⟨by omega,by omega⟩,d.getD (k / 8) 0,hr2 _ (by omega),by omega,by omega,?_⟩
  show fF _ _ _ _ _
  simp only [Int.toNat_natCast]
  obtain ⟨f,tmps,assign,body,g1,g2⟩:=hy
  refine ⟨f,tmps,assign,body,g1,RoundIn.mono g2 fun e w2 he=>?_⟩
  obtain ⟨v,rfl,rfl,hI2⟩:=he
  refine ⟨_,rfl,true,rfl,?_⟩
  refine aE (fun e=>by cases e) fun _=>⟨⟨k+1,aS (by omega),by omega,by omega,hI2⟩,?_⟩
  rw [aS (by omega)]; (try simp only []); omega
 ·have:k=512:=by simp at hge; omega
  subst this
  exact ⟨rfl,hI1⟩
theorem sH {w:World} {key:List UInt8} (hg:dM w) (hn:key.length≤800000000) :
 Calls prog 48 #[.string ⟨key.toArray⟩] w (Ret fun v w'=>v = .int .i64 (tZ (dg key))∧Mod NoB w w'):=by
 refine qWW _ ?_
 unfold jEZ
 refine aC (jCM hg hn) ?_
 rintro v w1 ⟨b,rfl,hb,hbk,hm⟩
 refine ⟨_,rfl,⟨by omega,by omega⟩,(dg key).getD 0 0,?_,by omega,rfl,hm⟩
 rw [aK]
 have h64:=qGK key
 have:=rda (n:=0) hbk (qG (l:=dg key) (i:=0) (by omega))
 rw [List.getD_eq_getElem?_getD,List.getElem?_eq_getElem (by omega:0<(dg key).length)]
 simpa using this
theorem oW {w:World} {key:List UInt8} (hg:dM w) (hn:key.length≤800000000) :
 Calls prog 68 #[.string ⟨key.toArray⟩] w (Ret fun v w'=>v = .string ⟨(way (dg key)).toArray⟩∧Mod NoB w w'):=by
 refine qVZ _ ?_
 unfold jAY
 obtain ⟨ib,hb1,hb2,hb3,hb4⟩:=rQ
 refine aO (l:=[.pointer none,.slice none 0 0]) hb1 hb2 (by simp [Value.cells]) fun o w1 hN1 hbo=>⟨_,rfl,?_⟩
 have hat1:=hN1.at_; have hsz1:=hN1.size
 have hB1:BuilderAt w1 o ⟨none,0,0⟩ []:=⟨⟨none,.inl rfl,hbo⟩,.inl ⟨rfl,rfl⟩,by simp⟩
 refine aC (jCM (hg.no hN1.mod) hn) ?_
 rintro v w2 ⟨b,rfl,hbs,hbk,hm2⟩
 refine ⟨_,rfl,?_⟩
 refine aC qIC ?_
 rintro v w3 ⟨p,q,rfl,⟨T1,hp⟩,⟨T2,hq⟩,hps,hqs,hm3⟩
 refine ⟨_,rfl,167,#[],#[.pointer (some ⟨q,0,none⟩),.pointer (some ⟨p,0,none⟩)],rfl,by kernel_rfl,?_⟩
 rintro rec dd ll w4 hdd hll hw4 hY
 have h64:=qGK key
 have hs2:=hm2.size; have hs3:=hm3.size
 have hpl:=hp.lt; have hql:=hq.lt; have hbl:=hbk.lt
 have hM4:Mod NoB w3 w4:=by rw [hw4]; exact (dE _ _).tr (dE _ _)
 have hsz4:w4.heap.size=ll+1:=by rw [hw4]; simp; omega
 have hld4:w4.heap[ll]? = some (rec .ready none):=by
  rw [hw4,hll,hdd]
  have:=heap_alloc_new (w3.alloc (.deferred (some []))) (rec .ready none)
  simpa using this
 have hdd4:w4.heap[dd]? = some (.deferred (some [])):=by
  rw [hw4,hdd,heap_alloc_old _ _ (by simp)]
  exact heap_alloc_new _ _
 let I:Nat→World→Prop:=fun i w'=>w'.heap[ll]? = some (rec .ready none)∧∃ s,BuilderAt w' o s ((fT (dg key) 2 (i - 2)).map (48 + ·))∧(s.blk=none∨∃ x,s.blk=some x∧ll<x)∧Mod (fun x=>x=o∨x=ll) w4 w'
 have hseq:=jED (w:=w4) (ll:=ll) (p:=p) (q:=q) (db:=(⟨b,0,none⟩:Addr).add 0) (d:=dg key) (n:=2) (I:=I) h64
  ⟨hld4,⟨none,0,0⟩,by simpa [fT] using ((hB1.mod hm2 (fun h=>h) fun _ _ h=>h).mod hm3 (fun h=>h) fun _ _ h=>h).mod hM4 (fun h=>h) fun _ _ h=>h,.inl rfl,Mod.refl _ _⟩
  ⟨T2,hq.no hM4⟩ (by omega) (by
   rintro i w5 hi1 hi2 ⟨hl5,s,hB5,hs5,hm5⟩
   have hne : ∀ x,x<w3.heap.size→x≠o→¬ (x=o∨x=ll):=fun x hx hxo e=>by omega
   have hp5:Blk w5 p [.pointer (some ((⟨b,0,none⟩:Addr).add 0))] T1:=(hp.no hM4).mod hm5 (hne p (by omega) (by omega))
   have hb5:Blk w5 b (bys (dg key)) 135:=((hbk.no hm3).no hM4).mod hm5 (hne b (by omega) (by omega))
   refine ⟨hp5.rd1 rfl,fun j hj=>?_,?_⟩
   ·rw [aK,Nat.zero_add,List.getD_eq_getElem?_getD,List.getElem?_eq_getElem (by omega:j<(dg key).length)]
    exact rda hb5 (qG (by omega))
   refine hY _ w5 _ hl5 ⟨hl5,?_⟩
   have hll5:=bC hl5
   obtain ⟨hmp,hgp,hsp⟩:=dH (o:=rec .busy none) hll5
   have hsll : ∀ x,s.blk=some x→x≠ll:=fun x hx=>by rcases hs5 with h | ⟨y,h,hy⟩ <;> rw [h] at hx <;> cases hx; omega
   have hB5':=hB5.mod hmp (by omega) hsll
   refine gJ [bit (dg key) i] (by rfl) rfl (by decide) (by decide) fun x e w6 hN6 hx hbx hox=>⟨x,rfl,?_⟩
   have hat6:=hN6.at_; have hsz6:=hN6.size
   have hxb:=jH hx
   have hB6:=hB5'.mod hN6.mod (fun h=>h) fun _ _ h=>h
   have hs5l:=pG.lt hB5'.row
   refine aC (qZN hB6 hox.rd (fun y hy=>?_) (by simp; omega)) ?_
   ·have:=hxb y hy
    subst this
    refine ⟨by omega,by have:=hB5'.lt; omega,fun hc=>?_⟩
    have:=hs5l _ hc; omega
   rintro v w7 ⟨rfl,s',hB7,hs7,hm7⟩
   refine ⟨rfl,?_⟩
   have hl7:w7.heap[ll]? = some (rec .busy none):=by
    rw [hm7.block ll (by omega) (fun e=>e.elim (by omega) fun e=>hsll ll e rfl),hN6.mod.block ll (by omega) (fun h=>h)]
    exact hgp
   refine ⟨hl7,rfl,?_⟩
   have hll7:=bC hl7
   obtain ⟨hmq,hgq,hsq⟩:=dH (o:=rec .ready none) hll7
   have hs7':s'.blk=none∨∃ x,s'.blk=some x∧ll<x:=by
    rcases hs7 with h | ⟨y,h,hy⟩
    ·rw [h]; exact hs5
    ·exact .inr ⟨y,h,by omega⟩
   refine ⟨hgq,s',?_,hs7',?_⟩
   ·have e:i+1 - 2=(i - 2)+1:=by omega
    rw [e,sG,List.map_append,show 2+(i - 2)=i by omega]
    exact hB7.mod hmq (by have:=hB5'.lt; omega) fun x hx=>by rcases hs7' with h | ⟨y,h,hy⟩ <;> rw [h] at hx <;> cases hx; omega
   ·have m1:Mod (fun x=>x=o∨x=ll) w4 (w5.putObj ll (rec .busy none)):=hm5.tr (hmp.mono fun x _ e=>.inr e)
    have m2:=m1.no' hN6.mod
    have m3:Mod (fun x=>x=o∨x=ll) w4 w7:=m2.trans hm7 (fun _ _ h=>h) fun x hx e=>by
     rcases e with e | e
     ·exact .inl e
     ·rcases hs5 with h | ⟨y,h,hy⟩
      ·rw [h] at e; cases e
      ·rw [h] at e; cases e; omega
    exact m3.tr (hmq.mono fun x _ e=>.inr e))
 refine jA hseq ?_ (fun _ _ h=>h.elim) (fun _ h=>h)
 rintro v w5 ⟨rfl,hl5,s,hB5,hs5,hm5⟩
 left
 refine ⟨hl5,?_⟩
 have hll5:=bC hl5
 obtain ⟨hmp,hgp,hsp⟩:=dH (o:=rec .exhausted none) hll5
 have hsll : ∀ x,s.blk=some x→ll<x:=fun x hx=>by rcases hs5 with h | ⟨y,h,hy⟩ <;> rw [h] at hx <;> cases hx; omega
 have hB6:=hB5.mod hmp (by omega) fun x hx=>by have:=hsll x hx; omega
 refine jA (qFP hB6 (by simp)) ?_ (fun _ _ h=>h.elim) (fun _ h=>h)
 rintro v w7 ⟨rfl,hm7⟩
 refine ⟨_,rfl,?_,rfl,?_⟩
 ·rw [hm7.block dd (by omega) (fun e=>by have:=hsll _ e; omega),hmp.block dd (by omega) (by omega),hm5.block dd (by omega) (by omega)]
  exact hdd4
 ·have hdd7:dd<w7.heap.size:=by have:=hm7.size; omega
  obtain ⟨hmd,-,-⟩:=dH (w:=w7) (o:=.deferred none) hdd7
  have m0:Mod NoB w w4:=((hN1.mod.tr hm2).tr hm3).tr hM4
  have m1:=m0.fresh hm5 fun x e=>by omega
  have m2:=m1.fresh hmp fun x e=>by omega
  have m3:=m2.fresh hm7 fun x e=>by have:=hsll x e; omega
  exact m3.fresh hmd fun x e=>by omega
theorem rV (l:List Rc) : ∃ l':List Rc,l'.Perm l∧l'.Pairwise (fun a b=>¬ ltS b a):=by
 classical
 refine ⟨l.mergeSort (fun a b=>decide (¬ ltS b a)),List.mergeSort_perm _ _,?_⟩
 have:=List.pairwise_mergeSort (le:=fun a b:Rc=>decide (¬ ltS b a)) (fun a b c h1 h2=>by
  simp only [decide_eq_true_eq] at *
  exact qBW h2 h1) (fun a b=>by
  simp only [Bool.or_eq_true,decide_eq_true_eq]
  rcases Classical.em (ltS b a) with h | h
  ·exact .inr fun h'=>zT _ (qFQ h h')
  ·exact .inl h) l
 exact this.imp fun h=>by simpa using h
theorem vX {l:List Rc} (hr : ∀ r∈l,r.right=true) : ∃ c,jR l c:=by
 obtain ⟨l',h1,h2⟩:=rV l
 exact ⟨_,wM (qT h2 fun r h=>hr r (h1.mem_iff.1 h)) fun r=>h1.mem_iff⟩
structure fS (l:List Rc):Prop where
 same : ∀ a∈l,∀ b∈l,a.key=b.key→a.cl=b.cl→a.sq=b.sq→a=b
 asym : ∀ a∈l,∀ b∈l,a.over b=true→b.over a=false
 trans : ∀ a∈l,∀ b∈l,∀ c∈l,a.over b=true→b.over c=true→a.over c=true
theorem fS.sub {l m:List Rc} (h:fS l) (hs : ∀ r∈m,r∈l):fS m:=
 ⟨fun a ha b hb=>h.same a (hs a ha) b (hs b hb),fun a ha b hb=>h.asym a (hs a ha) b (hs b hb),fun a ha b hb c hc=>h.trans a (hs a ha) b (hs b hb) c (hs c hc)⟩
theorem fS.irr {l:List Rc} (h:fS l) {a:Rc} (ha:a∈l):a.over a=false:=by
 cases e:a.over a with
 | false=>rfl
 | true=>have:=h.asym a ha a ha e; rw [e] at this; cases this
theorem fS.max {l:List Rc} (h:fS l) : ∀ (n:Nat) {y:Rc},y∈l→(l.filter fun z=>z.over y).length≤n→∃ z∈l,(z=y∨z.over y=true)∧∀ x∈l,x.over z=false
 | 0,y,hy,hn=>⟨y,hy,.inl rfl,fun x hx=>by
   cases e:x.over y with
   | false=>rfl
   | true=>
     have:x∈l.filter fun z=>z.over y:=List.mem_filter.2 ⟨hx,e⟩
     rw [List.eq_nil_of_length_eq_zero (by omega:(l.filter fun z=>z.over y).length=0)] at this
     cases this⟩
 | n+1,y,hy,hn=>by
   by_cases hm : ∀ x∈l,x.over y=false
   ·exact ⟨y,hy,.inl rfl,hm⟩
   ·obtain ⟨w,hw,hwy⟩ : ∃ w∈l,w.over y=true:=by
     apply Classical.byContradiction
     intro hn
     refine hm fun x hx=>?_
     cases e:x.over y with
     | false=>rfl
     | true=>exact absurd ⟨x,hx,e⟩ hn
    have hlt:(l.filter fun z=>z.over w).length<(l.filter fun z=>z.over y).length:=by
     have e:(l.filter fun z=>z.over w)=(l.filter fun z=>z.over y).filter fun z=>z.over w:=by
      rw [List.filter_filter]
      apply List.filter_congr
      intro z hz
      cases e:z.over w with
      | false=>rfl
      | true=>simp [h.trans z hz w hw y hy e hwy]
     rw [e]
     refine List.length_filter_lt_length_iff_exists.2 ⟨w,List.mem_filter.2 ⟨hw,hwy⟩,?_⟩
     simp [h.irr hw]
    obtain ⟨z,hz,h1,h2⟩:=h.max n hw (by omega)
    refine ⟨z,hz,.inr ?_,h2⟩
    rcases h1 with rfl | h1
    ·exact hwy
    ·exact h.trans z hz w hw y hy h1 hwy
theorem fS.max' {l:List Rc} (h:fS l) {y:Rc} (hy:y∈l) : ∃ z∈l,(z=y∨z.over y=true)∧∀ x∈l,x.over z=false:=h.max _ hy (Nat.le_refl _)
structure gS (X s:List Rc):Prop where
 pw:s.Pairwise dX
 mem : ∀ r,r∈s↔r∈X∧∀ y∈X,y.over r=false
theorem gS.uniq {X Y s t:List Rc} (h:gS X s) (h':gS Y t) (hs : ∀ r,(r∈X∧∀ y∈X,y.over r=false)↔(r∈Y∧∀ y∈Y,y.over r=false)):s=t:=
 jZ jI xB h.pw h'.pw fun x=>by rw [h.mem,h'.mem,hs]
theorem qF {X c:List Rc} (hX:fS X) (hk : ∀ a∈X,∀ b∈X,a.key=b.key) (hc:jR X c):gS X (iR c):=by
 have hm : ∀ r,r∈c↔r∈X:=fun r=>by
  rw [hc.mem]
  refine ⟨fun h=>h.1,fun h=>⟨h,fun r' hr' h1 h2=>?_⟩⟩
  rw [hX.same r' hr' r h (hk r' hr' r h) h1 h2]
  exact List.lt_irrefl _
 refine ⟨hc.pw.sublist List.filter_sublist,fun r=>?_⟩
 simp only [iR,List.mem_filter,hm,Bool.not_eq_true',List.any_eq_false]
 refine and_congr_right fun hr=>⟨fun h y hy=>?_,fun h y hy=>by simp [h y hy]⟩
 have:=h y hy
 cases e:y.over r with
 | false=>rfl
 | true=>
   by_cases hd:r.cl=y.cl∧r.sq=y.sq
   ·have:=hX.same r hr y hy (hk r hr y hy) hd.1 hd.2
    subst this
    rw [hX.irr hr] at e; cases e
   ·simp [e,hd] at this
theorem kB {X s:List Rc} (hX:fS X) (hk : ∀ a∈X,∀ b∈X,a.key=b.key) (hr : ∀ r∈X,r.right=true):bY X s↔gS X s:=by
 constructor
 ·rintro ⟨c,hc,rfl⟩
  exact qF hX hk hc
 ·intro h
  obtain ⟨c,hc⟩:=vX hr
  exact ⟨c,hc,h.uniq (qF hX hk hc) fun r=>Iff.rfl⟩
def dP (l:List Rc):List Rc:=l.filter fun r=>r.right
theorem dW {l:List Rc} {k:List UInt8} {r:Rc} : r∈bJ l k↔r∈dP l∧r.key=k:=by
 simp [bJ,dP,and_assoc]
theorem nQ {l:List Rc} (h:fS (dP l)) (k:List UInt8):fS (bJ l k):=h.sub fun r hr=>(dW.1 hr).1
theorem iC {l:List Rc} {k:List UInt8} : ∀ a∈bJ l k,∀ b∈bJ l k,a.key=b.key:=fun a ha b hb=>by rw [(dW.1 ha).2,(dW.1 hb).2]
theorem fN {l:List Rc} {k:List UInt8} : ∀ a∈bJ l k,a.right=true:=fun a ha=>(List.mem_filter.1 (dW.1 ha).1).2
def jAR (shard:Int) (w:World) (R:RW):Prop:=
 ∃ j:List TV→World→Prop,(aH (decide (shard<(0:Int))) (j [.b true] w) (j [.b (decide (shard≥(4:Int)))] w))∧(∀ x:Bool,∀ w1:World,j [.b x] w1→aH x (R (.returned (.pointer none)) w1) (aI prog (Instr.makeMap 74 none) w1 fun v w2=>∃ x1:Option Nat,v=(.map x1)∧aI prog (Instr.box 79 (.agg #[.slice none 0 0,.slice none 0 0,.int .i64 shard,.map x1])) w2 fun v1 w3=>∃ x2:Option Addr,v1=(.pointer x2)∧R (.returned (.pointer x2)) w3))
theorem qYO (shard:Int) {w:World} {R:RW} (hden:jAR shard w R):Calls prog 23 #[.int .i64 shard] w R:=
 aB (q0 .z (q0 (.seq (some [(8,.b)]) .z (.cond (q0 .z .z) .z)) (q0 .z .z))) func23 (by kernel_rfl) [.i .i64 shard] (by kernel_rfl) (by kernel_rfl) hden
def jEL (t:Option Addr) (w:World) (R:RW):Prop:=
 aU prog (do eqGuard .neq 47 (.tmp 3) (.const (.pointer none)) (.pointer t) (.pointer none); binOp .neq 47 (.pointer t) (.pointer none)) fun v=>∃ x:Bool,v=(.bool x)∧aH x (aA t fun a=>∃ x1:Option Nat,Rd w (a.add 3) [.map x1]∧aU prog (do eqGuard .neq 74 (.tmp 9) (.const (.map none)) (.map x1) (.map none); binOp .neq 74 (.map x1) (.map none)) fun v1=>∃ x2:Bool,v1=(.bool x2)∧R (.returned (.bool x2)) w) (R (.returned (.bool false)) w)
theorem qYD (t:Option Addr) {w:World} {R:RW} (hden:jEL t w R):Calls prog 49 #[.pointer t] w R:=
 aB (q0 .z (q0 .z .z)) func49 (by kernel_rfl) [.p t] (by kernel_rfl) (by kernel_rfl) hden
def jAG (t:Option Addr) (w:World) (R:RW):Prop:=
 aD prog 49 [.pointer t] w (aG R) fun v w1=>∃ x:Bool,v=(.bool x)∧aH (!x) (R (.returned (.pointer none)) w1) (aA t fun a=>∃ x1:Int,Rd w1 (a.add 2) [.int .i64 x1]∧aD prog 23 [.int .i64 x1] w1 (aG R) fun v1 w2=>∃ x2:Option Addr,v1=(.pointer x2)∧∃ sx:World→Prop,sx w2.drew∧aA t fun a1=>∃ x3:Slc,(∀ w',sx w'→Rd w' ((a1.add 0).add 1) [zS x3])∧((aD prog 33 [.pointer t] w2.drew (aG R) fun v2 w3=>∃ x4:Slc,v2=(zS x4)∧(sx w3∧((aD prog 58 [zS x3] w3 (aG R) fun v3 w4=>∃ x5:Slc,v3=(zS x5)∧aA x2 fun a2=>((aJ prog (storeVar 77 (a2.add 0) (.agg #[zS x4,zS x5])) w4 fun w5=>aA t fun a3=>∃ x6:Option Nat,Rd w5 (a3.add 3) [.map x6]∧aI prog (Instr.range 74 (.map x6)) w5 fun v4 w6=>∃ x7:Option Addr,v4=(.pointer x7)∧∃ (inv:List TV→World→Prop) (mu:List TV→World→Nat),inv [] w6∧(∀ w7:World,inv [] w7→aI prog (Instr.next (.pointer x7) false 0) w7 fun v5 w8=>∃ x8:Value,v5=x8∧∃ vs:Array Value,x8 = .tuple vs∧∃ x9:Bool,vs[0]? = some (.bool x9)∧aH x9 (aI prog (Instr.entry (.pointer x7)) w8 fun v6 w9=>∃ x10:Value,v6=x10∧∃ vs1:Array Value,x10 = .tuple vs1∧∃ x11:List UInt8,vs1[0]? = some (.string ⟨x11.toArray⟩)∧∃ vs2:Array Value,x10 = .tuple vs2∧∃ x12:Slc,vs2[1]? = some (zS x12)∧aA x2 fun a4=>∃ x13:Option Nat,Rd w9 (a4.add 3) [.map x13]∧aJ prog (Instr.mapUpdate 74 (.map x13) (.string ⟨x11.toArray⟩) (zS x12)) w9 fun w10=>(inv [] w10∧mu [] w10<mu [] w7)) (R (.returned (.pointer x2)) w8)))∧True))∧True)))∧True))
theorem qVK (t:Option Addr) {w:World} {R:RW} (hden:jAG t w R):Calls prog 41 #[.pointer t] w R:=
 aB (q0 .z (q0 (q0 .z (.cond (q0 .z .z) .z)) (q0 .z (q0 (.draw 1 (.take 0 (.take 1 (.take 3 (.take 4 (.take 5 (.take 6 (.take 7 (.all [(2,(.all [(8,(.take 9 (.take 10 (.take 11 (.all [(12,.done)])))))]))]))))))))) (q0 (q0 .z (.block none (.loop [] (q0 .z (q0 (.cond .z .z) (.block none (q0 .z .z))))))) (q0 .z .z)))))) func41 (by kernel_rfl) [.p t] (by kernel_rfl) (by kernel_rfl) hden
def jAJ (t:Option Addr) (w:World) (R:RW):Prop:=
 aD prog 49 [.pointer t] w (aG R) fun v w1=>∃ x:Bool,v=(.bool x)∧aH (!x) (R (.returned (.slice none 0 0)) w1) (aA t fun a=>∃ x1:Slc,Rd w1 ((a.add 0).add 0) [zS x1]∧∃ (inv:List TV→World→Prop) (mu:List TV→World→Nat),inv [.sl ⟨none,0,0⟩,.i .i64 (0:Int)] w1∧(∀ out:Slc,∀ x2:Int,∀ w2:World,inv [.sl out,.i .i64 x2] w2→aH (decide (x2<(x1.len:Int))) (((0≤x2∧x2<(x1.len:Nat))∧aA x1.a fun a1=>∃ xa:List UInt8,∃ xb:Slc,Rd w2 (a1.add (x2.toNat*2)) [.string ⟨xa.toArray⟩,zS xb]∧aI prog (Instr.alloc 65 true (.tuple #[])) w2 fun v1 w3=>∃ l:Option Addr,v1=(.pointer l)∧aA l fun a2=>aJ prog (storeVar 65 a2 (.agg #[.string ⟨xa.toArray⟩,zS xb])) w3 fun w4=>∃ sx:World→Prop,sx w4.drew∧aA l fun a3=>aA l fun a4=>∃ x3:List UInt8,(∀ w',sx w'→Rd w' (a3.add 0) [.string ⟨x3.toArray⟩])∧∃ x4:Slc,(∀ w',sx w'→Rd w' (a4.add 1) [zS x4])∧((aD prog 51 [zS x4] w4.drew (aG R) fun v2 w5=>∃ x5:Slc,v2=(zS x5)∧(sx w5∧((aI prog (Instr.buildSlice 42 1 #[(0,(.agg #[.string ⟨x3.toArray⟩,zS x5]))]) w5 fun v3 w6=>∃ x6:Slc,v3=(zS x6)∧(sx w6∧((aI prog (Builtin.append_ #[42,42] 42 #[zS out,zS x6]) w6 fun v4 w7=>∃ x7:Slc,v4=(zS x7)∧(sx w7∧(inv [.sl x7,.i .i64 (IntKind.i64.wrap (x2+(1:Int)))] w7∧mu [.sl x7,.i .i64 (IntKind.i64.wrap (x2+(1:Int)))] w7<mu [.sl out,.i .i64 x2] w2)))∧True)))∧True)))∧True))) (R (.returned (zS out)) w2)))
theorem qXO (t:Option Addr) {w:World} {R:RW} (hden:jAJ t w R):Calls prog 33 #[.pointer t] w R:=
 aB (q0 .z (q0 (q0 .z (.cond (q0 .z .z) .z)) (q0 .z (q0 (q0 .z (.block none (.loop [(3,.sl),(15,(.i .i64))] (q0 .z (q0 (.cond .z .z) (q0 (.block none (q0 .z (.draw 1 (.take 0 (.take 1 (.take 3 (.take 2 (.take 4 (.all [(5,(.take 6 (.all [(7,(.all [(8,(.take 9 .done))]))])))]))))))))) .z)))))) (q0 .z .z))))) func33 (by kernel_rfl) [.p t] (by kernel_rfl) (by kernel_rfl) hden
def jDP (set:Slc) (w:World) (R:RW):Prop:=
 aI prog (Instr.buildSlice 99 1 #[(0,(zS set))]) w fun v w1=>∃ x:Slc,v=(zS x)∧aD prog 42 [zS x] w1 (aG R) fun v1 w2=>∃ xa:Slc,∃ xb:Int,v1=(.tuple #[zS xa,.int .i64 xb])∧R (.returned (zS xa)) w2
theorem qYU (set:Slc) {w:World} {R:RW} (hden:jDP set w R):Calls prog 51 #[zS set] w R:=
 aB (q0 .z (q0 .z (q0 .z .z))) func51 (by kernel_rfl) [.sl set] (by kernel_rfl) (by kernel_rfl) hden
def jEX (t:Option Addr) (key:List UInt8) (w:World) (R:RW):Prop:=
 aD prog 49 [.pointer t] w (aG R) fun v w1=>∃ x:Bool,v=(.bool x)∧aH (!x) (R (.returned (.slice none 0 0)) w1) (aA t fun a=>aD prog 50 [.pointer (some (a.add 0)),.string ⟨key.toArray⟩] w1 (aG R) fun v1 w2=>∃ xa:Int,∃ xb:Bool,v1=(.tuple #[.int .i64 xa,.bool xb])∧aH xb (aA t fun a1=>∃ x1:Slc,Rd w2 ((a1.add 0).add 0) [zS x1]∧((0≤xa∧xa<(x1.len:Nat))∧aA x1.a fun a2=>∃ x2:Slc,Rd w2 ((a2.add (xa.toNat*2)).add 1) [zS x2]∧aD prog 51 [zS x2] w2 (aG R) fun v2 w3=>∃ x3:Slc,v2=(zS x3)∧R (.returned (zS x3)) w3)) (R (.returned (.slice none 0 0)) w2))
theorem qUM (t:Option Addr) (key:List UInt8) {w:World} {R:RW} (hden:jEX t key w R):Calls prog 30 #[.pointer t,.string ⟨key.toArray⟩] w R:=
 aB (q0 .z (q0 (q0 .z (.cond (q0 .z .z) .z)) (q0 (q0 .z (q0 .z (.cond (q0 .z .z) .z))) (q0 .z .z)))) func30 (by kernel_rfl) [.p t,.s key] (by kernel_rfl) (by kernel_rfl) hden
def jEQ (r:Option Addr) (key:List UInt8) (w:World) (R:RW):Prop:=
 aA r fun a=>∃ x:Slc,Rd w (a.add 0) [zS x]∧aD prog 85 [zS x,.string ⟨key.toArray⟩,.func (.func 86) #[] #[]] w (aG R) fun v w1=>∃ xa:Int,∃ xb:Bool,v=(.tuple #[.int .i64 xa,.bool xb])∧R (.returned (.tuple #[.int .i64 xa,.bool xb])) w1
theorem qZP (r:Option Addr) (key:List UInt8) {w:World} {R:RW} (hden:jEQ r key w R):Calls prog 50 #[.pointer r,.string ⟨key.toArray⟩] w R:=
 aB (q0 .z (q0 .z .z)) func50 (by kernel_rfl) [.p r,.s key] (by kernel_rfl) (by kernel_rfl) hden
def jDY (la:List UInt8) (lb:Slc) (k:List UInt8) (w:World) (R:RW):Prop:=
 aI prog (Instr.box 65 (.agg #[.string ⟨la.toArray⟩,zS lb])) w fun v w1=>∃ l:Option Addr,v=(.pointer l)∧aA l fun a=>∃ x:List UInt8,Rd w1 (a.add 0) [.string ⟨x.toArray⟩]∧aD prog 36 [.string ⟨x.toArray⟩,.string ⟨k.toArray⟩] w1 (aG R) fun v1 w2=>∃ x1:Int,v1=(.int .i64 x1)∧R (.returned (.int .i64 x1)) w2
theorem qYC (la:List UInt8) (lb:Slc) (k:List UInt8) {w:World} {R:RW} (hden:jDY la lb k w R):Calls prog 86 #[.agg #[.string ⟨la.toArray⟩,zS lb],.string ⟨k.toArray⟩] w R:=
 aB (q0 .z (q0 .z .z)) func86 (by kernel_rfl) [.agg [.s la,.sl lb],.s k] (by kernel_rfl) (by kernel_rfl) hden
def jEO (x:Slc) (target:List UInt8) (cmp:Value) (w:World) (R:RW):Prop:=
 ∃ (inv:List TV→World→Prop) (mu:List TV→World→Nat),inv [.i .i64 (0:Int),.i .i64 (x.len:Int)] w∧(∀ i j:Int,∀ w1:World,inv [.i .i64 i,.i .i64 j] w1→aH (decide (i<j)) ((0≤(((1:UInt64)).toNat:Int)∧((0≤(IntKind.i64.wrap (((aM (aN (IntKind.i64.wrap (i+j))) ((((1:UInt64)).toNat:Int)).toNat)).toNat:Int))∧(IntKind.i64.wrap (((aM (aN (IntKind.i64.wrap (i+j))) ((((1:UInt64)).toNat:Int)).toNat)).toNat:Int))<(x.len:Nat))∧aA x.a fun a=>∃ xa:List UInt8,∃ xb:Slc,Rd w1 (a.add (((IntKind.i64.wrap (((aM (aN (IntKind.i64.wrap (i+j))) ((((1:UInt64)).toNat:Int)).toNat)).toNat:Int))).toNat*2)) [.string ⟨xa.toArray⟩,zS xb]∧dL prog cmp [.agg #[.string ⟨xa.toArray⟩,zS xb],.string ⟨target.toArray⟩] w1 (aG R) fun v w2=>∃ x1:Int,v=(.int .i64 x1)∧aH (decide (x1<(0:Int))) ((inv [.i .i64 (IntKind.i64.wrap ((IntKind.i64.wrap (((aM (aN (IntKind.i64.wrap (i+j))) ((((1:UInt64)).toNat:Int)).toNat)).toNat:Int))+(1:Int))),.i .i64 j] w2∧mu [.i .i64 (IntKind.i64.wrap ((IntKind.i64.wrap (((aM (aN (IntKind.i64.wrap (i+j))) ((((1:UInt64)).toNat:Int)).toNat)).toNat:Int))+(1:Int))),.i .i64 j] w2<mu [.i .i64 i,.i .i64 j] w1)) ((inv [.i .i64 i,.i .i64 (IntKind.i64.wrap (((aM (aN (IntKind.i64.wrap (i+j))) ((((1:UInt64)).toNat:Int)).toNat)).toNat:Int))] w2∧mu [.i .i64 i,.i .i64 (IntKind.i64.wrap (((aM (aN (IntKind.i64.wrap (i+j))) ((((1:UInt64)).toNat:Int)).toNat)).toNat:Int))] w2<mu [.i .i64 i,.i .i64 j] w1))))) (aH (decide (i<(x.len:Int))) (((0≤i∧i<(x.len:Nat))∧aA x.a fun a1=>∃ xa1:List UInt8,∃ xb1:Slc,Rd w1 (a1.add (i.toNat*2)) [.string ⟨xa1.toArray⟩,zS xb1]∧dL prog cmp [.agg #[.string ⟨xa1.toArray⟩,zS xb1],.string ⟨target.toArray⟩] w1 (aG R) fun v1 w3=>∃ x2:Int,v1=(.int .i64 x2)∧R (.returned (.tuple #[.int .i64 i,.bool (x2==(0:Int))])) w3)) (R (.returned (.tuple #[.int .i64 i,.bool false])) w1)))
theorem qYJ (x:Slc) (target:List UInt8) (cmp:Value) {w:World} {R:RW} (hden:jEO x target cmp w R):Calls prog 85 #[zS x,.string ⟨target.toArray⟩,cmp] w R:=
 aB (q0 .z (q0 .z (q0 .z (q0 (.block none (.loop [(9,(.i .i64)),(10,(.i .i64))] (q0 (q0 .z (.cond .z .z)) (.block none (q0 .z (q0 .z (.cond .z .z))))))) (q0 .z .z))))) func85 (by kernel_rfl) [.sl x,.s target,.v cmp] (by kernel_rfl) (by kernel_rfl) hden
def jFD (key:List UInt8) (w:World) (R:RW):Prop:=
 aH (decide ((key.length:Int)≥(1:Int))) (R (.returned (.bool (decide ((key.length:Int)≤(64:Int))))) w) (R (.returned (.bool false)) w)
theorem qYR (key:List UInt8) {w:World} {R:RW} (hden:jFD key w R):Calls prog 64 #[.string ⟨key.toArray⟩] w R:=
 aB (q0 .z (q0 .z .z)) func64 (by kernel_rfl) [.s key] (by kernel_rfl) (by kernel_rfl) hden
def jAV (key:List UInt8) (set:Slc) (w:World) (R:RW):Prop:=
 aD prog 112 [zS set] w (aG R) fun v w1=>∃ x:Bool,v=(.bool x)∧aH x (aH ((set.len:Int)==(0:Int)) (R (.returned (.bool true)) w1) (((0≤(0:Int)∧(0:Int)<(set.len:Nat))∧aA set.a fun a=>∃ x1:List UInt8,Rd w1 ((a.add (((0:Int)).toNat*7)).add 0) [.string ⟨x1.toArray⟩]∧R (.returned (.bool (x1==key))) w1))) (R (.returned (.bool false)) w1)
theorem qVI (key:List UInt8) (set:Slc) {w:World} {R:RW} (hden:jAV key set w R):Calls prog 65 #[.string ⟨key.toArray⟩,zS set] w R:=
 aB (q0 .z (q0 .z .z)) func65 (by kernel_rfl) [.s key,.sl set] (by kernel_rfl) (by kernel_rfl) hden
def jDU (a b:List UInt8) (w:World) (R:RW):Prop:=
 aD prog 55 [.string ⟨a.toArray⟩,.string ⟨b.toArray⟩] w (aG R) fun v w1=>∃ x:Int,v=(.int .i64 x)∧R (.returned (.int .i64 x)) w1
theorem qYY (a b:List UInt8) {w:World} {R:RW} (hden:jDU a b w R):Calls prog 36 #[.string ⟨a.toArray⟩,.string ⟨b.toArray⟩] w R:=
 aB (q0 .z (q0 .z .z)) func36 (by kernel_rfl) [.s a,.s b] (by kernel_rfl) (by kernel_rfl) hden
def jDD (a b:List UInt8) (w:World) (R:RW):Prop:=
 ∃ v w1,(callFunc 98 #[.string ⟨a.toArray⟩,.string ⟨b.toArray⟩]).run prog w = .ok (.value v) w1∧∃ x:Int,v=(.int .i64 x)∧R (.returned (.int .i64 x)) w1
theorem qUR (a b:List UInt8) {w:World} {R:RW} (hden:jDD a b w R):Calls prog 55 #[.string ⟨a.toArray⟩,.string ⟨b.toArray⟩] w R:=
 aB (q0 .z (q0 .z .z)) func55 (by kernel_rfl) [.s a,.s b] (by kernel_rfl) (by kernel_rfl) hden
def jEJ (s:Slc) (w:World) (R:RW):Prop:=
 aU prog (do eqGuard .eql 75 (.tmp 3) (.const (.slice none 0 0)) (zS s) (.slice none 0 0); binOp .eql 75 (zS s) (.slice none 0 0)) fun v=>∃ x:Bool,v=(.bool x)∧aH x (R (.returned (.slice none 0 0)) w) (aI prog (Instr.buildSlice 75 0 #[]) w fun v1 w1=>∃ x1:Slc,v1=(zS x1)∧aI prog (Builtin.append_ #[75,75] 75 #[zS x1,zS s]) w1 fun v2 w2=>∃ x2:Slc,v2=(zS x2)∧R (.returned (zS x2)) w2)
theorem qZV (s:Slc) {w:World} {R:RW} (hden:jEJ s w R):Calls prog 58 #[zS s] w R:=
 aB (q0 .z (q0 (q0 .z (.cond (q0 .z .z) .z)) (q0 .z .z))) func58 (by kernel_rfl) [.sl s] (by kernel_rfl) (by kernel_rfl) hden
end Go.Proofs.YtahjmeegfkfokaaGreatDoor
end
section
namespace Go.Proofs.YtahjmeegfkfokaaGreatDoor
open Go Go.Sh Go.MapKept
open Go.Proofs.Tryz
theorem oZ {X s:List Rc} (h:bY X s):bY s s:=by
 obtain ⟨c,hc,rfl⟩:=h
 have hsub : ∀ r,r∈iR c→r∈c:=fun r hr=>(List.mem_filter.1 hr).1
 refine ⟨iR c,⟨hc.pw.sublist List.filter_sublist,fun r=>⟨fun hr=>⟨hr,fun r' hr' h1 h2=>?_⟩,fun h=>h.1⟩⟩,?_⟩
 ·exact ((hc.mem r).1 (hsub r hr)).2 r' ((hc.mem r').1 (hsub r' hr')).1 h1 h2
 ·have : ∀ x∈iR c,(!(iR c).any fun y=>!decide (x.cl=y.cl∧x.sq=y.sq)&&y.over x)=true:=by
   intro x hx
   have h1:=(List.mem_filter.1 hx).2
   simp only [Bool.not_eq_true',List.any_eq_false] at h1 ⊢
   exact fun y hy=>h1 y (hsub y hy)
  exact (List.filter_eq_self.2 this).symm
section
variable {w:World}
theorem qWT {key:List UInt8} : Calls prog 64 #[.string ⟨key.toArray⟩] w (Ret fun v w'=>v = .bool (decide (1≤key.length)&&decide (key.length≤64))∧w'=w):=by
 refine qYR _ ?_
 unfold jFD
 refine aE (fun h=>⟨congrArg Value.bool ?_,rfl⟩) fun h=>⟨congrArg Value.bool ?_,rfl⟩
 ·have h:1≤key.length:=by have:=of_decide_eq_true h; omega
  rw [decide_eq_true h,Bool.true_and]
  exact decide_eq_decide.2 (by omega)
 ·have h : ¬ 1≤key.length:=by have:=of_decide_eq_false h; omega
  rw [decide_eq_false h]; rfl
theorem vP {a b:List UInt8} : Calls prog 36 #[.string ⟨a.toArray⟩,.string ⟨b.toArray⟩] w (Ret fun v w'=>v = .int .i64 (Lib.compareBytes a b)∧w'=w):=by
 refine qYY _ _ ?_
 unfold jDU
 have hc:Calls prog 55 #[.string ⟨a.toArray⟩,.string ⟨b.toArray⟩] w (Ret fun v w'=>v = .int .i64 (Lib.compareBytes a b)∧w'=w):=by
  refine qUR _ _ ?_
  unfold jDD
  refine ⟨.int .i64 (Lib.compareBytes a b),w,?_,_,rfl,rfl,rfl⟩
  rw [run_callFunc_extern func98 (by kernel_rfl) (by kernel_rfl) (by kernel_rfl) (e:=Extern.BytealgCompare.compare) (by kernel_rfl)]
  rw [Lib.run_compareString]; rfl
 refine aC hc ?_
 rintro v w1 ⟨rfl,rfl⟩
 exact ⟨_,rfl,rfl,rfl⟩
def jB (lv wy:Slc) (k:Int) (mb:Nat):List Value:=[lv.val,wy.val,.int .i64 k,.map (some mb)]
theorem qFI {k:Int} (hk:0≤k∧k<4):Calls prog 23 #[.int .i64 k] w (Ret fun v w'=>∃ p mb,v = .pointer (some ⟨p,0,none⟩)∧Blk w' p (jB ⟨none,0,0⟩ ⟨none,0,0⟩ k mb) 79∧rZ .string w' mb [] 0∧w.heap.size≤p∧w.heap.size≤mb∧p≠mb∧Mod NoB w w'):=by
 refine qYO _ ?_
 unfold jAR
 refine ⟨fun l' w'=>match l' with | [.b t]=>t=false∧w'=w | _=>False,aE (fun h=>by have:=of_decide_eq_true h; omega) (fun _=>⟨decide_eq_false (by omega),rfl⟩),?_⟩
 rintro x w1 ⟨rfl,rfl⟩
 refine aE (fun h=>by cases h) fun _=>?_
 refine wN (d:=.string) fun mb w2 e1 e2 hM hm=>⟨some mb,rfl,?_⟩
 refine aT (l:=jB ⟨none,0,0⟩ ⟨none,0,0⟩ k mb) rfl fun p w3 hN hb=>⟨_,rfl,p,mb,rfl,hb,hM.mod hN.mod fun h=>h,?_,by omega,?_,hm.tr hN.mod⟩
 ·have:=hN.at_; omega
 ·have:=hN.at_; omega
theorem nT {p mb:Nat} {lv wy:Slc} {k:Int} {T:TypeId} (hb:Blk w p (jB lv wy k mb) T):Calls prog 49 #[.pointer (some ⟨p,0,none⟩)] w (Ret fun v w'=>v = .bool true∧w'=w):=by
 refine qYD _ ?_
 unfold jEL
 refine jX (e:=79) (by kernel_rfl) ⟨_,rfl,aE (fun _=>?_) fun h=>by cases h⟩
 refine ⟨some mb,by rw [aK]; exact hb.rd1 rfl,?_⟩
 exact zD (k:=9) (e:=28) (by kernel_rfl) ⟨_,rfl,rfl,rfl⟩
theorem zE {s:Slc} {rs:List Rc} {K:List UInt8} (hR:bT w.heap.size w s rs) (hJ:bY rs rs) (hK : ∀ r∈rs,r.right=true∧r.key=K) (hn:rs.length≤100000) :
 Calls prog 51 #[.slice s.a s.len s.cap] w (Ret fun v w'=>∃ x,v=x.val∧iA w.heap.size w' x rs∧Mod NoB w w'):=by
 refine qYU _ ?_
 unfold jDP
 obtain ⟨is,hs1,hs2,hs3,hs4⟩:=qVT
 refine bZ [s.val] (l:=[s.val]) qTO hs1 hs2 hs3 (by omega) rfl (by omega) (by omega) rfl (by intro v hv; simp at hv; subst hv; rfl) (by simp [Value.cells,Slc.val]) fun b w1 hN hb=>⟨⟨some ⟨b,0,none⟩,1,1⟩,rfl,?_⟩
 have hS:kL w1.heap.size w1 ⟨some ⟨b,0,none⟩,1,1⟩ [rs]:=⟨[s],(aX (n:=1) (k:=1) hb rfl).rd,fun z hz=>by rw [Slc.blk_mk,if_neg (by omega)] at hz; cases hz; exact hb.lt,rfl,fun i a c=>by
  match i,a with
  | 0,_=>exact (hR.mod (hN.mod.mono fun _ _ h=>h.elim)).le hN.mod.size⟩
 refine aC (qFR (ls:=[rs]) hS (K:=K) (fun l hl r hr=>by simp at hl; subst hl; exact hK r hr) (by simpa using hn) (by simp)) ?_
 rintro v w2 ⟨out,rs',rfl,hJ',hS',hm⟩
 have:rs'=rs:=hJ'.uniq hJ fun r=>by simp
 subst this
 exact ⟨out,0,rfl,out,rfl,hS'.le hN.mod.size,hN.mod.tr hm⟩
end
theorem jCV {i j:Nat} (h:i+j<4611686018427387904):IntKind.i64.wrap ((aM (aN (IntKind.i64.wrap ((i:Int)+(j:Int)))) ((((1:UInt64)).toNat:Int)).toNat).toNat:Int)=(((i+j) / 2:Nat):Int):=by
 rw [wrap_i64 (e:=(i:Int)+j) (by omega)]
 have e1:(aN ((i:Int)+(j:Int))).toNat=i+j:=by
  unfold aN
  rw [UInt64.toNat_ofNat']; omega
 have e2:(aM (aN ((i:Int)+(j:Int))) ((((1:UInt64)).toNat:Int)).toNat).toNat=(i+j) / 2:=by
  have:((((1:UInt64)).toNat:Int)).toNat=1:=rfl
  rw [this]
  unfold aM
  rw [if_pos (by omega),UInt64.toNat_shiftRight,e1]
  show (i+j) >>> 1=(i+j) / 2
  rw [Nat.shiftRight_eq_div_pow]
 rw [e2,wrap_i64 (by omega)]
section
variable {w:World}
theorem qBS {e:List UInt8×Slc} {k:List UInt8} : Calls prog 86 #[.agg (bE e).toArray,.string ⟨k.toArray⟩] w (Ret fun v w'=>v = .int .i64 (Lib.compareBytes e.1 k)∧Mod NoB w w'):=by
 refine qYC e.1 e.2 _ ?_
 unfold jDY
 refine aT (l:=bE e) rfl fun p w1 hN hb=>⟨_,rfl,e.1,by rw [aK]; exact hb.rd1 rfl,?_⟩
 refine aC vP ?_
 rintro v w2 ⟨rfl,rfl⟩
 exact ⟨_,rfl,rfl,hN.mod⟩
structure Found (es:List (List UInt8×Slc)) (key:List UInt8) (i:Nat) (b:Bool):Prop where
 le:i≤es.length
 lo : ∀ j (h:j<es.length),j<i→es[j].1<key
 hi : ∀ j (h:j<es.length),i≤j→¬ es[j].1<key
 is:b=true↔∃ h:i<es.length,es[i].1=key
theorem qDG {lv:Slc} {es:List (List UInt8×Slc)} {key:List UInt8} (hr:aL w lv 2 (aR bE es)) (hs:es.Pairwise fun a b=>a.1<b.1) (hn:es.length≤1000000000) :
 Calls prog 85 #[.slice lv.a lv.len lv.cap,.string ⟨key.toArray⟩,.func (.func 86) #[] #[]] w (Ret fun v w'=>∃ (i:Nat) (b:Bool),v = .tuple #[.int .i64 i,.bool b]∧Found es key i b∧Mod NoB w w'):=by
 refine qYJ _ _ _ ?_
 unfold jEO
 have hl:=bK aZ (by omega) hr
 have hlt : ∀ a b (ha:a<es.length) (hb:b<es.length),a<b→es[a].1<es[b].1:=fun a b ha hb h=>List.pairwise_iff_getElem.1 hs a b ha hb h
 refine ⟨fun l' w'=>match l' with | [.i _ x,.i _ y]=>∃ i j:Nat,x=i∧y=j∧i≤j∧j≤es.length∧(∀ t (h:t<es.length),t<i→es[t].1<key)∧(∀ t (h:t<es.length),j≤t→¬ es[t].1<key)∧Mod NoB w w' | _=>False,fun l' _=>match l' with | [.i _ x,.i _ y]=>(y - x).toNat | _=>0,
  ⟨0,es.length,rfl,by rw [hl],by omega,by omega,fun t _ h=>by omega,fun t h h'=>by omega,Mod.refl _ _⟩,?_⟩
 rintro x y w1 ⟨i,j,rfl,rfl,hij,hj,hlo,hhi,hm1⟩
 refine aE (fun h=>?_) fun h=>?_
 ·have h:i<j:=by have:=of_decide_eq_true h; omega
  rw [jCV (by omega)]
  have hmid:(i+j) / 2<es.length:=by omega
  obtain ⟨A,ea,hrA⟩:=bX aZ (by omega) hr hmid
  rw [ea]
  refine ⟨by decide,⟨by omega,by omega⟩,es[(i+j) / 2].1,es[(i+j) / 2].2,?_,?_⟩
  ·simp only [Int.toNat_natCast]; exact hrA.mod hm1 fun h=>h
  refine cX (by kernel_rfl) (aC (qBS (e:=es[(i+j) / 2])) ?_)
  rintro v w2 ⟨rfl,hm2⟩
  refine ⟨_,rfl,aE (fun hc=>?_) fun hc=>?_⟩
  ·have hc:=of_decide_eq_true hc
   have hlt2:es[(i+j) / 2].1<key:=by
    rcases dV es[(i+j) / 2].1 key with ⟨a,b⟩ | ⟨a,b⟩ | ⟨a,b⟩
    ·exact b
    ·omega
    ·omega
   rw [aS (by omega)]
   refine ⟨⟨(i+j) / 2+1,j,rfl,rfl,by omega,hj,fun t ht h'=>?_,hhi,hm1.tr hm2⟩,by (try simp only []); omega⟩
   rcases Nat.lt_or_ge t ((i+j) / 2) with h2 | h2
   ·exact List.lt_trans (hlt t _ ht hmid h2) hlt2
   ·have:t=(i+j) / 2:=by omega
    subst this; exact hlt2
  ·have hc:=of_decide_eq_false hc
   have hge : ¬ es[(i+j) / 2].1<key:=by
    rcases dV es[(i+j) / 2].1 key with ⟨a,b⟩ | ⟨a,b⟩ | ⟨a,b⟩
    ·omega
    ·rw [b]; exact List.lt_irrefl _
    ·exact fun h'=>List.lt_irrefl _ (List.lt_trans h' b)
   refine ⟨⟨i,(i+j) / 2,rfl,rfl,by omega,by omega,hlo,fun t ht h'=>?_,hm1.tr hm2⟩,by (try simp only []); omega⟩
   rcases Nat.lt_or_ge ((i+j) / 2) t with h2 | h2
   ·exact fun h3=>hge (List.lt_trans (hlt _ t hmid ht h2) h3)
   ·have:t=(i+j) / 2:=by omega
    subst this; exact hge
 ·have h:i=j:=by have:=of_decide_eq_false h; omega
  subst h
  refine aE (fun h=>?_) fun h=>?_
  ·have hi:i<es.length:=by have:=of_decide_eq_true h; omega
   obtain ⟨A,ea,hrA⟩:=bX aZ (by omega) hr hi
   rw [ea]
   refine ⟨⟨by omega,by omega⟩,es[i].1,es[i].2,hrA.mod hm1 fun h=>h,?_⟩
   refine cX (by kernel_rfl) (aC (qBS (e:=es[i])) ?_)
   rintro v w2 ⟨rfl,hm2⟩
   refine ⟨_,rfl,i,_,rfl,⟨hj,hlo,hhi,?_⟩,hm1.tr hm2⟩
   rw [beq_iff_eq]
   rcases dV es[i].1 key with ⟨a,b⟩ | ⟨a,b⟩ | ⟨a,b⟩
   ·exact ⟨fun h=>by omega,fun ⟨_,h⟩=>by rw [h] at b; exact absurd b (List.lt_irrefl _)⟩
   ·exact ⟨fun _=>⟨hi,b⟩,fun _=>a⟩
   ·exact ⟨fun h=>by omega,fun ⟨_,h⟩=>by rw [h] at b; exact absurd b (List.lt_irrefl _)⟩
  ·have hi : ¬ i<es.length:=by have:=of_decide_eq_false h; omega
   exact ⟨i,false,rfl,⟨hj,hlo,hhi,by simp [hi]⟩,hm1⟩
theorem qFB {p mb:Nat} {lv wy:Slc} {k:Int} {T:TypeId} {es:List (List UInt8×Slc)} {key:List UInt8} (hb:Blk w p (jB lv wy k mb) T) (hr:aL w lv 2 (aR bE es)) (hs:es.Pairwise fun a b=>a.1<b.1) (hn:es.length≤1000000000) :
 Calls prog 50 #[.pointer (some ⟨p,0,none⟩),.string ⟨key.toArray⟩] w (Ret fun v w'=>∃ (i:Nat) (b:Bool),v = .tuple #[.int .i64 i,.bool b]∧Found es key i b∧Mod NoB w w'):=by
 refine qZP _ _ ?_
 unfold jEQ
 refine ⟨lv,by rw [aK]; exact hb.rd1 rfl,?_⟩
 refine aC (qDG hr hs hn) ?_
 rintro v w1 ⟨i,b,rfl,hF,hm⟩
 exact ⟨_,_,rfl,i,b,rfl,hF,hm⟩
end
end Go.Proofs.YtahjmeegfkfokaaGreatDoor
end
section
namespace Go.Proofs.YtahjmeegfkfokaaGreatDoor
open Go Go.Sh
open Go.Proofs.Tryz
def qTY (s:Slc) (i:Int) (v:Slc) (w:World) (R:RW):Prop:=
 qDA 2 42 163 164 s i v w R
theorem qLD (s:Slc) (i:Int) (v:Slc) {w:World} {R:RW} (hden:qTY s i v w R):Calls prog 115 #[zS s,.int .i64 i,zS v] w R:=
 aB (q0 .z (q0 .z (q0 .z (q0 (q0 .z (.cond (q0 .z .z) .z)) (q0 .z (q0 (q0 .z (.cond (q0 .z .z) .z)) (q0 (q0 .z (.cond (q0 .z (q0 .z (q0 (.draw 0 (.take 0 (.take 1 (.take 2 (.take 3 (.take 4 (.take 5 (.take 6 (.take 7 (.all [(8,.done)])))))))))) (q0 .z .z)))) .z)) (q0 .z (q0 (q0 .z (.cond (q0 (.draw 0 (.take 0 (.take 1 (.take 2 (.take 3 (.take 4 (.take 5 (.take 6 (.take 7 (.all [(8,.done)])))))))))) (q0 .z (q0 .z .z))) .z)) (q0 .z (q0 .z (q0 .z .z)))))))))))) func115 (by kernel_rfl) [.sl s,.i .i64 i,.sl v] (by kernel_rfl) (by kernel_rfl) hden
def qQK (s:Slc) (i:Int) (v:Slc) (w:World) (R:RW):Prop:=
 qDA 1 75 165 166 s i v w R
theorem qOM (s:Slc) (i:Int) (v:Slc) {w:World} {R:RW} (hden:qQK s i v w R):Calls prog 116 #[zS s,.int .i64 i,zS v] w R:=
 aB (q0 .z (q0 .z (q0 .z (q0 (q0 .z (.cond (q0 .z .z) .z)) (q0 .z (q0 (q0 .z (.cond (q0 .z .z) .z)) (q0 (q0 .z (.cond (q0 .z (q0 .z (q0 (.draw 0 (.take 0 (.take 1 (.take 2 (.take 3 (.take 4 (.take 5 (.take 6 (.take 7 (.all [(8,.done)])))))))))) (q0 .z .z)))) .z)) (q0 .z (q0 (q0 .z (.cond (q0 (.draw 0 (.take 0 (.take 1 (.take 2 (.take 3 (.take 4 (.take 5 (.take 6 (.take 7 (.all [(8,.done)])))))))))) (q0 .z (q0 .z .z))) .z)) (q0 .z (q0 .z (q0 .z .z)))))))))))) func116 (by kernel_rfl) [.sl s,.i .i64 i,.sl v] (by kernel_rfl) (by kernel_rfl) hden
end Go.Proofs.YtahjmeegfkfokaaGreatDoor
end
section
namespace Go.Proofs.YtahjmeegfkfokaaGreatDoor
open Go Go.Sh Go.MapKept
open Go.Proofs.Tryz
theorem iV:prog.underlying 75=some (.slice 9):=by kernel_rfl
theorem qMM : ∃ i,prog.info? 9=some i∧i.zero=some (.string ⟨#[]⟩)∧i.size=1∧i.bytes=16:=bM (by kernel_rfl) (by kernel_rfl) (by kernel_rfl)
section
variable {w:World}
theorem qZE {s:Slc} {vs y:List Value} {i vb n:Nat} {T:TypeId} (ho:Sh.Own w s 2 vs) (h1 : ∀ u∈vs,u.oneCell'=true) (hn:s.len=n) (hi:i≤n) (hnn:n≤100000000) (hv:w.heap[vb]? = some (.cells y.toArray T (0,0))) (hy:y.length=2) (y1 : ∀ u∈y,u.oneCell'=true) (hvs : ∀ z,s.blk=some z→z≠vb) :
 Calls prog 115 #[.slice s.a s.len s.cap,.int .i64 i,.slice (some ⟨vb,0,none⟩) 1 1] w (Ret fun v w'=>∃ x:Slc,v=x.val∧Sh.Own w' x 2 (oO vs y (i*2))∧(x.blk=s.blk∨x.blk=some w.heap.size)∧Mod (fun z=>s.blk=some z) w w'):=by
 refine qLD _ _ ⟨some ⟨vb,0,none⟩,1,1⟩ ?_
 unfold qTY qDA
 obtain ⟨i',g1,g2,g3,g4⟩:=pB
 have hvl:vs.length=n*2:=by have:=ho.1; rw [hn] at this; exact this
 have hvB:Blk w vb y T:=⟨(0,0),hv,.inl rfl⟩
 have hvR:aL w ⟨some ⟨vb,0,none⟩,1,1⟩ 2 y:=(aX (n:=1) (k:=2) hvB (by omega)).rd
 have hcc:=ho.2.1
 have hvlt:=bC hv
 refine ⟨⟨by omega,by omega⟩,aE (fun h=>by simp at h) fun _=>aE (fun h=>?_) fun h=>?_⟩
 ·have hin:i=n:=by have:=h; simp at this; omega
  subst hin
  refine bG dS g1 g2 g3 rfl g4 ho hvR y1 (by simp only []; omega) (by simp only []; omega) fun x w2 ho2 hlen hblk hm=>⟨x,rfl,x,rfl,?_,hblk,hm⟩
  unfold oO
  rw [List.take_of_length_le (by omega),List.drop_eq_nil_of_le (by omega),List.append_nil]; exact ho2
 ·have hin:i<n:=by
   rcases Nat.lt_or_ge i n with h2 | h2
   ·exact h2
   ·exfalso
    have:i=s.len:=by omega
    subst this; simp at h
  have e1:IntKind.i64.wrap ((s.len:Int)+((1:Nat):Int))=((n+1:Nat):Int):=by rw [wrap_i64 (by omega)]; omega
  have e2:IntKind.i64.wrap ((i:Int)+((1:Nat):Int))=((i+1:Nat):Int):=by rw [wrap_i64 (by omega)]; omega
  have e3:IntKind.i64.wrap (((n+1:Nat):Int) - (i:Int))=((n+1 - i:Nat):Int):=by rw [wrap_i64 (by omega)]; omega
  simp only [e1,e2,e3,Int.toNat_natCast]
  refine aE (fun hc=>?_) fun hc=>?_
  ·have hc:s.cap<n+1:=by have:=of_decide_eq_true hc; omega
   have ec:aF s 2 0 i s.cap=⟨s.a,i,s.cap⟩:=jP hcc (by omega)
   rw [ec]
   have hoz:=ho.take (n:=i) (by omega)
   refine ⟨⟨by omega,by omega⟩,?_⟩
   refine iG (s:=⟨s.a,i,s.cap⟩) (n:=n+1 - i) dS (k2:=.i64) (by kernel_rfl) g1 g2 g3 (by omega) rfl g4 rfl hoz (by simp only []; omega) (by simp only []; omega) (by simp only []; omega) fun c l w2 hB hll hlt hcl hm2=>?_
   simp only [] at hlt hcl ⊢
   have en:i+(n+1 - i)=n+1:=by omega
   rw [en] at hcl ⊢
   refine ⟨⟨some ⟨w.heap.size,0,none⟩,n+1,c⟩,rfl,⟨by omega,by show (i:Int)≤((n+1:Nat):Int); omega⟩,?_⟩
   have ec1:aF ⟨some ⟨w.heap.size,0,none⟩,n+1,c⟩ 2 i (n+1) c=⟨some ⟨w.heap.size,0+i*2,none⟩,n+1 - i,c - i⟩:=iN (s:=⟨some ⟨w.heap.size,0,none⟩,n+1,c⟩) hcl (by simp only []; omega) rfl
   have ec2:aF ⟨some ⟨w.heap.size,0,none⟩,n+1,c⟩ 2 (i+1) (n+1) c=⟨some ⟨w.heap.size,0+(i+1)*2,none⟩,n+1 - (i+1),c - (i+1)⟩:=by
    unfold aF
    by_cases he:c=i+1
    ·omega
    ·simp only []; rw [if_neg he]; simp
   have hsa : ∃ b o,s.a=some ⟨b,o,none⟩:=by
    rcases ho.owned with ⟨hz1,hz2,_⟩ | ⟨hz1,b,o,l',E,ea,_⟩
    ·omega
    ·exact ⟨b,o,ea⟩
   obtain ⟨sb,so,hsa⟩:=hsa
   have ec3:aF s 2 i s.len s.cap=⟨some ⟨sb,so+i*2,none⟩,s.len - i,s.cap - i⟩:=iN hcc (by omega) hsa
   rw [ec1]
   have hlk:(n+1)*2≤l.length:=by rw [hll]; exact Nat.mul_le_mul_right _ hcl
   refine dD (d:=⟨some ⟨w.heap.size,0+i*2,none⟩,n+1 - i,c - i⟩) (o:=0+i*2) dS g1 g3 rfl hB (by simp only []; omega) (hvR.no hm2) (fun u hu=>y1 u (List.mem_of_mem_take hu)) fun w3 hB3 hm3 hsz3=>⟨_,rfl,?_⟩
   have em:y.take (min (Slc.len ⟨some ⟨vb,0,none⟩,1,1⟩) (Slc.len ⟨some ⟨w.heap.size,0+i*2,none⟩,n+1 - i,c - i⟩)*2)=y:=List.take_of_length_le (by simp only []; omega)
   rw [em] at hB3
   rw [ec2,ec3]
   refine ⟨⟨by omega,by show ((i+1:Nat):Int)≤((n+1:Nat):Int); omega⟩,⟨by omega,by omega⟩,?_,trivial⟩
   have hsr:aL w3 ⟨some ⟨sb,so+i*2,none⟩,s.len - i,s.cap - i⟩ 2 (vs.drop (i*2)):=by
    have h5:=ho.rd.cut (l:=i) (n:=s.len) (m:=s.cap) (by omega) (Nat.le_refl _) hcc (Nat.le_refl _)
    rw [ec3,List.take_of_length_le (by rw [List.length_drop]; omega)] at h5
    refine (h5.no hm2).mod hm3 fun z hz e=>?_
    have hz':s.blk=some z:=by
     rw [Slc.blk_mk,if_neg (by omega)] at hz
     rw [Slc.blk_of hsa (by omega)]; simpa using hz
    have:=ho.lt hz'; omega
   have hd:(vs.drop (i*2)).length=(n - i)*2:=by rw [List.length_drop,hvl,← Nat.sub_mul]
   refine dD (d:=⟨some ⟨w.heap.size,0+(i+1)*2,none⟩,n+1 - (i+1),c - (i+1)⟩) (o:=0+(i+1)*2) dS g1 g3 rfl hB3.drew (by rw [aY (by omega)]; simp only []; omega) hsr.drew (fun u hu=>h1 u (List.mem_of_mem_drop (List.mem_of_mem_take hu))) fun w4 hB4 hm4 hsz4=>⟨_,rfl,?_⟩
   have em2:(vs.drop (i*2)).take (min (Slc.len ⟨some ⟨sb,so+i*2,none⟩,s.len - i,s.cap - i⟩) (Slc.len ⟨some ⟨w.heap.size,0+(i+1)*2,none⟩,n+1 - (i+1),c - (i+1)⟩)*2)=vs.drop (i*2):=List.take_of_length_le (by
    rw [hd]; simp only []
    exact Nat.mul_le_mul_right _ (by omega))
   rw [em2] at hB4
   have e5:(0+(i+1)*2)=i*2+y.length:=by omega
   rw [e5,Nat.zero_add] at hB4
   have hlt':l.take (i*2)=vs.take (i*2):=hlt
   have hfin:=zL (l:=l) (vs:=vs) (y:=y) (p:=i*2) hlt' (by omega) (by omega)
   have hl3:(putAt (putAt l (i*2) y) (i*2+y.length) (vs.drop (i*2))).length=l.length:=by rw [aY (by rw [aY (by omega)]; omega),aY (by omega)]
   refine ⟨⟨some ⟨w.heap.size,0,none⟩,n+1,c⟩,rfl,⟨by rw [nM (by omega)]; simp only []; omega,hcl,.inr ⟨w.heap.size,0,_,_,rfl,hB4,?_,?_⟩⟩,.inr (Slc.blk_of rfl (by simp only []; omega)),(hm2.fresh (hm3.tr ((Mod.drew _ _).tr hm4)) fun x e=>by omega).mono fun _ _ h=>h.elim⟩
   ·rw [hl3,hll]; simp only []; omega
   ·rw [List.drop_zero]
    have:(n+1)*2=vs.length+y.length:=by omega
    rw [this]; exact hfin
  ·have hc2:n+1≤s.cap:=by have:=of_decide_eq_false hc; omega
   clear hc
   rcases ho.owned with ⟨hz1,hz2,_⟩ | ⟨hz1,b,o,l,E,ea,hB,hfit,hcon⟩
   ·omega
   ·obtain ⟨sa,sl,sc⟩:=s
    simp only [] at ea hz1 hfit hcon hn hc2 hcc
    subst ea hn
    have hbs:b≠vb:=hvs b (Slc.blk_of rfl hz1)
    have ec1:aF ⟨some ⟨b,o,none⟩,sl,sc⟩ 2 0 (sl+1) sc=⟨some ⟨b,o,none⟩,sl+1,sc⟩:=jP (s:=⟨some ⟨b,o,none⟩,sl,sc⟩) hcc hc2
    have ec0:aF ⟨some ⟨b,o,none⟩,sl+1,sc⟩ 2 i (sl+1) sc=⟨some ⟨b,o+i*2,none⟩,sl+1 - i,sc - i⟩:=iN (s:=⟨some ⟨b,o,none⟩,sl+1,sc⟩) hc2 (by simp only []; omega) rfl
    have ec2:aF ⟨some ⟨b,o,none⟩,sl+1,sc⟩ 2 (i+1) (sl+1) sc=⟨some ⟨b,o+(i+1)*2,none⟩,sl+1 - (i+1),sc - (i+1)⟩:=iN (s:=⟨some ⟨b,o,none⟩,sl+1,sc⟩) hc2 (by simp only []; omega) rfl
    simp only [ec1,ec0,ec2]
    obtain ⟨fz,hB1,hB2⟩:=id hB
    have hsck:(sl+1)*2≤sc*2:=Nat.mul_le_mul_right _ hc2
    refine ⟨⟨by omega,by omega⟩,⟨by omega,by omega⟩,.bool false,w,?_,false,rfl,aE (fun _=>?_) (fun h=>by simp at h)⟩
    ·rw [run_callFunc_extern func163 (by kernel_rfl) (by kernel_rfl) (by kernel_rfl) (e:=Extern.SlicesOverlaps.overlaps #[42,42] #[4]) (by kernel_rfl),
      Lib.run_overlaps_apart w _ _ 65 dS 2 (fun w=>by rw [Go.Sh.run_sizeOf g1,g3]) ⟨vb,0,none⟩ ⟨b,o+(i+1)*2,none⟩ 1 1 (sl+1 - (i+1)) (sc - (i+1)) (fun e=>hbs e.symm) T E 2 l.length (by simp [World.shape?,hv,hy]) (by simp [World.shape?,hB1]) (by omega) (by simp [World.frozen?,hv]) (by simp [World.frozen?,hv])]
     rfl
    refine ⟨⟨by omega,by omega⟩,⟨by omega,by omega⟩,?_,trivial⟩
    have hd:(vs.drop (i*2)).length=(sl - i)*2:=by rw [List.length_drop,hvl,← Nat.sub_mul]
    have hcon':(l.drop o).take vs.length=vs:=by rw [hvl]; exact hcon
    have hsr:aL w.drew ⟨some ⟨b,o+i*2,none⟩,sl+1 - i,sc - i⟩ 2 ((l.drop (o+i*2)).take ((sl+1 - i)*2)):=⟨by
     rw [List.length_take,List.length_drop]
     have:(sl+1 - i)*2+i*2=(sl+1)*2:=by rw [← Nat.add_mul]; congr 1; omega
     simp only []; omega,by simp only []; omega,.inr ⟨_,rfl,hB.drew.rd fun j v hj=>by
     rw [List.getElem?_take] at hj
     split at hj
     ·rwa [List.getElem?_drop] at hj
     ·cases hj⟩⟩
    have etk:((l.drop (o+i*2)).take ((sl+1 - i)*2)).take ((sl - i)*2)=vs.drop (i*2):=by
     have hle:(sl - i)*2≤(sl+1 - i)*2:=Nat.mul_le_mul_right _ (by omega)
     rw [List.take_take,Nat.min_eq_left hle,← List.drop_drop]
     have:(l.drop o).drop (i*2)=(l.drop o).drop (i*2):=rfl
     rw [← hcon,List.drop_take]
     congr 1
     rw [← Nat.sub_mul]
    have em:min (Slc.len ⟨some ⟨b,o+i*2,none⟩,sl+1 - i,sc - i⟩) (Slc.len ⟨some ⟨b,o+(i+1)*2,none⟩,sl+1 - (i+1),sc - (i+1)⟩)*2=(sl - i)*2:=by simp only []; congr 1; omega
    have hik:(i+1)*2+(sl - i)*2=(sl+1)*2:=by rw [← Nat.add_mul]; congr 1; omega
    refine dD (d:=⟨some ⟨b,o+(i+1)*2,none⟩,sl+1 - (i+1),sc - (i+1)⟩) (o:=o+(i+1)*2) dS g1 g3 rfl hB.drew (by
     simp only []
     have:(sl+1 - (i+1))*2=(sl - i)*2:=by congr 1; omega
     omega) hsr (by rw [em,etk]; exact fun u hu=>h1 u (List.mem_of_mem_drop hu)) fun w3 hB3 hm3 hsz3=>⟨_,rfl,⟨by omega,by omega⟩,?_⟩
    rw [em,etk] at hB3
    have e5:o+(i+1)*2=o+(i*2+y.length):=by omega
    rw [e5] at hB3
    have hpl:(putAt l (o+(i*2+y.length)) (vs.drop (i*2))).length=l.length:=aY (by omega)
    refine dD (d:=⟨some ⟨b,o+i*2,none⟩,sl+1 - i,sc - i⟩) (o:=o+i*2) dS g1 g3 rfl hB3 (by
     rw [hpl]; simp only []
     have:(sl+1 - i)*2+i*2=(sl+1)*2:=by rw [← Nat.add_mul]; congr 1; omega
     omega) (hvR.mod ((Mod.drew _ _).tr hm3) (fun z hz e=>by rw [Slc.blk_mk,if_neg (by omega)] at hz; cases hz; exact hbs e.symm)) (fun u hu=>y1 u (List.mem_of_mem_take hu)) fun w4 hB4 hm4 hsz4=>⟨_,rfl,?_⟩
    have em2:y.take (min (Slc.len ⟨some ⟨vb,0,none⟩,1,1⟩) (Slc.len ⟨some ⟨b,o+i*2,none⟩,sl+1 - i,sc - i⟩)*2)=y:=List.take_of_length_le (by simp only []; omega)
    rw [em2] at hB4
    have hfin:=qIT (l:=l) (vs:=vs) (y:=y) (o:=o) (p:=i*2) hcon' (by omega) (by omega)
    refine ⟨⟨some ⟨b,o,none⟩,sl+1,sc⟩,rfl,⟨by rw [nM (by omega)]; simp only []; omega,hc2,.inr ⟨b,o,_,E,rfl,hB4,?_,?_⟩⟩,.inl (by rw [Slc.blk_mk,Slc.blk_mk]),(((Mod.drew _ _).tr hm3).tr hm4).mono fun z _ hz=>by have hz:z=b:=hz; subst hz; exact Slc.blk_of rfl hz1⟩
    ·rw [aY (by rw [hpl]; omega),hpl]; exact hfit
    ·have:(sl+1)*2=vs.length+y.length:=by omega
     show (List.drop o _).take ((sl+1)*2)=_
     rw [this]; exact hfin
theorem qYH {s:Slc} {vs y:List Value} {i vb n:Nat} {T:TypeId} (ho:Sh.Own w s 1 vs) (h1 : ∀ u∈vs,u.oneCell'=true) (hn:s.len=n) (hi:i≤n) (hnn:n≤100000000) (hv:w.heap[vb]? = some (.cells y.toArray T (0,0))) (hy:y.length=1) (y1 : ∀ u∈y,u.oneCell'=true) (hvs : ∀ z,s.blk=some z→z≠vb) :
 Calls prog 116 #[.slice s.a s.len s.cap,.int .i64 i,.slice (some ⟨vb,0,none⟩) 1 1] w (Ret fun v w'=>∃ x:Slc,v=x.val∧Sh.Own w' x 1 (oO vs y (i*1))∧(x.blk=s.blk∨x.blk=some w.heap.size)∧Mod (fun z=>s.blk=some z) w w'):=by
 refine qOM _ _ ⟨some ⟨vb,0,none⟩,1,1⟩ ?_
 unfold qQK qDA
 obtain ⟨i',g1,g2,g3,g4⟩:=qMM
 have hvl:vs.length=n*1:=by have:=ho.1; rw [hn] at this; exact this
 have hvB:Blk w vb y T:=⟨(0,0),hv,.inl rfl⟩
 have hvR:aL w ⟨some ⟨vb,0,none⟩,1,1⟩ 1 y:=(aX (n:=1) (k:=1) hvB (by omega)).rd
 have hcc:=ho.2.1
 have hvlt:=bC hv
 refine ⟨⟨by omega,by omega⟩,aE (fun h=>by simp at h) fun _=>aE (fun h=>?_) fun h=>?_⟩
 ·have hin:i=n:=by have:=h; simp at this; omega
  subst hin
  refine bG iV g1 g2 g3 rfl g4 ho hvR y1 (by simp only []; omega) (by simp only []; omega) fun x w2 ho2 hlen hblk hm=>⟨x,rfl,x,rfl,?_,hblk,hm⟩
  unfold oO
  rw [List.take_of_length_le (by omega),List.drop_eq_nil_of_le (by omega),List.append_nil]; exact ho2
 ·have hin:i<n:=by
   rcases Nat.lt_or_ge i n with h2 | h2
   ·exact h2
   ·exfalso
    have:i=s.len:=by omega
    subst this; simp at h
  have e1:IntKind.i64.wrap ((s.len:Int)+((1:Nat):Int))=((n+1:Nat):Int):=by rw [wrap_i64 (by omega)]; omega
  have e2:IntKind.i64.wrap ((i:Int)+((1:Nat):Int))=((i+1:Nat):Int):=by rw [wrap_i64 (by omega)]; omega
  have e3:IntKind.i64.wrap (((n+1:Nat):Int) - (i:Int))=((n+1 - i:Nat):Int):=by rw [wrap_i64 (by omega)]; omega
  simp only [e1,e2,e3,Int.toNat_natCast]
  refine aE (fun hc=>?_) fun hc=>?_
  ·have hc:s.cap<n+1:=by have:=of_decide_eq_true hc; omega
   have ec:aF s 1 0 i s.cap=⟨s.a,i,s.cap⟩:=jP hcc (by omega)
   rw [ec]
   have hoz:=ho.take (n:=i) (by omega)
   refine ⟨⟨by omega,by omega⟩,?_⟩
   refine iG (s:=⟨s.a,i,s.cap⟩) (n:=n+1 - i) iV (k2:=.i64) (by kernel_rfl) g1 g2 g3 (by omega) rfl g4 rfl hoz (by simp only []; omega) (by simp only []; omega) (by simp only []; omega) fun c l w2 hB hll hlt hcl hm2=>?_
   simp only [] at hlt hcl ⊢
   have en:i+(n+1 - i)=n+1:=by omega
   rw [en] at hcl ⊢
   refine ⟨⟨some ⟨w.heap.size,0,none⟩,n+1,c⟩,rfl,⟨by omega,by show (i:Int)≤((n+1:Nat):Int); omega⟩,?_⟩
   have ec1:aF ⟨some ⟨w.heap.size,0,none⟩,n+1,c⟩ 1 i (n+1) c=⟨some ⟨w.heap.size,0+i*1,none⟩,n+1 - i,c - i⟩:=iN (s:=⟨some ⟨w.heap.size,0,none⟩,n+1,c⟩) hcl (by simp only []; omega) rfl
   have ec2:aF ⟨some ⟨w.heap.size,0,none⟩,n+1,c⟩ 1 (i+1) (n+1) c=⟨some ⟨w.heap.size,0+(i+1)*1,none⟩,n+1 - (i+1),c - (i+1)⟩:=by
    unfold aF
    by_cases he:c=i+1
    ·omega
    ·simp only []; rw [if_neg he]; simp
   have hsa : ∃ b o,s.a=some ⟨b,o,none⟩:=by
    rcases ho.owned with ⟨hz1,hz2,_⟩ | ⟨hz1,b,o,l',E,ea,_⟩
    ·omega
    ·exact ⟨b,o,ea⟩
   obtain ⟨sb,so,hsa⟩:=hsa
   have ec3:aF s 1 i s.len s.cap=⟨some ⟨sb,so+i*1,none⟩,s.len - i,s.cap - i⟩:=iN hcc (by omega) hsa
   rw [ec1]
   have hlk:(n+1)*1≤l.length:=by rw [hll]; exact Nat.mul_le_mul_right _ hcl
   refine dD (d:=⟨some ⟨w.heap.size,0+i*1,none⟩,n+1 - i,c - i⟩) (o:=0+i*1) iV g1 g3 rfl hB (by simp only []; omega) (hvR.no hm2) (fun u hu=>y1 u (List.mem_of_mem_take hu)) fun w3 hB3 hm3 hsz3=>⟨_,rfl,?_⟩
   have em:y.take (min (Slc.len ⟨some ⟨vb,0,none⟩,1,1⟩) (Slc.len ⟨some ⟨w.heap.size,0+i*1,none⟩,n+1 - i,c - i⟩)*1)=y:=List.take_of_length_le (by simp only []; omega)
   rw [em] at hB3
   rw [ec2,ec3]
   refine ⟨⟨by omega,by show ((i+1:Nat):Int)≤((n+1:Nat):Int); omega⟩,⟨by omega,by omega⟩,?_,trivial⟩
   have hsr:aL w3 ⟨some ⟨sb,so+i*1,none⟩,s.len - i,s.cap - i⟩ 1 (vs.drop (i*1)):=by
    have h5:=ho.rd.cut (l:=i) (n:=s.len) (m:=s.cap) (by omega) (Nat.le_refl _) hcc (Nat.le_refl _)
    rw [ec3,List.take_of_length_le (by rw [List.length_drop]; omega)] at h5
    refine (h5.no hm2).mod hm3 fun z hz e=>?_
    have hz':s.blk=some z:=by
     rw [Slc.blk_mk,if_neg (by omega)] at hz
     rw [Slc.blk_of hsa (by omega)]; simpa using hz
    have:=ho.lt hz'; omega
   have hd:(vs.drop (i*1)).length=(n - i)*1:=by rw [List.length_drop,hvl,← Nat.sub_mul]
   refine dD (d:=⟨some ⟨w.heap.size,0+(i+1)*1,none⟩,n+1 - (i+1),c - (i+1)⟩) (o:=0+(i+1)*1) iV g1 g3 rfl hB3.drew (by rw [aY (by omega)]; simp only []; omega) hsr.drew (fun u hu=>h1 u (List.mem_of_mem_drop (List.mem_of_mem_take hu))) fun w4 hB4 hm4 hsz4=>⟨_,rfl,?_⟩
   have em2:(vs.drop (i*1)).take (min (Slc.len ⟨some ⟨sb,so+i*1,none⟩,s.len - i,s.cap - i⟩) (Slc.len ⟨some ⟨w.heap.size,0+(i+1)*1,none⟩,n+1 - (i+1),c - (i+1)⟩)*1)=vs.drop (i*1):=List.take_of_length_le (by
    rw [hd]; simp only []
    exact Nat.mul_le_mul_right _ (by omega))
   rw [em2] at hB4
   have e5:(0+(i+1)*1)=i*1+y.length:=by omega
   rw [e5,Nat.zero_add] at hB4
   have hlt':l.take (i*1)=vs.take (i*1):=hlt
   have hfin:=zL (l:=l) (vs:=vs) (y:=y) (p:=i*1) hlt' (by omega) (by omega)
   have hl3:(putAt (putAt l (i*1) y) (i*1+y.length) (vs.drop (i*1))).length=l.length:=by rw [aY (by rw [aY (by omega)]; omega),aY (by omega)]
   refine ⟨⟨some ⟨w.heap.size,0,none⟩,n+1,c⟩,rfl,⟨by rw [nM (by omega)]; simp only []; omega,hcl,.inr ⟨w.heap.size,0,_,_,rfl,hB4,?_,?_⟩⟩,.inr (Slc.blk_of rfl (by simp only []; omega)),(hm2.fresh (hm3.tr ((Mod.drew _ _).tr hm4)) fun x e=>by omega).mono fun _ _ h=>h.elim⟩
   ·rw [hl3,hll]; simp only []; omega
   ·rw [List.drop_zero]
    have:(n+1)*1=vs.length+y.length:=by omega
    rw [this]; exact hfin
  ·have hc2:n+1≤s.cap:=by have:=of_decide_eq_false hc; omega
   clear hc
   rcases ho.owned with ⟨hz1,hz2,_⟩ | ⟨hz1,b,o,l,E,ea,hB,hfit,hcon⟩
   ·omega
   ·obtain ⟨sa,sl,sc⟩:=s
    simp only [] at ea hz1 hfit hcon hn hc2 hcc
    subst ea hn
    have hbs:b≠vb:=hvs b (Slc.blk_of rfl hz1)
    have ec1:aF ⟨some ⟨b,o,none⟩,sl,sc⟩ 1 0 (sl+1) sc=⟨some ⟨b,o,none⟩,sl+1,sc⟩:=jP (s:=⟨some ⟨b,o,none⟩,sl,sc⟩) hcc hc2
    have ec0:aF ⟨some ⟨b,o,none⟩,sl+1,sc⟩ 1 i (sl+1) sc=⟨some ⟨b,o+i*1,none⟩,sl+1 - i,sc - i⟩:=iN (s:=⟨some ⟨b,o,none⟩,sl+1,sc⟩) hc2 (by simp only []; omega) rfl
    have ec2:aF ⟨some ⟨b,o,none⟩,sl+1,sc⟩ 1 (i+1) (sl+1) sc=⟨some ⟨b,o+(i+1)*1,none⟩,sl+1 - (i+1),sc - (i+1)⟩:=iN (s:=⟨some ⟨b,o,none⟩,sl+1,sc⟩) hc2 (by simp only []; omega) rfl
    simp only [ec1,ec0,ec2]
    obtain ⟨fz,hB1,hB2⟩:=id hB
    have hsck:(sl+1)*1≤sc*1:=Nat.mul_le_mul_right _ hc2
    refine ⟨⟨by omega,by omega⟩,⟨by omega,by omega⟩,.bool false,w,?_,false,rfl,aE (fun _=>?_) (fun h=>by simp at h)⟩
    ·rw [run_callFunc_extern func165 (by kernel_rfl) (by kernel_rfl) (by kernel_rfl) (e:=Extern.SlicesOverlaps.overlaps #[75,75] #[4]) (by kernel_rfl),
      Lib.run_overlaps_apart w _ _ 9 iV 1 (fun w=>by rw [Go.Sh.run_sizeOf g1,g3]) ⟨vb,0,none⟩ ⟨b,o+(i+1)*1,none⟩ 1 1 (sl+1 - (i+1)) (sc - (i+1)) (fun e=>hbs e.symm) T E 1 l.length (by simp [World.shape?,hv,hy]) (by simp [World.shape?,hB1]) (by omega) (by simp [World.frozen?,hv]) (by simp [World.frozen?,hv])]
     rfl
    refine ⟨⟨by omega,by omega⟩,⟨by omega,by omega⟩,?_,trivial⟩
    have hd:(vs.drop (i*1)).length=(sl - i)*1:=by rw [List.length_drop,hvl,← Nat.sub_mul]
    have hcon':(l.drop o).take vs.length=vs:=by rw [hvl]; exact hcon
    have hsr:aL w.drew ⟨some ⟨b,o+i*1,none⟩,sl+1 - i,sc - i⟩ 1 ((l.drop (o+i*1)).take ((sl+1 - i)*1)):=⟨by
     rw [List.length_take,List.length_drop]
     have:(sl+1 - i)*1+i*1=(sl+1)*1:=by rw [← Nat.add_mul]; congr 1; omega
     simp only []; omega,by simp only []; omega,.inr ⟨_,rfl,hB.drew.rd fun j v hj=>by
     rw [List.getElem?_take] at hj
     split at hj
     ·rwa [List.getElem?_drop] at hj
     ·cases hj⟩⟩
    have etk:((l.drop (o+i*1)).take ((sl+1 - i)*1)).take ((sl - i)*1)=vs.drop (i*1):=by
     have hle:(sl - i)*1≤(sl+1 - i)*1:=Nat.mul_le_mul_right _ (by omega)
     rw [List.take_take,Nat.min_eq_left hle,← List.drop_drop]
     have:(l.drop o).drop (i*1)=(l.drop o).drop (i*1):=rfl
     rw [← hcon,List.drop_take]
     congr 1
     rw [← Nat.sub_mul]
    have em:min (Slc.len ⟨some ⟨b,o+i*1,none⟩,sl+1 - i,sc - i⟩) (Slc.len ⟨some ⟨b,o+(i+1)*1,none⟩,sl+1 - (i+1),sc - (i+1)⟩)*1=(sl - i)*1:=by simp only []; congr 1; omega
    have hik:(i+1)*1+(sl - i)*1=(sl+1)*1:=by rw [← Nat.add_mul]; congr 1; omega
    refine dD (d:=⟨some ⟨b,o+(i+1)*1,none⟩,sl+1 - (i+1),sc - (i+1)⟩) (o:=o+(i+1)*1) iV g1 g3 rfl hB.drew (by
     simp only []
     have:(sl+1 - (i+1))*1=(sl - i)*1:=by congr 1; omega
     omega) hsr (by rw [em,etk]; exact fun u hu=>h1 u (List.mem_of_mem_drop hu)) fun w3 hB3 hm3 hsz3=>⟨_,rfl,⟨by omega,by omega⟩,?_⟩
    rw [em,etk] at hB3
    have e5:o+(i+1)*1=o+(i*1+y.length):=by omega
    rw [e5] at hB3
    have hpl:(putAt l (o+(i*1+y.length)) (vs.drop (i*1))).length=l.length:=aY (by omega)
    refine dD (d:=⟨some ⟨b,o+i*1,none⟩,sl+1 - i,sc - i⟩) (o:=o+i*1) iV g1 g3 rfl hB3 (by
     rw [hpl]; simp only []
     have:(sl+1 - i)*1+i*1=(sl+1)*1:=by rw [← Nat.add_mul]; congr 1; omega
     omega) (hvR.mod ((Mod.drew _ _).tr hm3) (fun z hz e=>by rw [Slc.blk_mk,if_neg (by omega)] at hz; cases hz; exact hbs e.symm)) (fun u hu=>y1 u (List.mem_of_mem_take hu)) fun w4 hB4 hm4 hsz4=>⟨_,rfl,?_⟩
    have em2:y.take (min (Slc.len ⟨some ⟨vb,0,none⟩,1,1⟩) (Slc.len ⟨some ⟨b,o+i*1,none⟩,sl+1 - i,sc - i⟩)*1)=y:=List.take_of_length_le (by simp only []; omega)
    rw [em2] at hB4
    have hfin:=qIT (l:=l) (vs:=vs) (y:=y) (o:=o) (p:=i*1) hcon' (by omega) (by omega)
    refine ⟨⟨some ⟨b,o,none⟩,sl+1,sc⟩,rfl,⟨by rw [nM (by omega)]; simp only []; omega,hc2,.inr ⟨b,o,_,E,rfl,hB4,?_,?_⟩⟩,.inl (by rw [Slc.blk_mk,Slc.blk_mk]),(((Mod.drew _ _).tr hm3).tr hm4).mono fun z _ hz=>by have hz:z=b:=hz; subst hz; exact Slc.blk_of rfl hz1⟩
    ·rw [aY (by rw [hpl]; omega),hpl]; exact hfit
    ·have:(sl+1)*1=vs.length+y.length:=by omega
     show (List.drop o _).take ((sl+1)*1)=_
     rw [this]; exact hfin
end
end Go.Proofs.YtahjmeegfkfokaaGreatDoor
end
section
namespace Go.Proofs.YtahjmeegfkfokaaGreatDoor
open Go Go.Sh
open Go.Proofs.Tryz
def qPW (set:Slc) (w:World) (R:RW):Prop:=
 aI prog (Instr.box 32 (zS set)) w fun v w1=>∃ set1:Option Addr,v=(.pointer set1)∧aD prog 160 [.func (.func 161) #[] #[.pointer set1]] w1 (aG R) fun v1 w2=>∃ xa:Option Addr,∃ xb:Int,v1=(.tuple #[.pointer xa,.int .i64 xb])∧R (.returned (.bool (xb==(0:Int)))) w2
theorem qOU (set:Slc) {w:World} {R:RW} (hden:qPW set w R):Calls prog 112 #[zS set] w R:=
 aB (q0 .z (q0 .z (q0 .z .z))) func112 (by kernel_rfl) [.sl set] (by kernel_rfl) (by kernel_rfl) hden
def qUC (c:Option Addr) (w:World) (R:RW):Prop:=
 aA c fun a=>∃ x:Slc,Rd w a [zS x]∧aD prog 162 [zS x] w (aG R) fun v w1=>∃ x1:Option Addr,v=(.pointer x1)∧R (.returned (.pointer x1)) w1
theorem qJF (c:Option Addr) {w:World} {R:RW} (hden:qUC c w R):Calls prog 161 #[.pointer c] w R:=
 aB (q0 .z (q0 .z .z)) func161 (by kernel_rfl) [.p c] (by kernel_rfl) (by kernel_rfl) hden
def qRR (set:Slc) (w:World) (R:RW):Prop:=
 aI prog (Instr.box 104 (.agg #[.slice none 0 0])) w fun v w1=>∃ x:Option Addr,v=(.pointer x)∧aD prog 61 [.pointer x,zS set] w1 (aG R) fun v1 w2=>v1=(.tuple #[])∧aA x fun a=>∃ x1:Slc,Rd w2 (a.add 0) [zS x1]∧∃ (inv:List TV→World→Prop) (mu:List TV→World→Nat),inv [.i .i64 (0:Int)] w2∧(∀ x2:Int,∀ w3:World,inv [.i .i64 x2] w3→aH (decide (x2<(x1.len:Int))) (((0≤x2∧x2<(x1.len:Nat))∧aA x1.a fun a1=>∃ xaa:List UInt8,∃ xab xac:Int,∃ xad:Slc,∃ xae:Bool,∃ xaf xag xb:Slc,Rd w3 (a1.add (x2.toNat*8)) [.string ⟨xaa.toArray⟩,.int .i64 xab,.int .i64 xac,zS xad,.bool xae,zS xaf,zS xag,zS xb]∧aI prog (Instr.alloc 158 true (.tuple #[])) w3 fun v2 w4=>∃ x3:Option Addr,v2=(.pointer x3)∧aA x3 fun a2=>aJ prog (storeVar 158 a2 (.agg #[.string ⟨xaa.toArray⟩,.int .i64 xab,.int .i64 xac,zS xad,.bool xae,zS xaf,zS xag,zS xb])) w4 fun w5=>∃ sx:World→Prop,sx w5.drew∧aH (x2==(0:Int)) ((((sx w5.drew∧aA x3 fun a3=>∃ xaa1:List UInt8,∃ xab1 xac1:Int,∃ xad1:Slc,∃ xae1:Bool,∃ xaf1 xag1 xb1:Slc,(∀ w',sx w'→Rd w' a3 [.string ⟨xaa1.toArray⟩,.int .i64 xab1,.int .i64 xac1,zS xad1,.bool xae1,zS xaf1,zS xag1,zS xb1])∧((aD prog 110 [.pointer x,.agg #[.string ⟨xaa1.toArray⟩,.int .i64 xab1,.int .i64 xac1,zS xad1,.bool xae1,zS xaf1,zS xag1,zS xb1]] w5.drew (aG R) fun v3 w6=>∃ x4:Bool,v3=(.bool x4)∧(sx w6∧((aD prog 102 [.bool (!x4)] w6 (aG R) fun v4 w7=>v4=(.tuple #[])∧(sx w7∧(inv [.i .i64 (IntKind.i64.wrap (x2+(1:Int)))] w7∧mu [.i .i64 (IntKind.i64.wrap (x2+(1:Int)))] w7<mu [.i .i64 x2] w3)))∧True)))∧True)))∧True)) (aA x fun a4=>∃ x5:Slc,(∀ w',sx w'→Rd w' (a4.add 0) [zS x5])∧((0≤(IntKind.i64.wrap (x2 - (1:Int)))∧(IntKind.i64.wrap (x2 - (1:Int)))<(x5.len:Nat))∧aA x5.a fun a5=>∃ xaa2:List UInt8,∃ xab2 xac2:Int,∃ xad2:Slc,∃ xae2:Bool,∃ xaf2 xag2 xb2:Slc,(∀ w',sx w'→Rd w' (a5.add (((IntKind.i64.wrap (x2 - (1:Int)))).toNat*8)) [.string ⟨xaa2.toArray⟩,.int .i64 xab2,.int .i64 xac2,zS xad2,.bool xae2,zS xaf2,zS xag2,zS xb2])∧aA x3 fun a6=>∃ xaa3:List UInt8,∃ xab3 xac3:Int,∃ xad3:Slc,∃ xae3:Bool,∃ xaf3 xag3 xb3:Slc,(∀ w',sx w'→Rd w' a6 [.string ⟨xaa3.toArray⟩,.int .i64 xab3,.int .i64 xac3,zS xad3,.bool xae3,zS xaf3,zS xag3,zS xb3])∧((aD prog 106 [.agg #[.string ⟨xaa2.toArray⟩,.int .i64 xab2,.int .i64 xac2,zS xad2,.bool xae2,zS xaf2,zS xag2,zS xb2],.agg #[.string ⟨xaa3.toArray⟩,.int .i64 xab3,.int .i64 xac3,zS xad3,.bool xae3,zS xaf3,zS xag3,zS xb3]] w5.drew (aG R) fun v5 w8=>∃ x6:Int,v5=(.int .i64 x6)∧(sx w8∧aH (decide (x6<(0:Int))) (aA x3 fun a7=>∃ xaa4:List UInt8,∃ xab4 xac4:Int,∃ xad4:Slc,∃ xae4:Bool,∃ xaf4 xag4 xb4:Slc,(∀ w',sx w'→Rd w' a7 [.string ⟨xaa4.toArray⟩,.int .i64 xab4,.int .i64 xac4,zS xad4,.bool xae4,zS xaf4,zS xag4,zS xb4])∧((aD prog 110 [.pointer x,.agg #[.string ⟨xaa4.toArray⟩,.int .i64 xab4,.int .i64 xac4,zS xad4,.bool xae4,zS xaf4,zS xag4,zS xb4]] w8 (aG R) fun v6 w9=>∃ x7:Bool,v6=(.bool x7)∧(sx w9∧((aD prog 102 [.bool (!x7)] w9 (aG R) fun v7 w10=>v7=(.tuple #[])∧(sx w10∧(inv [.i .i64 (IntKind.i64.wrap (x2+(1:Int)))] w10∧mu [.i .i64 (IntKind.i64.wrap (x2+(1:Int)))] w10<mu [.i .i64 x2] w3)))∧True)))∧True)) ((((sx w8∧((aD prog 102 [.bool false] w8 (aG R) fun v8 w11=>v8=(.tuple #[])∧(sx w11∧(inv [.i .i64 (IntKind.i64.wrap (x2+(1:Int)))] w11∧mu [.i .i64 (IntKind.i64.wrap (x2+(1:Int)))] w11<mu [.i .i64 x2] w3)))∧True)))∧True))))∧True))))) (R (.returned (.pointer x)) w3))
theorem qMK (set:Slc) {w:World} {R:RW} (hden:qRR set w R):Calls prog 162 #[zS set] w R:=
 aB (q0 .z (q0 .z (q0 .z (q0 (q0 .z (.block none (.loop [(16,(.i .i64))] (q0 .z (q0 (.cond .z .z) (q0 (.block none (q0 .z (.draw 1 (.take 0 (.take 1 (.take 2 (.take 3 (.take 4 (.take 5 (.take 7 (.take 8 (.take 6 (.take 9 (.take 10 (.take 11 (.all [(12,(.take 13 (.take 14 (.take 15 (.take 16 (.take 17 (.all [(18,(.take 19 (.take 20 (.all [(21,.done)]))))])))))))])))))))))))))))) .z)))))) (q0 .z .z))))) func162 (by kernel_rfl) [.sl set] (by kernel_rfl) (by kernel_rfl) hden
def qSZ (what:Value) (w:World) (R:RW):Prop:=
 aI prog (Instr.alloc 153 true (.tuple #[])) w fun v w1=>∃ x:Option Addr,v=(.pointer x)∧aI prog (Instr.alloc 25 true (.tuple #[])) w1 fun v1 w2=>∃ e:Option Addr,v1=(.pointer e)∧dL prog what [] w2 (fun c2 w5=>(dJ prog 218 #[.pointer e,.pointer x] (.panicking c2) w5 fun u1 w6=>eF u1 (aA x fun a2=>∃ x2:Option Addr,Rd w6 a2 [.pointer x2]∧aA e fun a3=>∃ e2:Int,Rd w6 a3 [.int .i64 e2]∧R (.returned (.tuple #[.pointer x2,.int .i64 e2])) w6) (fun c3=>R (.panicked c3) w6))) fun v2 w7=>∃ x3:Option Addr,v2=(.pointer x3)∧aA x fun a6=>aJ prog (storeVar 153 a6 (.pointer x3)) w7 fun w10=>aA e fun a9=>aJ prog (storeVar 25 a9 (.int .i64 (0:Int))) w10 fun w13=>(dJ prog 218 #[.pointer e,.pointer x] .returning w13 fun u4 w14=>eF u4 (aA x fun a10=>∃ x6:Option Addr,Rd w14 a10 [.pointer x6]∧aA e fun a11=>∃ e5:Int,Rd w14 a11 [.int .i64 e5]∧R (.returned (.tuple #[.pointer x6,.int .i64 e5])) w14) (fun c8=>R (.panicked c8) w14))
theorem qNX (what:Value) {w:World} {R:RW} (hden:qSZ what w R):Calls prog 160 #[what] w R:=
 aB (q0 .z (q0 .z (q0 .z .z))) func160 (by kernel_rfl) [.v what] (by kernel_rfl) (by kernel_rfl) hden
def qIA (c c1:Option Addr) (u:FrameMode) (w:World) (R:Ending→FrameMode→World→Prop):Prop:=
 zC u fun v u1=>aU prog (do eqGuard .neq 20 (.tmp 6) (.const .nilIface) v .nilIface; binOp .neq 20 v .nilIface) fun v1=>∃ x:Bool,v1=(.bool x)∧aH x (aI prog (Instr.typeAssert v 20 25 true) w fun v2 w1=>∃ xa:Int,∃ xb:Bool,v2=(.tuple #[.int .i64 xa,.bool xb])∧aA c fun a=>aJ prog (storeVar 25 a (.int .i64 xa)) w1 fun w2=>aH (!xb) (wF v fun z=>(fun c w=>R (.panicked c) u1 w) [{v:=z,recovered:=false}] w2) (aA c1 fun a1=>aJ prog (storeVar 153 a1 (.pointer none)) w2 fun w3=>R (.returned (.tuple #[])) u1 w3)) (R (.returned (.tuple #[])) u1 w)
theorem qHE (c c1:Option Addr) (u:FrameMode) (w:World) (R:Ending→FrameMode→World→Prop):qIA c c1 u w R=fX prog (Func.ntmps f218) (kN f218) (sK prog f218 R) u (gY 0 [.p c,.p c1]) w:=by kernel_rfl
theorem qLI (c c1:Option Addr) {u:FrameMode} {w:World} {R:Ending→FrameMode→World→Prop} (hden:qIA c c1 u w R):CallsDIn Fence.wide 0 prog 218 #[.pointer c,.pointer c1] u w R:=
 fC func218 (eV (by kernel_rfl)) [.p c,.p c1] (Nat.le_of_ble_eq_true (by kernel_rfl)) ((qHE c c1 u w R) ▸ hden)
end Go.Proofs.YtahjmeegfkfokaaGreatDoor
end
section
namespace Go.Proofs.YtahjmeegfkfokaaGreatDoor
open Go Go.Sh Go.MapKept
open Go.Proofs.Tryz
theorem qDW {rs:List Rc} (h:bY rs rs):rs.Pairwise dX:=by
 obtain ⟨c,hc,e⟩:=h
 rw [e]; exact hc.pw.sublist List.filter_sublist
theorem vI {rs:List Rc} (h:bY rs rs) {r:Rc} (hr:r∈rs):(rs.any fun s=>!decide (r.cl=s.cl∧r.sq=s.sq)&&s.over r)=false:=by
 obtain ⟨c,hc,e⟩:=h
 have hr':=hr
 rw [e] at hr'
 have h1:=(List.mem_filter.1 hr').2
 simp only [Bool.not_eq_true',List.any_eq_false] at h1
 rw [List.any_eq_false]
 intro s hs
 have hs':s∈c:=by rw [e] at hs; exact (List.mem_filter.1 hs).1
 exact h1 s hs'
section
variable {w:World}
theorem qMQ {s:Slc} {rs:List Rc} {K:List UInt8} (hR:bT w.heap.size w s rs) (hJ:bY rs rs) (hK : ∀ r∈rs,r.right=true∧r.key=K) (hn:rs.length≤100000) :
 Calls prog 162 #[.slice s.a s.len s.cap] w (Ret fun v w'=>∃ p,v = .pointer (some ⟨p,0,none⟩)∧Mod NoB w w'):=by
 refine qMK _ ?_
 unfold qRR
 obtain ⟨ii,hi1,hi2,hi3,hi4⟩:=xH
 refine aT (l:=[.slice none 0 0]) rfl fun p w1 hN hb=>⟨_,rfl,?_⟩
 have hat:=hN.at_; have hsz:=hN.size
 have hR1:lF w.heap.size w1 p _ ⟨none,0,0⟩ []:=⟨by omega,[],hb,bW _ 8,fun z hz=>by simp at hz,rfl,fun i h=>by simp at h⟩
 have hadd:=qFT (K:=K) hR1 (hR.mod (hN.mod.mono fun _ _ h=>h.elim)) hK (by simp) (by simpa using hn) (by omega)
 rw [aK] at hadd
 refine aC hadd ?_
 rintro v w2 ⟨rfl,x,hR2,hm2⟩
 rw [List.nil_append] at hR2
 have hm02:Mod NoB w w2:=hN.mod.fresh hm2 fun z h=>h
 have hxl:=hR2.len
 obtain ⟨hBp,is,hb2,ho2,hx2,hl2,hI2⟩:=hR2
 refine ⟨rfl,x,by rw [aK]; exact hb2.rd1 rfl,?_⟩
 refine ⟨fun l' w'=>match l' with | [.i _ y]=>∃ i:Nat,y=i∧i≤rs.length∧Mod NoB w2 w' | _=>False,fun l' _=>match l' with | [.i _ y]=>(rs.length - y).toNat | _=>0,⟨0,rfl,by omega,Mod.refl _ _⟩,?_⟩
 rintro y w3 ⟨i,rfl,hi,hm3⟩
 refine aE (fun h=>?_) fun h=>⟨p,rfl,hm02.tr hm3⟩
 have hil:i<rs.length:=by have:=of_decide_eq_true h; omega
 have hii:i<is.length:=by omega
 obtain ⟨A,ea,hrA⟩:=bX It.len (by omega) (ho2.no hm3).rd hii
 rw [ea]
 let t:=is[i]
 refine ⟨⟨by omega,by omega⟩,t.hd.a,t.hd.b,t.hd.c,t.hd.d,t.hd.e,t.hd.f,t.hd.g,t.s,hrA,?_⟩
 refine aO (l:=it0) hi1 hi2 rfl fun q w4 hN4 hq4=>⟨_,rfl,?_⟩
 refine uO (i:=t) (by kernel_rfl) (by kernel_rfl) hq4 rfl rfl fun w5 ht5 hq5=>?_
 have hq:=hN4.at_
 have hm35:Mod NoB w3 w5:=hN4.mod.fresh ht5.mod fun z e=>by have e:z=q:=e; omega
 have hmd:Mod NoB w2 w5.drew:=(hm3.tr hm35).tr (Mod.drew NoB w5)
 have hIt : ∀ w',Mod NoB w5.drew w'→iB w' t rs[i]:=fun w' hm=>(hI2 i hii hil).1.mod (hmd.tr hm) fun _ _ h=>h
 have hun : ∀ w',Mod NoB w5.drew w'→Calls prog 110 #[.pointer (some ⟨p,0,none⟩),t.val] w' (Ret fun u w''=>u = .bool false∧Mod NoB w' w''):=fun w' hm=>by
  have h1:=zZ (x:=t) (r:=rs[i]) (hb2.no (hmd.tr hm)) (ho2.no (hmd.tr hm)).rd hl2 (fun a b c=>(hI2 a b c).1.mod (hmd.tr hm) fun _ _ h=>h) (hIt w' hm) (by omega)
  rw [aK,vI hJ (List.getElem_mem hil)] at h1
  exact h1
 have hnext : ∀ w',Mod NoB w5.drew w'→(∃ j:Nat,IntKind.i64.wrap ((i:Int)+(1:Int))=j∧j≤rs.length∧Mod NoB w2 w')∧(rs.length - IntKind.i64.wrap ((i:Int)+(1:Int))).toNat<(rs.length - (i:Int)).toNat:=fun w' hm=>by
  rw [aS (by omega)]
  exact ⟨⟨i+1,rfl,by omega,hmd.tr hm⟩,by omega⟩
 refine ⟨Mod NoB w5.drew,Mod.refl _ _,aE (fun h0=>?_) fun h0=>?_⟩
 ·refine ⟨⟨Mod.refl _ _,t.hd.a,t.hd.b,t.hd.c,t.hd.d,t.hd.e,t.hd.f,t.hd.g,t.s,fun w' hm=>rB (hq5.no ((Mod.drew NoB w5).tr hm)),?_,trivial⟩,trivial⟩
  refine aC (hun _ (Mod.refl _ _)) ?_
  rintro v w6 ⟨rfl,hm6⟩
  refine ⟨_,rfl,hm6,?_,trivial⟩
  refine aC (nL rfl) ?_
  rintro v w7 ⟨rfl,rfl⟩
  exact ⟨rfl,hm6,hnext _ hm6⟩
 ·have hi0:i≠0:=by rintro rfl; simp at h0
  rw [wrap_i64 (e:=(i:Int) - 1) (by omega)]
  have ei:((i:Int) - 1)=((i - 1:Nat):Int):=by omega
  rw [ei]
  obtain ⟨A',ea',hrA'⟩:=bX It.len (by omega) ((ho2.no hmd)).rd (i:=i - 1) (by omega)
  rw [ea] at ea'; cases ea'
  let u:=is[i - 1]'(by omega)
  refine ⟨x,fun w' hm=>by rw [aK]; exact (hb2.no (hmd.tr hm)).rd1 rfl,⟨by omega,by omega⟩,?_⟩
  rw [ea]
  simp only [Int.toNat_natCast]
  refine ⟨u.hd.a,u.hd.b,u.hd.c,u.hd.d,u.hd.e,u.hd.f,u.hd.g,u.s,fun w' hm=>hrA'.mod hm fun h=>h,t.hd.a,t.hd.b,t.hd.c,t.hd.d,t.hd.e,t.hd.f,t.hd.g,t.s,fun w' hm=>rB (hq5.no ((Mod.drew NoB w5).tr hm)),?_,trivial⟩
  refine aC (uC (i:=u) (j:=t)) ?_
  rintro v w6 ⟨rfl,hm6⟩
  have hneg:wO u.hd t.hd<0:=by
   have hu:=(hI2 (i - 1) (by omega) (by omega)).1
   have ht:=(hI2 i hii hil).1
   have hlt:dX rs[i - 1] rs[i]:=List.pairwise_iff_getElem.1 (qDW hJ) (i - 1) i (by omega) hil (by omega)
   have eu1:u.hd.b=rs[i - 1].cl:=hu.hd.cl
   have eu2:u.hd.c=rs[i - 1].sq:=hu.hd.sq
   have et1:t.hd.b=rs[i].cl:=ht.hd.cl
   have et2:t.hd.c=rs[i].sq:=ht.hd.sq
   unfold wO orI lZ
   rw [eu1,eu2,et1,et2]
   unfold dX at hlt
   rcases hlt with h | ⟨h,h'⟩
   ·simp [h]
   ·simp [h,h']
  refine ⟨_,rfl,hm6.1,aE (fun _=>?_) fun h=>by have:=of_decide_eq_false h; omega⟩
  refine ⟨t.hd.a,t.hd.b,t.hd.c,t.hd.d,t.hd.e,t.hd.f,t.hd.g,t.s,fun w' hm=>rB (hq5.no ((Mod.drew NoB w5).tr hm)),?_,trivial⟩
  refine aC (hun _ hm6.1) ?_
  rintro v w7 ⟨rfl,hm7⟩
  refine ⟨_,rfl,hm6.1.tr hm7,?_,trivial⟩
  refine aC (nL rfl) ?_
  rintro v w8 ⟨rfl,rfl⟩
  exact ⟨rfl,hm6.1.tr hm7,hnext _ (hm6.1.tr hm7)⟩
theorem qXG {p q:Nat} {K:FrameMode→World→Prop} (hk:K .returning w):dJ prog 218 #[.pointer (some ⟨p,0,none⟩),.pointer (some ⟨q,0,none⟩)] .returning w K:=by
 unfold dJ
 refine qLI _ _ ?_
 unfold qIA
 show aU _ _ _
 refine ⟨.bool false,fun w=>?_,false,rfl,aE (fun h=>by cases h) fun _=>⟨(fun h=>(by cases h)),hk⟩⟩
 rfl
theorem jBT : ∃ i,prog.info? 153=some i∧i.zero=some (.pointer none)∧i.size=1∧i.bytes=8:=bM (by kernel_rfl) (by kernel_rfl) (by kernel_rfl)
theorem zB {s:Slc} {rs:List Rc} {K:List UInt8} (hR:bT w.heap.size w s rs) (hJ:bY rs rs) (hK : ∀ r∈rs,r.right=true∧r.key=K) (hn:rs.length≤100000) :
 Calls prog 112 #[.slice s.a s.len s.cap] w (Ret fun v w'=>v = .bool true∧Mod NoB w w'):=by
 refine qOU _ ?_
 unfold qPW
 obtain ⟨ip,hp1,hp2,hp3,hp4⟩:=jBT
 obtain ⟨ie,he1,he2,he3,he4⟩:=qHY
 refine aT (l:=[s.val]) rfl fun c w1 hN1 hc1=>⟨_,rfl,?_⟩
 have htried:Calls prog 160 #[.func (.func 161) #[] #[.pointer (some ⟨c,0,none⟩)]] w1 (Ret fun v w'=>∃ q,v = .tuple #[.pointer q,.int .i64 0]∧Mod NoB w1 w'):=by
  refine qNX _ ?_
  unfold qSZ
  refine aO (l:=[.pointer none]) hp1 hp2 rfl fun p w2 hN hb=>⟨_,rfl,?_⟩
  refine aO (l:=[.int .i64 0]) he1 he2 rfl fun q w3 hN2 hb2=>⟨_,rfl,?_⟩
  have e1:=hN.at_; have e2:=hN2.at_; have e3:=hN.size; have e4:=hN2.size
  have hM2:=hN.mod.tr hN2.mod
  have hc:Calls prog 161 #[.pointer (some ⟨c,0,none⟩)] w3 (Ret fun v w'=>∃ q,v = .pointer (some ⟨q,0,none⟩)∧Mod NoB w3 w'):=by
   refine qJF _ ?_
   unfold qUC
   have hM3:=hN1.mod.tr hM2
   refine ⟨s,(hc1.no hM2).rd1 rfl,?_⟩
   refine aC (qMQ (K:=K) ((hR.mod (hM3.mono fun _ _ h=>h.elim)).le hM3.size) hJ hK hn) ?_
   rintro v w4 ⟨q,rfl,hm⟩
   exact ⟨_,rfl,q,rfl,hm⟩
  refine cX (by kernel_rfl) (aC hc ?_)
  rintro v w4 ⟨r,rfl,hm3⟩
  refine ⟨_,rfl,?_⟩
  show aJ _ _ _ _
  refine aP (by kernel_rfl) (by kernel_rfl) rfl ((hb.no hN2.mod).no hm3) (by simp) fun w5 ht4 hp4=>?_
  show aJ _ _ _ _
  refine aP (by kernel_rfl) (by kernel_rfl) rfl ((hb2.no hm3).mod ht4.mod (by omega)) (by simp) fun w6 ht5 hq5=>?_
  refine qXG ?_
  unfold eF
  dsimp only
  have hm5:Mod NoB w1 w6:=((hM2.tr hm3).fresh ht4.mod fun z e=>by have e:z=p:=e; omega).fresh ht5.mod fun z e=>by have e:z=q:=e; omega
  exact ⟨_,(hp4.mod ht5.mod (by omega)).rd1 rfl,0,hq5.rd1 rfl,_,rfl,hm5⟩
 refine aC htried ?_
 rintro v w2 ⟨q,rfl,hm⟩
 exact ⟨q,0,rfl,rfl,hN1.mod.tr hm⟩
theorem jCR {s:Slc} {rs:List Rc} {K:List UInt8} (hR:bT w.heap.size w s rs) (hJ:bY rs rs) (hK : ∀ r∈rs,r.right=true∧r.key=K) (hn:rs.length≤100000) :
 Calls prog 65 #[.string ⟨K.toArray⟩,.slice s.a s.len s.cap] w (Ret fun v w'=>v = .bool true∧Mod NoB w w'):=by
 refine qVI _ _ ?_
 unfold jAV
 refine aC (zB (K:=K) hR hJ hK hn) ?_
 rintro v w1 ⟨rfl,hm⟩
 refine ⟨_,rfl,aE (fun _=>aE (fun _=>⟨rfl,hm⟩) fun h=>?_) fun h=>by cases h⟩
 have hlen:=hR.len
 have h0:0<rs.length:=by
  rcases Nat.eq_zero_or_pos rs.length with h2 | h2
  ·exfalso; rw [hlen] at h2; simp [h2] at h
  ·exact h2
 obtain ⟨hs,g1,g2,g3,g4⟩:=hR
 obtain ⟨A,ea,hrd⟩:=bX Hd.len (by omega) (g1.no hm) (i:=0) (by omega)
 rw [ea]
 refine ⟨⟨by omega,by omega⟩,(hs[0]'(by omega)).a,lS.2 (hrd 0 _ rfl),congrArg Value.bool ?_,hm⟩
 rw [(g4 0 (by omega) h0).1.key,(hK _ (List.getElem_mem h0)).2]
 simp
end
end Go.Proofs.YtahjmeegfkfokaaGreatDoor
end
section
namespace Go.Proofs.YtahjmeegfkfokaaGreatDoor
open Go Go.Sh
open Go.Proofs.Tryz
def jEB (r:Option Addr) (la:List UInt8) (lb:Slc) (w:World) (R:RW):Prop:=
 aI prog (Instr.box 65 (.agg #[.string ⟨la.toArray⟩,zS lb])) w fun v w1=>∃ l:Option Addr,v=(.pointer l)∧aA l fun a=>∃ x:List UInt8,Rd w1 (a.add 0) [.string ⟨x.toArray⟩]∧aD prog 50 [.pointer r,.string ⟨x.toArray⟩] w1 (aG R) fun v1 w2=>∃ xa:Int,∃ xb:Bool,v1=(.tuple #[.int .i64 xa,.bool xb])∧∃ j:List TV→World→Prop,(aH xb (aA l fun a1=>∃ x1:Slc,Rd w2 (a1.add 1) [zS x1]∧j [.b ((x1.len:Int)==(0:Int))] w2) (j [.b false] w2))∧(∀ x2:Bool,∀ w3:World,j [.b x2] w3→aH x2 (∃ sx:World→Prop,sx w3.drew∧aA r fun a2=>aA r fun a3=>∃ x3:Slc,(∀ w',sx w'→Rd w' (a2.add 0) [zS x3])∧∃ x4:Slc,(∀ w',sx w'→Rd w' (a3.add 1) [zS x4])∧((aD prog 113 [zS x3,.int .i64 xa,.int .i64 (IntKind.i64.wrap (xa+(1:Int)))] w3.drew (aG R) fun v2 w4=>∃ x5:Slc,v2=(zS x5)∧(sx w4∧((aD prog 114 [zS x4,.int .i64 xa,.int .i64 (IntKind.i64.wrap (xa+(1:Int)))] w4 (aG R) fun v3 w5=>∃ x6:Slc,v3=(zS x6)∧(sx w5∧aA r fun a4=>((aJ prog (storeVar 42 (a4.add 0) (zS x5)) w5 fun w6=>aA r fun a5=>((aJ prog (storeVar 75 (a5.add 1) (zS x6)) w6 fun w7=>R (.returned (.tuple #[])) w7)∧True))∧True)))∧True)))∧True)) (aH xb (∃ sx1:World→Prop,sx1 w3.drew∧aA r fun a6=>∃ x7:Slc,(∀ w',sx1 w'→Rd w' (a6.add 0) [zS x7])∧aA l fun a7=>∃ xa1:List UInt8,∃ xb1:Slc,(∀ w',sx1 w'→Rd w' a7 [.string ⟨xa1.toArray⟩,zS xb1])∧((0≤xa∧xa<(x7.len:Nat))∧aA x7.a fun a8=>((aJ prog (storeVar 65 (a8.add (xa.toNat*2)) (.agg #[.string ⟨xa1.toArray⟩,zS xb1])) w3.drew fun w8=>R (.returned (.tuple #[])) w8)∧True))) (aA l fun a9=>∃ x8:Slc,Rd w3 (a9.add 1) [zS x8]∧aH (decide ((x8.len:Int) > (0:Int))) (∃ sx2:World→Prop,sx2 w3.drew∧aA r fun a10=>aA r fun a11=>aA l fun a12=>∃ x9:Slc,(∀ w',sx2 w'→Rd w' (a10.add 0) [zS x9])∧aA l fun a13=>∃ xa2:List UInt8,∃ xb2:Slc,(∀ w',sx2 w'→Rd w' a13 [.string ⟨xa2.toArray⟩,zS xb2])∧∃ x10:Slc,(∀ w',sx2 w'→Rd w' (a11.add 1) [zS x10])∧∃ x11:List UInt8,(∀ w',sx2 w'→Rd w' (a12.add 0) [.string ⟨x11.toArray⟩])∧((aI prog (Instr.buildSlice 42 1 #[(0,(.agg #[.string ⟨xa2.toArray⟩,zS xb2]))]) w3.drew fun v4 w9=>∃ x12:Slc,v4=(zS x12)∧(sx2 w9∧((aD prog 115 [zS x9,.int .i64 xa,zS x12] w9 (aG R) fun v5 w10=>∃ x13:Slc,v5=(zS x13)∧(sx2 w10∧((aD prog 68 [.string ⟨x11.toArray⟩] w10 (aG R) fun v6 w11=>∃ x14:List UInt8,v6=(.string ⟨x14.toArray⟩)∧(sx2 w11∧((aI prog (Instr.buildSlice 75 1 #[(0,(.string ⟨x14.toArray⟩))]) w11 fun v7 w12=>∃ x15:Slc,v7=(zS x15)∧(sx2 w12∧((aD prog 116 [zS x10,.int .i64 xa,zS x15] w12 (aG R) fun v8 w13=>∃ x16:Slc,v8=(zS x16)∧(sx2 w13∧aA r fun a14=>((aJ prog (storeVar 42 (a14.add 0) (zS x13)) w13 fun w14=>aA r fun a15=>((aJ prog (storeVar 75 (a15.add 1) (zS x16)) w14 fun w15=>R (.returned (.tuple #[])) w15)∧True))∧True)))∧True)))∧True)))∧True)))∧True)))∧True)) (R (.returned (.tuple #[])) w3))))
theorem qYI (r:Option Addr) (la:List UInt8) (lb:Slc) {w:World} {R:RW} (hden:jEB r la lb w R):Calls prog 66 #[.pointer r,.agg #[.string ⟨la.toArray⟩,zS lb]] w R:=
 aB (q0 .z (q0 .z (.block none (.seq (some [(13,.b)]) .z (.cond (.draw 1 (.take 0 (.take 1 (.take 2 (.take 3 (.take 4 (.take 6 (.take 7 (.take 8 (.take 10 (.take 11 (.take 12 (.take 14 (.take 15 (.take 16 (.take 5 (.take 13 (.all [(9,(.all [(17,(.take 18 (.take 19 (.all [(20,(.take 21 (.take 22 (.all [(23,.done)]))))]))))]))])))))))))))))))))) (q0 .z (.cond (.draw 1 (.take 0 (.take 1 (.take 2 (.take 4 (.take 3 (.take 5 (.take 6 (.all [(7,.done)]))))))))) (q0 .z (.cond (.draw 1 (.take 0 (.take 1 (.take 2 (.take 3 (.take 4 (.take 6 (.take 10 (.take 11 (.take 12 (.take 14 (.take 15 (.take 5 (.take 7 (.take 13 (.take 16 (.all [(8,(.all [(9,(.all [(17,(.all [(18,(.all [(19,(.take 20 (.take 21 (.all [(22,(.take 23 (.take 24 (.all [(25,.done)]))))]))))]))]))]))]))]))))))))))))))))) .z))))))))) func66 (by kernel_rfl) [.p r,.agg [.s la,.sl lb]] (by kernel_rfl) (by kernel_rfl) hden
def jCB (t:Option Addr) (leaves:Slc) (w:World) (R:RW):Prop:=
 aD prog 49 [.pointer t] w (aG R) fun v w1=>∃ x:Bool,v=(.bool x)∧aH (!x) (R (.returned (.int .i64 (1:Int))) w1) (∃ (inv:List TV→World→Prop) (mu:List TV→World→Nat),inv [.i .i64 (0:Int)] w1∧(∀ x1:Int,∀ w2:World,inv [.i .i64 x1] w2→aH (decide (x1<(leaves.len:Int))) (((0≤x1∧x1<(leaves.len:Nat))∧aA leaves.a fun a=>∃ xa:List UInt8,∃ xb:Slc,Rd w2 (a.add (x1.toNat*2)) [.string ⟨xa.toArray⟩,zS xb]∧aI prog (Instr.alloc 65 true (.tuple #[])) w2 fun v1 w3=>∃ l:Option Addr,v1=(.pointer l)∧aA l fun a1=>aJ prog (storeVar 65 a1 (.agg #[.string ⟨xa.toArray⟩,zS xb])) w3 fun w4=>∃ j:List TV→World→Prop,(aA l fun a2=>∃ x2:List UInt8,Rd w4 (a2.add 0) [.string ⟨x2.toArray⟩]∧aD prog 64 [.string ⟨x2.toArray⟩] w4 (aG R) fun v2 w5=>∃ x3:Bool,v2=(.bool x3)∧aH (!x3) (j [.b true] w5) (∃ sx:World→Prop,sx w5.drew∧aA l fun a3=>aA t fun a4=>∃ x4:List UInt8,(∀ w',sx w'→Rd w' (a3.add 0) [.string ⟨x4.toArray⟩])∧∃ x5:Int,(∀ w',sx w'→Rd w' (a4.add 2) [.int .i64 x5])∧((aD prog 48 [.string ⟨x4.toArray⟩] w5.drew (aG R) fun v3 w6=>∃ x6:Int,v3=(.int .i64 x6)∧(sx w6∧j [.b (x6 != x5)] w6))∧True)))∧(∀ x7:Bool,∀ w7:World,j [.b x7] w7→aH x7 (R (.returned (.int .i64 (22:Int))) w7) (aA l fun a5=>∃ x8:List UInt8,Rd w7 (a5.add 0) [.string ⟨x8.toArray⟩]∧aA l fun a6=>∃ x9:Slc,Rd w7 (a6.add 1) [zS x9]∧aD prog 65 [.string ⟨x8.toArray⟩,zS x9] w7 (aG R) fun v4 w8=>∃ x10:Bool,v4=(.bool x10)∧aH (!x10) (R (.returned (.int .i64 (4:Int))) w8) ((inv [.i .i64 (IntKind.i64.wrap (x1+(1:Int)))] w8∧mu [.i .i64 (IntKind.i64.wrap (x1+(1:Int)))] w8<mu [.i .i64 x1] w2)))))) (∃ (inv1:List TV→World→Prop) (mu1:List TV→World→Nat),inv1 [.i .i64 (0:Int)] w2∧(∀ x11:Int,∀ w9:World,inv1 [.i .i64 x11] w9→aH (decide (x11<(leaves.len:Int))) (((0≤x11∧x11<(leaves.len:Nat))∧aA leaves.a fun a7=>∃ xa1:List UInt8,∃ xb1:Slc,Rd w9 (a7.add (x11.toNat*2)) [.string ⟨xa1.toArray⟩,zS xb1]∧aI prog (Instr.alloc 65 true (.tuple #[])) w9 fun v5 w10=>∃ l1:Option Addr,v5=(.pointer l1)∧aA l1 fun a8=>aJ prog (storeVar 65 a8 (.agg #[.string ⟨xa1.toArray⟩,zS xb1])) w10 fun w11=>∃ sx1:World→Prop,sx1 w11.drew∧aA t fun a9=>aA l1 fun a10=>aA l1 fun a11=>∃ x12:List UInt8,(∀ w',sx1 w'→Rd w' (a10.add 0) [.string ⟨x12.toArray⟩])∧∃ x13:Slc,(∀ w',sx1 w'→Rd w' (a11.add 1) [zS x13])∧((aD prog 67 [.string ⟨x12.toArray⟩] w11.drew (aG R) fun v6 w12=>∃ x14:List UInt8,v6=(.string ⟨x14.toArray⟩)∧(sx1 w12∧((aD prog 51 [zS x13] w12 (aG R) fun v7 w13=>∃ x15:Slc,v7=(zS x15)∧(sx1 w13∧((aD prog 66 [.pointer (some (a9.add 0)),.agg #[.string ⟨x14.toArray⟩,zS x15]] w13 (aG R) fun v8 w14=>v8=(.tuple #[])∧(sx1 w14∧aA l1 fun a12=>∃ x16:List UInt8,Rd w14 (a12.add 0) [.string ⟨x16.toArray⟩]∧aD prog 68 [.string ⟨x16.toArray⟩] w14 (aG R) fun v9 w15=>∃ x17:List UInt8,v9=(.string ⟨x17.toArray⟩)∧aA t fun a13=>∃ x18:Option Nat,Rd w15 (a13.add 3) [.map x18]∧aI prog (Instr.range 74 (.map x18)) w15 fun v10 w16=>∃ x19:Option Addr,v10=(.pointer x19)∧∃ (inv2:List TV→World→Prop) (mu2:List TV→World→Nat),inv2 [] w16∧(∀ w17:World,inv2 [] w17→aI prog (Instr.next (.pointer x19) false 0) w17 fun v11 w18=>∃ x20:Value,v11=x20∧∃ vs:Array Value,x20 = .tuple vs∧∃ x21:Bool,vs[0]? = some (.bool x21)∧aH x21 (aI prog (Instr.entry (.pointer x19)) w18 fun v12 w19=>∃ x22:Value,v12=x22∧∃ vs1:Array Value,x22 = .tuple vs1∧∃ x23:List UInt8,vs1[0]? = some (.string ⟨x23.toArray⟩)∧aD prog 69 [.string ⟨x17.toArray⟩,.string ⟨x23.toArray⟩] w19 (aG R) fun v13 w20=>∃ x24:Bool,v13=(.bool x24)∧aH x24 (aA t fun a14=>∃ x25:Option Nat,Rd w20 (a14.add 3) [.map x25]∧aI prog (Builtin.delete_ #[74,9] 0 #[.map x25,.string ⟨x23.toArray⟩]) w20 fun v14 w21=>v14=(.tuple #[])∧(inv2 [] w21∧mu2 [] w21<mu2 [] w17)) ((inv2 [] w20∧mu2 [] w20<mu2 [] w17))) ((inv1 [.i .i64 (IntKind.i64.wrap (x11+(1:Int)))] w18∧mu1 [.i .i64 (IntKind.i64.wrap (x11+(1:Int)))] w18<mu1 [.i .i64 x11] w9)))))∧True)))∧True)))∧True))) (R (.returned (.int .i64 (0:Int))) w9)))))
theorem qVM (t:Option Addr) (leaves:Slc) {w:World} {R:RW} (hden:jCB t leaves w R):Calls prog 43 #[.pointer t,zS leaves] w R:=
 aB (q0 .z (q0 (q0 .z (.cond (q0 .z .z) .z)) (q0 (q0 .z (.block none (.loop [(16,(.i .i64))] (q0 .z (q0 (.cond .z .z) (q0 (.block none (q0 .z (.block none (.seq (some [(20,.b)]) (q0 .z (.cond .z (.draw 1 (.take 0 (.take 3 (.take 4 (.take 5 (.take 1 (.take 6 (.all [(2,(.take 7 (.take 8 .done)))])))))))))) (.cond (q0 .z .z) (q0 .z (.cond (q0 .z .z) .z))))))) .z)))))) (q0 (q0 .z (.block none (.loop [(43,(.i .i64))] (q0 .z (q0 (.cond .z .z) (q0 (.block none (q0 .z (q0 (.draw 1 (.take 0 (.take 1 (.take 2 (.take 3 (.take 6 (.take 4 (.take 7 (.all [(5,(.all [(8,(.take 9 (.all [(10,.done)])))]))]))))))))) (q0 .z (q0 .z (.block none (.loop [] (q0 .z (q0 (.cond .z .z) (.block none (q0 .z (q0 .z (.cond .z .z))))))))))))) .z)))))) (q0 .z .z))))) func43 (by kernel_rfl) [.p t,.sl leaves] (by kernel_rfl) (by kernel_rfl) hden
def jCY (s:List UInt8) (w:World) (R:RW):Prop:=
 aD prog 117 [.string ⟨s.toArray⟩] w (aG R) fun v w1=>∃ x:List UInt8,v=(.string ⟨x.toArray⟩)∧R (.returned (.string ⟨x.toArray⟩)) w1
theorem qZM (s:List UInt8) {w:World} {R:RW} (hden:jCY s w R):Calls prog 67 #[.string ⟨s.toArray⟩] w R:=
 aB (q0 .z (q0 .z .z)) func67 (by kernel_rfl) [.s s] (by kernel_rfl) (by kernel_rfl) hden
def qSD (s:List UInt8) (w:World) (R:RW):Prop:=
 aH ((s.length:Int)==(0:Int)) (R (.returned (.string ⟨([]).toArray⟩)) w) (aI prog (Instr.makeSlice 28 (.int .i64 (s.length:Int)) (.int .i64 (s.length:Int))) w fun v w1=>∃ x:Slc,v=(zS x)∧aI prog (Builtin.copy_ #[28,9] 3 #[zS x,.string ⟨s.toArray⟩]) w1 fun v1 w2=>∃ x1:Int,v1=(.int .i64 x1)∧((0≤(0:Int)∧(0:Int)<(x.len:Nat))∧aA x.a fun a=>aI prog (Builtin.unsafeString_ #[222,3] 9 #[.pointer (some (a.add (((0:Int)).toNat*1))),.int .i64 (x.len:Int)]) w2 fun v2 w3=>∃ x2:List UInt8,v2=(.string ⟨x2.toArray⟩)∧R (.returned (.string ⟨x2.toArray⟩)) w3))
theorem qMZ (s:List UInt8) {w:World} {R:RW} (hden:qSD s w R):Calls prog 117 #[.string ⟨s.toArray⟩] w R:=
 aB (q0 .z (q0 (q0 .z (.cond (q0 .z .z) .z)) (q0 .z (q0 .z (q0 .z .z))))) func117 (by kernel_rfl) [.s s] (by kernel_rfl) (by kernel_rfl) hden
end Go.Proofs.YtahjmeegfkfokaaGreatDoor
end
section
namespace Go.Proofs.YtahjmeegfkfokaaGreatDoor
open Go Go.Sh Go.MapKept
open Go.Proofs.Tryz
section
variable {w:World}
theorem xI {t t2 ty:TypeId} {K:Value→World→Prop} (ht:prog.underlying t=some (.slice 5)) {b:Nat} {l:List Value} {T:TypeId} {s:List UInt8} (hb:Blk w b l T) (hl:l.length=s.length)
 (hK : ∀ w',Blk w' b (bys s) T→Mod (fun y=>y=b) w w'→w'.heap.size=w.heap.size→K (.int .i64 s.length) w') :
 aI prog (Builtin.copy_ #[t,t2] ty #[.slice (some ⟨b,0,none⟩) s.length s.length,.string ⟨s.toArray⟩]) w K:=by
 obtain ⟨i5',h51,h52,h53,h54⟩:=i5
 obtain ⟨w',hst,hb',ht'⟩:=eD (P:=prog) (o:=0) (vs:=bys s) hb (by simp; omega) (fM _)
 have e:putAt l 0 (bys s)=bys s:=by
  simp only [putAt,List.take_zero,List.nil_append]
  rw [List.drop_eq_nil_of_le (by simp; omega),List.append_nil]
 rw [e] at hb'
 have hmin:Nat.min s.length s.length=s.length:=Nat.min_self _
 refine ⟨_,_,?_,hK _ hb' ht'.mod ht'.size⟩
 have hex:(ByteArray.extract ⟨s.toArray⟩ 0 s.length).data.map (fun b=>Value.int .u8 b.toNat)=(bys s).toArray:=by
  have:(ByteArray.extract ⟨s.toArray⟩ 0 s.length).data=s.toArray:=by
   rw [ByteArray.data_extract]
   simp
  rw [this]; simp [bys]
 unfold Builtin.copy_
 simp only [List.getElem?_toArray,List.getElem?_cons_zero,List.getElem?_cons_succ,run_underlying ht,Sem.run_bind,Sem.run_pure,Result.andThen_ok,Builtin.lenOf,Builtin.firstCells,goInt,Go.Sh.run_sizeOf h51]
 have hsz:(ByteArray.mk s.toArray).size=s.length:=by simp [ByteArray.size]
 simp only [hsz,hmin,hex,hst,Result.andThen_ok]
theorem qFF {s:List UInt8} (hn:s.length≤1000000000):Calls prog 67 #[.string ⟨s.toArray⟩] w (Ret fun v w'=>v = .string ⟨s.toArray⟩∧Mod NoB w w'):=by
 refine qZM _ ?_
 unfold jCY
 have hc:Calls prog 117 #[.string ⟨s.toArray⟩] w (Ret fun v w'=>v = .string ⟨s.toArray⟩∧Mod NoB w w'):=by
  refine qMZ _ ?_
  unfold qSD
  obtain ⟨i5',h51,h52,h53,h54⟩:=i5
  refine aE (fun h=>?_) fun h=>?_
  ·have:s=[]:=List.eq_nil_of_length_eq_zero (by have:=h; simp at this; simp [this])
   subst this
   exact ⟨rfl,Mod.refl _ _⟩
  ·have h0:s≠[]:=by rintro rfl; simp at h
   have hp:0<s.length:=List.length_pos_iff.2 h0
   refine cH (l:=s.length) (c:=s.length) u26 h51 h52 h53 rfl h54 rfl rfl (by omega) (by omega) (by omega) fun b w1 hN1 hb1 ho1=>⟨⟨some ⟨b,0,none⟩,s.length,s.length⟩,rfl,?_⟩
   have hat:=hN1.at_
   refine xI u26 hb1 (by simp) fun w2 hb2 hm2 hs2=>⟨_,rfl,⟨by omega,by show (0:Int)<((s.length:Nat):Int); omega⟩,?_⟩
   show aI _ _ _ _
   refine ⟨_,_,Lib.run_unsafeString_row _ 222 3 9 5 uPB (by kernel_rfl) b (bys s).length (mW hb2) s h0 (by simp) (by omega) (fun j x hj=>?_),s,rfl,rfl,?_⟩
   ·rw [aK,Nat.zero_add,hb2.cell]
    simp [bys,hj]
   ·exact (hN1.mod.fresh hm2 fun x e=>by omega).fresh (pW hb2) fun x e=>by omega
 refine aC hc ?_
 rintro v w1 ⟨rfl,hm⟩
 exact ⟨_,rfl,rfl,hm⟩
end
structure Tr where
 p:Nat
 lv:Slc
 wy:Slc
 mb:Nat
def Tr.W (t:Tr) (z:Nat):Prop:=z=t.p∨t.lv.blk=some z∨t.wy.blk=some z∨z=t.mb
def ways (L:Lv):List Value:=L.map fun e=>nD (way (dg e.1))
structure gD (w:World) (t:Tr) (k:Int) (L:Lv) (B:Nat→Prop):Prop where
 blk:Blk w t.p (jB t.lv t.wy k t.mb) 79
 map:rZ .string w t.mb [] 0
 es : ∃ es:List (List UInt8×Slc),Sh.Own w t.lv 2 (aR bE es)∧es.length=L.length∧∀ i (h:i<es.length) (h':i<L.length),es[i].1=L[i].1∧fK B w es[i].2 L[i].2
 way:Sh.Own w t.wy 1 (ways L)
 d1:t.lv.blk≠some t.p
 d2:t.wy.blk≠some t.p
 d3:t.p≠t.mb
 d4:t.lv.blk≠some t.mb
 d5:t.wy.blk≠some t.mb
 d6 : ∀ z,t.lv.blk=some z→t.wy.blk≠some z
 sep : ∀ z,B z→¬ t.W z
 lt : ∀ z,B z→z<w.heap.size
theorem gD.wlt {w:World} {t:Tr} {k:Int} {L:Lv} {B:Nat→Prop} (h:gD w t k L B) : ∀ z,t.W z→z<w.heap.size:=by
 rintro z (rfl | hz | hz | rfl)
 ·exact h.blk.lt
 ·obtain ⟨es,h1,_⟩:=h.es; exact h1.lt hz
 ·exact h.way.lt hz
 ·exact h.map.lt
theorem gD.mod {w w':World} {t:Tr} {k:Int} {L:Lv} {B S:Nat→Prop} (h:gD w t k L B) (hm:Mod S w w') (h1 : ∀ z,t.W z→¬ S z) (h2 : ∀ z,B z→¬ S z):gD w' t k L B:=by
 obtain ⟨es,e1,e2,e3⟩:=h.es
 exact ⟨h.blk.mod hm (h1 _ (.inl rfl)),h.map.mod hm (h1 _ (.inr (.inr (.inr rfl)))),⟨es,e1.mod hm fun z hz=>h1 z (.inr (.inl hz)),e2,fun i a b=>⟨(e3 i a b).1,(e3 i a b).2.mod hm fun z hz _=>⟨h2 z hz,hz⟩⟩⟩,
  h.way.mod hm fun z hz=>h1 z (.inr (.inr (.inl hz))),h.d1,h.d2,h.d3,h.d4,h.d5,h.d6,h.sep,fun z hz=>Nat.lt_of_lt_of_le (h.lt z hz) hm.size⟩
theorem gD.no {w w':World} {t:Tr} {k:Int} {L:Lv} {B:Nat→Prop} (h:gD w t k L B) (hm:Mod NoB w w'):gD w' t k L B:=h.mod hm (fun _ _ h=>h) fun _ _ h=>h
def dB (L:Lv):Prop:=L.Pairwise fun a b=>a.1<b.1
structure qK (L:Lv) (key:List UInt8) (rs:List Rc) (L':Lv):Prop where
 pw:dB L'
 mem : ∀ e,e∈L'↔(rs≠[]∧e=(key,rs))∨(e.1≠key∧e∈L)
theorem qFV {L:Lv} {key:List UInt8} {rs:List Rc} {i:Nat} (hne:rs≠[]) (hs:dB L) (hi:i<L.length) (hk:L[i].1=key):qK L key rs (L.set i (key,rs)):=by
 have hlt:=List.pairwise_iff_getElem.1 hs
 have hg : ∀ a (h:a<L.length),((L.set i (key,rs))[a]'(by simpa using h)).1=L[a].1:=fun a h=>by
  rw [List.getElem_set]
  split
  ·next e=>subst e; exact hk.symm
  ·rfl
 refine ⟨List.pairwise_iff_getElem.2 fun a b ha hb hab=>?_,fun e=>?_⟩
 ·rw [hg a (by simpa using ha),hg b (by simpa using hb)]
  exact hlt a b (by simpa using ha) (by simpa using hb) hab
 ·constructor
  ·intro he
   obtain ⟨a,ha,rfl⟩:=List.getElem_of_mem he
   have ha':a<L.length:=by simpa using ha
   rw [List.getElem_set]
   split
   ·exact .inl ⟨hne,rfl⟩
   ·next hne'=>
    refine .inr ⟨fun e=>?_,List.getElem_mem _⟩
    have e2:L[a].1=L[i].1:=e.trans hk.symm
    rcases Nat.lt_or_ge a i with h | h
    ·have:=hlt a i ha' hi h; rw [e2] at this; exact List.lt_irrefl _ this
    ·have:=hlt i a hi ha' (by omega); rw [e2] at this; exact List.lt_irrefl _ this
  ·rintro (⟨_,rfl⟩ | ⟨h1,h2⟩)
   ·exact List.mem_iff_getElem.2 ⟨i,by simpa using hi,by simp⟩
   ·obtain ⟨a,ha,rfl⟩:=List.getElem_of_mem h2
    have:a≠i:=by rintro rfl; exact h1 hk
    exact List.mem_iff_getElem.2 ⟨a,by simpa using ha,by rw [List.getElem_set,if_neg (fun e=>this e.symm)]⟩
theorem qED {L:Lv} {key:List UInt8} {rs:List Rc} {i:Nat} (hne:rs≠[]) (hs:dB L) (hi:i≤L.length) (h1 : ∀ j (h:j<L.length),j<i→L[j].1<key) (h2 : ∀ j (h:j<L.length),i≤j→key<L[j].1):qK L key rs (L.take i++(key,rs) :: L.drop i):=by
 have m1 : ∀ e∈L.take i,e.1<key:=fun e he=>by
  obtain ⟨a,ha,rfl⟩:=List.getElem_of_mem he
  rw [List.length_take] at ha
  rw [List.getElem_take]
  exact h1 a (by omega) (by omega)
 have m2 : ∀ e∈L.drop i,key<e.1:=fun e he=>by
  obtain ⟨a,ha,rfl⟩:=List.getElem_of_mem he
  rw [List.length_drop] at ha
  rw [List.getElem_drop]
  exact h2 (i+a) (by omega) (by omega)
 refine ⟨?_,fun e=>?_⟩
 ·refine List.pairwise_append.2 ⟨hs.sublist (List.take_sublist _ _),List.pairwise_cons.2 ⟨fun e he=>m2 e he,hs.sublist (List.drop_sublist _ _)⟩,fun a ha b hb=>?_⟩
  rcases List.mem_cons.1 hb with rfl | hb
  ·exact m1 a ha
  ·exact List.lt_trans (m1 a ha) (m2 b hb)
 ·have:e∈L↔e∈L.take i∨e∈L.drop i:=by rw [← List.mem_append,List.take_append_drop]
  rw [List.mem_append,List.mem_cons,this]
  constructor
  ·rintro (h | rfl | h)
   ·exact .inr ⟨fun e'=>by have:=m1 e h; rw [e'] at this; exact List.lt_irrefl _ this,.inl h⟩
   ·exact .inl ⟨hne,rfl⟩
   ·exact .inr ⟨fun e'=>by have:=m2 e h; rw [e'] at this; exact List.lt_irrefl _ this,.inr h⟩
  ·rintro (⟨_,rfl⟩ | ⟨_,h | h⟩)
   ·exact .inr (.inl rfl)
   ·exact .inl h
   ·exact .inr (.inr h)
theorem qFY {L:Lv} {key:List UInt8} {i:Nat} (hs:dB L) (hi:i<L.length) (hk:L[i].1=key):qK L key [] (L.take i++L.drop (i+1)):=by
 have e:L=L.take i++L[i] :: L.drop (i+1):=by rw [← List.drop_eq_getElem_cons hi,List.take_append_drop]
 have hs':=hs
 rw [e] at hs'
 obtain ⟨p1,p2,p3⟩:=List.pairwise_append.1 hs'
 obtain ⟨p4,p5⟩:=List.pairwise_cons.1 p2
 refine ⟨List.pairwise_append.2 ⟨p1,p5,fun a ha b hb=>p3 a ha b (List.mem_cons_of_mem _ hb)⟩,fun x=>?_⟩
 have hm:x∈L↔x∈L.take i∨x=L[i]∨x∈L.drop (i+1):=by
  conv=>lhs; rw [e]
  rw [List.mem_append,List.mem_cons]
 rw [hm,List.mem_append]
 constructor
 ·rintro (h | h)
  ·exact .inr ⟨fun e'=>by have:=p3 x h L[i] List.mem_cons_self; rw [e',hk] at this; exact List.lt_irrefl _ this,.inl h⟩
  ·exact .inr ⟨fun e'=>by have:=p4 x h; rw [e',hk] at this; exact List.lt_irrefl _ this,.inr (.inr h)⟩
 ·rintro (⟨h,_⟩ | ⟨h1,h | rfl | h⟩)
  ·exact absurd rfl h
  ·exact .inl h
  ·exact absurd hk h1
  ·exact .inr h
theorem qKK {L:Lv} {key:List UInt8} (hs:dB L) (h : ∀ e∈L,e.1≠key):qK L key [] L:=
 ⟨hs,fun e=>⟨fun he=>.inr ⟨h e he,he⟩,fun he=>he.elim (fun h=>absurd rfl h.1) fun h=>h.2⟩⟩
theorem gD.wide {w:World} {t:Tr} {k:Int} {L:Lv} {B Q:Nat→Prop} (h:gD w t k L B) (hQ : ∀ z,Q z→¬ t.W z∧z<w.heap.size):gD w t k L (fun z=>B z∨Q z):=by
 obtain ⟨es,e1,e2,e3⟩:=h.es
 exact ⟨h.blk,h.map,⟨es,e1,e2,fun i a b=>⟨(e3 i a b).1,(e3 i a b).2.mod (Mod.refl NoB w) fun z hz _=>⟨fun h=>h,.inl hz⟩⟩⟩,h.way,h.d1,h.d2,h.d3,h.d4,h.d5,h.d6,
  fun z hz=>hz.elim (fun h'=>h.sep z h') fun h'=>(hQ z h').1,fun z hz=>hz.elim (fun h'=>h.lt z h') fun h'=>(hQ z h').2⟩
end Go.Proofs.YtahjmeegfkfokaaGreatDoor
end
section
namespace Go.Proofs.YtahjmeegfkfokaaGreatDoor
open Go Go.Sh
open Go.Proofs.Tryz
def qUE (s:Slc) (i j:Int) (w:World) (R:RW):Prop:=
 ((0≤i∧i≤j∧j≤(s.len:Int)∧(s.len:Int)≤(s.cap:Nat))∧aH (i==j) (R (.returned (zS s)) w) (((0≤i∧i≤(s.cap:Nat))∧((0≤j∧j≤(s.len:Nat))∧((aI prog (Builtin.append_ #[42,42] 42 #[.slice (aF s 2 0 (i.toNat) s.cap).a (aF s 2 0 (i.toNat) s.cap).len (aF s 2 0 (i.toNat) s.cap).cap,.slice (aF s 2 (j.toNat) s.len s.cap).a (aF s 2 (j.toNat) s.len s.cap).len (aF s 2 (j.toNat) s.len s.cap).cap]) w.drew fun v w1=>∃ x:Slc,v=(zS x)∧((0≤(x.len:Int)∧(x.len:Int)≤(s.len:Int)∧(s.len:Int)≤(x.cap:Nat))∧aI prog (Builtin.clear_ #[42] 0 #[.slice (aF x 2 (((x.len:Int)).toNat) (((s.len:Int)).toNat) x.cap).a (aF x 2 (((x.len:Int)).toNat) (((s.len:Int)).toNat) x.cap).len (aF x 2 (((x.len:Int)).toNat) (((s.len:Int)).toNat) x.cap).cap]) w1 fun v1 w2=>v1=(.tuple #[])∧R (.returned (zS x)) w2))∧True)))))
theorem qPO (s:Slc) (i j:Int) {w:World} {R:RW} (hden:qUE s i j w R):Calls prog 113 #[zS s,.int .i64 i,.int .i64 j] w R:=
 aB (q0 .z (q0 .z (q0 (q0 .z (.cond (q0 .z .z) .z)) (q0 .z (q0 (.draw 0 (.take 0 (.take 1 (.take 2 (.take 3 (.take 4 (.take 5 (.all [(6,(.take 7 .done))])))))))) (q0 .z (q0 .z .z))))))) func113 (by kernel_rfl) [.sl s,.i .i64 i,.i .i64 j] (by kernel_rfl) (by kernel_rfl) hden
def qTP (s:Slc) (i j:Int) (w:World) (R:RW):Prop:=
 ((0≤i∧i≤j∧j≤(s.len:Int)∧(s.len:Int)≤(s.cap:Nat))∧aH (i==j) (R (.returned (zS s)) w) (((0≤i∧i≤(s.cap:Nat))∧((0≤j∧j≤(s.len:Nat))∧((aI prog (Builtin.append_ #[75,75] 75 #[.slice (aF s 1 0 (i.toNat) s.cap).a (aF s 1 0 (i.toNat) s.cap).len (aF s 1 0 (i.toNat) s.cap).cap,.slice (aF s 1 (j.toNat) s.len s.cap).a (aF s 1 (j.toNat) s.len s.cap).len (aF s 1 (j.toNat) s.len s.cap).cap]) w.drew fun v w1=>∃ x:Slc,v=(zS x)∧((0≤(x.len:Int)∧(x.len:Int)≤(s.len:Int)∧(s.len:Int)≤(x.cap:Nat))∧aI prog (Builtin.clear_ #[75] 0 #[.slice (aF x 1 (((x.len:Int)).toNat) (((s.len:Int)).toNat) x.cap).a (aF x 1 (((x.len:Int)).toNat) (((s.len:Int)).toNat) x.cap).len (aF x 1 (((x.len:Int)).toNat) (((s.len:Int)).toNat) x.cap).cap]) w1 fun v1 w2=>v1=(.tuple #[])∧R (.returned (zS x)) w2))∧True)))))
theorem qKG (s:Slc) (i j:Int) {w:World} {R:RW} (hden:qTP s i j w R):Calls prog 114 #[zS s,.int .i64 i,.int .i64 j] w R:=
 aB (q0 .z (q0 .z (q0 (q0 .z (.cond (q0 .z .z) .z)) (q0 .z (q0 (.draw 0 (.take 0 (.take 1 (.take 2 (.take 3 (.take 4 (.take 5 (.all [(6,(.take 7 .done))])))))))) (q0 .z (q0 .z .z))))))) func114 (by kernel_rfl) [.sl s,.i .i64 i,.i .i64 j] (by kernel_rfl) (by kernel_rfl) hden
end Go.Proofs.YtahjmeegfkfokaaGreatDoor
end
section
namespace Go.Proofs.YtahjmeegfkfokaaGreatDoor
open Go Go.Sh Go.MapKept
open Go.Proofs.Tryz
section
variable {w:World}
theorem qUO {s:Slc} {vs:List Value} {i n:Nat} (ho:Sh.Own w s 2 vs) (h1 : ∀ u∈vs,u.oneCell'=true) (hn:s.len=n) (hi:i<n) (hnn:n≤100000000) :
 Calls prog 113 #[.slice s.a s.len s.cap,.int .i64 i,.int .i64 ((i+1:Nat):Int)] w (Ret fun v w'=>∃ x:Slc,v=x.val∧Sh.Own w' x 2 (vs.take (i*2)++vs.drop ((i+1)*2))∧x.blk=s.blk∧Mod (fun z=>s.blk=some z) w w'):=by
 refine qPO _ _ _ ?_
 unfold qUE
 obtain ⟨i',g1,g2,g3,g4⟩:=pB
 have hvl:vs.length=n*2:=by have:=ho.1; rw [hn] at this; exact this
 have hcc:=ho.2.1
 refine ⟨⟨by omega,by omega,by omega,by omega⟩,aE (fun h=>?_) fun _=>?_⟩
 ·have:(i:Int)=((i+1:Nat):Int):=by simpa using h
  omega
 refine ⟨⟨by omega,by omega⟩,⟨by omega,by omega⟩,?_,trivial⟩
 simp only [Int.toNat_natCast]
 have ec:aF s 2 0 i s.cap=⟨s.a,i,s.cap⟩:=jP hcc (by omega)
 rw [ec]
 have hoz:=ho.take (n:=i) (by omega)
 have hsrc:aL w (aF s 2 (i+1) s.len s.cap) 2 (vs.drop ((i+1)*2)):=by
  have h5:=ho.rd.cut (l:=i+1) (n:=s.len) (m:=s.cap) (by omega) (Nat.le_refl _) hcc (Nat.le_refl _)
  rw [List.take_of_length_le (by rw [List.length_drop,hvl,← Nat.sub_mul,hn]; exact Nat.le_refl _)] at h5
  exact h5
 have hlc:(aF s 2 (i+1) s.len s.cap).len=s.len - (i+1):=rfl
 refine mB (s:=⟨s.a,i,s.cap⟩) dS g1 g3 (hoz.no (Mod.drew NoB w)) hsrc.drew (fun u hu=>h1 u (List.mem_of_mem_drop hu)) (by rw [hlc]; simp only []; omega) fun w2 ho2 hm2 hs2=>⟨⟨s.a,i+(aF s 2 (i+1) s.len s.cap).len,s.cap⟩,rfl,⟨by omega,by rw [hlc]; simp only []; omega,by simp only []; omega⟩,?_⟩
 rw [hlc] at ho2 ⊢
 have hb : ∀ m,(Slc.blk ⟨s.a,m,s.cap⟩)=s.blk:=fun m=>rfl
 refine gN (s:=⟨s.a,i+(s.len - (i+1)),s.cap⟩) dS g1 g2 rfl (by intro u hu; simp [Value.cells] at hu; rcases hu with rfl | rfl <;> rfl) ho2 (by simp only []; omega) (by simp only []; omega) fun w3 ho3 hm3 hs3=>⟨rfl,_,rfl,ho3,rfl,(Mod.drew _ w).tr (hm2.tr hm3)⟩
theorem qYL {s:Slc} {vs:List Value} {i n:Nat} (ho:Sh.Own w s 1 vs) (h1 : ∀ u∈vs,u.oneCell'=true) (hn:s.len=n) (hi:i<n) (hnn:n≤100000000) :
 Calls prog 114 #[.slice s.a s.len s.cap,.int .i64 i,.int .i64 ((i+1:Nat):Int)] w (Ret fun v w'=>∃ x:Slc,v=x.val∧Sh.Own w' x 1 (vs.take (i*1)++vs.drop ((i+1)*1))∧x.blk=s.blk∧Mod (fun z=>s.blk=some z) w w'):=by
 refine qKG _ _ _ ?_
 unfold qTP
 obtain ⟨i',g1,g2,g3,g4⟩:=qMM
 have hvl:vs.length=n*1:=by have:=ho.1; rw [hn] at this; exact this
 have hcc:=ho.2.1
 refine ⟨⟨by omega,by omega,by omega,by omega⟩,aE (fun h=>?_) fun _=>?_⟩
 ·have:(i:Int)=((i+1:Nat):Int):=by simpa using h
  omega
 refine ⟨⟨by omega,by omega⟩,⟨by omega,by omega⟩,?_,trivial⟩
 simp only [Int.toNat_natCast]
 have ec:aF s 1 0 i s.cap=⟨s.a,i,s.cap⟩:=jP hcc (by omega)
 rw [ec]
 have hoz:=ho.take (n:=i) (by omega)
 have hsrc:aL w (aF s 1 (i+1) s.len s.cap) 1 (vs.drop ((i+1)*1)):=by
  have h5:=ho.rd.cut (l:=i+1) (n:=s.len) (m:=s.cap) (by omega) (Nat.le_refl _) hcc (Nat.le_refl _)
  rw [List.take_of_length_le (by rw [List.length_drop,hvl,← Nat.sub_mul,hn]; exact Nat.le_refl _)] at h5
  exact h5
 have hlc:(aF s 1 (i+1) s.len s.cap).len=s.len - (i+1):=rfl
 refine mB (s:=⟨s.a,i,s.cap⟩) iV g1 g3 (hoz.no (Mod.drew NoB w)) hsrc.drew (fun u hu=>h1 u (List.mem_of_mem_drop hu)) (by rw [hlc]; simp only []; omega) fun w2 ho2 hm2 hs2=>⟨⟨s.a,i+(aF s 1 (i+1) s.len s.cap).len,s.cap⟩,rfl,⟨by omega,by rw [hlc]; simp only []; omega,by simp only []; omega⟩,?_⟩
 rw [hlc] at ho2 ⊢
 have hb : ∀ m,(Slc.blk ⟨s.a,m,s.cap⟩)=s.blk:=fun m=>rfl
 refine gN (s:=⟨s.a,i+(s.len - (i+1)),s.cap⟩) iV g1 g2 rfl (by intro u hu; simp [Value.cells] at hu; rcases hu with rfl | rfl <;> rfl) ho2 (by simp only []; omega) (by simp only []; omega) fun w3 ho3 hm3 hs3=>⟨rfl,_,rfl,ho3,rfl,(Mod.drew _ w).tr (hm2.tr hm3)⟩
end
theorem sZ {α:Type} {f:α→List Value} {k:Nat} (hk : ∀ x,(f x).length=k) (l:List α) (y:α) (i:Nat) (hi:i≤l.length):oO (aR f l) (f y) (i*k)=aR f (l.take i++y :: l.drop i):=by
 have e:aR f l=aR f (l.take i)++aR f (l.drop i):=by rw [← cL,List.take_append_drop]
 have hl:(aR f (l.take i)).length=i*k:=by rw [bQ hk,List.length_take,Nat.min_eq_left hi]
 unfold oO
 rw [e,List.take_append_of_le_length (by omega),List.take_of_length_le (by omega),List.drop_append_of_le_length (by omega),List.drop_eq_nil_of_le (by omega),List.nil_append,cL]
 simp [aR]
theorem sJ {a b:List UInt8} (h1 : ¬ a<b) (h2:a≠b):b<a:=by
 rcases dV a b with ⟨_,h⟩ | ⟨_,h⟩ | ⟨_,h⟩
 ·exact absurd h h1
 ·exact absurd h h2
 ·exact h
theorem wR {α:Type} {f:α→List Value} {k:Nat} (hk : ∀ x,(f x).length=k) (l:List α) (i:Nat) (hi:i<l.length):(aR f l).take (i*k)++(aR f l).drop ((i+1)*k)=aR f (l.take i++l.drop (i+1)):=by
 have e : ∀ n,n≤l.length→(aR f l).take (n*k)=aR f (l.take n)∧(aR f l).drop (n*k)=aR f (l.drop n):=fun n hn=>by
  have e:aR f l=aR f (l.take n)++aR f (l.drop n):=by rw [← cL,List.take_append_drop]
  have hl:(aR f (l.take n)).length=n*k:=by rw [bQ hk,List.length_take,Nat.min_eq_left hn]
  rw [e]
  exact ⟨List.take_left' hl,List.drop_left' hl⟩
 rw [(e i (by omega)).1,(e (i+1) hi).2,cL]
section
variable {w:World}
theorem qNP {t:Tr} {k:Int} {L:Lv} {B Q:Nat→Prop} {key:List UInt8} {s:Slc} {rs:List Rc} (hg:dM w) (hgW : ∀ z,isG z→¬ t.W z) (hT:gD w t k L B) (hL:dB L) (hn:L.length≤100000) (hS:fK Q w s rs) (hQ : ∀ z,Q z→¬ t.W z∧z<w.heap.size) (hkl:key.length≤800000000) :
 Calls prog 66 #[.pointer (some ⟨t.p,0,none⟩),.agg (bE (key,s)).toArray] w (Ret fun v w'=>v = .tuple #[]∧∃ t' L',qK L key rs L'∧L'.length≤L.length+1∧gD w' t' k L' (fun z=>B z∨Q z)∧t'.p=t.p∧t'.mb=t.mb∧(∀ z,t'.W z→t.W z∨w.heap.size≤z)∧Mod t.W w w'):=by
 refine qYI _ key s ?_
 unfold jEB
 obtain ⟨il,hl1,hl2,hl3,hl4⟩:=pB
 obtain ⟨is,hs1,hs2,hs3,hs4⟩:=qMM
 obtain ⟨es,e1,e2,e3⟩:=hT.es
 have hsl:s.len=rs.length:=by obtain ⟨hs,g1,g2,g3,g4⟩:=hS; have:=bK Hd.len (by omega) g1.rd; omega
 have hkeys : ∀ i (h:i<es.length) (h':i<L.length),es[i].1=L[i].1:=fun i h h'=>(e3 i h h').1
 have hse:es.Pairwise fun a b=>a.1<b.1:=List.pairwise_iff_getElem.2 fun a b ha hb hab=>by
  rw [hkeys a ha (by omega),hkeys b hb (by omega)]
  exact List.pairwise_iff_getElem.1 hL a b (by omega) (by omega) hab
 refine aT (l:=bE (key,s)) rfl fun b w1 hN hb=>⟨_,rfl,key,by rw [aK]; exact hb.rd1 rfl,?_⟩
 have hat:=hN.at_; have hsz:=hN.size
 refine aC (qFB (hT.blk.no hN.mod) (e1.no hN.mod).rd hse (by omega)) ?_
 rintro v w2 ⟨i,bb,rfl,hF,hm2⟩
 have hM2:=hN.mod.tr hm2
 have hb2:=hb.no hm2
 refine ⟨(i:Int),bb,rfl,fun l' w'=>match l' with | [.b x]=>x=(bb&&decide (rs.length=0))∧w'=w2 | _=>False,aE (fun h=>⟨s,by rw [aK]; exact hb2.rd1 rfl,?_,rfl⟩) (fun h=>⟨by rw [h]; rfl,rfl⟩),?_⟩
 ·rw [h,hsl,Bool.true_and]
  cases rs with
  | nil=>rfl
  | cons a l=>exact (decide_eq_false (by simp; omega)).trans (decide_eq_false (by simp)).symm
 rintro x w3 ⟨rfl,rfl⟩
 have hM3:=hM2.tr (Mod.drew NoB w3)
 have hb3:Blk w3.drew b (bE (key,s)) _:=hb2.drew
 have hbW : ¬ t.W b:=fun h=>by have:=hT.wlt _ h; omega
 have hT3:=hT.no hM3
 have hilen:i≤es.length:=hF.le
 have hlL:=bK aZ (by omega) e1.rd
 have hwl:t.wy.len=L.length:=by have:=hT.way.1; simp [ways] at this; omega
 have hfw : ∀ M:Lv,ways M=aR (fun e:List UInt8×List Rc=>[nD (way (dg e.1))]) M:=fun M=>by
  induction M with
  | nil=>rfl
  | cons e M ih=>simp only [ways,List.map_cons,aR,List.flatMap_cons] at ih ⊢; rw [ih]; rfl
 let S:Nat→Prop:=fun z=>t.lv.blk=some z∨t.wy.blk=some z
 have hpS : ¬ S t.p:=fun h=>h.elim (fun h=>hT.d1 h) fun h=>hT.d2 h
 have hsub : ∀ z,S z→t.W z:=fun z h=>h.elim (fun h=>.inr (.inl h)) fun h=>.inr (.inr (.inl h))
 have hnew : ∀ z,(B z∨Q z)→z<w.heap.size∧¬ t.W z:=fun z hz=>hz.elim (fun h=>⟨hT.lt z h,hT.sep z h⟩) fun h=>⟨(hQ z h).2,(hQ z h).1⟩
 refine aE (fun hdel=>?_) fun hnd=>?_
 ·
  obtain ⟨hbb,hr0⟩:=Bool.and_eq_true_iff.1 hdel
  have hrs:rs=[]:=List.eq_nil_of_length_eq_zero (of_decide_eq_true hr0)
  subst hrs
  obtain ⟨hi,hik⟩:=hF.is.1 hbb
  have hiL:i<L.length:=by omega
  refine ⟨Mod S w3.drew,Mod.refl _ _,t.lv,fun w' hm=>by rw [aK]; exact (hT3.blk.mod hm hpS).rd1 rfl,t.wy,fun w' hm=>by rw [aK]; exact (hT3.blk.mod hm hpS).rd1 rfl,?_,trivial⟩
  rw [aS (n:=i) (by omega)]
  refine aC (qUO (e1.no hM3) (eU eY _) hlL.symm hi (by omega)) ?_
  rintro v w4 ⟨x,rfl,ho4,hx4,hm4⟩
  rw [wR aZ es i hi] at ho4
  have hm34:Mod S w3.drew w4:=hm4.mono fun z _ h=>.inl h
  refine ⟨x,rfl,hm34,?_,trivial⟩
  refine aC (qYL (n:=L.length) (hT3.way.mod hm4 fun z hz e=>hT.d6 z e hz) (by intro u hu; simp [ways] at hu; obtain ⟨_,_,_,rfl⟩:=hu; rfl) hwl hiL (by omega)) ?_
  rintro v w5 ⟨y,rfl,ho5,hy5,hm5⟩
  have ewd:(ways L).take (i*1)++(ways L).drop ((i+1)*1)=ways (L.take i++L.drop (i+1)):=by
   rw [hfw,hfw]
   exact wR (f:=fun e:List UInt8×List Rc=>[nD (way (dg e.1))]) (k:=1) (fun _=>rfl) L i hiL
  rw [ewd] at ho5
  have hm35:Mod S w3.drew w5:=hm34.tr (hm5.mono fun z _ h=>.inr h)
  refine ⟨y,rfl,hm35,?_,trivial⟩
  refine dF (i:=0) (by kernel_rfl) (by kernel_rfl) rfl (hT3.blk.mod hm35 hpS) (by simp [jB]) fun w6 ht6 hp6=>⟨?_,trivial⟩
  refine dF (i:=1) (by kernel_rfl) (by kernel_rfl) rfl hp6 (by simp [jB]) fun w7 ht7 hp7=>?_
  have hp7':Blk w7 t.p (jB x y k t.mb) 79:=hp7
  have hmp:Mod (fun z=>z=t.p) w5 w7:=ht6.mod.tr ht7.mod
  have hmAll:Mod t.W w w7:=hM3.no ((hm35.mono fun z _ h=>hsub z h).tr (hmp.mono fun z _ (e:z=t.p)=>.inl e))
  refine ⟨rfl,⟨t.p,x,y,t.mb⟩,L.take i++L.drop (i+1),qFY hL hiL ((hkeys i hi hiL).symm.trans hik),by simp; omega,?_,rfl,rfl,?_,hmAll⟩
  ·refine ⟨hp7',(hT3.map.mod hm35 fun h=>h.elim (fun h=>hT.d4 h) fun h=>hT.d5 h).mod hmp fun (e:t.mb=t.p)=>hT.d3 e.symm,⟨es.take i++es.drop (i+1),(ho4.mod hm5 fun z hz e=>hT.d6 z (hx4 ▸ hz) e).mod hmp fun z hz e=>?_,by simp [e2],fun j hj hj'=>?_⟩,ho5.mod hmp fun z hz e=>?_,fun h=>hT.d1 (hx4 ▸ h),fun h=>hT.d2 (hy5 ▸ h),hT.d3,fun h=>hT.d4 (hx4 ▸ h),fun h=>hT.d5 (hy5 ▸ h),fun z hz h=>hT.d6 z (hx4 ▸ hz) (hy5 ▸ h),fun z hz=>?_,fun z hz=>Nat.lt_of_lt_of_le (hnew z hz).1 hmAll.size⟩
   ·have e:z=t.p:=e
    subst e
    exact hT.d1 (hx4 ▸ hz)
   ·have hSQ : ∀ {s':Slc} {r':List Rc},fK B w s' r'→fK (fun z=>B z∨Q z) w7 s' r':=fun h=>h.mod hmAll fun z hz _=>⟨hT.sep z hz,.inl hz⟩
    have l1:(es.take i).length=i:=by rw [List.length_take]; omega
    have l2:(L.take i).length=i:=by rw [List.length_take]; omega
    rcases Nat.lt_or_ge j i with h | h
    ·have g1:(es.take i++es.drop (i+1))[j]=es[j]'(by omega):=by rw [List.getElem_append_left (by omega),List.getElem_take]
     have g2:(L.take i++L.drop (i+1))[j]=L[j]'(by omega):=by rw [List.getElem_append_left (by omega),List.getElem_take]
     rw [g1,g2]
     obtain ⟨q1,q2⟩:=e3 j (by omega) (by omega)
     exact ⟨q1,hSQ q2⟩
    ·obtain ⟨m,rfl⟩ : ∃ m,j=i+m:=⟨j - i,by omega⟩
     have hj1:i+1+m<es.length:=by simp at hj; omega
     have g1:(es.take i++es.drop (i+1))[i+m]=es[i+1+m]:=by
      rw [List.getElem_append_right (by omega)]
      simp only [l1,show i+m - i=m by omega,List.getElem_drop]
     have g2:(L.take i++L.drop (i+1))[i+m]=L[i+1+m]'(by omega):=by
      rw [List.getElem_append_right (by omega)]
      simp only [l2,show i+m - i=m by omega,List.getElem_drop]
     rw [g1,g2]
     obtain ⟨q1,q2⟩:=e3 (i+1+m) hj1 (by omega)
     exact ⟨q1,hSQ q2⟩
   ·have e:z=t.p:=e
    subst e
    exact hT.d2 (hy5 ▸ hz)
   ·obtain ⟨q1,q2⟩:=hnew z hz
    rintro (h | h | h | h)
    ·exact q2 (.inl h)
    ·exact q2 (.inr (.inl (hx4 ▸ h)))
    ·exact q2 (.inr (.inr (.inl (hy5 ▸ h))))
    ·exact q2 (.inr (.inr (.inr h)))
  ·rintro z (h | h | h | h)
   ·exact .inl (.inl h)
   ·exact .inl (.inr (.inl (hx4 ▸ h)))
   ·exact .inl (.inr (.inr (.inl (hy5 ▸ h))))
   ·exact .inl (.inr (.inr (.inr h)))
 refine aE (fun hbb=>?_) fun hbb=>?_
 ·
  obtain ⟨hi,hik⟩:=hF.is.1 hbb
  have hiL:i<L.length:=by omega
  have hne:rs≠[]:=by
   rintro rfl
   rw [hbb] at hnd; cases hnd
  obtain ⟨A,ea,_⟩:=bX aZ (by omega) e1.rd hi
  refine ⟨Mod NoB w3.drew,Mod.refl _ _,t.lv,fun w' hm=>by rw [aK]; exact (hT3.blk.no hm).rd1 rfl,key,s,fun w' hm=>(hb3.no hm).rd fun j v hj=>by simpa [bE,nD,Slc.val] using hj,⟨by omega,by omega⟩,?_⟩
  rw [ea]
  refine ⟨?_,trivial⟩
  simp only [Int.toNat_natCast]
  refine sU (us:=bE (key,s)) (by kernel_rfl) (by kernel_rfl) rfl rfl (eY _) (e1.no hM3) ea (by omega) fun w4 ho4 hm4 hs4=>?_
  rw [tH aZ hi] at ho4
  have hmW:Mod t.W w w4:=hM3.no (hm4.mono fun z _ hz=>.inr (.inl hz))
  refine ⟨rfl,t,L.set i (key,rs),qFV hne hL hiL (by rw [← hkeys i hi hiL]; exact hik),by rw [List.length_set]; omega,?_,rfl,rfl,fun z hz=>.inl hz,hmW⟩
  refine ⟨hT3.blk.mod hm4 hT.d1,hT3.map.mod hm4 hT.d4,⟨es.set i (key,s),ho4,by simp [e2],fun j hj hj'=>?_⟩,?_,hT.d1,hT.d2,hT.d3,hT.d4,hT.d5,hT.d6,?_,?_⟩
  ·rw [List.getElem_set,List.getElem_set]
   have hj1:j<es.length:=by simpa using hj
   split
   ·exact ⟨rfl,(hS.mod hM3 fun z hz _=>⟨fun h=>h,hz⟩).mod hm4 fun z hz _=>⟨fun e=>(hQ z hz).1 (.inr (.inl e)),.inr hz⟩⟩
   ·obtain ⟨q1,q2⟩:=e3 j hj1 (by omega)
    exact ⟨q1,(q2.mod hM3 fun z hz _=>⟨fun h=>h,hz⟩).mod hm4 fun z hz _=>⟨fun e=>hT.sep z hz (.inr (.inl e)),.inl hz⟩⟩
  ·have ew:ways (L.set i (key,rs))=ways L:=by
    unfold ways
    apply List.ext_getElem (by simp)
    intro j h1 h2
    simp only [List.getElem_map,List.getElem_set]
    split
    ·next e=>subst e; rw [← hkeys i hi hiL,hik]
    ·rfl
   rw [ew]
   exact hT3.way.mod hm4 fun z hz e=>hT.d6 z e hz
  ·rintro z (hz | hz)
   ·exact hT.sep z hz
   ·exact (hQ z hz).1
  ·rintro z (hz | hz)
   ·exact Nat.lt_of_lt_of_le (hT.lt z hz) hmW.size
   ·exact Nat.lt_of_lt_of_le (hQ z hz).2 hmW.size
 ·
  have hnone : ∀ j (h:j<es.length),es[j].1≠key:=fun j hje ek=>by
   have hij:i≤j:=by
    rcases Nat.lt_or_ge j i with h | h
    ·have:=hF.lo j hje h; rw [ek] at this; exact absurd this (List.lt_irrefl _)
    ·exact h
   rcases Nat.eq_or_lt_of_le hij with h | h
   ·subst h
    have:=hF.is.2 ⟨hje,ek⟩
    rw [hbb] at this; cases this
   ·have h1:=hF.hi i (by omega) (Nat.le_refl _)
    have h2:=List.pairwise_iff_getElem.1 hse i j (by omega) hje h
    rw [ek] at h2; exact h1 h2
  refine ⟨s,by rw [aK]; exact hb2.rd1 rfl,aE (fun h0=>?_) fun h0=>?_⟩
  rotate_left
  ·have hrs:rs=[]:=List.eq_nil_of_length_eq_zero (by have:=of_decide_eq_false h0; omega)
   subst hrs
   exact ⟨rfl,t,L,qKK hL fun e he=>by
    obtain ⟨j,hj,rfl⟩:=List.getElem_of_mem he
    rw [← hkeys j (by omega) hj]; exact hnone j (by omega),by omega,(hT.no hM2).wide fun z hz=>⟨(hQ z hz).1,Nat.lt_of_lt_of_le (hQ z hz).2 hM2.size⟩,rfl,rfl,fun z hz=>.inl hz,hM2.mono fun _ _ h=>h.elim⟩
  have hne:rs≠[]:=by
   rintro rfl
   have:=of_decide_eq_true h0
   simp at hsl; omega
  have hbS : ¬ S b:=fun h=>hbW (h.elim (fun h=>.inr (.inl h)) fun h=>.inr (.inr (.inl h)))
  refine ⟨Mod S w3.drew,Mod.refl _ _,t.lv,fun w' hm=>by rw [aK]; exact (hT3.blk.mod hm hpS).rd1 rfl,key,s,fun w' hm=>(hb3.mod hm hbS).rd fun j v hj=>by simpa [bE,nD,Slc.val] using hj,t.wy,fun w' hm=>by rw [aK]; exact (hT3.blk.mod hm hpS).rd1 rfl,key,fun w' hm=>by rw [aK]; exact (hb3.mod hm hbS).rd1 rfl,?_,trivial⟩
  refine bZ [.agg (bE (key,s)).toArray] (l:=bE (key,s)) dS hl1 hl2 hl3 (by omega) rfl (by omega) (by omega) rfl (by intro v hv; simp at hv; subst hv; rfl) (by simp [Value.cells]) fun vb w4 hN4 hvb4=>⟨⟨some ⟨vb,0,none⟩,1,1⟩,rfl,hN4.mod.mono (fun _ _ h=>h.elim),?_,trivial⟩
  have hM4:=hM3.tr hN4.mod
  have hvat:=hN4.at_; have hvsz:=hN4.size
  have hz3:w.heap.size≤w3.drew.heap.size:=hM3.size
  have hlvlt : ∀ z,t.lv.blk=some z→z<w.heap.size:=fun z hz=>hT.wlt z (.inr (.inl hz))
  have hwylt : ∀ z,t.wy.blk=some z→z<w.heap.size:=fun z hz=>hT.wlt z (.inr (.inr (.inl hz)))
  have hins:=qZE (y:=bE (key,s)) (i:=i) (n:=es.length) (e1.no hM4) (eU eY _) hlL.symm hilen (by omega) hN4.get rfl (eY _) (fun z hz e=>by have:=hlvlt z hz; omega)
  rw [sZ aZ es (key,s) i hilen] at hins
  refine aC hins ?_
  rintro v w5 ⟨x,rfl,ho5,hx5,hm5⟩
  have hm35:Mod S w3.drew w5:=hN4.mod.no (hm5.mono fun z _ h=>.inl h)
  refine ⟨x,rfl,hm35,?_,trivial⟩
  have hs4:w3.drew.heap.size≤w4.heap.size:=hN4.mod.size
  have hs5:w4.heap.size≤w5.heap.size:=hm5.size
  have hg5:dM w5:=(hg.no hM3).mod hm35 fun z hz h=>hgW z hz (h.elim (fun h=>.inr (.inl h)) fun h=>.inr (.inr (.inl h)))
  refine aC (oW (key:=key) hg5 hkl) ?_
  rintro v w6 ⟨rfl,hm6⟩
  refine ⟨_,rfl,hm35.no' hm6,?_,trivial⟩
  refine bZ [nD (way (dg key))] (l:=[nD (way (dg key))]) iV hs1 hs2 hs3 (by omega) rfl (by omega) (by omega) rfl (by intro v hv; simp at hv; subst hv; rfl) (by simp [Value.cells,nD]) fun yb w7 hN7 hyb7=>⟨⟨some ⟨yb,0,none⟩,1,1⟩,rfl,(hm35.no' hm6).no' hN7.mod,?_,trivial⟩
  have hyat:=hN7.at_; have hysz:=hN7.size
  have hs6:w5.heap.size≤w6.heap.size:=hm6.size
  have hs7:w6.heap.size≤w7.heap.size:=hN7.mod.size
  have hm57:Mod NoB w5 w7:=hm6.tr hN7.mod
  have hway7:Sh.Own w7 t.wy 1 (ways L):=((hT3.way.no hN4.mod).mod hm5 fun z hz e=>hT.d6 z e hz).no hm57
  have hwins:=qYH (y:=[nD (way (dg key))]) (i:=i) (n:=L.length) hway7 (by intro u hu; simp [ways] at hu; obtain ⟨_,_,_,rfl⟩:=hu; rfl) hwl (by omega) (by omega) hN7.get rfl (by intro u hu; simp at hu; subst hu; rfl) (fun z hz e=>by have:=hwylt z hz; omega)
  have ewi:oO (ways L) [nD (way (dg key))] (i*1)=ways (L.take i++(key,rs) :: L.drop i):=by
   rw [hfw,hfw]
   exact sZ (f:=fun e:List UInt8×List Rc=>[nD (way (dg e.1))]) (k:=1) (fun _=>rfl) L (key,rs) i (by omega)
  rw [ewi] at hwins
  refine aC hwins ?_
  rintro v w8 ⟨y,rfl,ho8,hy8,hm8⟩
  have hm38:Mod S w3.drew w8:=(hm35.no' hm57).tr (hm8.mono fun z _ h=>.inr h)
  have hs8:w7.heap.size≤w8.heap.size:=hm8.size
  have hplt:t.p<w.heap.size:=hT.blk.lt
  have hmlt:t.mb<w.heap.size:=hT.map.lt
  have hx4 : ∀ z,x.blk=some z→t.lv.blk=some z∨z=w4.heap.size:=fun z hz=>by
   rcases hx5 with e | e
   ·exact .inl (by rw [← e]; exact hz)
   ·rw [e] at hz; cases hz; exact .inr rfl
  have hy7 : ∀ z,y.blk=some z→t.wy.blk=some z∨z=w7.heap.size:=fun z hz=>by
   rcases hy8 with e | e
   ·exact .inl (by rw [← e]; exact hz)
   ·rw [e] at hz; cases hz; exact .inr rfl
  refine ⟨y,rfl,hm38,?_,trivial⟩
  refine dF (i:=0) (by kernel_rfl) (by kernel_rfl) rfl (hT3.blk.mod hm38 hpS) (by simp [jB]) fun w9 ht9 hp9=>⟨?_,trivial⟩
  refine dF (i:=1) (by kernel_rfl) (by kernel_rfl) rfl hp9 (by simp [jB]) fun w10 ht10 hp10=>?_
  have hp10':Blk w10 t.p (jB x y k t.mb) 79:=hp10
  have hmp:Mod (fun z=>z=t.p) w8 w10:=ht9.mod.tr ht10.mod
  have hmAll:Mod t.W w w10:=hM3.no ((hm38.mono fun z _ h=>hsub z h).tr (hmp.mono fun z _ (e:z=t.p)=>.inl e))
  have ho10:Sh.Own w10 x 2 (aR bE (es.take i++(key,s) :: es.drop i)):=((ho5.no hm57).mod hm8 fun z hz e=>by
   rcases hx4 z hz with h | h
   ·exact hT.d6 z h e
   ·have:=hwylt z e; omega).mod hmp fun z hz e=>by
   have e:z=t.p:=e
   subst e
   rcases hx4 _ hz with h | h
   ·exact hT.d1 h
   ·omega
  have qZH:Sh.Own w10 y 1 (ways (L.take i++(key,rs) :: L.drop i)):=ho8.mod hmp fun z hz e=>by
   have e:z=t.p:=e
   subst e
   rcases hy7 _ hz with h | h
   ·exact hT.d2 h
   ·omega
  have hx5lt : ∀ z,x.blk=some z→z<w5.heap.size:=fun z hz=>ho5.lt hz
  have hnk : ∀ j (h:j<L.length),i≤j→key<L[j].1:=fun j hj hij=>by
   have hje:j<es.length:=by omega
   rw [← hkeys j hje hj]
   refine sJ (hF.hi j hje hij) fun e=>?_
   rcases Nat.eq_or_lt_of_le hij with h | h
   ·subst h
    have:=hF.is.2 ⟨hje,e⟩
    rw [hbb] at this; cases this
   ·have h1:=hF.hi i (by omega) (Nat.le_refl _)
    have h2:=List.pairwise_iff_getElem.1 hse i j (by omega) hje h
    rw [e] at h2; exact h1 h2
  refine ⟨rfl,⟨t.p,x,y,t.mb⟩,L.take i++(key,rs) :: L.drop i,qED hne hL (by omega) (fun j hj hji=>by rw [← hkeys j (by omega) hj]; exact hF.lo j (by omega) hji) hnk,by simp; omega,?_,rfl,rfl,?_,hmAll⟩
  ·refine ⟨hp10',(hT3.map.mod hm38 fun h=>h.elim (fun h=>hT.d4 h) fun h=>hT.d5 h).mod hmp fun (e:t.mb=t.p)=>hT.d3 e.symm,⟨es.take i++(key,s) :: es.drop i,ho10,by simp [e2],fun j hj hj'=>?_⟩,qZH,fun h=>?_,fun h=>?_,hT.d3,fun h=>?_,fun h=>?_,fun z hz h=>?_,fun z hz=>?_,fun z hz=>Nat.lt_of_lt_of_le (hnew z hz).1 hmAll.size⟩
   ·have hSQ : ∀ (Q':Nat→Prop) (s':Slc) (r':List Rc),fK Q' w s' r'→(∀ z,Q' z→B z∨Q z)→fK (fun z=>B z∨Q z) w10 s' r':=fun Q' s' r' h hh=>h.mod hmAll fun z hz _=>⟨(hnew z (hh z hz)).2,hh z hz⟩
    rcases Nat.lt_or_ge j i with h | h
    ·have g1:(es.take i++(key,s) :: es.drop i)[j]=es[j]'(by omega):=by rw [List.getElem_append_left (by rw [List.length_take]; omega),List.getElem_take]
     have g2:(L.take i++(key,rs) :: L.drop i)[j]=L[j]'(by omega):=by rw [List.getElem_append_left (by rw [List.length_take]; omega),List.getElem_take]
     rw [g1,g2]
     obtain ⟨q1,q2⟩:=e3 j (by omega) (by omega)
     exact ⟨q1,hSQ _ _ _ q2 fun z=>.inl⟩
    ·have l1:(es.take i).length=i:=by rw [List.length_take]; omega
     have l2:(L.take i).length=i:=by rw [List.length_take]; omega
     rcases Nat.eq_or_lt_of_le h with h | h
     ·subst h
      have g1:(es.take i++(key,s) :: es.drop i)[i]=(key,s):=by rw [List.getElem_append_right (by omega)]; simp [l1]
      have g2:(L.take i++(key,rs) :: L.drop i)[i]=(key,rs):=by rw [List.getElem_append_right (by omega)]; simp [l2]
      rw [g1,g2]
      exact ⟨rfl,hSQ _ _ _ hS fun z=>.inr⟩
     ·obtain ⟨m,rfl⟩ : ∃ m,j=i+1+m:=⟨j - i - 1,by omega⟩
      have hm':i+m<es.length:=by simp at hj; omega
      have g1:(es.take i++(key,s) :: es.drop i)[i+1+m]=es[i+m]:=by
       rw [List.getElem_append_right (by omega)]
       simp only [l1,show i+1+m - i=m+1 by omega,List.getElem_cons_succ,List.getElem_drop]
      have g2:(L.take i++(key,rs) :: L.drop i)[i+1+m]=L[i+m]'(by omega):=by
       rw [List.getElem_append_right (by omega)]
       simp only [l2,show i+1+m - i=m+1 by omega,List.getElem_cons_succ,List.getElem_drop]
      rw [g1,g2]
      obtain ⟨q1,q2⟩:=e3 (i+m) hm' (by omega)
      exact ⟨q1,hSQ _ _ _ q2 fun z=>.inl⟩
   ·rcases hx4 _ h with h | h
    ·exact hT.d1 h
    ·have h:t.p=_:=h; omega
   ·rcases hy7 _ h with h | h
    ·exact hT.d2 h
    ·have h:t.p=_:=h; omega
   ·rcases hx4 _ h with h | h
    ·exact hT.d4 h
    ·have h:t.mb=_:=h; omega
   ·rcases hy7 _ h with h | h
    ·exact hT.d5 h
    ·have h:t.mb=_:=h; omega
   ·have h5:=hx5lt z hz
    rcases hx4 z hz with a | a <;> rcases hy7 z h with c | c
    ·exact hT.d6 z a c
    ·have:=hlvlt z a; omega
    ·have:=hwylt z c; omega
    ·omega
   ·obtain ⟨q1,q2⟩:=hnew z hz
    rintro (h | h | h | h)
    ·exact q2 (.inl h)
    ·rcases hx4 z h with h | h
     ·exact q2 (.inr (.inl h))
     ·omega
    ·rcases hy7 z h with h | h
     ·exact q2 (.inr (.inr (.inl h)))
     ·omega
    ·exact q2 (.inr (.inr (.inr h)))
  ·rintro z (h | h | h | h)
   ·exact .inl (.inl h)
   ·rcases hx4 z h with h | h
    ·exact .inl (.inr (.inl h))
    ·exact .inr (by omega)
   ·rcases hy7 z h with h | h
    ·exact .inl (.inr (.inr (.inl h)))
    ·exact .inr (by omega)
   ·exact .inl (.inr (.inr (.inr h)))
end
def LOk (L:Lv):Prop:=∀ e∈L,bY e.2 e.2∧(∀ r∈e.2,r.right=true∧r.key=e.1)∧0<e.2.length∧e.2.length≤100000
def lY (L:Lv) (key:List UInt8):List Rc:=((L.find? fun e=>e.1=key).map (·.2)).getD []
theorem iS {L:Lv} (hs:dB L) {key:List UInt8} {rs:List Rc} (h:(key,rs)∈L):lY L key=rs:=by
 induction L with
 | nil=>cases h
 | cons e L ih=>
   obtain ⟨h1,h2⟩:=List.pairwise_cons.1 hs
   rcases List.mem_cons.1 h with e' | h
   ·subst e'; simp [lY]
   ·have hne : ¬ e.1=key:=fun e'=>by have:=h1 _ h; rw [e'] at this; exact List.lt_irrefl _ this
    have:=ih h2 h
    simp only [lY,List.find?_cons,hne,decide_false,cond_false] at this ⊢
    exact this
theorem lV {L:Lv} {key:List UInt8} (h : ∀ e∈L,e.1≠key):lY L key=[]:=by
 have:(L.find? fun e=>e.1=key)=none:=by
  rw [List.find?_eq_none]
  intro e he
  simpa using h e he
 simp [lY,this]
theorem fK.recs {B:Nat→Prop} {w:World} {s:Slc} {rs:List Rc} {n:Nat} (h:fK B w s rs) (hB : ∀ z,B z→z<n):bT n w s rs:=by
 obtain ⟨hs,h1,h2,h3,h4⟩:=h
 exact ⟨hs,h1.rd,fun z hz=>hB z (h2 z hz),h3,fun i a b=>⟨(h4 i a b).1,fun z hz=>hB z ((h4 i a b).2 z hz)⟩⟩
section
variable {w:World}
theorem tT {T E:TypeId} {p:Nat} {l:List Value} {e:List UInt8×Slc} {K:World→Prop} (hi:(prog.info? T).isSome=true) (hsz:bF prog T=2) (hb:Blk w p l E) (hl:l.length=2) (hk : ∀ w',Tch w w' p→Blk w' p (bE e) E→K w'):aJ prog (storeVar T ⟨p,0,none⟩ (.agg (bE e).toArray)) w K:=
 bS (vs:=bE e) hi hsz rfl hb (by simp [bE]; omega) (eY e) fun w' ht hb'=>hk w' ht (by
  have e1:putAt l 0 (bE e)=bE e:=by
   simp only [putAt,List.take_zero,List.nil_append]
   rw [List.drop_eq_nil_of_le (by simp [bE]; omega),List.append_nil]
  rwa [e1] at hb')
theorem qZU {t:Tr} {k:Int} {L:Lv} {B:Nat→Prop} {key:List UInt8} {s:Slc} {rs:List Rc} {lb:Nat} {T:TypeId} (hg:dM w) (hgW : ∀ z,isG z→¬ t.W z) (hT:gD w t k L B) (hL:dB L) (hn:L.length≤100000) (hk:k=tZ (dg key)) (hR:bT w.heap.size w s rs) (hJ:bY rs rs) (hK : ∀ r∈rs,r.right=true∧r.key=key) (hrn:rs.length≤100000) (hkl:1≤key.length∧key.length≤64) (hlb:Blk w lb (bE (key,s)) T) :
 Calls prog 43 #[.pointer (some ⟨t.p,0,none⟩),.slice (some ⟨lb,0,none⟩) 1 1] w (Ret fun v w'=>v = .int .i64 0∧∃ t' L' B',qK L key rs L'∧L'.length≤L.length+1∧gD w' t' k L' B'∧(∀ z,B' z→B z∨w.heap.size≤z)∧t'.p=t.p∧t'.mb=t.mb∧(∀ z,t'.W z→t.W z∨w.heap.size≤z)∧Mod t.W w w'):=by
 refine qVM _ ⟨some ⟨lb,0,none⟩,1,1⟩ ?_
 unfold jCB
 obtain ⟨il,hl1,hl2,hl3,hl4⟩:=pB
 refine aC (nT hT.blk) ?_
 rintro v w1 ⟨rfl,rfl⟩
 refine ⟨_,rfl,aE (fun h=>by cases h) fun _=>?_⟩
 have hlbl:=hlb.lt
 have hrdL : ∀ w',Mod NoB w1 w'→Rd w' ((⟨lb,0,none⟩:Addr).add ((0:Int).toNat*2)) [nD key,s.val]:=fun w' hm=>(hlb.no hm).rd fun j v hj=>by simpa [bE] using hj
 refine ⟨fun l' w'=>match l' with | [.i _ x]=>(x=0∨x=1)∧Mod NoB w1 w' | _=>False,fun l' _=>match l' with | [.i _ x]=>(1 - x).toNat | _=>0,⟨.inl rfl,Mod.refl _ _⟩,?_⟩
 rintro x w2 ⟨hx,hm2⟩
 refine aE (fun h=>?_) fun h=>?_
 ·have hx0:x=0:=by
   have h:x<((1:Nat):Int):=of_decide_eq_true h
   omega
  subst hx0
  refine ⟨⟨by omega,by show (0:Int)<((1:Nat):Int); omega⟩,key,s,hrdL _ hm2,?_⟩
  refine aO (l:=[.string ⟨#[]⟩,.slice none 0 0]) hl1 hl2 rfl fun q w3 hN3 hb3=>⟨_,rfl,?_⟩
  show aJ _ _ _ _
  refine tT (e:=(key,s)) (by kernel_rfl) (by kernel_rfl) hb3 rfl fun w4 ht4 hb4=>?_
  have hq:=hN3.at_
  have hm24:Mod NoB w2 w4:=hN3.mod.fresh ht4.mod fun z e=>by have e:z=q:=e; omega
  have hm14:Mod NoB w1 w4:=hm2.tr hm24
  refine ⟨fun l' w'=>match l' with | [.b y]=>y=false∧Mod NoB w4 w' | _=>False,⟨key,by rw [aK]; exact hb4.rd1 rfl,?_⟩,?_⟩
  ·refine aC qWT ?_
   rintro v w5 ⟨rfl,rfl⟩
   refine ⟨_,rfl,aE (fun h=>?_) fun _=>?_⟩
   ·rw [decide_eq_true hkl.1,decide_eq_true hkl.2] at h; cases h
   ·refine ⟨Mod NoB w5.drew,Mod.refl _ _,key,fun w' hm=>by rw [aK]; exact (hb4.no ((Mod.drew NoB w5).tr hm)).rd1 rfl,k,fun w' hm=>by rw [aK]; exact (hT.blk.no ((hm14.tr (Mod.drew NoB w5)).tr hm)).rd1 rfl,?_,trivial⟩
    refine aC (sH ((hg.no hm14).no (Mod.drew NoB w5)) (by omega)) ?_
    rintro v w6 ⟨rfl,hm6⟩
    refine ⟨_,rfl,hm6,?_,(Mod.drew NoB w5).tr hm6⟩
    subst hk
    simp
  ·rintro y w5 ⟨rfl,hm5⟩
   refine aE (fun h=>by cases h) fun _=>?_
   have hb5:=hb4.no hm5
   refine ⟨key,by rw [aK]; exact hb5.rd1 rfl,s,by rw [aK]; exact hb5.rd1 rfl,?_⟩
   have hm15:=hm14.tr hm5
   refine aC (jCR (K:=key) ((hR.mod (hm15.mono fun _ _ h=>h.elim)).le hm15.size) hJ hK hrn) ?_
   rintro v w6 ⟨rfl,hm6⟩
   refine ⟨_,rfl,aE (fun h=>by cases h) fun _=>⟨⟨.inr rfl,hm15.tr hm6⟩,?_⟩⟩
   show (1 - IntKind.i64.wrap ((0:Int)+1)).toNat<(1 - (0:Int)).toNat
   decide
 ·have hx1:x=1:=by
   have h : ¬ x<((1:Nat):Int):=of_decide_eq_false h
   omega
  subst hx1
  refine ⟨fun l' w'=>match l' with | [.i _ x]=>(x=0∧Mod NoB w1 w')∨(x=1∧∃ t' L' B',qK L key rs L'∧L'.length≤L.length+1∧gD w' t' k L' B'∧(∀ z,B' z→B z∨w1.heap.size≤z)∧t'.p=t.p∧t'.mb=t.mb∧(∀ z,t'.W z→t.W z∨w1.heap.size≤z)∧Mod t.W w1 w') | _=>False,fun l' _=>match l' with | [.i _ x]=>(1 - x).toNat | _=>0,.inl ⟨rfl,hm2⟩,?_⟩
  rintro x w3 (⟨rfl,hm3⟩ | ⟨rfl,hPost⟩)
  ·refine aE (fun _=>?_) fun h=>by cases h
   refine ⟨⟨by omega,by show (0:Int)<((1:Nat):Int); omega⟩,key,s,hrdL _ hm3,?_⟩
   refine aO (l:=[.string ⟨#[]⟩,.slice none 0 0]) hl1 hl2 rfl fun q w4 hN4 hb4=>⟨_,rfl,?_⟩
   show aJ _ _ _ _
   refine tT (e:=(key,s)) (by kernel_rfl) (by kernel_rfl) hb4 rfl fun w5 ht5 hb5=>?_
   have hq:=hN4.at_
   have hs13:=hm3.size
   have hm15:Mod NoB w1 w5:=hm3.tr (hN4.mod.fresh ht5.mod fun z e=>by have e:z=q:=e; omega)
   have hqW : ¬ t.W q:=fun h=>by have:=hT.wlt _ h; omega
   have hm1d:Mod NoB w1 w5.drew:=hm15.tr (Mod.drew NoB w5)
   have hb5d:=hb5.no (Mod.drew NoB w5)
   refine ⟨Mod t.W w5.drew,Mod.refl _ _,key,fun w' hm=>by rw [aK]; exact (hb5d.mod hm hqW).rd1 rfl,s,fun w' hm=>by rw [aK]; exact (hb5d.mod hm hqW).rd1 rfl,?_,trivial⟩
   refine aC (qFF (s:=key) (by omega)) ?_
   rintro v w6 ⟨rfl,hm6⟩
   refine ⟨_,rfl,hm6.mono fun _ _ h=>h.elim,?_,trivial⟩
   have hm16:=hm1d.tr hm6
   refine aC (zE (K:=key) ((hR.mod (hm16.mono fun _ _ h=>h.elim)).le hm16.size) hJ hK hrn) ?_
   rintro v w7 ⟨u,rfl,hS7,hm7⟩
   have hm57:Mod NoB w5.drew w7:=hm6.tr hm7
   have hm17:=hm16.tr hm7
   refine ⟨u,rfl,hm57.mono fun _ _ h=>h.elim,?_,trivial⟩
   have hSQ:fK (fun z=>w6.heap.size≤z∧z<w7.heap.size) w7 u rs:=hS7.q.mod (Mod.refl NoB w7) fun z hz hl=>⟨fun h=>h,hz,hl⟩
   have hs16:=hm16.size
   refine aC (qNP (hg.no hm17) hgW (hT.no hm17) hL hn hSQ (fun z hz=>⟨fun h=>by have:=hT.wlt _ h; omega,hz.2⟩) (by omega)) ?_
   rintro v w8 ⟨rfl,t',L',hP,hLn,hT8,e1,e2,hW8,hm8⟩
   have hb8:Blk w8 q (bE (key,s)) _:=(hb5d.no hm57).mod hm8 hqW
   refine ⟨rfl,(hm57.mono fun _ _ h=>h.elim:Mod t.W w5.drew w7).tr hm8,key,by rw [aK]; exact hb8.rd1 rfl,?_⟩
   have hm18:Mod t.W w1 w8:=(hm17.mono fun _ _ h=>h.elim:Mod t.W w1 w7).tr hm8
   refine aC (oW ((hg.no hm17).mod hm8 fun z hz h=>hgW z hz h) (by omega)) ?_
   rintro v w9 ⟨rfl,hm9⟩
   have hT9:=hT8.no hm9
   refine ⟨_,rfl,some t'.mb,by rw [aK,← e1]; exact hT9.blk.rd1 rfl,?_⟩
   refine sI (d:=.string) (kt:=9) (et:=28) (by kernel_rfl) hT9.map fun r w10 hN10=>⟨_,rfl,?_⟩
   have hm8a:Mod NoB w8 w10:=hm9.tr hN10.mod
   have hT10:=hT9.no hN10.mod
   refine ⟨fun l' w'=>w'=w10,fun _ _=>0,rfl,?_⟩
   rintro w11 rfl
   refine xA hT10.map hN10.get (by simp) (Nat.le_refl _) (fun _=>?_) fun e w' he=>by cases he
   refine ⟨_,rfl,_,rfl,false,rfl,aE (fun h=>by cases h) fun _=>⟨.inr ⟨rfl,t',L',_,hP,hLn,hT10,fun z hz=>?_,e1,e2,fun z hz=>?_,hm18.no' hm8a⟩,?_⟩⟩
   ·rcases hz with hz | hz
    ·exact .inl hz
    ·exact .inr (by omega)
   ·rcases hW8 z hz with h | h
    ·exact .inl h
    ·have:=hm17.size; exact .inr (by omega)
   ·show (1 - IntKind.i64.wrap ((0:Int)+1)).toNat<(1 - (0:Int)).toNat
    decide
  ·refine aE (fun h=>by cases h) fun _=>?_
   exact ⟨rfl,hPost⟩
theorem qHA {t:Tr} {k:Int} {L:Lv} {B:Nat→Prop} {key:List UInt8} (hT:gD w t k L B) (hL:dB L) (hO:LOk L) (hn:L.length≤100000) :
 Calls prog 30 #[.pointer (some ⟨t.p,0,none⟩),.string ⟨key.toArray⟩] w (Ret fun v w'=>∃ x,v=x.val∧iA w.heap.size w' x (lY L key)∧Mod NoB w w'):=by
 refine qUM _ _ ?_
 unfold jEX
 obtain ⟨es,e1,e2,e3⟩:=hT.es
 have hkeys : ∀ i (h:i<es.length) (h':i<L.length),es[i].1=L[i].1:=fun i h h'=>(e3 i h h').1
 have hse:es.Pairwise fun a b=>a.1<b.1:=List.pairwise_iff_getElem.2 fun a b ha hb hab=>by
  rw [hkeys a ha (by omega),hkeys b hb (by omega)]
  exact List.pairwise_iff_getElem.1 hL a b (by omega) (by omega) hab
 refine aC (nT hT.blk) ?_
 rintro v w1 ⟨rfl,rfl⟩
 refine ⟨_,rfl,aE (fun h=>by cases h) fun _=>?_⟩
 refine aC (qFB hT.blk e1.rd hse (by omega)) ?_
 rintro v w2 ⟨i,bb,rfl,hF,hm2⟩
 refine ⟨(i:Int),bb,rfl,aE (fun hbb=>?_) fun hbb=>?_⟩
 ·obtain ⟨hi,hik⟩:=hF.is.1 hbb
  have hiL:i<L.length:=by omega
  have hlL:=bK aZ (by omega) e1.rd
  obtain ⟨A,ea,hrd⟩:=bX aZ (by omega) (e1.no hm2).rd hi
  refine ⟨t.lv,by rw [aK,aK]; exact (hT.blk.no hm2).rd1 rfl,⟨by omega,by omega⟩,?_⟩
  rw [ea]
  refine ⟨es[i].2,lS.2 (hrd 1 _ rfl),?_⟩
  obtain ⟨q1,q2⟩:=e3 i hi hiL
  obtain ⟨o1,o2,o3,o4⟩:=hO L[i] (List.getElem_mem hiL)
  have hT2:=hT.no hm2
  refine aC (zE (K:=L[i].1) ((q2.mod hm2 fun z hz _=>⟨fun h=>h,hz⟩:fK B w2 _ _).recs fun z hz=>hT2.lt z hz) o1 o2 o4) ?_
  rintro v w3 ⟨x,rfl,hS,hm3⟩
  have hg:lY L key=L[i].2:=iS hL (by
   have:(key,L[i].2)=L[i]:=by rw [← hik,q1]
   rw [this]; exact List.getElem_mem hiL)
  rw [hg]
  exact ⟨x,rfl,x,rfl,hS.le hm2.size,hm2.tr hm3⟩
 ·have hg:lY L key=[]:=lV fun e he hk=>by
   obtain ⟨j,hj,rfl⟩:=List.getElem_of_mem he
   have hje:j<es.length:=by omega
   have ek:es[j].1=key:=(hkeys j hje hj).trans hk
   have hij:i≤j:=by
    rcases Nat.lt_or_ge j i with h | h
    ·have:=hF.lo j hje h; rw [ek] at this; exact absurd this (List.lt_irrefl _)
    ·exact h
   rcases Nat.eq_or_lt_of_le hij with h | h
   ·subst h
    have:=hF.is.2 ⟨hje,ek⟩
    rw [hbb] at this; cases this
   ·have h1:=hF.hi i (by omega) (Nat.le_refl _)
    have h2:=List.pairwise_iff_getElem.1 hse i j (by omega) hje h
    rw [ek] at h2; exact h1 h2
  rw [hg]
  exact ⟨⟨none,0,0⟩,rfl,⟨[],bW _ 7,fun z hz=>by simp at hz,rfl,fun i h=>absurd h (by simp)⟩,hm2⟩
end
section
variable {w:World}
theorem vL {B:Nat} {o:Slc} {L:Lv} {key:List UInt8} {s:Slc} {rs:List Rc} {lb:Nat} {T:TypeId} {K:Value→World→Prop} (hQ:dI (fun z=>B≤z) w o L) (hS:fK (fun z=>B≤z∧o.blk≠some z) w s rs) (hlb:Blk w lb (bE (key,s)) T) (hn:L.length≤100000) (hB:B≤w.heap.size)
 (hK : ∀ x w',dI (fun z=>B≤z) w' x (L++[(key,rs)])→(∀ z,x.blk=some z→o.blk=some z∨w.heap.size≤z)→Mod (fun z=>o.blk=some z) w w'→K x.val w') :
 aI prog (Builtin.append_ #[42,42] 42 #[.slice o.a o.len o.cap,.slice (some ⟨lb,0,none⟩) 1 1]) w K:=by
 obtain ⟨il,hl1,hl2,hl3,hl4⟩:=pB
 obtain ⟨es,ho,hob,hel,hes⟩:=hQ
 have hol:=bK aZ (by omega) ho.rd
 have hlit:aL w ⟨some ⟨lb,0,none⟩,1,1⟩ 2 (aR bE [(key,s)]):=by
  have e0:aR bE [(key,s)]=bE (key,s):=by simp [aR]
  rw [e0]; exact (aX (n:=1) (k:=2) hlb rfl).rd
 refine bG (s:=o) (x:=⟨some ⟨lb,0,none⟩,1,1⟩) dS hl1 hl2 hl3 rfl hl4 ho hlit (eU eY _) (by simp only []; omega) (by simp only []; omega) fun x' w12 ho12 hlen hblk hm12=>hK x' w12 ?_ (fun z hz=>?_) hm12
 ·have hx' : ∀ z,x'.blk=some z→o.blk=some z∨z=w.heap.size:=fun z hz=>by
   rcases hblk with e | e
   ·exact .inl (by rw [← e]; exact hz)
   ·rw [e] at hz; cases hz; exact .inr rfl
  have hfr : ∀ {t:Slc} {l:List Rc},fK (fun z=>B≤z∧o.blk≠some z) w t l→fK (fun z=>B≤z∧x'.blk≠some z) w12 t l:=fun {t l} hq=>hq.mod hm12 fun z hz hl=>⟨hz.2,hz.1,fun e=>by
   rcases hx' z e with h | h
   ·exact hz.2 h
   ·omega⟩
  refine ⟨es++[(key,s)],by rw [cL]; exact ho12,fun z hz=>?_,by simp [hel],fun j a d=>?_⟩
  ·rcases hx' z hz with h | h
   ·exact hob z h
   ·omega
  ·rcases Nat.lt_or_ge j es.length with hj | hj
   ·have e1:(es++[(key,s)])[j]=es[j]:=List.getElem_append_left hj
    have e2:(L++[(key,rs)])[j]=L[j]'(by omega):=List.getElem_append_left (by omega)
    rw [e1,e2]
    obtain ⟨g1,g2⟩:=hes j hj (by omega)
    exact ⟨g1,hfr g2⟩
   ·have hje:j=es.length:=by simp at a; omega
    subst hje
    have e1:(es++[(key,s)])[es.length]=(key,s):=by simp
    have e2:(L++[(key,rs)])[es.length]=(key,rs):=by simp [hel]
    rw [e1,e2]
    exact ⟨rfl,hfr hS⟩
 ·rcases hblk with e | e
  ·exact .inl (by rw [← e]; exact hz)
  ·rw [e] at hz; cases hz; exact .inr (Nat.le_refl _)
theorem oC {t:Tr} {k:Int} {L:Lv} {B:Nat→Prop} (hT:gD w t k L B) (hO:LOk L) (hn:L.length≤100000) :
 Calls prog 33 #[.pointer (some ⟨t.p,0,none⟩)] w (Ret fun v w'=>∃ o,v=o.val∧dI (fun z=>w.heap.size≤z) w' o L∧Mod NoB w w'):=by
 refine qXO _ ?_
 unfold jAJ
 obtain ⟨il,hl1,hl2,hl3,hl4⟩:=pB
 obtain ⟨es,e1,e2,e3⟩:=hT.es
 have hlL:=bK aZ (by omega) e1.rd
 refine aC (nT hT.blk) ?_
 rintro v w1 ⟨rfl,rfl⟩
 refine ⟨_,rfl,aE (fun h=>by cases h) fun _=>⟨t.lv,by rw [aK,aK]; exact hT.blk.rd1 rfl,?_⟩⟩
 refine ⟨fun l' w'=>match l' with | [.sl out,.i _ y]=>∃ j:Nat,y=(j:Int)∧j≤L.length∧dI (fun z=>w1.heap.size≤z) w' out (L.take j)∧Mod NoB w1 w' | _=>False,fun l' _=>match l' with | [.sl _,.i _ y]=>(L.length - y).toNat | _=>0,⟨0,rfl,by omega,⟨[],bW _ 2,fun z hz=>by simp at hz,rfl,fun i h=>absurd h (by simp)⟩,Mod.refl _ _⟩,?_⟩
 rintro out y w2 ⟨j,rfl,hj,hQ2,hm2⟩
 refine aE (fun hlt=>?_) fun hge=>?_
 ·have hlt:j<L.length:=by have:=of_decide_eq_true hlt; omega
  have hje:j<es.length:=by omega
  obtain ⟨A,ea,hrd⟩:=bX aZ (by omega) (e1.no hm2).rd hje
  refine ⟨⟨by omega,by omega⟩,?_⟩
  rw [ea]
  refine ⟨es[j].1,es[j].2,hrd,?_⟩
  refine aO (l:=[.string ⟨#[]⟩,.slice none 0 0]) hl1 hl2 rfl fun q w3 hN3 hb3=>⟨_,rfl,?_⟩
  show aJ _ _ _ _
  refine tT (e:=es[j]) (by kernel_rfl) (by kernel_rfl) hb3 rfl fun w4 ht4 hb4=>?_
  have hq:=hN3.at_
  have hm24:Mod NoB w2 w4:=hN3.mod.fresh ht4.mod fun z e=>by have e:z=q:=e; omega
  have hm2d:Mod NoB w2 w4.drew:=hm24.tr (Mod.drew NoB w4)
  have hm1d:=hm2.tr hm2d
  have hb4d:=hb4.no (Mod.drew NoB w4)
  have hobq:out.blk≠some q:=fun e=>by
   obtain ⟨es',ho',_⟩:=hQ2
   have:=ho'.lt e; omega
  have hQ4:dI (fun z=>w1.heap.size≤z) w4.drew out (L.take j):=hQ2.mod hm2d fun z hz _=>⟨fun h=>h,hz⟩
  have hoL : ∀ z,out.blk=some z→z<w2.heap.size:=fun z hz=>by obtain ⟨es',ho',_⟩:=hQ2; exact ho'.lt hz
  refine ⟨Mod (fun z=>out.blk=some z) w4.drew,Mod.refl _ _,es[j].1,fun w' hm=>by rw [aK]; exact (hb4d.mod hm hobq).rd1 rfl,es[j].2,fun w' hm=>by rw [aK]; exact (hb4d.mod hm hobq).rd1 rfl,?_,trivial⟩
  obtain ⟨q1,q2⟩:=e3 j hje hlt
  obtain ⟨o1,o2,o3,o4⟩:=hO L[j] (List.getElem_mem hlt)
  have hTd:=hT.no hm1d
  refine aC (zE (K:=L[j].1) ((q2.mod hm1d fun z hz _=>⟨fun h=>h,hz⟩:fK B w4.drew _ _).recs fun z hz=>hTd.lt z hz) o1 o2 o4) ?_
  rintro v w5 ⟨u,rfl,hS5,hm5⟩
  refine ⟨u,rfl,hm5.mono fun _ _ h=>h.elim,?_,trivial⟩
  refine bZ [.agg (bE (es[j].1,u)).toArray] (l:=bE (es[j].1,u)) dS hl1 hl2 hl3 (by omega) rfl (by omega) (by omega) rfl (by intro v hv; simp at hv; subst hv; rfl) (by simp [Value.cells]) fun lb w6 hN6 hb6=>⟨⟨some ⟨lb,0,none⟩,1,1⟩,rfl,(hm5.tr hN6.mod).mono fun _ _ h=>h.elim,?_,trivial⟩
  have hm46:Mod NoB w4.drew w6:=hm5.tr hN6.mod
  have hsd:w2.heap.size≤w4.drew.heap.size:=hm2d.size
  have hS6:fK (fun z=>w1.heap.size≤z∧out.blk≠some z) w6 u L[j].2:=hS5.q.mod hN6.mod fun z hz _=>⟨fun h=>h,by have:=hm1d.size; omega,fun e=>by have:=hoL z e; omega⟩
  refine vL (hQ4.mod hm46 fun z hz _=>⟨fun h=>h,hz⟩) hS6 hb6 (by rw [List.length_take]; omega) (by have:=(hm1d.tr hm46).size; omega) fun x w7 hQ7 hx7 hm7=>⟨x,rfl,hm46.no hm7,?_⟩
  rw [wrap_i64 (e:=(j:Int)+1) (by omega)]
  have et:L.take (j+1)=L.take j++[(es[j].1,L[j].2)]:=by rw [aV hlt,q1]
  refine ⟨⟨j+1,by omega,by omega,by rw [et]; exact hQ7,(hm1d.tr hm46).fresh hm7 fun z hz=>?_⟩,by (try simp only []); omega⟩
  obtain ⟨es',ho',hb',_⟩:=hQ2
  exact hb' z hz
 ·have hjj:j=L.length:=by have:=of_decide_eq_false hge; omega
  subst hjj
  rw [List.take_length] at hQ2
  exact ⟨out,rfl,hQ2,hm2⟩
end
section
variable {w:World}
theorem qHS {s:Slc} {vs:List Value} (hs:aL w s 1 vs) (h1v : ∀ y∈vs,y.oneCell'=true) (hn:vs.length≤1000000000) :
 Calls prog 58 #[.slice s.a s.len s.cap] w (Ret fun v w'=>∃ s',v=s'.val∧Sh.Own w' s' 1 vs∧FB w s'∧Mod NoB w w'):=by
 obtain ⟨i',h1,h2,h3,h4⟩:=qMM
 have hl:vs.length=s.len:=by have:=hs.1; simpa using this
 refine qZV _ ?_
 unfold jEJ
 refine gQ (e:=9) iV ⟨_,rfl,aE (fun h=>?_) (fun h=>?_)⟩
 ·have:vs=[]:=by
   rcases hs.2.2 with h0 | ⟨b,e1,_⟩
   ·simpa using h0
   ·rw [e1] at h; simp at h
  subst this
  exact ⟨⟨none,0,0⟩,rfl,bW _ _,FB.nil _,Mod.refl _ _⟩
 ·refine kT iV h1 fun b w1 hN=>⟨⟨some ⟨b,0,none⟩,0,0⟩,rfl,?_⟩
  refine bG (s:=⟨some ⟨b,0,none⟩,0,0⟩) iV h1 h2 h3 rfl h4 (kM _ _ _) (hs.no hN.mod) h1v (by simp only []; omega) (by simp only []; omega) fun s' w2 ho hlen hblk hm=>⟨s',rfl,s',rfl,by simpa using ho,?_,?_⟩
  ·intro z hz
   rcases hblk with h | h
   ·rw [h] at hz; simp at hz
   ·rw [h] at hz; cases hz; exact hN.mod.size
  ·exact hN.mod.fresh hm fun x e=>by simp at e
theorem qES (L:Lv) : ∀ y∈ways L,y.oneCell'=true:=by
 intro u hu
 obtain ⟨_,_,rfl⟩:=List.mem_map.1 hu
 rfl
theorem qAQ {t:Tr} {k:Int} {L:Lv} {B:Nat→Prop} (hT:gD w t k L B) (hk:0≤k∧k<4) (hO:LOk L) (hn:L.length≤100000) :
 Calls prog 41 #[.pointer (some ⟨t.p,0,none⟩)] w (Ret fun v w'=>∃ t' B',v = .pointer (some ⟨t'.p,0,none⟩)∧gD w' t' k L B'∧(∀ z,B' z→w.heap.size≤z)∧(∀ z,t'.W z→w.heap.size≤z)∧Mod NoB w w'):=by
 refine qVK _ ?_
 unfold jAG
 refine aC (nT hT.blk) ?_
 rintro v w1 ⟨rfl,rfl⟩
 refine ⟨_,rfl,aE (fun h=>by cases h) fun _=>⟨k,by rw [aK]; exact hT.blk.rd1 rfl,?_⟩⟩
 refine aC (qFI hk) ?_
 rintro v w2 ⟨p,mb,rfl,hb2,hM2,hp1,hmb1,hpm,hm2⟩
 have hm1d:Mod NoB w1 w2.drew:=hm2.tr (Mod.drew NoB w2)
 have hb2d:=hb2.no (Mod.drew NoB w2)
 have hM2d:=hM2.mod (Mod.drew NoB w2) fun h=>h
 refine ⟨_,rfl,Mod NoB w2.drew,Mod.refl _ _,t.wy,fun w' hm=>by rw [aK,aK]; exact (hT.blk.no (hm1d.tr hm)).rd1 rfl,?_,trivial⟩
 refine aC (oC (hT.no hm1d) hO hn) ?_
 rintro v w3 ⟨o,rfl,hQ3,hm3⟩
 refine ⟨o,rfl,hm3,?_,trivial⟩
 have hwl:(ways L).length=L.length:=by simp [ways]
 refine aC (qHS ((hT.way.no (hm1d.tr hm3)).rd) (qES L) (by omega)) ?_
 rintro v w4 ⟨y,rfl,hy4,hyF,hm4⟩
 refine ⟨y,rfl,?_⟩
 have hpl:=hb2d.lt
 have hml:=hM2d.lt
 have hs3:=hm3.size
 have hs4:=hm4.size
 have hm24:Mod NoB w2.drew w4:=hm3.tr hm4
 show aJ _ _ _ _∧_
 refine ⟨bS (b:=p) (o:=0+0) (vs:=[o.val,y.val]) (by kernel_rfl) (by kernel_rfl) rfl (hb2d.no hm24) (by simp [jB]) (by intro u hu; simp at hu; rcases hu with rfl | rfl <;> rfl) fun w5 ht5 hb5=>?_,trivial⟩
 have hb5:Blk w5 p (jB o y k mb) 79:=hb5
 have hm15:Mod NoB w1 w5:=(hm1d.tr hm24).fresh ht5.mod fun z e=>by have e:z=p:=e; omega
 have hT5:=hT.no hm15
 refine ⟨some t.mb,by rw [aK]; exact hT5.blk.rd1 rfl,?_⟩
 refine sI (d:=.string) (kt:=9) (et:=28) (by kernel_rfl) hT5.map fun r w6 hN6=>⟨_,rfl,?_⟩
 have hT6:=hT5.no hN6.mod
 refine ⟨fun l' w'=>w'=w6,fun _ _=>0,rfl,?_⟩
 rintro w7 rfl
 refine xA hT6.map hN6.get (by simp) (Nat.le_refl _) (fun _=>?_) fun e w' he=>by cases he
 refine ⟨_,rfl,_,rfl,false,rfl,aE (fun h=>by cases h) fun _=>?_⟩
 obtain ⟨es,ho,hob,hel,hes⟩:=hQ3
 have hol : ∀ z,o.blk=some z→z<w3.heap.size:=fun z hz=>ho.lt hz
 have hyl : ∀ z,y.blk=some z→w3.heap.size≤z:=hyF
 have hsd:w1.heap.size≤w2.drew.heap.size:=hm1d.size
 have hpo:o.blk≠some p:=fun e=>by have:=hob p e; omega
 have hpy:y.blk≠some p:=fun e=>by have:=hyl p e; omega
 have hmo:o.blk≠some mb:=fun e=>by have:=hob mb e; omega
 have hmy:y.blk≠some mb:=fun e=>by have:=hyl mb e; omega
 have hpS : ∀ z,(fun z=>z=p) z→z=p:=fun z h=>h
 refine ⟨⟨p,o,y,mb⟩,fun z=>w2.drew.heap.size≤z∧o.blk≠some z∧z<w3.heap.size,rfl,?_,fun z hz=>by omega,fun z hz=>?_,hm15.tr hN6.mod⟩
 ·refine ⟨hb5.no hN6.mod,((hM2d.mod hm24 fun h=>h).mod ht5.mod fun e=>hpm (Eq.symm e)).mod hN6.mod fun h=>h,⟨es,?_,hel,fun i a b=>?_⟩,?_,hpo,hpy,hpm,hmo,hmy,fun z h1 h2=>?_,fun z hz=>?_,fun z hz=>?_⟩
  ·exact ((ho.no hm4).mod ht5.mod fun z hz e=>by
    have e:z=p:=e
    subst e; exact hpo hz).no hN6.mod
  ·obtain ⟨g1,g2⟩:=hes i a b
   refine ⟨g1,?_⟩
   have a1:fK (fun z=>w2.drew.heap.size≤z∧o.blk≠some z∧z<w3.heap.size) w4 es[i].2 L[i].2:=g2.mod hm4 fun z hz hl=>⟨fun h=>h,hz.1,hz.2,hl⟩
   exact (a1.mod ht5.mod fun z hz _=>⟨fun e=>by have e:z=p:=e; omega,hz⟩:fK (fun z=>w2.drew.heap.size≤z∧o.blk≠some z∧z<w3.heap.size) w5 es[i].2 L[i].2).mod hN6.mod fun z hz _=>⟨fun h=>h,hz⟩
  ·exact (hy4.mod ht5.mod fun z hz e=>by
    have e:z=p:=e
    subst e; exact hpy hz).no hN6.mod
  ·have:=hol z h1; have:=hyl z h2; omega
  ·rintro (h | h | h | h)
   ·have h:z=p:=h
    omega
   ·exact hz.2.1 h
   ·have:=hyl z h; omega
   ·have h:z=mb:=h
    omega
  ·have h1:=ht5.size; have h2:=hN6.mod.size; omega
 ·rcases hz with h | h | h | h
  ·have h:z=p:=h
   omega
  ·have:=hob z h; omega
  ·have:=hyl z h; omega
  ·have h:z=mb:=h
   omega
end
theorem rE {w:World} {b n:Nat} {T:TypeId} {hs:List Hd} {rs:List Rc} (hb:Blk w b (hcells hs) T) (hn:hs.length=n) (hl:rs.length=n) (hI : ∀ i (h:i<hs.length) (h':i<rs.length),cK w hs[i] rs[i]) :
 bT w.heap.size w ⟨some ⟨b,0,none⟩,n,n⟩ rs:=
 ⟨hs,(aX (n:=n) (k:=7) hb (by rw [hcells,bQ Hd.len,hn])).rd,fun z hz=>by
  rw [Slc.blk_mk] at hz
  split at hz
  ·cases hz
  ·cases hz; exact hb.lt,by omega,fun i a b=>⟨hI i a b,fun z hz=>(hI i a b).lt z hz⟩⟩
theorem qCT {w:World} {K:Value→World→Prop} {h1 h2:Hd} {r1 r2:Rc} (H1:cK w h1 r1) (H2:cK w h2 r2)
 (hK : ∀ (x:Slc) w',Mod NoB w w'→bT w'.heap.size w' x [r1,r2]→K (.slice x.a x.len x.cap) w'):aI prog (Instr.buildSlice 32 2 #[(0,h1.val),(1,h2.val)]) w K:=by
 obtain ⟨ir,hr1,hr2,hr3,hr4⟩:=mV
 refine bZ [h1.val,h2.val] (l:=hcells [h1,h2]) nV hr1 hr2 hr3 (by omega) rfl (by omega) (by omega) rfl (by intro v hv; simp at hv; rcases hv with rfl | rfl <;> rfl) (by simp [hcells,aR,Value.cells,Hd.val]) fun lb w8 hN8 hb8=>hK ⟨some ⟨lb,0,none⟩,2,2⟩ w8 hN8.mod (rE hb8 rfl rfl fun i a b=>?_)
 match i,a with
 | 0,_=>exact H1.no hN8.mod
 | 1,_=>exact H2.no hN8.mod
theorem lN {w:World} {K:Value→World→Prop} {h1:Hd} {r1:Rc} (H1:cK w h1 r1)
 (hK : ∀ (x:Slc) w',Mod NoB w w'→bT w'.heap.size w' x [r1]→K (.slice x.a x.len x.cap) w'):aI prog (Instr.buildSlice 32 1 #[(0,h1.val)]) w K:=by
 obtain ⟨ir,hr1,hr2,hr3,hr4⟩:=mV
 refine bZ [h1.val] (l:=hcells [h1]) nV hr1 hr2 hr3 (by omega) rfl (by omega) (by omega) rfl (by intro v hv; simp at hv; subst hv; rfl) (by simp [hcells,aR,Value.cells,Hd.val]) fun lb w8 hN8 hb8=>hK ⟨some ⟨lb,0,none⟩,1,1⟩ w8 hN8.mod (rE hb8 rfl rfl fun i a b=>?_)
 match i,a with
 | 0,_=>exact H1.no hN8.mod
end Go.Proofs.YtahjmeegfkfokaaGreatDoor
end
section
namespace Go.Proofs.YtahjmeegfkfokaaGreatDoor
open Go Go.Sh
open Go.Proofs.Tryz
def sh8 (w:World) (R:RW):Prop:=
 aI prog (Instr.box 51 (.agg #[.pointer none,.pointer none,.pointer none,.pointer none,.bool true])) w fun v w1=>∃ x:Option Addr,v=(.pointer x)∧∃ (inv:List TV→World→Prop) (mu:List TV→World→Nat),inv [.i .i64 (0:Int)] w1∧(∀ x1:Int,∀ w2:World,inv [.i .i64 x1] w2→aH (decide (x1<(4:Int))) (aA x fun a=>((aD prog 23 [.int .i64 x1] w2.drew (aG R) fun v1 w3=>∃ x2:Option Addr,v1=(.pointer x2)∧((0≤x1∧x1<(4:Nat))∧((aJ prog (storeVar 47 ((a.add 0).add (x1.toNat*1)) (.pointer x2)) w3 fun w4=>(inv [.i .i64 (IntKind.i64.wrap (x1+(1:Int)))] w4∧mu [.i .i64 (IntKind.i64.wrap (x1+(1:Int)))] w4<mu [.i .i64 x1] w2))∧True)))∧True)) (R (.returned (.pointer x)) w2))
theorem jBK {w:World} {R:RW} (hden:sh8 w R):Calls prog 8 #[] w R:=
 aB (q0 .z (q0 .z (q0 (q0 .z (.block none (.loop [(5,(.i .i64))] (q0 .z (q0 (.cond .z .z) (q0 (.block none (q0 .z (.draw 0 (.take 0 (.take 1 (.take 2 (.take 4 (.take 5 (.all [(3,(.take 6 (.all [(7,.done)])))]))))))))) .z)))))) (q0 .z .z)))) func8 (by kernel_rfl) [] (by kernel_rfl) (by kernel_rfl) hden
def jAZ (s:Option Addr) (w:World) (R:RW):Prop:=
 aU prog (do eqGuard .neq 23 (.tmp 3) (.const (.pointer none)) (.pointer s) (.pointer none); binOp .neq 23 (.pointer s) (.pointer none)) fun v=>∃ x:Bool,v=(.bool x)∧aH x (aA s fun a=>∃ x1:Bool,Rd w (a.add 4) [.bool x1]∧R (.returned (.bool x1)) w) (R (.returned (.bool false)) w)
theorem qXE (s:Option Addr) {w:World} {R:RW} (hden:jAZ s w R):Calls prog 24 #[.pointer s] w R:=
 aB (q0 .z (q0 .z .z)) func24 (by kernel_rfl) [.p s] (by kernel_rfl) (by kernel_rfl) hden
def jCN (t:Option Addr) (w:World) (R:RW):Prop:=
 aI prog (Instr.alloc 49 true (.tuple #[])) w fun v w1=>∃ x:Option Addr,v=(.pointer x)∧aI prog (Instr.alloc 49 true (.tuple #[])) w1 fun v1 w2=>∃ c:Option Addr,v1=(.pointer c)∧∃ (inv:List TV→World→Prop) (mu:List TV→World→Nat),inv [.i .i64 (0:Int)] w2∧(∀ x1:Int,∀ w3:World,inv [.i .i64 x1] w3→aH (decide (x1<(4:Int))) (aA t fun a=>((0≤x1∧x1<(4:Nat))∧∃ x2:Option Addr,Rd w3 (a.add (x1.toNat*1)) [.pointer x2]∧aD prog 41 [.pointer x2] w3 (aG R) fun v2 w4=>∃ x3:Option Addr,v2=(.pointer x3)∧((0≤x1∧x1<(4:Nat))∧aA c fun a1=>aJ prog (storeVar 47 (a1.add (x1.toNat*1)) (.pointer x3)) w4 fun w5=>(inv [.i .i64 (IntKind.i64.wrap (x1+(1:Int)))] w5∧mu [.i .i64 (IntKind.i64.wrap (x1+(1:Int)))] w5<mu [.i .i64 x1] w3)))) (aA c fun a2=>∃ xa xb xc xd:Option Addr,Rd w3 a2 [.pointer xa,.pointer xb,.pointer xc,.pointer xd]∧aA x fun a3=>aJ prog (storeVar 49 a3 (.agg #[.pointer xa,.pointer xb,.pointer xc,.pointer xd])) w3 fun w6=>aA x fun a4=>∃ xa1 xb1 xc1 xd1:Option Addr,Rd w6 a4 [.pointer xa1,.pointer xb1,.pointer xc1,.pointer xd1]∧R (.returned (.agg #[.pointer xa1,.pointer xb1,.pointer xc1,.pointer xd1])) w6))
theorem qYN (t:Option Addr) {w:World} {R:RW} (hden:jCN t w R):Calls prog 25 #[.pointer t] w R:=
 aB (q0 .z (q0 .z (q0 (q0 .z (.block none (.loop [(5,(.i .i64))] (q0 .z (q0 (.cond .z .z) (q0 (.block none (q0 .z .z)) .z)))))) (q0 .z .z)))) func25 (by kernel_rfl) [.p t] (by kernel_rfl) (by kernel_rfl) hden
def jAT (t:Option Addr) (ra:List UInt8) (rb rc:Int) (rd:Slc) (re:Bool) (rf rg:Slc) (w:World) (R:RW):Prop:=
 aI prog (Instr.box 30 (zR ra rb rc rd re rf rg)) w fun v w1=>∃ r:Option Addr,v=(.pointer r)∧aA r fun a=>∃ xa:List UInt8,∃ xb xc:Int,∃ xd:Slc,∃ xe:Bool,∃ xf xg:Slc,Rd w1 a (yR xa xb xc xd xe xf xg)∧aD prog 14 [zR xa xb xc xd xe xf xg] w1 (aG R) fun v1 w2=>∃ x:Bool,v1=(.bool x)∧aH (!x) (R (.returned (.int .i64 (4:Int))) w2) (aA r fun a1=>∃ x1:List UInt8,Rd w2 (a1.add 0) [.string ⟨x1.toArray⟩]∧aD prog 29 [.pointer t,.string ⟨x1.toArray⟩] w2 (aG R) fun v2 w3=>∃ x2:Option Addr,v2=(.pointer x2)∧aA r fun a2=>∃ x3:List UInt8,Rd w3 (a2.add 0) [.string ⟨x3.toArray⟩]∧aD prog 30 [.pointer x2,.string ⟨x3.toArray⟩] w3 (aG R) fun v3 w4=>∃ x4:Slc,v3=(zS x4)∧aA r fun a3=>∃ xa1:List UInt8,∃ xb1 xc1:Int,∃ xd1:Slc,∃ xe1:Bool,∃ xf1 xg1:Slc,Rd w4 a3 (yR xa1 xb1 xc1 xd1 xe1 xf1 xg1)∧aI prog (Instr.buildSlice 32 1 #[(0,(zR xa1 xb1 xc1 xd1 xe1 xf1 xg1))]) w4 fun v4 w5=>∃ x5:Slc,v4=(zS x5)∧aI prog (Instr.buildSlice 99 2 #[(0,(zS x4)),(1,(zS x5))]) w5 fun v5 w6=>∃ x6:Slc,v5=(zS x6)∧aD prog 42 [zS x6] w6 (aG R) fun v6 w7=>∃ xa2:Slc,∃ xb2:Int,v6=(.tuple #[zS xa2,.int .i64 xb2])∧aH (xb2 != (0:Int)) (R (.returned (.int .i64 xb2)) w7) (∃ j:List TV→World→Prop,(aH (decide ((xa2.len:Int) > (16:Int))) (j [.b true] w7) (aH ((x4.len:Int)==(0:Int)) (aD prog 33 [.pointer x2] w7 (aG R) fun v7 w8=>∃ x7:Slc,v7=(zS x7)∧j [.b (decide ((x7.len:Int)≥(256:Int)))] w8) (j [.b false] w7)))∧(∀ x8:Bool,∀ w9:World,j [.b x8] w9→aH x8 (R (.returned (.int .i64 (8:Int))) w9) (aA r fun a4=>∃ x9:List UInt8,Rd w9 (a4.add 0) [.string ⟨x9.toArray⟩]∧aI prog (Instr.buildSlice 42 1 #[(0,(.agg #[.string ⟨x9.toArray⟩,zS xa2]))]) w9 fun v8 w10=>∃ x10:Slc,v8=(zS x10)∧aD prog 43 [.pointer x2,zS x10] w10 (aG R) fun v9 w11=>∃ x11:Int,v9=(.int .i64 x11)∧R (.returned (.int .i64 x11)) w11))))
theorem qVH (t:Option Addr) (ra:List UInt8) (rb rc:Int) (rd:Slc) (re:Bool) (rf rg:Slc) {w:World} {R:RW} (hden:jAT t ra rb rc rd re rf rg w R):Calls prog 26 #[.pointer t,zR ra rb rc rd re rf rg] w R:=
 aB (q0 .z (q0 (q0 .z (.cond (q0 .z .z) .z)) (q0 .z (q0 .z (q0 .z (q0 (.block none (q0 .z (.cond (q0 .z .z) (.seq (some [(32,.b)]) (q0 .z (.cond .z .z)) (.cond (q0 .z .z) .z))))) (q0 .z .z))))))) func26 (by kernel_rfl) [.p t,.agg [.s ra,.i .i64 rb,.i .i64 rc,.sl rd,.b re,.sl rf,.sl rg]] (by kernel_rfl) (by kernel_rfl) hden
def jAH (t:Option Addr) (key:List UInt8) (w:World) (R:RW):Prop:=
 ∃ sx:World→Prop,sx w.drew∧aA t fun a=>((aD prog 48 [.string ⟨key.toArray⟩] w.drew (aG R) fun v w1=>∃ x:Int,v=(.int .i64 x)∧(sx w1∧((0≤x∧x<(4:Nat))∧∃ x1:Option Addr,(∀ w',sx w'→Rd w' (a.add (x.toNat*1)) [.pointer x1])∧R (.returned (.pointer x1)) w1)))∧True)
theorem qWB (t:Option Addr) (key:List UInt8) {w:World} {R:RW} (hden:jAH t key w R):Calls prog 29 #[.pointer t,.string ⟨key.toArray⟩] w R:=
 aB (q0 .z (q0 (.draw 1 (.take 0 (.take 1 (.take 3 (.all [(2,(.take 4 (.take 5 (.take 6 .done))))]))))) .z)) func29 (by kernel_rfl) [.p t,.s key] (by kernel_rfl) (by kernel_rfl) hden
def sh9 (s:Option Addr) (records:Slc) (w:World) (R:RW):Prop:=
 aD prog 24 [.pointer s] w (aG R) fun v w1=>∃ x:Bool,v=(.bool x)∧aH (!x) (R (.returned (.int .i64 (1:Int))) w1) (aA s fun a=>aD prog 25 [.pointer (some (a.add 0))] w1 (aG R) fun v1 w2=>∃ xa xb xc xd:Option Addr,v1=(.agg #[.pointer xa,.pointer xb,.pointer xc,.pointer xd])∧aI prog (Instr.alloc 49 true (.tuple #[])) w2 fun v2 w3=>∃ c:Option Addr,v2=(.pointer c)∧aA c fun a1=>aJ prog (storeVar 49 a1 (.agg #[.pointer xa,.pointer xb,.pointer xc,.pointer xd])) w3 fun w4=>∃ (inv:List TV→World→Prop) (mu:List TV→World→Nat),inv [.i .i64 (0:Int)] w4∧(∀ x1:Int,∀ w5:World,inv [.i .i64 x1] w5→aH (decide (x1<(records.len:Int))) (((0≤x1∧x1<(records.len:Nat))∧aA records.a fun a2=>∃ xa1:List UInt8,∃ xb1 xc1:Int,∃ xd1:Slc,∃ xe:Bool,∃ xf xg:Slc,Rd w5 (a2.add (x1.toNat*7)) (yR xa1 xb1 xc1 xd1 xe xf xg)∧aI prog (Instr.alloc 30 true (.tuple #[])) w5 fun v3 w6=>∃ r:Option Addr,v3=(.pointer r)∧aA r fun a3=>aJ prog (storeVar 30 a3 (zR xa1 xb1 xc1 xd1 xe xf xg)) w6 fun w7=>aA r fun a4=>∃ xa2:List UInt8,∃ xb2 xc2:Int,∃ xd2:Slc,∃ xe1:Bool,∃ xf1 xg1:Slc,Rd w7 a4 (yR xa2 xb2 xc2 xd2 xe1 xf1 xg1)∧aD prog 26 [.pointer c,zR xa2 xb2 xc2 xd2 xe1 xf1 xg1] w7 (aG R) fun v4 w8=>∃ x2:Int,v4=(.int .i64 x2)∧aH (x2 != (0:Int)) (R (.returned (.int .i64 x2)) w8) ((inv [.i .i64 (IntKind.i64.wrap (x1+(1:Int)))] w8∧mu [.i .i64 (IntKind.i64.wrap (x1+(1:Int)))] w8<mu [.i .i64 x1] w5)))) (aA c fun a5=>∃ xa3 xb3 xc3 xd3:Option Addr,Rd w5 a5 [.pointer xa3,.pointer xb3,.pointer xc3,.pointer xd3]∧aA s fun a6=>aJ prog (storeVar 49 (a6.add 0) (.agg #[.pointer xa3,.pointer xb3,.pointer xc3,.pointer xd3])) w5 fun w9=>R (.returned (.int .i64 (0:Int))) w9)))
theorem jDF (s:Option Addr) (records:Slc) {w:World} {R:RW} (hden:sh9 s records w R):Calls prog 9 #[.pointer s,zS records] w R:=
 aB (q0 .z (q0 (q0 .z (.cond (q0 .z .z) .z)) (q0 .z (q0 (q0 .z (.block none (.loop [(18,(.i .i64))] (q0 .z (q0 (.cond .z .z) (q0 (.block none (q0 .z (q0 .z (q0 .z (.cond (q0 .z .z) .z))))) .z)))))) (q0 .z (q0 .z .z)))))) func9 (by kernel_rfl) [.p s,.sl records] (by kernel_rfl) (by kernel_rfl) hden
def jET (s:Option Addr) (key:List UInt8) (w:World) (R:RW):Prop:=
 aD prog 24 [.pointer s] w (aG R) fun v w1=>∃ x:Bool,v=(.bool x)∧aH (!x) (R (.returned (.slice none 0 0)) w1) (aA s fun a=>aD prog 29 [.pointer (some (a.add 0)),.string ⟨key.toArray⟩] w1 (aG R) fun v1 w2=>∃ x1:Option Addr,v1=(.pointer x1)∧aD prog 30 [.pointer x1,.string ⟨key.toArray⟩] w2 (aG R) fun v2 w3=>∃ x2:Slc,v2=(zS x2)∧R (.returned (zS x2)) w3)
theorem qVF (s:Option Addr) (key:List UInt8) {w:World} {R:RW} (hden:jET s key w R):Calls prog 11 #[.pointer s,.string ⟨key.toArray⟩] w R:=
 aB (q0 .z (q0 (q0 .z (.cond (q0 .z .z) .z)) (q0 .z .z))) func11 (by kernel_rfl) [.p s,.s key] (by kernel_rfl) (by kernel_rfl) hden
def jBV (s:Option Addr) (w:World) (R:RW):Prop:=
 aD prog 24 [.pointer s] w (aG R) fun v w1=>∃ x:Bool,v=(.bool x)∧aH (!x) (R (.returned (.slice none 0 0)) w1) (aA s fun a=>∃ xa xb xc xd:Option Addr,Rd w1 (a.add 0) [.pointer xa,.pointer xb,.pointer xc,.pointer xd]∧∃ (inv:List TV→World→Prop) (mu:List TV→World→Nat),inv [.sl ⟨none,0,0⟩,.i .i64 (0:Int)] w1∧(∀ out:Slc,∀ x1:Int,∀ w2:World,inv [.sl out,.i .i64 x1] w2→aH (decide (x1<(4:Int))) (((0≤x1∧x1<(4:Nat))∧(∀ z∈([.p xa,.p xb,.p xc,.p xd]:List TV),z.cells.length=1)∧∃ x2:Option Addr,([.p xa,.p xb,.p xc,.p xd]:List TV)[x1.toNat]? = some (.p x2)∧aD prog 33 [.pointer x2] w2 (aG R) fun v1 w3=>∃ x3:Slc,v1=(zS x3)∧aI prog (Builtin.append_ #[42,42] 42 #[zS out,zS x3]) w3 fun v2 w4=>∃ x4:Slc,v2=(zS x4)∧(inv [.sl x4,.i .i64 (IntKind.i64.wrap (x1+(1:Int)))] w4∧mu [.sl x4,.i .i64 (IntKind.i64.wrap (x1+(1:Int)))] w4<mu [.sl out,.i .i64 x1] w2))) (aD prog 34 [zS out,.func (.func 35) #[] #[]] w2 (aG R) fun v3 w5=>v3=(.tuple #[])∧R (.returned (zS out)) w5)))
theorem qUQ (s:Option Addr) {w:World} {R:RW} (hden:jBV s w R):Calls prog 18 #[.pointer s] w R:=
 aB (q0 .z (q0 (q0 .z (.cond (q0 .z .z) .z)) (q0 .z (q0 (q0 .z (.block none (.loop [(3,.sl),(13,(.i .i64))] (q0 .z (q0 (.cond .z .z) (q0 (.block none (q0 .z .z)) .z)))))) (q0 .z (q0 .z .z)))))) func18 (by kernel_rfl) [.p s] (by kernel_rfl) (by kernel_rfl) hden
def jBI (aa:List UInt8) (ab:Slc) (ba:List UInt8) (bb:Slc) (w:World) (R:RW):Prop:=
 aI prog (Instr.box 65 (.agg #[.string ⟨aa.toArray⟩,zS ab])) w fun v w1=>∃ a:Option Addr,v=(.pointer a)∧aI prog (Instr.box 65 (.agg #[.string ⟨ba.toArray⟩,zS bb])) w1 fun v1 w2=>∃ b:Option Addr,v1=(.pointer b)∧aA a fun a1=>∃ x:List UInt8,Rd w2 (a1.add 0) [.string ⟨x.toArray⟩]∧aA b fun a2=>∃ x1:List UInt8,Rd w2 (a2.add 0) [.string ⟨x1.toArray⟩]∧aD prog 36 [.string ⟨x.toArray⟩,.string ⟨x1.toArray⟩] w2 (aG R) fun v2 w3=>∃ x2:Int,v2=(.int .i64 x2)∧R (.returned (.int .i64 x2)) w3
theorem qZT (aa:List UInt8) (ab:Slc) (ba:List UInt8) (bb:Slc) {w:World} {R:RW} (hden:jBI aa ab ba bb w R):Calls prog 35 #[.agg #[.string ⟨aa.toArray⟩,zS ab],.agg #[.string ⟨ba.toArray⟩,zS bb]] w R:=
 aB (q0 .z (q0 .z .z)) func35 (by kernel_rfl) [.agg [.s aa,.sl ab],.agg [.s ba,.sl bb]] (by kernel_rfl) (by kernel_rfl) hden
def jDG (s:Option Addr) (shard:Int) (w:World) (R:RW):Prop:=
 ∃ j:List TV→World→Prop,(aD prog 24 [.pointer s] w (aG R) fun v w1=>∃ x:Bool,v=(.bool x)∧aH (!x) (j [.b true] w1) (aH (decide (shard<(0:Int))) (j [.b true] w1) (j [.b (decide (shard≥(4:Int)))] w1)))∧(∀ x1:Bool,∀ w2:World,j [.b x1] w2→aH x1 (R (.returned (.pointer none)) w2) (aA s fun a=>((0≤shard∧shard<(4:Nat))∧∃ x2:Option Addr,Rd w2 ((a.add 0).add (shard.toNat*1)) [.pointer x2]∧aD prog 41 [.pointer x2] w2 (aG R) fun v1 w3=>∃ x3:Option Addr,v1=(.pointer x3)∧R (.returned (.pointer x3)) w3)))
theorem qVN (s:Option Addr) (shard:Int) {w:World} {R:RW} (hden:jDG s shard w R):Calls prog 21 #[.pointer s,.int .i64 shard] w R:=
 aB (q0 .z (q0 (.seq (some [(15,.b)]) .z (.cond (q0 .z .z) .z)) (q0 .z .z))) func21 (by kernel_rfl) [.p s,.i .i64 shard] (by kernel_rfl) (by kernel_rfl) hden
end Go.Proofs.YtahjmeegfkfokaaGreatDoor
end
section
namespace Go.Proofs.YtahjmeegfkfokaaGreatDoor
open Go Go.Sh Go.MapKept
open Go.Proofs.Tryz
def tOf (key:List UInt8):Nat:=(iF ((dg key).getD 0 0) 6).toNat
theorem uB (key:List UInt8):tOf key<4:=by
 unfold tOf iF
 generalize (dg key).getD 0 0=x
 rw [if_pos (by decide),UInt8.toNat_shiftRight]
 have:=x.toNat_lt
 show x.toNat >>> 6<4
 rw [Nat.shiftRight_eq_div_pow]; omega
theorem jT (key:List UInt8):tZ (dg key)=(tOf key:Int):=rfl
theorem qDF {r:Rc} (h:r.right=true):1≤r.key.length∧r.key.length≤64:=by
 simp only [Rc.right,Rc.shaped,Bool.and_eq_true,decide_eq_true_eq] at h
 exact ⟨h.1.1.1.1.1.1.1,h.1.1.1.1.1.1.2⟩
structure cF (Ls:Nat→Lv) (n:Nat):Prop where
 so : ∀ i,dB (Ls i)
 ok : ∀ i,LOk (Ls i)
 sh : ∀ i,∀ e∈Ls i,tOf e.1=i
 n : ∀ i,(Ls i).length≤n
 m : ∀ i,∀ e∈Ls i,e.2.length≤16
def eZ (Ls:Nat→Lv) (key:List UInt8):List Rc:=lY (Ls (tOf key)) key
theorem vN {L:Lv} {key:List UInt8} (h:lY L key≠[]):(key,lY L key)∈L:=by
 unfold lY at h ⊢
 cases e:L.find? fun e=>e.1=key with
 | none=>rw [e] at h; exact absurd rfl h
 | some x=>
   have h1:=List.mem_of_find?_eq_some e
   have h2:x.1=key:=by simpa using List.find?_some e
   simp only [Option.map_some,Option.getD_some]
   rw [← h2]; exact h1
def qFO (Ls:Nat→Lv) (key:List UInt8) (rs:List Rc):Prop:=16<rs.length∨(eZ Ls key=[]∧256≤(Ls (tOf key)).length)
def fI (Ls:Nat→Lv) (r:Rc) (e:Int) (Ls':Nat→Lv):Prop:=
 (r.right=false∧e=4∧Ls'=Ls)∨(r.right=true∧∃ rs,bY (eZ Ls r.key++[r]) rs∧
  ((qFO Ls r.key rs∧e=8∧Ls'=Ls)∨(¬ qFO Ls r.key rs∧e=0∧qK (Ls (tOf r.key)) r.key rs (Ls' (tOf r.key))∧(Ls' (tOf r.key)).length≤(Ls (tOf r.key)).length+1∧∀ j,j≠tOf r.key→Ls' j=Ls j)))
def pt (t:Tr):Value:=.pointer (some ⟨t.p,0,none⟩)
def gM (ts:Nat→Tr):List Value:=[pt (ts 0),pt (ts 1),pt (ts 2),pt (ts 3)]
theorem tK (ts:Nat→Tr) {i:Nat} (h:i<4):(gM ts)[i]? = some (pt (ts i)):=by
 match i,h with
 | 0,_=>rfl
 | 1,_=>rfl
 | 2,_=>rfl
 | 3,_=>rfl
structure lX (w:World) (ts:Nat→Tr) (Ls:Nat→Lv) (Bs:Nat→Nat→Prop) (lo:Nat):Prop where
 tr : ∀ i,i<4→gD w (ts i) (i:Int) (Ls i) (Bs i)
 sep : ∀ i j,i<4→j<4→i≠j→∀ z,(ts i).W z→¬ ((ts j).W z∨Bs j z)
 lo : ∀ i,i<4→∀ z,((ts i).W z∨Bs i z)→lo≤z
def W4 (ts:Nat→Tr) (z:Nat):Prop:=∃ i,i<4∧(ts i).W z
theorem lX.mod {w w':World} {ts:Nat→Tr} {Ls:Nat→Lv} {Bs:Nat→Nat→Prop} {lo:Nat} {S:Nat→Prop} (h:lX w ts Ls Bs lo) (hm:Mod S w w') (hS : ∀ i,i<4→∀ z,((ts i).W z∨Bs i z)→¬ S z):lX w' ts Ls Bs lo:=
 ⟨fun i hi=>(h.tr i hi).mod hm (fun z hz=>hS i hi z (.inl hz)) fun z hz=>hS i hi z (.inr hz),h.sep,h.lo⟩
theorem lX.no {w w':World} {ts:Nat→Tr} {Ls:Nat→Lv} {Bs:Nat→Nat→Prop} {lo:Nat} (h:lX w ts Ls Bs lo) (hm:Mod NoB w w'):lX w' ts Ls Bs lo:=h.mod hm fun _ _ _ _ h=>h
theorem lX.lt {w:World} {ts:Nat→Tr} {Ls:Nat→Lv} {Bs:Nat→Nat→Prop} {lo:Nat} (h:lX w ts Ls Bs lo):lo≤w.heap.size:=by
 have h0:=(h.tr 0 (by omega)).wlt (ts 0).p (.inl rfl)
 have h1:=h.lo 0 (by omega) (ts 0).p (.inl (.inl rfl))
 omega
theorem iA.recs {B:Nat} {w:World} {s:Slc} {rs:List Rc} (h:iA B w s rs):bT w.heap.size w s rs:=by
 obtain ⟨hs,h1,h2,h3,h4⟩:=h
 exact ⟨hs,h1.rd,fun z hz=>h1.lt hz,h3,fun i a b=>⟨(h4 i a b).1,fun z hz=>(h4 i a b).1.lt z hz⟩⟩
theorem qAM {Ls:Nat→Lv} {n:Nat} (hO:cF Ls n) (key:List UInt8):(∀ r∈eZ Ls key,r.right=true∧r.key=key)∧(eZ Ls key).length≤16:=by
 rcases Classical.em (eZ Ls key=[]) with h | h
 ·rw [h]; exact ⟨fun r hr=>(by cases hr),Nat.zero_le _⟩
 ·have hm:(key,eZ Ls key)∈Ls (tOf key):=vN h
  exact ⟨(hO.ok _ _ hm).2.1,hO.m _ _ hm⟩
section
variable {w:World}
theorem qRB {ts:Nat→Tr} {c:Nat} {T:TypeId} {key:List UInt8} {l:List Value} (hg:dM w) (hc:Blk w c (gM ts++l) T) (hk:key.length≤100000000) :
 Calls prog 29 #[.pointer (some ⟨c,0,none⟩),.string ⟨key.toArray⟩] w (Ret fun v w'=>v=pt (ts (tOf key))∧Mod NoB w w'):=by
 refine qWB _ _ ?_
 unfold jAH
 refine ⟨Mod NoB w.drew,Mod.refl _ _,?_,trivial⟩
 refine aC (sH hg.drew (by omega)) ?_
 rintro v w1 ⟨rfl,hm1⟩
 have h4:=uB key
 have e:((tOf key:Nat):Int).toNat*1=tOf key:=by omega
 refine ⟨_,rfl,hm1,⟨by rw [jT]; omega,by rw [jT]; omega⟩,some ⟨(ts (tOf key)).p,0,none⟩,fun w' hm=>?_,rfl,(Mod.drew NoB w).tr hm1⟩
 rw [jT,e,aK]
 refine ((hc.no (Mod.drew NoB w)).no hm).rd1 ?_
 rw [Nat.zero_add,List.getElem?_append_left (by show tOf key<4; omega)]
 exact tK ts h4
theorem qII {ts:Nat→Tr} {Ls:Nat→Lv} {Bs:Nat→Nat→Prop} {lo n:Nat} {c:Nat} {T:TypeId} {h:Hd} {r:Rc} (hg:dM w) (hlo : ∀ z,isG z→z<lo) (hF:lX w ts Ls Bs lo) (hO:cF Ls n) (hn:n≤90000) (hc:Blk w c (gM ts) T) (H:cK w h r) :
 Calls prog 26 #[.pointer (some ⟨c,0,none⟩),h.val] w (Ret fun v w'=>∃ e ts' Ls' Bs',v = .int .i64 e∧fI Ls r e Ls'∧lX w' ts' Ls' Bs' lo∧(∀ i,(ts' i).p=(ts i).p)∧(∀ i,i<4→∀ z,(ts' i).W z→(ts i).W z∨w.heap.size≤z)∧Mod (W4 ts) w w'):=by
 refine qVH _ h.a h.b h.c h.d h.e h.f h.g ?_
 unfold jAT
 refine aT (v:=h.val) (l:=h.cells) rfl fun b w1 hN1 hb1=>⟨_,rfl,?_⟩
 have hat:=hN1.at_
 refine ⟨h.a,h.b,h.c,h.d,h.e,h.f,h.g,rdH hb1,?_⟩
 refine aC (uP (h:=h) (H.no hN1.mod)) ?_
 rintro v w2 ⟨rfl,hm2⟩
 have hm02:=hN1.mod.tr hm2
 have hup : ∀ {w'},Mod NoB w w'→Mod (W4 ts) w w':=fun hm=>hm.mono fun _ _ h=>h.elim
 refine ⟨_,rfl,aE (fun hr=>?_) fun hr=>?_⟩
 ·exact ⟨4,ts,Ls,Bs,rfl,.inl ⟨by simpa using hr,rfl,rfl⟩,hF.no hm02,fun i=>rfl,fun i hi z hz=>.inl hz,hup hm02⟩
 ·have hr:r.right=true:=by simpa using hr
  obtain ⟨hk1,hk2⟩:=qDF hr
  have ha:h.a=r.key:=H.key
  have hb2:=hb1.no hm2
  have hrdk : ∀ {w'},Mod NoB w2 w'→Rd w' (Addr.add ⟨b,0,none⟩ 0) [.string ⟨r.key.toArray⟩]:=fun hm=>fY (hb2.no hm) (by show some (Value.string ⟨h.a.toArray⟩)=_; rw [ha])
  refine ⟨r.key,hrdk (Mod.refl _ _),?_⟩
  refine aC (qRB (l:=[]) (hg.no hm02) (by rw [List.append_nil]; exact hc.no hm02) (by omega)) ?_
  rintro v w3 ⟨rfl,hm3⟩
  refine ⟨_,rfl,r.key,hrdk hm3,?_⟩
  have hm03:=hm02.tr hm3
  have h4:=uB r.key
  have hF3:=hF.no hm03
  have hT3:=hF3.tr (tOf r.key) h4
  have hLn:=hO.n (tOf r.key)
  refine aC (qHA (key:=r.key) hT3 (hO.so _) (hO.ok _) (by omega)) ?_
  rintro v w4 ⟨x4,rfl,hS4,hm4⟩
  have hS4:iA w3.heap.size w4 x4 (eZ Ls r.key):=hS4
  have hx4l:=hS4.len
  obtain ⟨hgr,hgn⟩:=qAM hO r.key
  have hm04:=hm03.tr hm4
  refine ⟨x4,rfl,h.a,h.b,h.c,h.d,h.e,h.f,h.g,rdH ((hb2.no hm3).no hm4),?_⟩
  refine lN (h1:=h) (H.no hm04) fun x5 w5 hm5 hR5=>⟨x5,rfl,?_⟩
  obtain ⟨is,hs1,hs2,hs3,hs4⟩:=qVT
  refine bZ [x4.val,x5.val] (l:=[x4.val,x5.val]) qTO hs1 hs2 hs3 (by omega) rfl (by omega) (by omega) rfl (by intro v hv; simp at hv; rcases hv with rfl | rfl <;> rfl) (by simp [Value.cells,Slc.val]) fun sb w6 hN6 hsb6=>⟨⟨some ⟨sb,0,none⟩,2,2⟩,rfl,?_⟩
  have hm06:=(hm04.tr hm5).tr hN6.mod
  have hsz4:=hm4.size
  have hR4:bT w6.heap.size w6 x4 (eZ Ls r.key):=((hS4.recs.mod ((hm5.tr hN6.mod).mono fun _ _ h=>h.elim)).le (hm5.tr hN6.mod).size)
  have hS6:kL w6.heap.size w6 ⟨some ⟨sb,0,none⟩,2,2⟩ [eZ Ls r.key,[r]]:=⟨[x4,x5],(aX (n:=2) (k:=1) hsb6 rfl).rd,fun z hz=>by rw [Slc.blk_mk,if_neg (by omega)] at hz; cases hz; exact hsb6.lt,rfl,fun i a d=>by
   match i,a with
   | 0,_=>exact hR4
   | 1,_=>exact (hR5.mod (hN6.mod.mono fun _ _ h=>h.elim)).le hN6.mod.size⟩
  have hfl:[eZ Ls r.key,[r]].flatten=eZ Ls r.key++[r]:=by simp
  have hKj : ∀ r'∈eZ Ls r.key++[r],r'.right=true∧r'.key=r.key:=fun r' h'=>by
   rcases List.mem_append.1 h' with h' | h'
   ·exact hgr r' h'
   ·have:r'=r:=by simpa using h'
    subst this; exact ⟨hr,rfl⟩
  refine aC (qFR (K:=r.key) hS6 (fun l hl r' hr'=>?_) (by rw [hfl]; simp; omega) (by simp)) ?_
  ·refine hKj r' ?_
   rw [← hfl]; exact List.mem_flatten.2 ⟨l,hl,hr'⟩
  rintro v w7 ⟨out,rs,rfl,hJ,hS7,hm7⟩
  rw [hfl] at hJ
  have hm07:=hm06.tr hm7
  have hol:=hS7.len
  refine ⟨out,0,rfl,aE (fun h=>by cases h) fun _=>?_⟩
  have hfull:qFO Ls r.key rs↔16<rs.length∨(eZ Ls r.key=[]∧256≤(Ls (tOf r.key)).length):=Iff.rfl
  have hrd4 : ∀ {w'},Mod NoB w7 w'→Rd w' (Addr.add ⟨b,0,none⟩ 0) [.string ⟨r.key.toArray⟩]:=fun hm=>hrdk (((((hm3.tr hm4).tr hm5).tr hN6.mod).tr hm7).tr hm)
  refine ⟨fun l' w'=>match l' with | [.b y]=>(y=true↔qFO Ls r.key rs)∧Mod NoB w7 w' | _=>False,aE (fun h16=>?_) (fun h16=>aE (fun h0=>?_) fun h0=>?_),?_⟩
  ·have h16:16<rs.length:=by have:=of_decide_eq_true h16; omega
   exact ⟨⟨fun _=>.inl h16,fun _=>rfl⟩,Mod.refl _ _⟩
  ·have h16 : ¬ 16<rs.length:=by have:=of_decide_eq_false h16; omega
   have h0:eZ Ls r.key=[]:=by
    have e0:(x4.len:Int)=0:=by simpa using h0
    exact List.eq_nil_of_length_eq_zero (by omega)
   refine aC (oC ((hF.no hm07).tr _ h4) (hO.ok _) (by omega)) ?_
   rintro v w8 ⟨x7,rfl,hQ8,hm8⟩
   have hl7:x7.len=(Ls (tOf r.key)).length:=by
    obtain ⟨es,q1,q2,q3,q4⟩:=hQ8
    have:=bK aZ (by omega) q1.rd; omega
   refine ⟨x7,rfl,⟨fun h=>?_,fun h=>?_⟩,hm8⟩
   ·have:=of_decide_eq_true h
    exact .inr ⟨h0,by omega⟩
   ·refine decide_eq_true ?_
    rcases h with h | h
    ·exact absurd h h16
    ·have:=h.2; show (x7.len:Int)≥256; omega
  ·have h16 : ¬ 16<rs.length:=by have:=of_decide_eq_false h16; omega
   have h0:eZ Ls r.key≠[]:=fun e=>by
    rw [e] at hx4l
    simp at h0
    simp at hx4l; omega
   exact ⟨⟨fun h=>(by cases h),fun h=>absurd h fun h=>Or.elim h h16 fun h=>h0 h.1⟩,Mod.refl _ _⟩
  rintro y w8 ⟨hy,hm8⟩
  have hm08:=hm07.tr hm8
  refine aE (fun hyt=>?_) fun hyf=>?_
  ·exact ⟨8,ts,Ls,Bs,rfl,.inr ⟨hr,rs,hJ,.inl ⟨hy.1 hyt,rfl,rfl⟩⟩,hF.no hm08,fun i=>rfl,fun i hi z hz=>.inl hz,hup hm08⟩
  ·have hnf : ¬ qFO Ls r.key rs:=fun h=>by rw [hy.2 h] at hyf; cases hyf
   refine ⟨r.key,hrd4 hm8,?_⟩
   obtain ⟨il,hl1,hl2,hl3,hl4⟩:=pB
   refine bZ [.agg (bE (r.key,out)).toArray] (l:=bE (r.key,out)) dS hl1 hl2 hl3 (by omega) rfl (by omega) (by omega) rfl (by intro v hv; simp at hv; subst hv; rfl) (by simp [Value.cells]) fun lb w9 hN9 hb9=>⟨⟨some ⟨lb,0,none⟩,1,1⟩,rfl,?_⟩
   have hm79:=hm8.tr hN9.mod
   have hm09:=hm07.tr hm79
   have hF9:=hF.no hm09
   have hrsub:=jN hJ
   have hr16:rs.length≤16:=Nat.le_of_not_lt fun h=>hnf (.inl h)
   refine aC (qZU (key:=r.key) (s:=out) (rs:=rs) (hg.no hm09) (fun z hz hW=>by have:=hF.lo _ h4 z (.inl hW); have:=hlo z hz; omega) (hF9.tr _ h4) (hO.so _) (by omega) (jT _).symm ((hS7.recs.mod (hm79.mono fun _ _ h=>h.elim)).le hm79.size) (oZ hJ) (fun r' h'=>hKj r' (hrsub r' h')) (by omega) ⟨hk1,hk2⟩ hb9) ?_
   rintro v w10 ⟨rfl,t',L',B',hP,hLn',hT',hB',ep,em,hW',hm10⟩
   have hm10':Mod (W4 ts) w w10:=(hup hm09).tr (hm10.mono fun z _ h=>⟨_,h4,h⟩)
   let ts':Nat→Tr:=fun i=>if i=tOf r.key then t' else ts i
   let Ls':Nat→Lv:=fun i=>if i=tOf r.key then L' else Ls i
   let Bs':Nat→Nat→Prop:=fun i=>if i=tOf r.key then B' else Bs i
   have e1:ts' (tOf r.key)=t':=if_pos rfl
   have e2:Ls' (tOf r.key)=L':=if_pos rfl
   have e3:Bs' (tOf r.key)=B':=if_pos rfl
   have n1 : ∀ i,i≠tOf r.key→ts' i=ts i:=fun i h=>if_neg h
   have n2 : ∀ i,i≠tOf r.key→Ls' i=Ls i:=fun i h=>if_neg h
   have n3 : ∀ i,i≠tOf r.key→Bs' i=Bs i:=fun i h=>if_neg h
   have hs9:=hm09.size
   have hold : ∀ i,i<4→∀ z,((ts i).W z∨Bs i z)→z<w.heap.size:=fun i hi z hz=>hz.elim (fun h=>(hF.tr i hi).wlt z h) fun h=>(hF.tr i hi).lt z h
   refine ⟨0,rfl,0,ts',Ls',Bs',rfl,.inr ⟨hr,rs,hJ,.inr ⟨hnf,rfl,by rw [e2]; exact hP,by rw [e2]; exact hLn',fun j hj=>n2 j hj⟩⟩,⟨fun i hi=>?_,fun i j hi hj hij z hz=>?_,fun i hi z hz=>?_⟩,fun i=>?_,fun i hi z hz=>?_,hm10'⟩
   ·rcases Classical.em (i=tOf r.key) with h | h
    ·subst h; rw [e1,e2,e3]; exact hT'
    ·rw [n1 i h,n2 i h,n3 i h]
     exact (hF9.tr i hi).mod hm10 (fun z hz hW=>hF.sep _ i h4 hi (Ne.symm h) z hW (.inl hz)) fun z hz hW=>hF.sep _ i h4 hi (Ne.symm h) z hW (.inr hz)
   ·rcases Classical.em (i=tOf r.key) with h | h
    ·have hj':j≠tOf r.key:=fun e=>hij (h.trans e.symm)
     rw [n1 j hj',n3 j hj']
     rw [h,e1] at hz
     intro hz'
     rcases hW' z hz with h' | h'
     ·exact hF.sep _ j h4 hj (Ne.symm hj') z h' hz'
     ·have:=hold j hj z hz'; omega
    ·rw [n1 i h] at hz
     intro hz'
     have hzl:=hold i hi z (.inl hz)
     rcases Classical.em (j=tOf r.key) with h2 | h2
     ·rw [h2,e1,e3] at hz'
      rcases hz' with h' | h'
      ·rcases hW' z h' with h' | h'
       ·exact hF.sep i _ hi h4 h z hz (.inl h')
       ·omega
      ·rcases hB' z h' with h' | h'
       ·exact hF.sep i _ hi h4 h z hz (.inr h')
       ·omega
     ·rw [n1 j h2,n3 j h2] at hz'
      exact hF.sep i j hi hj hij z hz hz'
   ·have hlw:=hF.lt
    rcases Classical.em (i=tOf r.key) with h | h
    ·rw [h,e1,e3] at hz
     rcases hz with h' | h'
     ·rcases hW' z h' with h' | h'
      ·exact hF.lo _ h4 z (.inl h')
      ·omega
     ·rcases hB' z h' with h' | h'
      ·exact hF.lo _ h4 z (.inr h')
      ·omega
    ·rw [n1 i h,n3 i h] at hz
     exact hF.lo i hi z hz
   ·rcases Classical.em (i=tOf r.key) with h | h
    ·rw [h,e1]; exact ep
    ·rw [n1 i h]
   ·rcases Classical.em (i=tOf r.key) with h | h
    ·rw [h,e1] at hz
     rw [h]
     exact (hW' z hz).imp (fun h=>h) fun h=>by omega
    ·rw [n1 i h] at hz; exact .inl hz
end
structure Part (w:World) (ts:Nat→Tr) (Ls:Nat→Lv) (Bs:Nat→Nat→Prop) (lo k:Nat):Prop where
 tr : ∀ i,i<k→gD w (ts i) (i:Int) (Ls i) (Bs i)
 sep : ∀ i j,i<k→j<k→i≠j→∀ z,(ts i).W z→¬ ((ts j).W z∨Bs j z)
 lo : ∀ i,i<k→∀ z,((ts i).W z∨Bs i z)→lo≤z
theorem Part.four {w:World} {ts:Nat→Tr} {Ls:Nat→Lv} {Bs:Nat→Nat→Prop} {lo:Nat} (h:Part w ts Ls Bs lo 4):lX w ts Ls Bs lo:=⟨h.tr,h.sep,h.lo⟩
theorem Part.mod {w w':World} {ts:Nat→Tr} {Ls:Nat→Lv} {Bs:Nat→Nat→Prop} {lo k:Nat} {S:Nat→Prop} (h:Part w ts Ls Bs lo k) (hm:Mod S w w') (hS : ∀ i,i<k→∀ z,((ts i).W z∨Bs i z)→¬ S z):Part w' ts Ls Bs lo k:=
 ⟨fun i hi=>(h.tr i hi).mod hm (fun z hz=>hS i hi z (.inl hz)) fun z hz=>hS i hi z (.inr hz),h.sep,h.lo⟩
def rW {α:Type} (f:Nat→α) (k:Nat) (a:α) (i:Nat):α:=if i=k then a else f i
theorem kG {α:Type} (f:Nat→α) (k:Nat) (a:α):rW f k a k=a:=if_pos rfl
theorem gG {α:Type} (f:Nat→α) {k i:Nat} (a:α) (h:i≠k):rW f k a i=f i:=if_neg h
theorem Part.add {w w':World} {ts:Nat→Tr} {Ls:Nat→Lv} {Bs:Nat→Nat→Prop} {lo k:Nat} {t:Tr} {B:Nat→Prop} (h:Part w ts Ls Bs lo k) (hm:Mod NoB w w') (hT:gD w' t (k:Int) (Ls k) B) (hW : ∀ z,t.W z∨B z→w.heap.size≤z) (hlo:lo≤w.heap.size) :
 Part w' (rW ts k t) Ls (rW Bs k B) lo (k+1):=by
 have hold : ∀ i,i<k→∀ z,((ts i).W z∨Bs i z)→z<w.heap.size:=fun i hi z hz=>hz.elim (fun a=>(h.tr i hi).wlt z a) fun a=>(h.tr i hi).lt z a
 refine ⟨fun i hi=>?_,fun i j hi hj hij z hz hz'=>?_,fun i hi z hz=>?_⟩
 ·rcases Classical.em (i=k) with e | e
  ·subst e; rw [kG,kG]; exact hT
  ·rw [gG _ _ e,gG _ _ e]; exact (h.tr i (by omega)).no hm
 ·rcases Classical.em (i=k) with e | e
  ·subst e
   rw [kG] at hz
   have hj':j≠i:=fun e=>hij e.symm
   rw [gG _ _ hj',gG _ _ hj'] at hz'
   have:=hold j (by omega) z hz'
   have:=hW z (.inl hz); omega
  ·rw [gG _ _ e] at hz
   have h1:=hold i (by omega) z (.inl hz)
   rcases Classical.em (j=k) with e' | e'
   ·subst e'
    rw [kG,kG] at hz'
    have:=hW z hz'; omega
   ·rw [gG _ _ e',gG _ _ e'] at hz'
    exact h.sep i j (by omega) (by omega) hij z hz hz'
 ·rcases Classical.em (i=k) with e | e
  ·subst e
   rw [kG,kG] at hz
   have:=hW z hz; omega
  ·rw [gG _ _ e,gG _ _ e] at hz
   exact h.lo i (by omega) z hz
def pre (ts:Nat→Tr) (k:Nat):List Value:=[if 0<k then pt (ts 0) else .pointer none,if 1<k then pt (ts 1) else .pointer none,if 2<k then pt (ts 2) else .pointer none,if 3<k then pt (ts 3) else .pointer none]
theorem qBV (ts:Nat→Tr) {k:Nat} (hk:k<4) (t:Tr):(pre ts k).set k (pt t)=pre (rW ts k t) (k+1):=by
 match k,hk with
 | 0,_=>rfl
 | 1,_=>rfl
 | 2,_=>rfl
 | 3,_=>rfl
theorem uN (ts:Nat→Tr) (k:Nat):(pre ts k).length=4:=rfl
section
variable {w:World}
theorem xS:Calls prog 8 #[] w (Ret fun v w'=>∃ p ts Bs,v = .pointer (some ⟨p,0,none⟩)∧Blk w' p (gM ts++[.bool true]) 51∧lX w' ts (fun _=>[]) Bs w.heap.size∧¬ W4 ts p∧(∀ i,i<4→¬ Bs i p)∧w.heap.size≤p∧Mod NoB w w'):=by
 refine jBK ?_
 unfold sh8
 refine aT (l:=[.pointer none,.pointer none,.pointer none,.pointer none,.bool true]) rfl fun p w1 hN hb=>⟨_,rfl,?_⟩
 have hat:=hN.at_
 have hpl:=hb.lt
 refine ⟨fun l' w'=>match l' with | [.i _ x]=>∃ (k:Nat) (ts:Nat→Tr) (Bs:Nat→Nat→Prop),x=(k:Int)∧k≤4∧Blk w' p (pre ts k++[.bool true]) 51∧Part w' ts (fun _=>[]) Bs w1.heap.size k∧w1.heap.size≤w'.heap.size∧Mod NoB w w' | _=>False,fun l' _=>match l' with | [.i _ x]=>(4 - x).toNat | _=>0,
  ⟨0,fun _=>⟨0,⟨none,0,0⟩,⟨none,0,0⟩,0⟩,fun _ _=>False,rfl,by omega,hb,⟨fun i hi=>by omega,fun i j hi=>by omega,fun i hi=>by omega⟩,Nat.le_refl _,hN.mod⟩,?_⟩
 rintro x w2 ⟨k,ts,Bs,rfl,hk,hb2,hP,hs2,hm2⟩
 refine aE (fun h=>?_) fun h=>?_
 ·have hk4:k<4:=by have:=of_decide_eq_true h; omega
  refine ⟨?_,trivial⟩
  refine aC (qFI (k:=(k:Int)) ⟨by omega,by omega⟩) ?_
  rintro v w3 ⟨q,mb,rfl,hq3,hM3,hq,hmb,hqm,hm3⟩
  refine ⟨_,rfl,⟨by omega,by show (k:Int)<((4:Nat):Int); omega⟩,?_,trivial⟩
  have hm2d:Mod NoB w2 w3:=(Mod.drew NoB w2).tr hm3
  have hq:w2.heap.size≤q:=hq
  have hmb:w2.heap.size≤mb:=hmb
  have hb3:=hb2.no hm2d
  let t:Tr:=⟨q,⟨none,0,0⟩,⟨none,0,0⟩,mb⟩
  have hT:gD w3 t (k:Int) [] (fun _=>False):=⟨hq3,hM3,⟨[],bW _ 2,rfl,fun i h=>absurd h (by simp)⟩,bW _ 1,by simp [t],by simp [t],hqm,by simp [t],by simp [t],fun z hz=>by simp [t] at hz,fun z hz=>hz.elim,fun z hz=>hz.elim⟩
  have hWt : ∀ z,t.W z∨False→w2.heap.size≤z:=fun z hz=>by
   rcases hz with (hz | hz | hz | hz) | hz
   ·have hz:z=q:=hz
    omega
   ·simp [t] at hz
   ·simp [t] at hz
   ·have hz:z=mb:=hz
    omega
   ·exact hz.elim
  have hP3:=hP.add (t:=t) (B:=fun _=>False) hm2d hT hWt hs2
  show aJ _ _ _ _
  rw [Int.toNat_natCast,Nat.mul_one]
  refine dF (p:=p) (i:=k) (by kernel_rfl) (by kernel_rfl) rfl hb3 (by simp [uN]; omega) fun w4 ht4 hb4=>?_
  rw [wrap_i64 (e:=(k:Int)+1) (by omega)]
  have eset:(pre ts k++[Value.bool true]).set k (.pointer (some ⟨q,0,none⟩))=pre (rW ts k t) (k+1)++[.bool true]:=by
   rw [List.set_append_left _ _ (by rw [uN]; omega)]
   rw [show (Value.pointer (some ⟨q,0,none⟩))=pt t from rfl,qBV ts hk4]
  rw [eset] at hb4
  refine ⟨⟨k+1,rW ts k t,rW Bs k (fun _=>False),by omega,by omega,hb4,hP3.mod ht4.mod (fun i hi z hz e=>?_),by have:=hm2d.size; have:=ht4.size; omega,(hm2.tr hm2d).fresh ht4.mod fun z e=>by have e:z=p:=e; omega⟩,by (try simp only []); omega⟩
  have e:z=p:=e
  have:=hP3.lo i hi z hz; omega
 ·have hk4:k=4:=by have:=of_decide_eq_false h; omega
  subst hk4
  have hF:=hP.four
  refine ⟨p,ts,Bs,rfl,hb2,⟨hF.tr,hF.sep,fun i hi z hz=>?_⟩,?_,fun i hi hz=>?_,by omega,hm2⟩
  ·have:=hF.lo i hi z hz; have:=hN.mod.size; omega
  ·rintro ⟨i,hi,hz⟩
   have:=hF.lo i hi p (.inl hz); omega
  ·have:=hF.lo i hi p (.inr hz); omega
theorem oA {p:Nat} {ts:Nat→Tr} {T:TypeId} (hb:Blk w p (gM ts++[.bool true]) T):Calls prog 24 #[.pointer (some ⟨p,0,none⟩)] w (Ret fun v w'=>v = .bool true∧w'=w):=by
 refine qXE _ ?_
 unfold jAZ
 refine jX (e:=51) (by kernel_rfl) ⟨_,rfl,aE (fun _=>?_) fun h=>by cases h⟩
 exact ⟨true,by rw [aK]; exact hb.rd1 rfl,rfl,rfl⟩
theorem qFG : ∃ i,prog.info? 49=some i∧i.zero=some (.agg #[.pointer none,.pointer none,.pointer none,.pointer none])∧i.size=4∧i.bytes=32:=bM (by kernel_rfl) (by kernel_rfl) (by kernel_rfl)
theorem qHD {ts:Nat→Tr} {Ls:Nat→Lv} {Bs:Nat→Nat→Prop} {lo n c:Nat} {T:TypeId} {l:List Value} (hF:lX w ts Ls Bs lo) (hO:cF Ls n) (hn:n≤100000) (hc:Blk w c (gM ts++l) T) :
 Calls prog 25 #[.pointer (some ⟨c,0,none⟩)] w (Ret fun v w'=>∃ ts' Bs',v = .agg (gM ts').toArray∧lX w' ts' Ls Bs' w.heap.size∧Mod NoB w w'):=by
 refine qYN _ ?_
 unfold jCN
 obtain ⟨it,ht1,ht2,ht3,ht4⟩:=qFG
 refine aO (l:=[.pointer none,.pointer none,.pointer none,.pointer none]) ht1 ht2 rfl fun x w1 hN1 hx1=>⟨_,rfl,?_⟩
 refine aO (l:=[.pointer none,.pointer none,.pointer none,.pointer none]) ht1 ht2 rfl fun d w2 hN2 hd2=>⟨_,rfl,?_⟩
 have e1:=hN1.at_; have e2:=hN2.at_
 have hs1:=hN1.mod.size; have hs2:=hN2.mod.size
 have hxl:=hx1.lt
 have hdl:=hd2.lt
 have hm02:=hN1.mod.tr hN2.mod
 refine ⟨fun l' w'=>match l' with | [.i _ y]=>∃ (k:Nat) (ts':Nat→Tr) (Bs':Nat→Nat→Prop),y=(k:Int)∧k≤4∧Blk w' d (pre ts' k) 49∧Part w' ts' Ls Bs' w2.heap.size k∧w2.heap.size≤w'.heap.size∧Mod (fun z=>z=d) w2 w' | _=>False,fun l' _=>match l' with | [.i _ y]=>(4 - y).toNat | _=>0,
  ⟨0,fun _=>⟨0,⟨none,0,0⟩,⟨none,0,0⟩,0⟩,fun _ _=>False,rfl,by omega,hd2,⟨fun i hi=>by omega,fun i j hi=>by omega,fun i hi=>by omega⟩,Nat.le_refl _,Mod.refl _ _⟩,?_⟩
 rintro y w3 ⟨k,ts',Bs',rfl,hk,hd3,hP,hs3,hm23⟩
 have hm03:Mod NoB w w3:=hm02.fresh hm23 fun z e=>by omega
 refine aE (fun h=>?_) fun h=>?_
 ·have hk4:k<4:=by have:=of_decide_eq_true h; omega
  have hin:0≤(k:Int)∧(k:Int)<((4:Nat):Int):=⟨by omega,by omega⟩
  rw [Int.toNat_natCast,Nat.mul_one]
  refine ⟨hin,some ⟨(ts k).p,0,none⟩,?_,?_⟩
  ·rw [aK]
   refine (hc.no hm03).rd1 ?_
   rw [Nat.zero_add,List.getElem?_append_left (by show k<4; omega)]
   exact tK ts hk4
  ·have hLn:=hO.n k
   refine aC (qAQ ((hF.no hm03).tr k hk4) ⟨by omega,by omega⟩ (hO.ok k) (by omega)) ?_
   rintro v w4 ⟨t,B,rfl,hT,hB,hW,hm4⟩
   refine ⟨_,rfl,hin,?_⟩
   have hP4:=hP.add (t:=t) (B:=B) hm4 hT (fun z hz=>hz.elim (hW z) (hB z)) hs3
   show aJ _ _ _ _
   refine dF (p:=d) (i:=k) (by kernel_rfl) (by kernel_rfl) rfl (hd3.no hm4) (by rw [uN]; omega) fun w5 ht5 hd5=>?_
   rw [wrap_i64 (e:=(k:Int)+1) (by omega)]
   rw [show (Value.pointer (some ⟨t.p,0,none⟩))=pt t from rfl,qBV ts' hk4] at hd5
   refine ⟨⟨k+1,rW ts' k t,rW Bs' k B,by omega,by omega,hd5,hP4.mod ht5.mod (fun i hi z hz e=>?_),by have:=hm4.size; have:=ht5.size; omega,(hm23.no' hm4).tr (ht5.mod.mono fun z _ h=>h)⟩,by (try simp only []); omega⟩
   have e:z=d:=e
   have:=hP4.lo i hi z hz; omega
 ·have hk4:k=4:=by have:=of_decide_eq_false h; omega
  subst hk4
  have hd3:Blk w3 d (gM ts') 49:=hd3
  have hF3:=hP.four
  have hx3:Blk w3 x [.pointer none,.pointer none,.pointer none,.pointer none] 49:=(hx1.no hN2.mod).mod hm23 (by omega)
  refine ⟨some ⟨(ts' 0).p,0,none⟩,some ⟨(ts' 1).p,0,none⟩,some ⟨(ts' 2).p,0,none⟩,some ⟨(ts' 3).p,0,none⟩,hd3.rd fun j v hj=>by rw [Nat.zero_add]; exact hj,?_⟩
  show aJ _ _ _ _
  refine bS (vs:=gM ts') (by kernel_rfl) (by kernel_rfl) rfl hx3 (by show 0+4≤4; omega) (by intro u hu; simp [gM,pt] at hu; rcases hu with rfl | rfl | rfl | rfl <;> rfl) fun w6 ht6 hx6=>?_
  have hx6:Blk w6 x (gM ts') 49:=hx6
  refine ⟨some ⟨(ts' 0).p,0,none⟩,some ⟨(ts' 1).p,0,none⟩,some ⟨(ts' 2).p,0,none⟩,some ⟨(ts' 3).p,0,none⟩,hx6.rd fun j v hj=>by rw [Nat.zero_add]; exact hj,?_⟩
  refine ⟨ts',Bs',rfl,⟨(hF3.mod ht6.mod fun i hi z hz e=>?_).tr,hF3.sep,fun i hi z hz=>?_⟩,hm03.fresh ht6.mod fun z e=>by have e:z=x:=e; omega⟩
  ·have e:z=x:=e
   have:=hF3.lo i hi z hz; omega
  ·have:=hF3.lo i hi z hz; omega
end
theorem eX:cF (fun _=>[]) 0:=⟨fun _=>List.Pairwise.nil,fun _ e he=>(by cases he),fun _ e he=>(by cases he),fun _=>Nat.le_refl _,fun _ e he=>(by cases he)⟩
theorem cF.le {Ls:Nat→Lv} {n m:Nat} (h:cF Ls n) (hm:n≤m):cF Ls m:=⟨h.so,h.ok,h.sh,fun i=>Nat.le_trans (h.n i) hm,h.m⟩
theorem vS {Ls Ls':Nat→Lv} {n:Nat} {r:Rc} {e:Int} (hO:cF Ls n) (hT:fI Ls r e Ls'):cF Ls' (n+1):=by
 rcases hT with ⟨_,_,rfl⟩ | ⟨hr,rs,hJ,⟨_,_,rfl⟩ | ⟨hnf,rfl,hP,hl,hel⟩⟩
 ·exact hO.le (by omega)
 ·exact hO.le (by omega)
 ·have hg:=(qAM hO r.key).1
  have hrs : ∀ r'∈rs,r'.right=true∧r'.key=r.key:=fun r' h'=>by
   rcases List.mem_append.1 (jN hJ r' h') with h | h
   ·exact hg r' h
   ·have:r'=r:=by simpa using h
    subst this; exact ⟨hr,rfl⟩
  have h16:rs.length≤16:=Nat.le_of_not_lt fun h=>hnf (.inl h)
  refine ⟨fun i=>?_,fun i=>?_,fun i=>?_,fun i=>?_,fun i=>?_⟩ <;> rcases Classical.em (i=tOf r.key) with h | h
  ·subst h; exact hP.pw
  ·rw [hel i h]; exact hO.so i
  ·subst h
   intro e he
   rcases (hP.mem e).1 he with ⟨hp,rfl⟩ | ⟨_,he⟩
   ·exact ⟨oZ hJ,hrs,List.length_pos_iff.2 hp,by show rs.length≤100000; omega⟩
   ·exact hO.ok _ e he
  ·rw [hel i h]; exact hO.ok i
  ·subst h
   intro e he
   rcases (hP.mem e).1 he with ⟨hp,rfl⟩ | ⟨_,he⟩
   ·rfl
   ·exact hO.sh _ e he
  ·rw [hel i h]; exact hO.sh i
  ·subst h; have:=hO.n (tOf r.key); omega
  ·rw [hel i h]; have:=hO.n i; omega
  ·subst h
   intro e he
   rcases (hP.mem e).1 he with ⟨hp,rfl⟩ | ⟨_,he⟩
   ·exact h16
   ·exact hO.m _ e he
  ·rw [hel i h]; exact hO.m i
inductive fJ (Ls:Nat→Lv):List Rc→(Nat→Lv)→Prop
 | nil:fJ Ls [] Ls
 | snoc {rs:List Rc} {L1 L2:Nat→Lv} {r:Rc} : fJ Ls rs L1→fI L1 r 0 L2→fJ Ls (rs++[r]) L2
structure ShAt (w:World) (p:Nat) (ts:Nat→Tr) (Ls:Nat→Lv) (Bs:Nat→Nat→Prop) (lo:Nat):Prop where
 blk:Blk w p (gM ts++[.bool true]) 51
 four:lX w ts Ls Bs lo
 lo:lo≤p
 w : ¬ W4 ts p
 b : ∀ i,i<4→¬ Bs i p
theorem ShAt.mod {w w':World} {p:Nat} {ts:Nat→Tr} {Ls:Nat→Lv} {Bs:Nat→Nat→Prop} {lo:Nat} {S:Nat→Prop} (h:ShAt w p ts Ls Bs lo) (hm:Mod S w w') (hp : ¬ S p) (hS : ∀ i,i<4→∀ z,((ts i).W z∨Bs i z)→¬ S z):ShAt w' p ts Ls Bs lo:=
 ⟨h.blk.mod hm hp,h.four.mod hm hS,h.lo,h.w,h.b⟩
theorem ShAt.no {w w':World} {p:Nat} {ts:Nat→Tr} {Ls:Nat→Lv} {Bs:Nat→Nat→Prop} {lo:Nat} (h:ShAt w p ts Ls Bs lo) (hm:Mod NoB w w'):ShAt w' p ts Ls Bs lo:=h.mod hm (fun h=>h) fun _ _ _ _ h=>h
section
variable {w:World}
theorem uA {p:Nat} {ts:Nat→Tr} {Ls:Nat→Lv} {Bs:Nat→Nat→Prop} {lo n:Nat} {s:Slc} {rs:List Rc} (hg:dM w) (hlo : ∀ z,isG z→z<lo) (hS:ShAt w p ts Ls Bs lo) (hO:cF Ls n) (hn:n+rs.length≤90000) (hR:bT w.heap.size w s rs) :
 Calls prog 9 #[.pointer (some ⟨p,0,none⟩),.slice s.a s.len s.cap] w (Ret fun v w'=>∃ e,v = .int .i64 e∧
  ((e=0∧∃ ts' Ls' Bs',fJ Ls rs Ls'∧ShAt w' p ts' Ls' Bs' lo∧(∀ i,i<4→∀ z,((ts' i).W z∨Bs' i z)→w.heap.size≤z)∧cF Ls' (n+rs.length)∧Mod (fun z=>z=p) w w')∨
   (e≠0∧∃ k,∃ h:k<rs.length,∃ L1 L2,fJ Ls (rs.take k) L1∧fI L1 rs[k] e L2∧Mod NoB w w'))):=by
 refine jDF _ _ ?_
 unfold sh9
 obtain ⟨it,ht1,ht2,ht3,ht4⟩:=qFG
 obtain ⟨ir,hr1,hr2,hr3,hr4⟩:=mV
 have hsl:=hR.len
 refine aC (oA hS.blk) ?_
 rintro v w1 ⟨rfl,rfl⟩
 refine ⟨_,rfl,aE (fun h=>by cases h) fun _=>?_⟩
 refine aC (qHD (c:=p) hS.four hO (by omega) hS.blk) ?_
 rintro v w2 ⟨tc,Bc,rfl,hF2,hm2⟩
 refine ⟨some ⟨(tc 0).p,0,none⟩,some ⟨(tc 1).p,0,none⟩,some ⟨(tc 2).p,0,none⟩,some ⟨(tc 3).p,0,none⟩,rfl,?_⟩
 refine aO (l:=[.pointer none,.pointer none,.pointer none,.pointer none]) ht1 ht2 rfl fun c w3 hN3 hc3=>⟨_,rfl,?_⟩
 have e3:=hN3.at_
 show aJ _ _ _ _
 refine bS (vs:=gM tc) (by kernel_rfl) (by kernel_rfl) rfl hc3 (by show 0+4≤4; omega) (by intro u hu; simp [gM,pt] at hu; rcases hu with rfl | rfl | rfl | rfl <;> rfl) fun w4 ht4 hc4=>?_
 have hc4:Blk w4 c (gM tc) 49:=hc4
 have hm24:Mod NoB w2 w4:=hN3.mod.fresh ht4.mod fun z e=>by have e:z=c:=e; omega
 have hF4:=hF2.no hm24
 have hm14:=hm2.tr hm24
 have hs2:=hm2.size
 have hcl:=hc4.lt
 have hpl:=hS.blk.lt
 refine ⟨fun l' w'=>match l' with | [.i _ y]=>∃ (k:Nat) (ts':Nat→Tr) (Ls':Nat→Lv) (Bs':Nat→Nat→Prop),y=(k:Int)∧k≤rs.length∧fJ Ls (rs.take k) Ls'∧cF Ls' (n+k)∧Blk w' c (gM ts') 49∧lX w' ts' Ls' Bs' w1.heap.size∧(∀ i,i<4→¬ (ts' i).W c)∧Mod NoB w1 w' | _=>False,fun l' _=>match l' with | [.i _ y]=>(rs.length - y).toNat | _=>0,
  ⟨0,tc,Ls,Bc,rfl,by omega,.nil,hO,hc4,hF4,fun i hi h=>by have:=(hF2.tr i hi).wlt c h; omega,hm14⟩,?_⟩
 rintro y w5 ⟨k,ts',Ls',Bs',rfl,hk,hPu,hOk,hc5,hF5,hcW,hm15⟩
 refine aE (fun h=>?_) fun h=>?_
 ·have hlt:k<rs.length:=by have:=of_decide_eq_true h; omega
  obtain ⟨hs,g1,g2,g3,g4⟩:=hR
  have hlh:k<hs.length:=by omega
  obtain ⟨A,ea,hrd⟩:=bX Hd.len (by omega) (g1.no hm15) hlh
  refine ⟨⟨by omega,by omega⟩,?_⟩
  rw [ea]
  let t:=hs[k]
  have Ht:cK w1 t rs[k]:=(g4 k hlh hlt).1
  refine ⟨t.a,t.b,t.c,t.d,t.e,t.f,t.g,hrd,?_⟩
  refine aO (l:=Hd.cells ⟨[],0,0,⟨none,0,0⟩,false,⟨none,0,0⟩,⟨none,0,0⟩⟩) hr1 hr2 rfl fun q w6 hN6 hq6=>⟨_,rfl,?_⟩
  refine dA (h:=t) (by kernel_rfl) (by kernel_rfl) hq6 rfl fun w7 ht7 hq7=>?_
  have e6:=hN6.at_
  have hm57:Mod NoB w5 w7:=hN6.mod.fresh ht7.mod fun z e=>by have e:z=q:=e; omega
  have hm17:=hm15.tr hm57
  refine ⟨t.a,t.b,t.c,t.d,t.e,t.f,t.g,rdH hq7,?_⟩
  have hsw:=hm17.size
  have hlo7 : ∀ z,isG z→z<w1.heap.size:=fun z hz=>hg.lt hz
  refine aC (qII (h:=t) (hg.no hm17) hlo7 (hF5.no hm57) hOk (by omega) (hc5.no hm57) (Ht.no hm17)) ?_
  rintro v w8 ⟨e,ts8,Ls8,Bs8,rfl,hTk,hF8,hp8,hW8,hm8⟩
  have hm18:Mod NoB w1 w8:=hm17.fresh hm8 fun z hz=>by
   obtain ⟨i,hi,hz⟩:=hz
   exact hF5.lo i hi z (.inl hz)
  refine ⟨e,rfl,aE (fun he=>?_) fun he=>?_⟩
  ·have he:e≠0:=by simpa using he
   exact ⟨e,rfl,.inr ⟨he,k,hlt,Ls',Ls8,hPu,hTk,hm18⟩⟩
  ·have he:e=0:=by simpa using he
   subst he
   rw [wrap_i64 (e:=(k:Int)+1) (by omega)]
   have hptr:gM ts8=gM ts':=by simp only [gM,pt,hp8]
   refine ⟨⟨k+1,ts8,Ls8,Bs8,by omega,by omega,by rw [aV hlt]; exact .snoc hPu hTk,vS hOk hTk,?_,hF8,fun i hi h=>?_,hm18⟩,by (try simp only []); omega⟩
   ·rw [hptr]
    exact (hc5.no hm57).mod hm8 fun ⟨i,hi,hz⟩=>hcW i hi hz
   ·rcases hW8 i hi c h with h | h
    ·exact hcW i hi h
    ·have:=hc5.lt; have:=hm57.size; omega
 ·have hkk:k=rs.length:=by have:=of_decide_eq_false h; omega
  subst hkk
  rw [List.take_length] at hPu
  refine ⟨some ⟨(ts' 0).p,0,none⟩,some ⟨(ts' 1).p,0,none⟩,some ⟨(ts' 2).p,0,none⟩,some ⟨(ts' 3).p,0,none⟩,hc5.rd fun j v hj=>by rw [Nat.zero_add]; exact hj,?_⟩
  show aJ _ _ _ _
  refine bS (b:=p) (o:=0+0) (vs:=gM ts') (by kernel_rfl) (by kernel_rfl) rfl (hS.blk.no hm15) (by show 0+0+4≤5; omega) (by intro u hu; simp [gM,pt] at hu; rcases hu with rfl | rfl | rfl | rfl <;> rfl) fun w9 ht9 hp9=>?_
  have hp9:Blk w9 p (gM ts'++[.bool true]) 51:=hp9
  have hpp : ∀ i,i<4→∀ z,((ts' i).W z∨Bs' i z)→¬ z=p:=fun i hi z hz e=>by
   have:=hF5.lo i hi z hz; omega
  have hlw:=hS.four.lt
  refine ⟨0,rfl,.inl ⟨rfl,ts',Ls',Bs',hPu,⟨hp9,?_,hS.lo,fun ⟨i,hi,hz⟩=>hpp i hi p (.inl hz) rfl,fun i hi hz=>hpp i hi p (.inr hz) rfl⟩,hF5.lo,hOk,hm15.no (ht9.mod.mono fun z _ h=>h)⟩⟩
  have hF9:=hF5.mod ht9.mod hpp
  exact ⟨hF9.tr,hF9.sep,fun i hi z hz=>Nat.le_trans hlw (hF5.lo i hi z hz)⟩
end
end Go.Proofs.YtahjmeegfkfokaaGreatDoor
end
section
namespace Go.Proofs
open Go.Shelf
def Tryz.sortLeaf_ren:Go.Shelf.Ren:=⟨fun | 6=>34 | 15=>54 | 14=>53 | 28=>96 | 29=>97 | 20=>88 | 21=>89 | 22=>90 | 23=>91 | 24=>92 | 25=>93 | 26=>94 | 27=>95 | 46=>140 | 47=>141 | 48=>142 | 49=>143 | 50=>144 | 57=>197 | n=>n,fun | 22=>42 | 24=>65 | 25=>68 | 3=>3 | 39=>95 | 0=>0 | 53=>149 | 55=>119 | 4=>4 | 46=>143 | 45=>142 | 50=>89 | 5=>5 | 9=>9 | 66=>199 | 70=>203 | 76=>265 | 77=>266 | n=>n,fun | n=>n⟩
theorem Tryz.sortLeaf:Go.Proofs.SlLaysF0.n6 Tryz.prog Tryz.sortLeaf_ren:={
 mixed:=by kernel_rfl
 f6:=⟨Tryz.f34.name,by decide,Tryz.func34.trans (congrArg some (by kernel_rfl))⟩
 f14:=⟨Tryz.f53.name,by decide,Tryz.func53.trans (congrArg some (by kernel_rfl))⟩
 f15:=Tryz.func54.trans (congrArg some (by kernel_rfl))
 f20:=⟨Tryz.f88.name,by decide,Tryz.func88.trans (congrArg some (by kernel_rfl))⟩
 f21:=⟨Tryz.f89.name,by decide,Tryz.func89.trans (congrArg some (by kernel_rfl))⟩
 f22:=⟨Tryz.f90.name,by decide,Tryz.func90.trans (congrArg some (by kernel_rfl))⟩
 f23:=⟨Tryz.f91.name,by decide,Tryz.func91.trans (congrArg some (by kernel_rfl))⟩
 f24:=⟨Tryz.f92.name,by decide,Tryz.func92.trans (congrArg some (by kernel_rfl))⟩
 f25:=⟨Tryz.f93.name,by decide,Tryz.func93.trans (congrArg some (by kernel_rfl))⟩
 f26:=⟨Tryz.f94.name,by decide,Tryz.func94.trans (congrArg some (by kernel_rfl))⟩
 f27:=⟨Tryz.f95.name,by decide,Tryz.func95.trans (congrArg some (by kernel_rfl))⟩
 f28:=Tryz.func96.trans (congrArg some (by kernel_rfl))
 f29:=Tryz.func97.trans (congrArg some (by kernel_rfl))
 f46:=⟨Tryz.f140.name,by decide,Tryz.func140.trans (congrArg some (by kernel_rfl))⟩
 f47:=Tryz.func141.trans (congrArg some (by kernel_rfl))
 f48:=Tryz.func142.trans (congrArg some (by kernel_rfl))
 f49:=⟨Tryz.f143.name,by decide,Tryz.func143.trans (congrArg some (by kernel_rfl))⟩
 f50:=⟨Tryz.f144.name,by decide,Tryz.func144.trans (congrArg some (by kernel_rfl))⟩
 f57:=⟨Tryz.f197.name,by decide,Tryz.func197.trans (congrArg some (by kernel_rfl))⟩
 t0:=Tryz.underlying0
 a0:=Tryz.isAgg0
 z0:=Tryz.sizeOf0
 v0:=Tryz.zeroValue0
 t3:=Tryz.underlying3
 a3:=Tryz.isAgg3
 z3:=Tryz.sizeOf3
 v3:=Tryz.zeroValue3
 t4:=Tryz.underlying4
 a4:=Tryz.isAgg4
 z4:=Tryz.sizeOf4
 v4:=Tryz.zeroValue4
 t5:=Tryz.underlying5
 a5:=Tryz.isAgg5
 z5:=Tryz.sizeOf5
 v5:=Tryz.zeroValue5
 t9:=Tryz.underlying9
 a9:=Tryz.isAgg9
 z9:=Tryz.sizeOf9
 v9:=Tryz.zeroValue9
 t22:=Tryz.underlying42
 a22:=Tryz.isAgg42
 z22:=Tryz.sizeOf42
 v22:=Tryz.zeroValue42
 t25:=Tryz.underlying68
 a25:=Tryz.isAgg68
 z25:=Tryz.sizeOf68
 v25:=Tryz.zeroValue68
 t39:=Tryz.underlying95
 a39:=Tryz.isAgg95
 z39:=Tryz.sizeOf95
 v39:=Tryz.zeroValue95
 t45:=Tryz.underlying142
 a45:=Tryz.isAgg142
 z45:=Tryz.sizeOf142
 v45:=Tryz.zeroValue142
 t46:=Tryz.underlying143
 a46:=Tryz.isAgg143
 z46:=Tryz.sizeOf143
 v46:=Tryz.zeroValue143
 t50:=Tryz.underlying89
 a50:=Tryz.isAgg89
 z50:=Tryz.sizeOf89
 v50:=Tryz.zeroValue89
 t53:=Tryz.underlying149
 a53:=Tryz.isAgg149
 z53:=Tryz.sizeOf149
 v53:=Tryz.zeroValue149
 t55:=Tryz.underlying119
 a55:=Tryz.isAgg119
 z55:=Tryz.sizeOf119
 v55:=Tryz.zeroValue119
 t66:=Tryz.underlying199
 a66:=Tryz.isAgg199
 z66:=Tryz.sizeOf199
 v66:=Tryz.zeroValue199
 t70:=Tryz.underlying203
 a70:=Tryz.isAgg203
 z70:=Tryz.sizeOf203
 v70:=Tryz.zeroValue203
 t76:=Tryz.underlying265
 a76:=Tryz.isAgg265
 z76:=Tryz.sizeOf265
 v76:=Tryz.zeroValue265
 t77:=Tryz.underlying266
 a77:=Tryz.isAgg266
 z77:=Tryz.sizeOf266
 v77:=Tryz.zeroValue266}
end Go.Proofs
end
section
namespace Go.Proofs.YtahjmeegfkfokaaGreatDoor
open Go Go.Sh Go.Sort
open Go.Proofs.Tryz
def cfL (p q:List UInt8×Slc):Int:=Lib.compareBytes p.1 q.1
theorem uW {p q:List UInt8×Slc} : ltOf cfL p q=true↔p.1<q.1:=by
 unfold ltOf cfL
 rw [decide_eq_true_iff]
 rcases dV p.1 q.1 with ⟨a,b⟩ | ⟨a,b⟩ | ⟨a,b⟩
 ·rw [a]; exact ⟨fun _=>b,fun _=>by decide⟩
 ·rw [a,b]; exact ⟨fun h=>absurd h (by decide),fun h=>absurd h (List.lt_irrefl _)⟩
 ·rw [a]; exact ⟨fun h=>absurd h (by decide),fun h=>absurd (List.lt_trans h b) (List.lt_irrefl _)⟩
theorem uU {p q:List UInt8×Slc} : ltOf cfL p q=false↔¬ p.1<q.1:=by rw [← uW]; simp
theorem swoL:SWO (ltOf cfL) where
 irrefl x:=uU.2 (List.lt_irrefl _)
 trans x y z h1 h2:=uW.2 (List.lt_trans (uW.1 h1) (uW.1 h2))
 ntrans x y z h1 h2:=by
  rw [uU] at *
  intro h
  rcases dV x.1 y.1 with ⟨_,b⟩ | ⟨_,b⟩ | ⟨_,b⟩
  ·exact h1 b
  ·rw [b] at h; exact h2 h
  ·exact h2 (List.lt_trans b h)
section
variable {w:World} {b:Nat}
theorem qDI {p q:List UInt8×Slc} : Calls prog 35 #[.agg (bE p).toArray,.agg (bE q).toArray] w (Ret fun v w'=>v = .int .i64 (cfL p q)∧lW w w'):=by
 refine qZT p.1 p.2 q.1 q.2 ?_
 unfold jBI
 refine fG (l:=bE p) rfl fun x w1 hm1 hx1 e1=>⟨_,rfl,?_⟩
 refine fG (l:=bE q) rfl fun y w2 hm2 hy2 e2=>⟨_,rfl,p.1,by rw [aK]; exact (hx1.no hm2.1).rd1 rfl,q.1,by rw [aK]; exact hy2.rd1 rfl,?_⟩
 refine aC vP ?_
 rintro v w3 ⟨rfl,rfl⟩
 exact ⟨_,rfl,rfl,hm1.tr hm2⟩
instance:Inhabited (List UInt8×Slc):=⟨([],⟨none,0,0⟩)⟩
theorem qCU {o n:Nat} {d:Array (List UInt8×Slc)} {os:Array Obj} : Mod (fun z=>z=b) w (sortWorldK bE 2 w b o n d os):=by
 unfold sortWorldK
 refine ⟨rfl,rfl,rfl,?_,fun x hx hn=>?_⟩
 ·rw [size_grow,size_putRowK]; exact Nat.le_add_right _ _
 ·unfold putRowK putRow mapBlock grow
  show (_++os)[x]? = _
  rw [Array.getElem?_append_left (by simpa [ahead] using hx),Array.getElem?_modify,if_neg (Ne.symm hn)]
  rfl
theorem qCS {v:Slc} {o:Nat} {l:List Value} {T:TypeId} {n:Nat} {d:Array (List UInt8×Slc)} {os:Array Obj} (ha:v.a=some ⟨b,o,none⟩) (hb:Blk w b l T) (hl:o+v.cap*2≤l.length) (hc:v.len≤v.cap) (hd:d.size=v.len):Sh.Own (sortWorldK bE 2 w b o n d os) v 2 (aR bE d.toList):=by
 have hf:(aR bE d.toList).length=v.len*2:=by rw [bQ aZ]; simp [hd]
 obtain ⟨fr,h1,h2⟩:=hb
 have hlt:=bC h1
 refine ⟨hf,hc,.inr ⟨b,o,(putCells id o (flatK bE 2 d) l.toArray).toList,T,ha,⟨fr,?_,?_⟩,?_,?_⟩⟩
 ·unfold sortWorldK putRowK putRow mapBlock grow
  show (_++os)[b]? = _
  rw [Array.getElem?_append_left (by simpa [ahead] using hlt),Array.getElem?_modify,if_pos rfl]
  show (w.heap[b]?).map _=_
  rw [h1]; rfl
 ·simpa [putCells] using h2
 ·simpa [putCells] using hl
 ·have h8:v.len*2≤v.cap*2:=Nat.mul_le_mul_right 2 hc
  apply List.ext_getElem?
  intro j
  rw [List.getElem?_take]
  by_cases hj:j<v.len*2
  ·rw [if_pos hj,List.getElem?_drop,Array.getElem?_toList]
   simp only [putCells,Array.getElem?_mapIdx,size_flatK,hd,List.getElem?_toArray]
   rw [List.getElem?_eq_getElem (by omega),Option.map_some,if_pos ⟨by omega,by omega⟩,jU aZ]
   rw [List.getElem?_eq_getElem (by omega)]
   simp only [Nat.add_sub_cancel_left,id]
   rw [getElem!_pos _ j (by simpa using (by omega:j<(aR bE d.toList).length))]
   simp
  ·rw [if_neg hj,List.getElem?_eq_none (by omega)]
theorem qMS {v:Slc} (ps:List (List UInt8×Slc)) (hv:Sh.Own w v 2 (aR bE ps)) (hp:0<ps.length) (hn:ps.length≤1000000) :
 Calls prog 34 #[.slice v.a v.len v.cap,.func (.func 35) #[] #[]] w (Ret fun u w'=>u = .tuple #[]∧∃ ps':List (List UInt8×Slc),ps'.Perm ps∧ps'.Pairwise (fun p q=>¬ q.1<p.1)∧Sh.Own w' v 2 (aR bE ps')∧Mod (fun z=>v.blk=some z) w w'):=by
 have hvl:ps.length=v.len:=bK aZ (by omega) hv.rd
 have hc:=hv.2.1
 rcases hv.owned with ⟨h0,h0',_⟩ | ⟨hcp,b,o,l,T,ha,e2,e3,e4⟩
 ·omega
 ·have h8:v.len*2≤v.cap*2:=Nat.mul_le_mul_right 2 hc
  have hblk:v.blk=some b:=Slc.blk_of ha (by omega)
  have hH:HoldsK bE 2 w b o ps.toArray:=by
   unfold HoldsK
   rw [jU aZ]
   intro j hj
   have hj:j<(aR bE ps).length:=by simpa using hj
   have hj8:j<v.len*2:=by rw [bQ aZ] at hj; rw [← hvl]; exact hj
   have hg:l[o+j]? = some (aR bE ps)[j]:=by
    have:=congrArg (fun m=>m[j]?) e4
    simp only [List.getElem?_take,List.getElem?_drop,if_pos hj8] at this
    rw [this,List.getElem?_eq_getElem hj]
   refine ⟨?_,?_⟩
   ·rw [e2.cell,hg,getElem!_pos _ j (by simpa using hj)]; simp
   ·obtain ⟨fr,h1,h2⟩:=e2
    simp only [World.frozen?,h1,Bool.and_eq_false_iff,decide_eq_false_iff_not]
    omega
  have eg : ∀ args w,(callFunc 35 args).run prog w = .ok (.enter 35 args) w:=enters_of func35 (by kernel_rfl) rfl
  have hcmp:CmpLays prog 35 #[] bE 2 cfL b o ps.toArray.size w:=fun m os dk hs x y=>by
   refine (qDI (p:=x) (q:=y)).mono fun e w' h=>?_
   match e,h with
   | .returned u,⟨h1,h2⟩=>exact ⟨by rw [h1],qAX h2⟩
  have hcon:=AnyQ.slices_SortFunc Tryz.sortLeaf 2 Tryz.isAgg65 Tryz.sizeOf65 bE (fun _=>rfl) eY cfL swoL 35 #[] b o v.cap ps.toArray w eg hcmp hH e2.lt (by simp; omega)
  have es2:ps.toArray.size=v.len:=by simp [hvl]
  rw [es2] at hcon
  rw [ha]
  refine hcon.mono ?_
  rintro e w' ⟨rfl,d',n,os,hpm,hso,rfl⟩
  obtain ⟨q1,q2,q3⟩:=hpm
  have hs:d'.size=v.len:=by rw [q1,es2]
  rw [← es2,← q1] at hso
  rw [← es2] at q3
  have x1:(d'.extract 0 ps.toArray.size).toList=d'.toList:=by rw [← q1]; simp
  rw [x1] at q3
  refine ⟨rfl,d'.toList,by simpa using q3,List.pairwise_iff_getElem.2 fun i j hi hj hij=>?_,qCS ha e2 e3 hc hs,qCU.mono fun z _ e=>by have e:z=b:=e; rw [e]; exact hblk⟩
  have hi:i<d'.size:=by simpa using hi
  have hj:j<d'.size:=by simpa using hj
  have:=hso i j (Nat.zero_le _) hij hj
  rw [uU,getElem!_pos d' i hi,getElem!_pos d' j hj] at this
  simp only [Array.getElem_toList]
  exact this
end
end Go.Proofs.YtahjmeegfkfokaaGreatDoor
end
