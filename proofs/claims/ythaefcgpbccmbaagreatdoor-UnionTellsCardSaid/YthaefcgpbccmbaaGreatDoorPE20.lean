/- The forms of the translated functions,their contracts and the plain laws behind them,put together by a program. -/
import Derived.Test.YthaefcgpbccmbaaGreatDoorPE19
import Derived.Laws.StructEq
import Derived.Test.YthaefcgpbccmbaaGreatDoorProg
import Derived.KernelRfl
set_option linter.unusedSimpArgs false
set_option linter.unusedVariables false
set_option maxRecDepth 100000
set_option maxHeartbeats 4000000
section
namespace Go.Proofs.YthaefcgpbccmbaaGreatDoor
open Go Go.Sh Go.MapKept
open Go.Proofs.Tryz
theorem qTF:prog.underlying 52=some (.struct (prog.fieldsOf 52)):=by kernel_rfl
theorem jBC {ox oy:Operand} {x y:Int×Int} {K:Value->Prop} (hk:K (.bool (!decide (x=y)))) :
 bB prog (do eqGuard .neq 52 ox oy (.agg #[.int .i64 x.1,.int .i64 x.2]) (.agg #[.int .i64 y.1,.int .i64 y.2]); binOp .neq 52 (.agg #[.int .i64 x.1,.int .i64 x.2]) (.agg #[.int .i64 y.1,.int .i64 y.2])) K:=by
 refine qCM (λw=>?_) hk
 have hg:prog.eqGuardType prog.depth 52=false:=by kernel_rfl
 have u3:=Tryz.underlying3
 have a3:=Tryz.isAgg3
 have z3:=Tryz.sizeOf3
 have h9:(Op.equal 52 (.agg #[.int .i64 x.1,.int .i64 x.2]) (.agg #[.int .i64 y.1,.int .i64 y.2])).run prog w = .ok (decide (x=y)) w:=by
  show (Op.equalIn 10000 52 _ _).run _ _=_
  rw [show (10000:Nat)=9999+1 from rfl,run_equalIn_agg w 9999 52 _ _ qTF (by kernel_rfl)]
  simp only [Program.fieldsOf,Tryz.underlying52]
  go_simp
  by_cases h1:x.1=y.1 <;> by_cases h2:x.2=y.2 <;> simp [h1,h2,Prod.ext_iff]
 simp only [Sem.run_bind,run_eqGuard_agg w .neq 52 ox oy _ _ hg,Result.andThen_ok]
 show (do pure (Value.bool (!(<-Op.equal 52 _ _))):Sem Value).run prog w=_
 simp only [Sem.run_bind,h9,Result.andThen_ok]
 rfl
theorem qRL {w:World} {a b:Slc} {l m:List (Int×Int)} (ha:aK w a 2 (dts l)) (hb:aK w b 2 (dts m)) (hn:l.length<=9000000000000000000) :
 Calls prog 42 #[.slice a.a a.len a.cap,.slice b.a b.len b.cap] w (Ret λv w'=>v = .bool (decide (l=m))/\Mod NoB w w'):=by
 refine jAR _ _ ?_
 unfold jGN
 have hla:l.length=a.len:=by have:=ha.1; simp at this; omega
 have hlb:m.length=b.len:=by have:=hb.1; simp at this; omega
 refine aC (λh=>⟨?_,Mod.refl _ _⟩) (λh=>?_)
 ·have:l≠m:=by rintro rfl; simp at h; omega
  simp [this]
 ·have hlen:l.length=m.length:=by simp at h; omega
  refine ⟨λl' w'=>match l' with | [.i _ x]=>∃ k:Nat,x=k/\k<=l.length/\l.take k=m.take k/\Mod NoB w w' | _=>False,λl' _=>match l' with | [.i _ x]=>(l.length - x).toNat | _=>0,⟨0,rfl,by omega,rfl,Mod.refl _ _⟩,?_⟩
  rintro x w1 ⟨k,rfl,hk,hkk,h9⟩
  refine aC (λh=>?_) (λh=>?_)
  ·have k3:k<l.length:=by simp at h; omega
   obtain ⟨a1,ea,hra⟩:=fP ha k3
   obtain ⟨a2,eb,k4⟩:=fP hb (i:=k) (by omega)
   rw [ea,eb]
   refine ⟨⟨by omega,by omega⟩,⟨by omega,by omega⟩,l[k].1,l[k].2,Rd.drew (hra.mod h9 λh=>h),(m[k]'(by omega)).1,(m[k]'(by omega)).2,Rd.drew (k4.mod h9 λh=>h),jBC ⟨_,rfl,aC (λhne=>⟨?_,h9.tr (Mod.drew _ _)⟩) (λhne=>⟨⟨k+1,wrap_i64 (e:=(k:Int)+1) (by omega),by omega,?_,h9.tr (Mod.drew _ _)⟩,?_⟩)⟩⟩
   ·have:l≠m:=by rintro rfl; simp at hne
    simp [this]
   ·have:l[k]=m[k]'(by omega):=by simpa using hne
    rw [aL k3,aL (by omega),hkk,this]
   ·rw [wrap_i64 (e:=(k:Int)+1) (by omega)]; (try simp only []); omega
  ·have k3:k=l.length:=by simp at h; omega
   rw [k3,List.take_length,hlen,List.take_length] at hkk
   exact ⟨by simp [hkk],h9⟩
theorem jDA {r s:Rc} (h1:r.key=s.key) (h2:r.cl=s.cl) (h3:r.sq=s.sq) (h4:r.ctx=s.ctx) (h5:r.gone=s.gone) (h6:r.val=s.val) (h7:r.sig=s.sig):r=s:=by
 obtain ⟨a,b,c,d,e,f,g⟩:=r
 obtain ⟨a',b',c',d',e',f',g'⟩:=s
 simp only at h1 h2 h3 h4 h5 h6 h7
 subst h1 h2 h3 h4 h5 h6 h7
 rfl
theorem mF {w:World} {a b:Hd} {r s:Rc} (ha:bH w a r) (hb:bH w b s) :
 Calls prog 22 #[a.val,b.val] w (Ret λv w'=>v = .bool (decide (r=s))/\Mod NoB w w'):=by
 refine qZG a.a a.b a.c a.d a.e a.f a.g b.a b.b b.c b.d b.e b.f b.g ?_
 unfold jGD
 refine aQ (l:=a.cells) rfl λp w1 hN1 hb1=>⟨_,rfl,?_⟩
 refine aQ (l:=b.cells) rfl λq w2 p8 hb2=>⟨_,rfl,?_⟩
 have k5:Mod NoB w w2:=hN1.mod.tr p8.mod
 have p2:=hb1.no p8.mod
 obtain ⟨q8,q9,t6,t7⟩:=ha.sm
 refine ⟨a.a,bT p2 rfl,b.a,bT hb2 rfl,aC (λh1=>?_) λh1=>⟨?_,k5⟩⟩
 rotate_left
 ·have:r≠s:=λe=>by subst e; rw [ha.key,hb.key] at h1; simp at h1
  simp [this]
 refine ⟨a.b,bT p2 rfl,b.b,bT hb2 rfl,aC (λh2=>?_) λh2=>⟨?_,k5⟩⟩
 rotate_left
 ·have:r≠s:=λe=>by subst e; rw [ha.cl,hb.cl] at h2; simp at h2
  simp [this]
 refine ⟨a.c,bT p2 rfl,b.c,bT hb2 rfl,aC (λh3=>?_) λh3=>⟨?_,k5⟩⟩
 rotate_left
 ·have:r≠s:=λe=>by subst e; rw [ha.sq,hb.sq] at h3; simp at h3
  simp [this]
 refine ⟨a.d,bT p2 rfl,b.d,bT hb2 rfl,?_⟩
 refine aB (qRL (ha.no k5).ctx (hb.no k5).ctx (by omega)) ?_
 rintro v w3 ⟨rfl,k4⟩
 have h9:=k5.tr k4
 refine ⟨_,rfl,aC (λh4=>?_) λh4=>⟨?_,h9⟩⟩
 rotate_left
 ·have:r≠s:=λe=>by subst e; simp at h4
  simp [this]
 refine ⟨a.e,bT (p2.no k4) rfl,b.e,bT (hb2.no k4) rfl,xZ (by kernel_rfl) ⟨_,rfl,aC (λh5=>?_) λh5=>⟨?_,h9⟩⟩⟩
 rotate_left
 ·have:r≠s:=λe=>by subst e; rw [ha.gone,hb.gone] at h5; simp at h5
  simp [this]
 refine ⟨a.f,bT (p2.no k4) rfl,b.f,bT (hb2.no k4) rfl,?_⟩
 refine aB (qKV (ha.no h9).val (hb.no h9).val (by omega)) ?_
 rintro v w4 ⟨rfl,k6⟩
 have k3:=h9.tr k6
 refine ⟨_,rfl,aC (λh6=>?_) λh6=>⟨?_,k3⟩⟩
 rotate_left
 ·have:r≠s:=λe=>by subst e; simp at h6
  simp [this]
 refine ⟨a.g,bT ((p2.no k4).no k6) rfl,b.g,bT ((hb2.no k4).no k6) rfl,?_⟩
 refine aB (qKV (ha.no k3).sig (hb.no k3).sig (by omega)) ?_
 rintro v w5 ⟨rfl,p9⟩
 refine ⟨_,rfl,congrArg Value.bool (decide_eq_decide.2 ?_),k3.tr p9⟩
 rw [ha.key,hb.key] at h1
 rw [ha.cl,hb.cl] at h2
 rw [ha.sq,hb.sq] at h3
 rw [ha.gone,hb.gone] at h5
 exact ⟨λh7=>jDA (by simpa using h1) (by simpa using h2) (by simpa using h3) (by simpa using h4) (by simpa using h5) (by simpa using h6) h7,λe=>by rw [e]⟩
def fO (w:World) (s:Slc) (rs:List Rc):Prop:=∃ hs:List Hd,aK w s 7 (hcells hs)/\hs.length=rs.length/\∀ i (h:i<hs.length) (h':i<rs.length),bH w hs[i] rs[i]
theorem fO.no {w w':World} {s:Slc} {rs:List Rc} (h:fO w s rs) (hm:Mod NoB w w'):fO w' s rs:=by
 obtain ⟨hs,h1,h2,h3⟩:=h
 exact ⟨hs,h1.no hm,h2,λi a b=>(h3 i a b).no hm⟩
theorem fO.len {w:World} {s:Slc} {rs:List Rc} (h:fO w s rs):rs.length=s.len:=by
 obtain ⟨hs,h1,h2,h3⟩:=h
 have:=bA Hd.len (by omega) h1; omega
theorem vF.r {Q:Nat->Prop} {w:World} {s:Slc} {rs:List Rc} (h:vF Q w s rs):fO w s rs:=by
 obtain ⟨hs,h1,h2,h3,h4⟩:=h
 exact ⟨hs,h1.rd,h3,λi a b=>(h4 i a b).1⟩
theorem qEO.r {B0:Nat} {w:World} {s:Slc} {rs:List Rc} (h:qEO B0 w s rs):fO w s rs:=h.q.r
def iU (w:World) (o:Slc) (L:Lv):Prop:=
 ∃ es:List (zY×Slc),aK w o 2 (aR dG es)/\es.length=L.length/\∀ i (h:i<es.length) (h':i<L.length),es[i].1=L[i].1/\fO w es[i].2 L[i].2
theorem iU.no {w w':World} {o:Slc} {L:Lv} (h:iU w o L) (hm:Mod NoB w w'):iU w' o L:=by
 obtain ⟨es,h1,h2,h3⟩:=h
 exact ⟨es,h1.no hm,h2,λi a b=>⟨(h3 i a b).1,(h3 i a b).2.no hm⟩⟩
theorem eY.r {Q:Nat->Prop} {w:World} {o:Slc} {L:Lv} (h:eY Q w o L):iU w o L:=by
 obtain ⟨es,h1,h2,h3,h4⟩:=h
 exact ⟨es,h1.rd,h3,λi a b=>⟨(h4 i a b).1,(h4 i a b).2.r⟩⟩
section
variable {w:World}
theorem iN {a b:Slc} {l m:List Rc} (ha:fO w a l) (hb:fO w b m) (hn:l.length<=1000000000) :
 Calls prog 14 #[.slice a.a a.len a.cap,.slice b.a b.len b.cap] w (Ret λv w'=>v = .bool (decide (l=m))/\Mod NoB w w'):=by
 refine jCP _ _ ?_
 unfold jGM
 have hla:=ha.len; have hlb:=hb.len
 refine aC (λh=>⟨?_,Mod.refl _ _⟩) (λh=>?_)
 ·have:l≠m:=by rintro rfl; simp at h; omega
  simp [this]
 ·have hlen:l.length=m.length:=by simp at h; omega
  refine ⟨λl' w'=>match l' with | [.i _ x]=>∃ k:Nat,x=k/\k<=l.length/\l.take k=m.take k/\Mod NoB w w' | _=>False,λl' _=>match l' with | [.i _ x]=>(l.length - x).toNat | _=>0,⟨0,rfl,by omega,rfl,Mod.refl _ _⟩,?_⟩
  rintro x w1 ⟨k,rfl,hk,hkk,k3⟩
  refine aC (λh=>?_) (λh=>?_)
  ·have h9:k<l.length:=by have:=of_decide_eq_true h; omega
   have hm1d:=k3.tr (Mod.drew NoB w1)
   obtain ⟨hs,g1,g2,g3⟩:=ha.no hm1d
   obtain ⟨ht,f1,f2,f3⟩:=hb.no hm1d
   obtain ⟨A,ea,hra⟩:=aZ Hd.len (by omega) g1 (i:=k) (by omega)
   obtain ⟨A',eb,k5⟩:=aZ Hd.len (by omega) f1 (i:=k) (by omega)
   rw [ea,eb]
   let p:=hs[k]'(by omega)
   let q:=ht[k]'(by omega)
   refine ⟨Mod NoB w1.drew,Mod.refl _ _,⟨by omega,by omega⟩,⟨by omega,by omega⟩,p.a,p.b,p.c,p.d,p.e,p.f,p.g,λw' hm=>hra.mod hm λh=>h,q.a,q.b,q.c,q.d,q.e,q.f,q.g,λw' hm=>k5.mod hm λh=>h,?_,trivial⟩
   refine aB (mF (g3 k (by omega) h9) (f3 k (by omega) (by omega))) ?_
   rintro v w2 ⟨rfl,k4⟩
   refine ⟨_,rfl,aC (λhne=>⟨?_,hm1d.tr k4⟩) (λhne=>⟨⟨k+1,wrap_i64 (e:=(k:Int)+1) (by omega),by omega,?_,hm1d.tr k4⟩,?_⟩)⟩
   ·have:l≠m:=by rintro rfl; simp at hne
    simp [this]
   ·have:l[k]=m[k]'(by omega):=by simpa using hne
    rw [aL h9,aL (by omega),hkk,this]
   ·rw [wrap_i64 (e:=(k:Int)+1) (by omega)]; (try simp only []); omega
  ·have h9:k=l.length:=by have:=of_decide_eq_false h; omega
   rw [h9,List.take_length,hlen,List.take_length] at hkk
   exact ⟨by simp [hkk],k3⟩
theorem sQ {a b:zY×Slc} {l m:List Rc} (ha:fO w a.2 l) (hb:fO w b.2 m) (hn:l.length<=1000000000) :
 Calls prog 32 #[.agg (dG a).toArray,.agg (dG b).toArray] w (Ret λv w'=>v = .bool (decide ((a.1,l)=(b.1,m)))/\Mod NoB w w'):=by
 refine qZU a.1 a.2 b.1 b.2 ?_
 unfold jGC
 refine aQ (l:=dG a) rfl λp w1 hN1 hb1=>⟨_,rfl,?_⟩
 refine aQ (l:=dG b) rfl λq w2 k3 hb2=>⟨_,rfl,?_⟩
 have h9:Mod NoB w w2:=hN1.mod.tr k3.mod
 have p2:=hb1.no k3.mod
 refine ⟨a.1,by rw [aO]; exact p2.rd1 rfl,b.1,by rw [aO]; exact hb2.rd1 rfl,aC (λh1=>?_) λh1=>⟨?_,h9⟩⟩
 ·refine ⟨a.2,by rw [aO]; exact p2.rd1 rfl,b.2,by rw [aO]; exact hb2.rd1 rfl,?_⟩
  refine aB (iN (ha.no h9) (hb.no h9) hn) ?_
  rintro v w3 ⟨rfl,k4⟩
  have h1:a.1=b.1:=by simpa using h1
  exact ⟨_,rfl,congrArg Value.bool (decide_eq_decide.2 (by rw [Prod.mk.injEq]; simp [h1])),h9.tr k4⟩
 ·have h1:a.1≠b.1:=by simpa using h1
  simp [Prod.mk.injEq,h1]
theorem vP {a b:Slc} {l m:Lv} (ha:iU w a l) (hb:iU w b m) (hn:l.length<=1000000000) (hn2 : ∀ e∈l,e.2.length<=1000000000) :
 Calls prog 12 #[.slice a.a a.len a.cap,.slice b.a b.len b.cap] w (Ret λv w'=>v = .bool (decide (l=m))/\Mod NoB w w'):=by
 refine qYW _ _ ?_
 unfold jFJ
 have hla:l.length=a.len:=by obtain ⟨es,g1,g2,_⟩:=ha; have:=bA cL (by omega) g1; omega
 have hlb:m.length=b.len:=by obtain ⟨es,g1,g2,_⟩:=hb; have:=bA cL (by omega) g1; omega
 refine aC (λh=>⟨?_,Mod.refl _ _⟩) (λh=>?_)
 ·have:l≠m:=by rintro rfl; simp at h; omega
  simp [this]
 ·have hlen:l.length=m.length:=by simp at h; omega
  refine ⟨λl' w'=>match l' with | [.i _ x]=>∃ k:Nat,x=k/\k<=l.length/\l.take k=m.take k/\Mod NoB w w' | _=>False,λl' _=>match l' with | [.i _ x]=>(l.length - x).toNat | _=>0,⟨0,rfl,by omega,rfl,Mod.refl _ _⟩,?_⟩
  rintro x w1 ⟨k,rfl,hk,hkk,k3⟩
  refine aC (λh=>?_) (λh=>?_)
  ·have h9:k<l.length:=by have:=of_decide_eq_true h; omega
   have hm1d:=k3.tr (Mod.drew NoB w1)
   obtain ⟨hs,g1,g2,g3⟩:=ha.no hm1d
   obtain ⟨ht,f1,f2,f3⟩:=hb.no hm1d
   obtain ⟨A,ea,hra⟩:=aZ cL (by omega) g1 (i:=k) (by omega)
   obtain ⟨A',eb,k5⟩:=aZ cL (by omega) f1 (i:=k) (by omega)
   rw [ea,eb]
   let p:=hs[k]'(by omega)
   let q:=ht[k]'(by omega)
   obtain ⟨c1,c2⟩:=g3 k (by omega) h9
   obtain ⟨d1,d2⟩:=f3 k (by omega) (by omega)
   refine ⟨Mod NoB w1.drew,Mod.refl _ _,⟨by omega,by omega⟩,⟨by omega,by omega⟩,p.1,p.2,λw' hm=>hra.mod hm λh=>h,q.1,q.2,λw' hm=>k5.mod hm λh=>h,?_,trivial⟩
   refine aB (sQ (a:=p) (b:=q) c2 d2 (hn2 _ (List.getElem_mem _))) ?_
   rintro v w2 ⟨rfl,k4⟩
   have ek:decide ((p.1,l[k].2)=(q.1,(m[k]'(by omega)).2))=decide (l[k]=m[k]'(by omega)):=by
    have e1:p.1=l[k].1:=c1
    have e2:q.1=(m[k]'(by omega)).1:=d1
    rw [e1,e2]
   rw [ek]
   refine ⟨_,rfl,aC (λhne=>⟨?_,hm1d.tr k4⟩) (λhne=>⟨⟨k+1,wrap_i64 (e:=(k:Int)+1) (by omega),by omega,?_,hm1d.tr k4⟩,?_⟩)⟩
   ·have:l≠m:=by rintro rfl; simp at hne
    simp [this]
   ·have:l[k]=m[k]'(by omega):=by simpa using hne
    rw [aL h9,aL (by omega),hkk,this]
   ·rw [wrap_i64 (e:=(k:Int)+1) (by omega)]; (try simp only []); omega
  ·have h9:k=l.length:=by have:=of_decide_eq_false h; omega
   rw [h9,List.take_length,hlen,List.take_length] at hkk
   exact ⟨by simp [hkk],k3⟩
end
end Go.Proofs.YthaefcgpbccmbaaGreatDoor
end
section
namespace Go.Proofs.YthaefcgpbccmbaaGreatDoor
open Go Go.Sh
open Go.Proofs.Tryz
def qWW (da db:Int) (w:World) (R:RW):Prop:=
 aH prog (Instr.box 52 (.agg #[.int .i64 da,.int .i64 db])) w λv w1=>∃ d:zO,v=(.pointer d)/\aA d λa=>∃ x:Int,Rd w1 (a.add 0) [.int .i64 x]/\aE (decide (x>=1)) (aA d λa1=>∃ x1:Int,Rd w1 (a1.add 0) [.int .i64 x1]/\aE (decide (x1<=8)) (aA d λa2=>∃ x2:Int,Rd w1 (a2.add 1) [.int .i64 x2]/\aE (decide (x2>=1)) (aA d λa3=>∃ x3:Int,Rd w1 (a3.add 1) [.int .i64 x3]/\R (.returned (.bool (decide (x3<=1073741824)))) w1) (zF R false w1)) (zF R false w1)) (zF R false w1)
theorem qPK (da db:Int) {w:World} {R:RW} (h9:qWW da db w R):Calls prog 124 #[.agg #[.int .i64 da,.int .i64 db]] w R:=
 zC (q0 .z (q0 .z .z)) func124 [.agg [.i .i64 da,.i .i64 db]] h9
def qUK (v:Slc) (w:World) (R:RW):Prop:=
 ∃ (inv:zT) (mu:zU),inv [.i .i64 0] w/\(∀ i:Int,∀ w1:World,inv [.i .i64 i] w1->aE (decide (i<v.len)) (∃ sx:zP,sx w1.drew/\(zB i v.len/\aA v.a λa=>∃ xa xb:Int,(∀ w',sx w'->Rd w' (a.add (i.toNat*2)) [.int .i64 xa,.int .i64 xb])/\((aD prog 124 [.agg #[.int .i64 xa,.int .i64 xb]] w1.drew (aG R) λv1 w2=>∃ x:Bool,v1=(.bool x)/\(sx w2/\aE (!x) (zF R false w2) (aE (decide (i > 0)) (((0<=(zW (i - 1))/\(zW (i - 1))<(v.len:Nat))/\aA v.a λa1=>(zB i v.len/\aA v.a λa2=>∃ x1:Int,(∀ w',sx w'->Rd w' ((a1.add (((zW (i - 1))).toNat*2)).add 0) [.int .i64 x1])/\∃ x2:Int,(∀ w',sx w'->Rd w' ((a2.add (i.toNat*2)).add 0) [.int .i64 x2])/\aE (decide (x1>=x2)) (zF R false w2) ((inv [.i .i64 (zW (i+1))] w2/\mu [.i .i64 (zW (i+1))] w2<mu [.i .i64 i] w1))))) ((inv [.i .i64 (zW (i+1))] w2/\mu [.i .i64 (zW (i+1))] w2<mu [.i .i64 i] w1)))))/\True))) (zF R true w1))
theorem qRW (v:Slc) {w:World} {R:RW} (h9:qUK v w R):Calls prog 125 #[zS v] w R:=
 zC (q0 .z (q0 (q0 .z (.block none (.loop [(3,(.i .i64))] (q0 (q0 .z (.cond .z .z)) (q0 (.block none (q0 (.draw 1 (.take 0 (.take 1 (.take 2 (.take 3 (.all [(4,(.take 5 (.take 6 (.take 7 (.take 8 (.take 9 (.take 10 (.take 11 (.take 12 (.take 13 (.take 14 (.take 16 (.take 17 (.take 18 (.take 19 (.take 15 (.take 20 (.take 21 (.take 22 (.take 23 .done))))))))))))))))))))])))))) (.cond (q0 .z .z) .z))) .z))))) (q0 .z .z))) func125 [.sl v] h9
def qVY (v:Slc) (client:Int) (w:World) (R:RW):Prop:=
 ∃ (inv:zT) (mu:zU),inv [.i .i64 0] w/\(∀ i:Int,∀ w1:World,inv [.i .i64 i] w1->aE (decide (i<v.len)) ((zB i v.len/\aA v.a λa=>∃ x:Int,Rd w1 ((a.add (i.toNat*2)).add 0) [.int .i64 x]/\aE (x==client) ((zB i v.len/\aA v.a λa1=>∃ x1:Int,Rd w1 ((a1.add (i.toNat*2)).add 1) [.int .i64 x1]/\R (.returned (.int .i64 x1)) w1)) ((inv [.i .i64 (zW (i+1))] w1/\mu [.i .i64 (zW (i+1))] w1<mu [.i .i64 i] w1)))) (R (.returned (.int .i64 0)) w1))
theorem qKX (v:Slc) (client:Int) {w:World} {R:RW} (h9:qVY v client w R):Calls prog 211 #[zS v,.int .i64 client] w R:=
 zC (q0 .z (q0 (q0 .z (.block none (.loop [(5,(.i .i64))] (q0 (q0 .z (.cond .z .z)) (q0 (.block none (q0 .z (.cond (q0 .z .z) .z))) .z))))) (q0 .z .z))) func211 [.sl v,.i .i64 client] h9
def qUX (v:Slc) (da db:Int) (w:World) (R:RW):Prop:=
 aH prog (Instr.box 52 (.agg #[.int .i64 da,.int .i64 db])) w λv1 w1=>∃ d:zO,v1=(.pointer d)/\∃ sx:zP,sx w1.drew/\((aD prog 125 [zS v] w1.drew (aG R) λv2 w2=>∃ x:Bool,v2=(.bool x)/\(sx w2/\aE x (aA d λa=>∃ xa xb:Int,(∀ w',sx w'->Rd w' a [.int .i64 xa,.int .i64 xb])/\((aD prog 124 [.agg #[.int .i64 xa,.int .i64 xb]] w2 (aG R) λv3 w3=>∃ x1:Bool,v3=(.bool x1)/\(sx w3/\aE x1 (aA d λa1=>aA d λa2=>∃ x2:Int,(∀ w',sx w'->Rd w' (a1.add 0) [.int .i64 x2])/\∃ x3:Int,(∀ w',sx w'->Rd w' (a2.add 1) [.int .i64 x3])/\((aD prog 211 [zS v,.int .i64 x2] w3 (aG R) λv4 w4=>∃ x4:Int,v4=(.int .i64 x4)/\(sx w4/\R (.returned (.bool (decide (x4>=x3)))) w4))/\True)) ((((sx w3/\zF R false w3))/\True))))/\True)) ((((sx w2/\(((sx w2/\zF R false w2))/\True)))/\True))))/\True)
theorem qNT (v:Slc) (da db:Int) {w:World} {R:RW} (h9:qUX v da db w R):Calls prog 126 #[zS v,.agg #[.int .i64 da,.int .i64 db]] w R:=
 zC (q0 .z (q0 (.draw 1 (.take 0 (.all [(1,(.take 2 (.take 3 (.all [(4,(.take 5 (.take 6 (.take 7 (.take 8 (.take 11 (.take 9 (.take 12 (.all [(10,(.take 13 (.take 14 (.take 15 .done))))])))))))))]))))]))) .z)) func126 [.sl v,.agg [.i .i64 da,.i .i64 db]] h9
def jHO (ra:zY) (rb rc:Int) (rd:Slc) (re:Bool) (rf rg:Slc) (w:World) (R:RW):Prop:=
 aH prog (Instr.box 40 (zR ra rb rc rd re rf rg)) w λv w1=>∃ r:zO,v=(.pointer r)/\aA r λa=>∃ x:Int,Rd w1 (a.add 1) [.int .i64 x]/\aA r λa1=>∃ x1:Int,Rd w1 (a1.add 2) [.int .i64 x1]/\aH prog (Instr.alloc 52 true (.tuple #[])) w1 λv1 w2=>∃ dot:zO,v1=(.pointer dot)/\aA dot λa2=>aJ prog (storeVar 52 a2 (.agg #[.int .i64 x,.int .i64 x1])) w2 λw3=>∃ j:zT,(aA r λa3=>∃ x2:zY,Rd w3 (a3.add 0) [.string ⟨x2.toArray⟩]/\aE (decide ((x2.length:Int)<(1:Int))) (j [.b true] w3) (aA r λa4=>∃ x3:zY,Rd w3 (a4.add 0) [.string ⟨x3.toArray⟩]/\aE (decide ((x3.length:Int) > (64:Int))) (j [.b true] w3) (aA dot λa5=>∃ xa xb:Int,Rd w3 a5 [.int .i64 xa,.int .i64 xb]/\aD prog 124 [.agg #[.int .i64 xa,.int .i64 xb]] w3 (aG R) λv2 w4=>∃ x4:Bool,v2=(.bool x4)/\aE (!x4) (j [.b true] w4) (aA r λa6=>∃ x5:Slc,Rd w4 (a6.add 3) [zS x5]/\aD prog 125 [zS x5] w4 (aG R) λv3 w5=>∃ x6:Bool,v3=(.bool x6)/\aE (!x6) (j [.b true] w5) (aA r λa7=>∃ x7:Slc,Rd w5 (a7.add 3) [zS x7]/\aA dot λa8=>∃ xa1 xb1:Int,Rd w5 a8 [.int .i64 xa1,.int .i64 xb1]/\aD prog 126 [zS x7,.agg #[.int .i64 xa1,.int .i64 xb1]] w5 (aG R) λv4 w6=>∃ x8:Bool,v4=(.bool x8)/\j [.b x8] w6)))))/\(∀ x9:Bool,∀ w7:World,j [.b x9] w7->aE x9 (zF R false w7) (aA r λa9=>∃ x10:Slc,Rd w7 (a9.add 5) [zS x10]/\aE (decide ((x10.len:Int)<=(1024:Int))) (aA r λa10=>∃ x11:Bool,Rd w7 (a10.add 4) [.bool x11]/\aE (!x11) (zF R true w7) (aA r λa11=>∃ x12:Slc,Rd w7 (a11.add 5) [zS x12]/\R (.returned (.bool ((x12.len:Int)==(0:Int)))) w7)) (zF R false w7)))
theorem jBD (ra:zY) (rb rc:Int) (rd:Slc) (re:Bool) (rf rg:Slc) {w:World} {R:RW} (h9:jHO ra rb rc rd re rf rg w R):Calls prog 64 #[zR ra rb rc rd re rf rg] w R:=
 zC (q0 .z (q0 .z (q0 (.seq (some [(35,.b)]) .z (.cond (q0 .z .z) .z)) (q0 .z .z)))) func64 [.agg [.s ra,.i .i64 rb,.i .i64 rc,.sl rd,.b re,.sl rf,.sl rg]] h9
def jGW (ra:zY) (rb rc:Int) (rd:Slc) (re:Bool) (rf rg:Slc) (w:World) (R:RW):Prop:=
 aH prog (Instr.box 40 (zR ra rb rc rd re rf rg)) w λv w1=>∃ r:zO,v=(.pointer r)/\aA r λa=>∃ xa:zY,∃ xb xc:Int,∃ xd:Slc,∃ xe:Bool,∃ xf xg:Slc,Rd w1 a (yR xa xb xc xd xe xf xg)/\aD prog 64 [zR xa xb xc xd xe xf xg] w1 (aG R) λv1 w2=>∃ x:Bool,v1=(.bool x)/\aE x (aA r λa1=>∃ x1:Slc,Rd w2 (a1.add 6) [zS x1]/\R (.returned (.bool ((x1.len:Int)==(64:Int)))) w2) (zF R false w2)
theorem qZB (ra:zY) (rb rc:Int) (rd:Slc) (re:Bool) (rf rg:Slc) {w:World} {R:RW} (h9:jGW ra rb rc rd re rf rg w R):Calls prog 34 #[zR ra rb rc rd re rf rg] w R:=
 zC (q0 .z (q0 .z .z)) func34 [.agg [.s ra,.i .i64 rb,.i .i64 rc,.sl rd,.b re,.sl rf,.sl rg]] h9
def jDX (aa:zY) (ab ac:Int) (ad:Slc) (ae:Bool) (af ag:Slc) (ba:zY) (bb bc:Int) (bd:Slc) (be:Bool) (bf bg:Slc) (w:World) (R:RW):Prop:=
 aH prog (Instr.box 40 (zR aa ab ac ad ae af ag)) w λv w1=>∃ a:zO,v=(.pointer a)/\aH prog (Instr.box 40 (zR ba bb bc bd be bf bg)) w1 λv1 w2=>∃ b:zO,v1=(.pointer b)/\aA a λa1=>∃ xa:zY,∃ xb xc:Int,∃ xd:Slc,∃ xe:Bool,∃ xf xg:Slc,Rd w2 a1 (yR xa xb xc xd xe xf xg)/\aD prog 64 [zR xa xb xc xd xe xf xg] w2 (aG R) λv2 w3=>∃ x:Bool,v2=(.bool x)/\aE x (aA b λa2=>∃ xa1:zY,∃ xb1 xc1:Int,∃ xd1:Slc,∃ xe1:Bool,∃ xf1 xg1:Slc,Rd w3 a2 (yR xa1 xb1 xc1 xd1 xe1 xf1 xg1)/\aD prog 64 [zR xa1 xb1 xc1 xd1 xe1 xf1 xg1] w3 (aG R) λv3 w4=>∃ x1:Bool,v3=(.bool x1)/\aE x1 (aA a λa3=>∃ x2:zY,Rd w4 (a3.add 0) [.string ⟨x2.toArray⟩]/\aA b λa4=>∃ x3:zY,Rd w4 (a4.add 0) [.string ⟨x3.toArray⟩]/\aE (x2==x3) (aA a λa5=>∃ x4:Slc,Rd w4 (a5.add 3) [zS x4]/\aA b λa6=>∃ x5:Int,Rd w4 (a6.add 1) [.int .i64 x5]/\aA b λa7=>∃ x6:Int,Rd w4 (a7.add 2) [.int .i64 x6]/\aD prog 126 [zS x4,.agg #[.int .i64 x5,.int .i64 x6]] w4 (aG R) λv4 w5=>∃ x7:Bool,v4=(.bool x7)/\R (.returned (.bool x7)) w5) (zF R false w4)) (zF R false w4)) (zF R false w3)
theorem jBH (aa:zY) (ab ac:Int) (ad:Slc) (ae:Bool) (af ag:Slc) (ba:zY) (bb bc:Int) (bd:Slc) (be:Bool) (bf bg:Slc) {w:World} {R:RW} (h9:jDX aa ab ac ad ae af ag ba bb bc bd be bf bg w R):Calls prog 67 #[zR aa ab ac ad ae af ag,zR ba bb bc bd be bf bg] w R:=
 zC (q0 .z (q0 .z .z)) func67 [.agg [.s aa,.i .i64 ab,.i .i64 ac,.sl ad,.b ae,.sl af,.sl ag],.agg [.s ba,.i .i64 bb,.i .i64 bc,.sl bd,.b be,.sl bf,.sl bg]] h9
def jDT (aa:zY) (ab ac:Int) (ad:Slc) (ae:Bool) (af ag:Slc) (ba:zY) (bb bc:Int) (bd:Slc) (be:Bool) (bf bg:Slc) (w:World) (R:RW):Prop:=
 aH prog (Instr.box 40 (zR aa ab ac ad ae af ag)) w λv w1=>∃ a:zO,v=(.pointer a)/\aH prog (Instr.box 40 (zR ba bb bc bd be bf bg)) w1 λv1 w2=>∃ b:zO,v1=(.pointer b)/\aA a λa1=>∃ x:Int,Rd w2 (a1.add 1) [.int .i64 x]/\aA b λa2=>∃ x1:Int,Rd w2 (a2.add 1) [.int .i64 x1]/\aE (decide (x<x1)) (zF R true w2) (aA a λa3=>∃ x2:Int,Rd w2 (a3.add 1) [.int .i64 x2]/\aA b λa4=>∃ x3:Int,Rd w2 (a4.add 1) [.int .i64 x3]/\aE (x2==x3) (aA a λa5=>∃ x4:Int,Rd w2 (a5.add 2) [.int .i64 x4]/\aA b λa6=>∃ x5:Int,Rd w2 (a6.add 2) [.int .i64 x5]/\R (.returned (.bool (decide (x4<x5)))) w2) (zF R false w2))
theorem jCO (aa:zY) (ab ac:Int) (ad:Slc) (ae:Bool) (af ag:Slc) (ba:zY) (bb bc:Int) (bd:Slc) (be:Bool) (bf bg:Slc) {w:World} {R:RW} (h9:jDT aa ab ac ad ae af ag ba bb bc bd be bf bg w R):Calls prog 68 #[zR aa ab ac ad ae af ag,zR ba bb bc bd be bf bg] w R:=
 zC (q0 .z (q0 .z .z)) func68 [.agg [.s aa,.i .i64 ab,.i .i64 ac,.sl ad,.b ae,.sl af,.sl ag],.agg [.s ba,.i .i64 bb,.i .i64 bc,.sl bd,.b be,.sl bf,.sl bg]] h9
def jGE (l:Slc) (w:World) (R:RW):Prop:=
 ∃ (inv:zT) (mu:zU),inv [.i .i64 0] w/\(∀ i:Int,∀ w1:World,inv [.i .i64 i] w1->aE (decide (i<l.len)) (∃ sx:zP,sx w1.drew/\(zB i l.len/\aA l.a λa=>∃ xa:zY,∃ xb xc:Int,∃ xd:Slc,∃ xe:Bool,∃ xf xg:Slc,(∀ w',sx w'->Rd w' (a.add (i.toNat*7)) (yR xa xb xc xd xe xf xg))/\((aD prog 34 [zR xa xb xc xd xe xf xg] w1.drew (aG R) λv w2=>∃ x:Bool,v=(.bool x)/\(sx w2/\aE (!x) (zF R false w2) ((zB i l.len/\aA l.a λa1=>((0<=(0:Int)/\(0:Int)<(l.len:Nat))/\aA l.a λa2=>∃ x1:zY,(∀ w',sx w'->Rd w' ((a1.add (i.toNat*7)).add 0) [.string ⟨x1.toArray⟩])/\∃ x2:zY,(∀ w',sx w'->Rd w' ((a2.add (((0:Int)).toNat*7)).add 0) [.string ⟨x2.toArray⟩])/\aE (!(x1==x2)) (zF R false w2) ((inv [.i .i64 (zW (i+1))] w2/\mu [.i .i64 (zW (i+1))] w2<mu [.i .i64 i] w1)))))))/\True))) (zF R true w1))
theorem jAP (l:Slc) {w:World} {R:RW} (h9:jGE l w R):Calls prog 65 #[zS l] w R:=
 zC (q0 .z (q0 (q0 .z (.block none (.loop [(3,(.i .i64))] (q0 (q0 .z (.cond .z .z)) (q0 (.block none (q0 (.draw 1 (.take 0 (.take 1 (.take 2 (.take 3 (.all [(4,(.take 5 (.take 6 (.take 7 (.take 8 (.take 9 (.take 10 (.take 12 (.take 13 (.take 14 (.take 11 (.take 15 (.take 16 (.take 17 .done))))))))))))))])))))) (.cond (q0 .z .z) .z))) .z))))) (q0 .z .z))) func65 [.sl l] h9
def upD (l:List (Int×Int)) (c:Int):Int:=((l.find? λe=>decide (e.1=c)).map (·.2)).getD 0
theorem yF (a:Int×Int) (l:List (Int×Int)) (c:Int):upD (a :: l) c=if a.1=c then a.2 else upD l c:=by
 by_cases h:a.1=c <;> simp [upD,h]
theorem qGH {l:List (Int×Int)} {d:Int×Int} (hv:bG l=true) (hd:aU d=true):gI l d=decide (upD l d.1>=d.2):=by
 have h9:1<=d.2:=by simp only [aU,Bool.and_eq_true,decide_eq_true_eq] at hd; exact hd.1.2
 simp only [gI,hv,hd,Bool.true_and]
 unfold upD
 cases e:l.find? λe=>decide (e.1=d.1) with
 | none=>
   have h0:=List.find?_eq_none.1 e
   have h1:(l.any λe=>decide (e.1=d.1)&&decide (d.2<=e.2))=false:=List.any_eq_false.2 λx hx=>by
    have:=h0 x hx
    simp at this; simp [this]
   rw [h1]
   exact (decide_eq_false (by simp; omega)).symm
 | some x=>
   have hx:=List.mem_of_find?_eq_some e
   have hx1:x.1=d.1:=by simpa using List.find?_some e
   obtain ⟨i,hi,rfl⟩:=List.getElem_of_mem hx
   apply Bool.eq_iff_iff.2
   rw [List.any_eq_true,decide_eq_true_eq]
   simp only [Option.map_some,Option.getD_some,ge_iff_le]
   constructor
   ·rintro ⟨y,hy,h⟩
    simp only [Bool.and_eq_true,decide_eq_true_eq] at h
    obtain ⟨j,hj,rfl⟩:=List.getElem_of_mem hy
    have:i=j:=by
     rcases Nat.lt_trichotomy i j with h' | h' | h'
     ·have:=gZ hv i j hj h'; omega
     ·exact h'
     ·have:=gZ hv j i hi h'; omega
    subst this
    exact h.2
   ·intro h
    exact ⟨_,hx,by simp [hx1,h]⟩
section
variable {w:World}
theorem wO {a b:Int} : Calls prog 124 #[.agg #[.int .i64 a,.int .i64 b]] w (Ret λv w'=>v = .bool (aU (a,b))/\Mod NoB w w'):=by
 refine qPK _ _ ?_
 unfold qWW
 refine aQ (v:=.agg #[.int .i64 a,.int .i64 b]) (l:=[.int .i64 a,.int .i64 b]) rfl λp w1 hN hb=>⟨_,rfl,?_⟩
 have r0:Rd w1 (Addr.add ⟨p,0,none⟩ 0) [.int .i64 a]:=by rw [aO]; exact hb.rd1 rfl
 have r1:Rd w1 (Addr.add ⟨p,0,none⟩ 1) [.int .i64 b]:=by rw [aO]; exact hb.rd1 rfl
 refine ⟨a,r0,aC (λh1=>⟨a,r0,aC (λh2=>⟨b,r1,aC (λh3=>⟨b,r1,congrArg Value.bool ?_,hN.mod⟩) λh3=>⟨congrArg Value.bool ?_,hN.mod⟩⟩) λh2=>⟨congrArg Value.bool ?_,hN.mod⟩⟩) λh1=>⟨congrArg Value.bool ?_,hN.mod⟩⟩
 ·have h1:(1:Int)<=a:=of_decide_eq_true h1
  have h2:a<=8:=of_decide_eq_true h2
  have h3:(1:Int)<=b:=of_decide_eq_true h3
  simp only [aU,decide_eq_true h1,decide_eq_true h2,decide_eq_true h3,Bool.true_and]
 ·have h3 : ¬ (1:Int)<=b:=of_decide_eq_false h3
  simp [aU,h3]
 ·have h2 : ¬ a<=8:=of_decide_eq_false h2
  simp [aU,h2]
 ·have h1 : ¬ (1:Int)<=a:=of_decide_eq_false h1
  simp [aU,h1]
theorem uC {v:Slc} {l:List (Int×Int)} (hv:aK w v 2 (dts l)) (hn:l.length<=1000000000):Calls prog 125 #[.slice v.a v.len v.cap] w (Ret λu w'=>u = .bool (bG l)/\Mod NoB w w'):=by
 refine qRW _ ?_
 unfold qUK
 have hl:=dW hv
 refine ⟨λl' w'=>match l' with | [.i _ x]=>∃ k:Nat,x=k/\k<=l.length/\(∀ i (h:i<l.length),i<k->aU l[i]=true/\(∀ h0:0<i,(l[i - 1]'(by omega)).1<l[i].1))/\Mod NoB w w' | _=>False,λl' _=>match l' with | [.i _ x]=>(l.length - x).toNat | _=>0,⟨0,rfl,by omega,λi h h'=>by omega,Mod.refl _ _⟩,?_⟩
 rintro x w1 ⟨k,rfl,hk,hI,k3⟩
 refine aC (λh=>?_) λh=>?_
 ·have hkl:k<l.length:=by have:=of_decide_eq_true h; omega
  have hm1d:=k3.tr (Mod.drew NoB w1)
  obtain ⟨A,ea,k4⟩:=fP (hv.no hm1d) hkl
  rw [ea]
  refine ⟨Mod NoB w1.drew,Mod.refl _ _,⟨by omega,by omega⟩,l[k].1,l[k].2,λw' hm=>k4.mod hm λh=>h,?_,trivial⟩
  refine aB wO ?_
  rintro u w2 ⟨rfl,k5⟩
  have hM2:=hm1d.tr k5
  refine ⟨_,rfl,k5,aC (λh=>⟨congrArg Value.bool ?_,hM2⟩) λhd=>?_⟩
  ·have h:aU l[k]=false:=by simpa using h
   symm
   refine Bool.eq_false_iff.2 λh'=>?_
   have:=(bX.1 h' k hkl).1
   rw [h] at this; cases this
  have hd:aU l[k]=true:=by simpa using hd
  have hst : ∀ (hr : ∀ h0:0<k,(l[k - 1]'(by omega)).1<l[k].1),∀ i (h:i<l.length),i<k+1->aU l[i]=true/\(∀ h0:0<i,(l[i - 1]'(by omega)).1<l[i].1):=λhr i h h'=>by
   rcases Nat.lt_or_ge i k with h2 | h2
   ·exact hI i h h2
   ·have:i=k:=by omega
    subst this
    exact ⟨hd,hr⟩
  refine aC (λh0=>?_) λh0=>⟨⟨k+1,aI (by omega),by omega,hst λh=>by have:=of_decide_eq_false h0; omega,hM2⟩,by rw [aI (by omega)]; (try simp only []); omega⟩
  have h0:0<k:=by have:=of_decide_eq_true h0; omega
  obtain ⟨j,rfl⟩ : ∃ j,k=j+1:=⟨k - 1,by omega⟩
  have ej:zW (((j+1:Nat):Int) - 1)=(j:Int):=by rw [wrap_i64 (by omega)]; omega
  rw [ej]
  obtain ⟨A',ea',h9⟩:=fP (hv.no hm1d) (show j<l.length by omega)
  rw [ea] at ea'; cases ea'
  refine ⟨⟨by omega,by omega⟩,⟨by omega,by omega⟩,l[j].1,λw' hm=>(cW.2 (h9 0 _ rfl)).mod hm λh=>h,l[j+1].1,λw' hm=>(cW.2 (k4 0 _ rfl)).mod hm λh=>h,aC (λhge=>⟨congrArg Value.bool ?_,hM2⟩) λhlt=>⟨⟨j+1+1,aI (by omega),by omega,hst λ_=>?_,hM2⟩,by rw [aI (by omega)]; (try simp only []); omega⟩⟩
  ·have hge:=of_decide_eq_true hge
   symm
   refine Bool.eq_false_iff.2 λh'=>?_
   have:=(bX.1 h' (j+1) hkl).2 (by omega)
   simp only [Nat.add_sub_cancel] at this
   omega
  ·have hlt:=of_decide_eq_false hlt
   simp only [Nat.add_sub_cancel]
   omega
 ·have hkk:k=l.length:=by have:=of_decide_eq_false h; omega
  subst hkk
  exact ⟨congrArg Value.bool (bX.2 λi h=>hI i h h).symm,k3⟩
theorem qYV {v:Slc} {l:List (Int×Int)} {c:Int} (hv:aK w v 2 (dts l)) (hn:l.length<=1000000000):Calls prog 211 #[.slice v.a v.len v.cap,.int .i64 c] w (Ret λu w'=>u = .int .i64 (upD l c)/\w'=w):=by
 refine qKX _ _ ?_
 unfold qVY
 have hl:=dW hv
 refine ⟨λl' w'=>match l' with | [.i _ x]=>∃ k:Nat,x=k/\k<=l.length/\upD l c=upD (l.drop k) c/\w'=w | _=>False,λl' _=>match l' with | [.i _ x]=>(l.length - x).toNat | _=>0,⟨0,rfl,by omega,rfl,rfl⟩,?_⟩
 rintro x w1 ⟨k,rfl,hk,hI,rfl⟩
 refine aC (λh=>?_) λh=>?_
 ·have hkl:k<l.length:=by have:=of_decide_eq_true h; omega
  obtain ⟨A,ea,h9⟩:=fP hv hkl
  rw [ea]
  have e1:l.drop k=l[k] :: l.drop (k+1):=List.drop_eq_getElem_cons hkl
  refine ⟨⟨by omega,by omega⟩,l[k].1,cW.2 (h9 0 _ rfl),aC (λhc=>⟨⟨by omega,by omega⟩,l[k].2,cW.2 (h9 1 _ rfl),congrArg (Value.int .i64) ?_,rfl⟩) λhc=>⟨⟨k+1,aI (by omega),by omega,?_,rfl⟩,by rw [aI (by omega)]; (try simp only []); omega⟩⟩
  ·have hc:l[k].1=c:=by simpa using hc
   rw [hI,e1,yF,if_pos hc]
  ·have hc : ¬ l[k].1=c:=by simpa using hc
   rw [hI,e1,yF,if_neg hc]
 ·have hkk:k=l.length:=by have:=of_decide_eq_false h; omega
  subst hkk
  refine ⟨congrArg (Value.int .i64) ?_,rfl⟩
  rw [hI,List.drop_length]; rfl
theorem qBY {v:Slc} {l:List (Int×Int)} {a b:Int} (hv:aK w v 2 (dts l)) (hn:l.length<=1000000000):Calls prog 126 #[.slice v.a v.len v.cap,.agg #[.int .i64 a,.int .i64 b]] w (Ret λu w'=>u = .bool (gI l (a,b))/\Mod NoB w w'):=by
 refine qNT _ _ _ ?_
 unfold qUX
 refine aQ (v:=.agg #[.int .i64 a,.int .i64 b]) (l:=[.int .i64 a,.int .i64 b]) rfl λp w1 hN hb=>⟨_,rfl,?_⟩
 have hm1d:=hN.mod.tr (Mod.drew NoB w1)
 have k4:=hb.no (Mod.drew NoB w1)
 refine ⟨Mod NoB w1.drew,Mod.refl _ _,?_,trivial⟩
 refine aB (uC (hv.no hm1d) hn) ?_
 rintro u w2 ⟨rfl,k3⟩
 have hM2:=hm1d.tr k3
 refine ⟨_,rfl,k3,aC (λhr=>?_) λhr=>⟨⟨k3,⟨k3,congrArg Value.bool (by simp [gI,hr]),hM2⟩,trivial⟩,trivial⟩⟩
 refine ⟨a,b,λw' hm=>(k4.no hm).rd λj v hj=>by simpa using hj,?_,trivial⟩
 refine aB wO ?_
 rintro u w3 ⟨rfl,k6⟩
 have h9:=k3.tr k6
 have k5:=hM2.tr k6
 refine ⟨_,rfl,h9,aC (λhd=>?_) λhd=>⟨⟨h9,congrArg Value.bool (by simp [gI,hr,hd]),k5⟩,trivial⟩⟩
 refine ⟨a,λw' hm=>by rw [aO]; exact (k4.no hm).rd1 rfl,b,λw' hm=>by rw [aO]; exact (k4.no hm).rd1 rfl,?_,trivial⟩
 refine aB (qYV (hv.no k5) hn) ?_
 rintro u w4 ⟨rfl,rfl⟩
 exact ⟨_,rfl,h9,congrArg Value.bool (qGH hr hd).symm,k5⟩
theorem lW {h:Hd} {r:Rc} (H:bH w h r):Calls prog 64 #[h.val] w (Ret λu w'=>u = .bool r.shaped/\Mod NoB w w'):=by
 refine jBD h.a h.b h.c h.d h.e h.f h.g ?_
 unfold jHO
 obtain ⟨id,u0,hd2,u4,u5⟩:=qI
 obtain ⟨u6,u7,u9,v1⟩:=H.sm
 refine aQ (v:=h.val) (l:=h.cells) rfl λp w1 hN hb=>⟨_,rfl,h.b,bT (i:=1) hb rfl,h.c,bT (i:=2) hb rfl,?_⟩
 refine aN (l:=[.int .i64 0,.int .i64 0]) u0 hd2 rfl λq w2 t6 hb2=>⟨_,rfl,?_⟩
 refine bU (vs:=[.int .i64 h.b,.int .i64 h.c]) (by kernel_rfl) (by kernel_rfl) rfl hb2 (by simp) (by intro u hu; simp at hu; rcases hu with rfl | rfl <;> rfl) λw3 ht hb3=>?_
 have k4:Blk w3 q [.int .i64 h.b,.int .i64 h.c] 52:=by simpa [putAt] using hb3
 have e1:=hN.mod.size; have e2:=t6.at_; have e4:=hb.lt
 have k5:Mod NoB w1 w3:=t6.mod.fresh ht.mod λz e=>by omega
 have k6:=hb.no k5
 have q8:=hN.mod.tr k5
 refine ⟨λl' w'=>match l' with | [.b t]=>t=r.bad/\Mod NoB w3 w' | _=>False,?_,?_⟩
 ·refine ⟨h.a,bT (i:=0) k6 rfl,aC (λhk=>⟨?_,Mod.refl _ _⟩) λhk=>?_⟩
  ·have hk:=of_decide_eq_true hk
   rw [H.key] at hk
   have : ¬ 1<=r.key.length:=by omega
   simp [Rc.bad,this]
  have hk:=of_decide_eq_false hk
  rw [H.key] at hk
  have hk1:1<=r.key.length:=by omega
  refine ⟨h.a,bT (i:=0) k6 rfl,aC (λhq=>⟨?_,Mod.refl _ _⟩) λhq=>?_⟩
  ·have hq:=of_decide_eq_true hq
   rw [H.key] at hq
   have : ¬ r.key.length<=64:=by omega
   simp [Rc.bad,this]
  have hq:=of_decide_eq_false hq
  rw [H.key] at hq
  have hq1:r.key.length<=64:=by omega
  refine ⟨h.b,h.c,k4.rd λj v hj=>by simpa using hj,?_⟩
  refine aB wO ?_
  rintro u w4 ⟨rfl,p8⟩
  have edot:aU (h.b,h.c)=aU r.dot:=by rw [H.cl,H.sq]; rfl
  rw [edot]
  refine ⟨_,rfl,aC (λhd=>⟨by simp at hd; simp [Rc.bad,hd],p8⟩) λhd=>?_⟩
  have hd:aU r.dot=true:=by simpa using hd
  refine ⟨h.d,bT (i:=3) (k6.no p8) rfl,?_⟩
  refine aB (uC (H.ctx.no (q8.tr p8)) (by omega)) ?_
  rintro u w5 ⟨rfl,u1⟩
  have h9:=p8.tr u1
  refine ⟨_,rfl,aC (λhv=>⟨by simp at hv; simp [Rc.bad,hv],h9⟩) λhv=>?_⟩
  have hv:bG r.ctx=true:=by simpa using hv
  refine ⟨h.d,bT (i:=3) (k6.no h9) rfl,h.b,h.c,(k4.no h9).rd λj v hj=>by simpa using hj,?_⟩
  refine aB (qBY (H.ctx.no (q8.tr h9)) (by omega)) ?_
  rintro u w6 ⟨rfl,u2⟩
  refine ⟨_,rfl,?_,h9.tr u2⟩
  rw [H.cl,H.sq]
  have u3:aU (r.cl,r.sq)=true:=hd
  simp [Rc.bad,hk1,hq1,u3,hv,Rc.dot]
 ·rintro t w8 ⟨rfl,t7⟩
  have p9:=q8.tr t7
  have q9:=k6.no t7
  have hfl:=aV H.val
  refine aC (λk3=>⟨congrArg Value.bool (by rw [fB,k3]; rfl),p9⟩) λk3=>?_
  refine ⟨h.f,bT (i:=5) q9 rfl,aC (λh1=>?_) λh1=>⟨congrArg Value.bool ?_,p9⟩⟩
  ·have h1:r.val.length<=1024:=by have:=of_decide_eq_true h1; omega
   refine ⟨h.e,bT (i:=4) q9 rfl,aC (λh2=>⟨congrArg Value.bool ?_,p9⟩) λh2=>⟨h.f,bT (i:=5) q9 rfl,congrArg Value.bool ?_,p9⟩⟩
   ·rw [H.gone] at h2
    rw [fB,k3,h2]; simp [h1]
   ·rw [H.gone] at h2
    have h2:r.gone=true:=by simpa using h2
    rw [fB,k3,h2]
    have e:((h.f.len:Int)==0)=decide (r.val.length=0):=by
     rw [<-hfl]
     apply Bool.eq_iff_iff.2
     simp
    rw [e]; simp [h1]
  ·have h1 : ¬ r.val.length<=1024:=by have:=of_decide_eq_false h1; omega
   rw [fB]; simp [h1]
theorem lY {h:Hd} {r:Rc} (H:bH w h r):Calls prog 34 #[h.val] w (Ret λu w'=>u = .bool r.right/\Mod NoB w w'):=by
 refine qZB h.a h.b h.c h.d h.e h.f h.g ?_
 unfold jGW
 refine aQ (v:=h.val) (l:=h.cells) rfl λp w1 hN hb=>⟨_,rfl,h.a,h.b,h.c,h.d,h.e,h.f,h.g,rdH hb,?_⟩
 refine aB (lW (h:=h) (H.no hN.mod)) ?_
 rintro u w2 ⟨rfl,h9⟩
 have hM:=hN.mod.tr h9
 have hgl:=aV H.sig
 refine ⟨_,rfl,aC (λhs=>⟨h.g,bT (i:=6) (hb.no h9) rfl,congrArg Value.bool ?_,hM⟩) λhs=>⟨congrArg Value.bool (by simp [Rc.right,hs]),hM⟩⟩
 rw [Rc.right,hs,Bool.true_and]
 apply Bool.eq_iff_iff.2
 simp; omega
theorem qKF {a b:Hd} {r s:Rc} (A:bH w a r) (B:bH w b s):Calls prog 67 #[a.val,b.val] w (Ret λv w'=>v = .bool (r.over s)/\Mod NoB w w'):=by
 refine jBH a.a a.b a.c a.d a.e a.f a.g b.a b.b b.c b.d b.e b.f b.g ?_
 unfold jDX
 refine aQ (v:=a.val) (l:=a.cells) rfl λp w1 hN hb=>⟨_,rfl,?_⟩
 refine aQ (v:=b.val) (l:=b.cells) rfl λq w2 k6 hb2=>⟨_,rfl,?_⟩
 have p8:=hN.mod.tr k6.mod
 have hp2:=hb.no k6.mod
 refine ⟨a.a,a.b,a.c,a.d,a.e,a.f,a.g,rdH hp2,?_⟩
 refine aB (lW (h:=a) (A.no p8)) ?_
 rintro u w3 ⟨rfl,k4⟩
 have k5:=p8.tr k4
 refine ⟨_,rfl,aC (λh1=>?_) λh1=>⟨congrArg Value.bool (by simp [Rc.over,h1]),k5⟩⟩
 refine ⟨b.a,b.b,b.c,b.d,b.e,b.f,b.g,rdH (hb2.no k4),?_⟩
 refine aB (lW (h:=b) (B.no k5)) ?_
 rintro u w4 ⟨rfl,p9⟩
 have k3:=k5.tr p9
 have h9:=k4.tr p9
 refine ⟨_,rfl,aC (λh2=>?_) λh2=>⟨congrArg Value.bool (by simp [Rc.over,h2]),k3⟩⟩
 refine ⟨a.a,bT (i:=0) (hp2.no h9) rfl,b.a,bT (i:=0) (hb2.no h9) rfl,aC (λh3=>?_) λh3=>⟨congrArg Value.bool ?_,k3⟩⟩
 ·have h3:r.key=s.key:=by rw [A.key,B.key] at h3; simpa using h3
  refine ⟨a.d,bT (i:=3) (hp2.no h9) rfl,b.b,bT (i:=1) (hb2.no h9) rfl,b.c,bT (i:=2) (hb2.no h9) rfl,?_⟩
  refine aB (qBY (A.ctx.no k3) (by have:=A.sm.2.1; omega)) ?_
  rintro u w5 ⟨rfl,q8⟩
  refine ⟨_,rfl,congrArg Value.bool ?_,k3.tr q8⟩
  rw [B.cl,B.sq]
  simp [Rc.over,h1,h2,h3,Rc.dot]
 ·rw [A.key,B.key] at h3
  have h3 : ¬ r.key=s.key:=by simpa using h3
  simp [Rc.over,h3]
theorem qFD {a b:Hd} {r s:Rc} (A:bH w a r) (B:bH w b s):Calls prog 68 #[a.val,b.val] w (Ret λv w'=>(∃ t,v = .bool t/\(t=true↔cY r s))/\Mod NoB w w'):=by
 refine jCO a.a a.b a.c a.d a.e a.f a.g b.a b.b b.c b.d b.e b.f b.g ?_
 unfold jDT
 refine aQ (v:=a.val) (l:=a.cells) rfl λp w1 hN hb=>⟨_,rfl,?_⟩
 refine aQ (v:=b.val) (l:=b.cells) rfl λq w2 k3 hb2=>⟨_,rfl,?_⟩
 have h9:=hN.mod.tr k3.mod
 have hp2:=hb.no k3.mod
 have e1:=A.cl; have e2:=A.sq; have e3:=B.cl; have e4:=B.sq
 refine ⟨a.b,bT (i:=1) hp2 rfl,b.b,bT (i:=1) hb2 rfl,aC (λh1=>⟨⟨_,rfl,λ_=>.inl ?_,λ_=>rfl⟩,h9⟩) λh1=>?_⟩
 ·have:=of_decide_eq_true h1; rw [e1,e3] at this; exact this
 have h1:=of_decide_eq_false h1
 rw [e1,e3] at h1
 refine ⟨a.b,bT (i:=1) hp2 rfl,b.b,bT (i:=1) hb2 rfl,aC (λh2=>⟨a.c,bT (i:=2) hp2 rfl,b.c,bT (i:=2) hb2 rfl,⟨_,rfl,?_⟩,h9⟩) λh2=>⟨⟨_,rfl,(λh=>by cases h),λh=>?_⟩,h9⟩⟩
 ·have h2:a.b=b.b:=by simpa using h2
  rw [decide_eq_true_eq,e2,e4]
  rw [e1,e3] at h2
  unfold cY; omega
 ·have h2 : ¬ a.b=b.b:=by simpa using h2
  rw [e1,e3] at h2
  unfold cY at h; omega
end
def qSX (n:Int) (w:World) (R:RW):Prop:=
 ∃ (inv:zT) (mu:zU),inv [.sl ⟨none,0,0⟩,.i .i64 7] w/\(∀ out:Slc,∀ i:Int,∀ w1:World,inv [.sl out,.i .i64 i] w1->aE (decide (i>=0)) ((0<=(((aP (zW ((8:Int)*i)))).toNat:Int)/\aH prog (Instr.buildSlice 38 1 #[(0,(.int .u8 (((aM (aP n) ((((aP (zW ((8:Int)*i)))).toNat:Int)).toNat)).toUInt8).toNat))]) w1 λv w2=>∃ x:Slc,v=(zS x)/\aH prog (Builtin.append_ #[38,38] 38 #[zS out,zS x]) w2 λv1 w3=>∃ x1:Slc,v1=(zS x1)/\(inv [.sl x1,.i .i64 (zW (i - 1))] w3/\mu [.sl x1,.i .i64 (zW (i - 1))] w3<mu [.sl out,.i .i64 i] w1))) (R (.returned (zS out)) w1))
theorem qQK (n:Int) {w:World} {R:RW} (h9:qSX n w R):Calls prog 281 #[.int .i64 n] w R:=
 zC (q0 .z (q0 .z (q0 (q0 .z (.block none (.loop [(3,.sl),(4,(.i .i64))] (q0 (q0 .z (.cond .z .z)) (q0 (.block none .z) .z))))) (q0 .z .z)))) func281 [.i .i64 n] h9
def qSR (b:Slc) (w:World) (R:RW):Prop:=
 aD prog 281 [.int .i64 b.len] w (aG R) λv w1=>∃ x:Slc,v=(zS x)/\aH prog (Builtin.append_ #[38,38] 38 #[zS x,zS b]) w1 λv1 w2=>∃ x1:Slc,v1=(zS x1)/\R (.returned (zS x1)) w2
theorem qMN (b:Slc) {w:World} {R:RW} (h9:qSR b w R):Calls prog 280 #[zS b] w R:=
 zC (q0 .z (q0 .z .z)) func280 [.sl b] h9
def qXX (parts:Slc) (w:World) (R:RW):Prop:=
 ∃ (inv:zT) (mu:zU),inv [.sl ⟨none,0,0⟩,.i .i64 0] w/\(∀ out:Slc,∀ i:Int,∀ w1:World,inv [.sl out,.i .i64 i] w1->aE (decide (i<parts.len)) ((zB i parts.len/\aA parts.a λa=>∃ x:Slc,Rd w1 (a.add (i.toNat*1)) [zS x]/\aH prog (Builtin.append_ #[38,38] 38 #[zS out,zS x]) w1 λv w2=>∃ x1:Slc,v=(zS x1)/\(inv [.sl x1,.i .i64 (zW (i+1))] w2/\mu [.sl x1,.i .i64 (zW (i+1))] w2<mu [.sl out,.i .i64 i] w1))) (R (.returned (zS out)) w1))
theorem qNA (parts:Slc) {w:World} {R:RW} (h9:qXX parts w R):Calls prog 212 #[zS parts] w R:=
 zC (q0 .z (q0 .z (q0 (q0 .z (.block none (.loop [(3,.sl),(4,(.i .i64))] (q0 (q0 .z (.cond .z .z)) (q0 (.block none .z) .z))))) (q0 .z .z)))) func212 [.sl parts] h9
def qWF (ra:zY) (rb rc:Int) (rd:Slc) (re:Bool) (rf rg:Slc) (w:World) (R:RW):Prop:=
 aH prog (Instr.box 40 (zR ra rb rc rd re rf rg)) w λv w1=>∃ r:zO,v=(.pointer r)/\aA r λa=>∃ xa:zY,∃ xb xc:Int,∃ xd:Slc,∃ xe:Bool,∃ xf xg:Slc,Rd w1 a (yR xa xb xc xd xe xf xg)/\aD prog 34 [zR xa xb xc xd xe xf xg] w1 (aG R) λv1 w2=>∃ x:Bool,v1=(.bool x)/\aE (!x) (R (.returned (.tuple #[.slice none 0 0,.int .i64 4])) w2) (∃ sx:zP,sx w2.drew/\aA r λa1=>aA r λa2=>∃ xa1:zY,∃ xb1 xc1:Int,∃ xd1:Slc,∃ xe1:Bool,∃ xf1 xg1:Slc,(∀ w',sx w'->Rd w' a2 (yR xa1 xb1 xc1 xd1 xe1 xf1 xg1))/\∃ x1:Slc,(∀ w',sx w'->Rd w' (a1.add 6) [zS x1])/\((aD prog 213 [zR xa1 xb1 xc1 xd1 xe1 xf1 xg1] w2.drew (aG R) λv2 w3=>∃ x2:Slc,v2=(zS x2)/\(sx w3/\((aH prog (Instr.buildSlice 77 2 #[(0,(zS x2)),(1,(zS x1))]) w3 λv3 w4=>∃ x3:Slc,v3=(zS x3)/\(sx w4/\((aD prog 212 [zS x3] w4 (aG R) λv4 w5=>∃ x4:Slc,v4=(zS x4)/\(sx w5/\R (.returned (.tuple #[zS x4,.int .i64 0])) w5))/\True)))/\True)))/\True))
theorem qQV (ra:zY) (rb rc:Int) (rd:Slc) (re:Bool) (rf rg:Slc) {w:World} {R:RW} (h9:qWF ra rb rc rd re rf rg w R):Calls prog 127 #[zR ra rb rc rd re rf rg] w R:=
 zC (q0 .z (q0 (q0 .z (.cond (q0 .z .z) .z)) (q0 (.draw 1 (.take 2 (.take 0 (.take 3 (.all [(1,(.all [(4,(.all [(5,(.take 6 (.take 7 .done)))]))]))]))))) .z))) func127 [.agg [.s ra,.i .i64 rb,.i .i64 rc,.sl rd,.b re,.sl rf,.sl rg]] h9
def jFD (ra:zY) (rb rc:Int) (rd:Slc) (re:Bool) (rf rg:Slc) (w:World) (R:RW):Prop:=
 aH prog (Instr.box 40 (zR ra rb rc rd re rf rg)) w λv w1=>∃ r:zO,v=(.pointer r)/\aA r λa=>∃ xa:zY,∃ xb xc:Int,∃ xd:Slc,∃ xe:Bool,∃ xf xg:Slc,Rd w1 a (yR xa xb xc xd xe xf xg)/\aD prog 127 [zR xa xb xc xd xe xf xg] w1 (aG R) λv1 w2=>∃ xa1:Slc,∃ xb1:Int,v1=(.tuple #[zS xa1,.int .i64 xb1])/\aH prog (convert 38 9 (zS xa1)) w2 λv2 w3=>∃ x:zY,v2=(.string ⟨x.toArray⟩)/\R (.returned (.string ⟨x.toArray⟩)) w3
theorem jBL (ra:zY) (rb rc:Int) (rd:Slc) (re:Bool) (rf rg:Slc) {w:World} {R:RW} (h9:jFD ra rb rc rd re rf rg w R):Calls prog 66 #[zR ra rb rc rd re rf rg] w R:=
 zC (q0 .z (q0 .z (q0 .z .z))) func66 [.agg [.s ra,.i .i64 rb,.i .i64 rc,.sl rd,.b re,.sl rf,.sl rg]] h9
def qVO (ra:zY) (rb rc:Int) (rd:Slc) (re:Bool) (rf rg:Slc) (w:World) (R:RW):Prop:=
 aH prog (Instr.box 40 (zR ra rb rc rd re rf rg)) w λv w1=>∃ r:zO,v=(.pointer r)/\aA r λa=>∃ xa:zY,∃ xb xc:Int,∃ xd:Slc,∃ xe:Bool,∃ xf xg:Slc,Rd w1 a (yR xa xb xc xd xe xf xg)/\aD prog 64 [zR xa xb xc xd xe xf xg] w1 (aG R) λv1 w2=>∃ x:Bool,v1=(.bool x)/\aE (!x) (R (.returned (.slice none 0 0)) w2) (∃ sx:zP,sx w2.drew/\(∃ ts:Nat->Value->zP,(∀ i v w1 w2,Mod NoB w1 w2->ts i v w1->ts i v w2)/\sx w2.drew/\((∀ w3,Mod NoB w2.drew w3->sx w3->aH prog (Instr.buildSlice 38 1 #[(0,(.int .u8 ((1:UInt8)).toNat))]) w3 λv2 w4=>∃ x1:Slc,v2=(zS x1)/\(Mod NoB w3 w4/\sx w4/\ts 0 (zS x1) w4))/\∀ x2:Slc,aA r λa1=>∃ x3:zY,(∀ w',sx w'->Rd w' (a1.add 0) [.string ⟨x3.toArray⟩])/\((∀ w5,Mod NoB w2.drew w5->sx w5->aH prog (convert 9 38 (.string ⟨x3.toArray⟩)) w5 λv3 w6=>∃ x4:Slc,v3=(zS x4)/\(Mod NoB w5 w6/\sx w6/\ts 3 (zS x4) w6))/\∀ x5:Slc,((∀ w7,Mod NoB w2.drew w7->sx w7->ts 3 (zS x5) w7->aD prog 280 [zS x5] w7 (aG R) λv4 w8=>∃ x6:Slc,v4=(zS x6)/\(Mod NoB w7 w8/\sx w8/\ts 4 (zS x6) w8))/\∀ x7:Slc,aA r λa2=>∃ x8:Int,(∀ w',sx w'->Rd w' (a2.add 1) [.int .i64 x8])/\((∀ w9,Mod NoB w2.drew w9->sx w9->ts 4 (zS x7) w9->aD prog 281 [.int .i64 x8] w9 (aG R) λv5 w10=>∃ x9:Slc,v5=(zS x9)/\(Mod NoB w9 w10/\sx w10/\ts 7 (zS x9) w10))/\∀ x10:Slc,aA r λa3=>∃ x11:Int,(∀ w',sx w'->Rd w' (a3.add 2) [.int .i64 x11])/\((∀ w11,Mod NoB w2.drew w11->sx w11->ts 7 (zS x10) w11->aD prog 281 [.int .i64 x11] w11 (aG R) λv6 w12=>∃ x12:Slc,v6=(zS x12)/\(Mod NoB w11 w12/\sx w12/\ts 10 (zS x12) w12))/\∀ x13:Slc,aA r λa4=>∃ x14:Slc,(∀ w',sx w'->Rd w' (a4.add 3) [zS x14])/\((∀ w13,Mod NoB w2.drew w13->sx w13->ts 10 (zS x13) w13->aD prog 281 [.int .i64 x14.len] w13 (aG R) λv7 w14=>∃ x15:Slc,v7=(zS x15)/\(Mod NoB w13 w14/\sx w14/\ts 14 (zS x15) w14))/\∀ x16:Slc,((∀ w15,Mod NoB w2.drew w15->sx w15->ts 14 (zS x16) w15->ts 10 (zS x13) w15->ts 7 (zS x10) w15->ts 4 (zS x7) w15->ts 0 (zS x2) w15->aH prog (Instr.buildSlice 77 5 #[(0,(zS x2)),(1,(zS x7)),(2,(zS x10)),(3,(zS x13)),(4,(zS x16))]) w15 λv8 w16=>∃ x17:Slc,v8=(zS x17)/\(Mod NoB w15 w16/\sx w16/\ts 15 (zS x17) w16))/\∀ x18:Slc,((∀ w17,Mod NoB w2.drew w17->sx w17->ts 15 (zS x18) w17->ts 14 (zS x16) w17->aD prog 212 [zS x18] w17 (aG R) λv9 w18=>∃ x19:Slc,v9=(zS x19)/\(Mod NoB w17 w18/\sx w18/\ts 16 (zS x19) w18))/\∀ x20:Slc,∀ w19,Mod NoB w2.drew w19->sx w19->ts 16 (zS x20) w19->ts 15 (zS x18) w19->ts 14 (zS x16) w19->ts 10 (zS x13) w19->ts 7 (zS x10) w19->ts 4 (zS x7) w19->ts 3 (zS x5) w19->ts 0 (zS x2) w19->∃ (inv:zT) (mu:zU),inv [.sl x20,.i .i64 0] w19/\(∀ out:Slc,∀ i:Int,∀ w20:World,inv [.sl out,.i .i64 i] w20->aA r λa5=>∃ x21:Slc,Rd w20 (a5.add 3) [zS x21]/\aE (decide (i<x21.len)) (∃ sx1:zP,sx1 w20.drew/\aA r λa6=>aA r λa7=>∃ x22:Slc,(∀ w',sx1 w'->Rd w' (a6.add 3) [zS x22])/\(zB i x22.len/\aA x22.a λa8=>∃ x23:Int,(∀ w',sx1 w'->Rd w' ((a8.add (i.toNat*2)).add 0) [.int .i64 x23])/\∃ x24:Slc,(∀ w',sx1 w'->Rd w' (a7.add 3) [zS x24])/\(zB i x24.len/\aA x24.a λa9=>∃ x25:Int,(∀ w',sx1 w'->Rd w' ((a9.add (i.toNat*2)).add 1) [.int .i64 x25])/\((aD prog 281 [.int .i64 x23] w20.drew (aG R) λv10 w21=>∃ x26:Slc,v10=(zS x26)/\(sx1 w21/\((aD prog 281 [.int .i64 x25] w21 (aG R) λv11 w22=>∃ x27:Slc,v11=(zS x27)/\(sx1 w22/\((aH prog (Instr.buildSlice 77 3 #[(0,(zS out)),(1,(zS x26)),(2,(zS x27))]) w22 λv12 w23=>∃ x28:Slc,v12=(zS x28)/\(sx1 w23/\((aD prog 212 [zS x28] w23 (aG R) λv13 w24=>∃ x29:Slc,v13=(zS x29)/\(sx1 w24/\(inv [.sl x29,.i .i64 (zW (i+1))] w24/\mu [.sl x29,.i .i64 (zW (i+1))] w24<mu [.sl out,.i .i64 i] w20)))/\True)))/\True)))/\True)))/\True)))) (∃ j:zT,(aA r λa10=>∃ x30:Bool,Rd w20 (a10.add 4) [.bool x30]/\aE x30 (j [.u8 (1:UInt8)] w20) (j [.u8 (0:UInt8)] w20))/\(∀ gone:UInt8,∀ w25:World,j [.u8 gone] w25->aH prog (Instr.buildSlice 38 1 #[(0,(.int .u8 gone.toNat))]) w25 λv14 w26=>∃ x31:Slc,v14=(zS x31)/\aA r λa11=>∃ x32:Slc,Rd w26 (a11.add 5) [zS x32]/\aD prog 280 [zS x32] w26 (aG R) λv15 w27=>∃ x33:Slc,v15=(zS x33)/\aH prog (Instr.buildSlice 77 3 #[(0,(zS out)),(1,(zS x31)),(2,(zS x33))]) w27 λv16 w28=>∃ x34:Slc,v16=(zS x34)/\aD prog 212 [zS x34] w28 (aG R) λv17 w29=>∃ x35:Slc,v17=(zS x35)/\R (.returned (zS x35)) w29)))))))))))))
theorem qLO (ra:zY) (rb rc:Int) (rd:Slc) (re:Bool) (rf rg:Slc) {w:World} {R:RW} (h9:qVO ra rb rc rd re rf rg w R):Calls prog 213 #[zR ra rb rc rd re rf rg] w R:=
 zC (q0 .z (q0 (q0 .z (.cond (q0 .z .z) .z)) (q0 (.draw 1 (.safe [(0,.sl),(1,.p),(2,.s),(3,.sl),(4,.sl),(5,.p),(6,(.i .i64)),(7,.sl),(8,.p),(9,(.i .i64)),(10,.sl),(11,.p),(12,.sl),(13,(.i .i64)),(14,.sl),(15,.sl),(16,.sl),(17,.sl)] .done)) (q0 (q0 .z (.block none (.loop [(3,.sl),(4,(.i .i64))] (q0 (q0 .z (.cond .z .z)) (q0 (.block none (.draw 1 (.take 0 (.take 1 (.take 3 (.take 8 (.take 10 (.take 2 (.take 4 (.take 5 (.take 6 (.take 9 (.take 11 (.take 12 (.take 13 (.all [(7,(.all [(14,(.all [(15,(.all [(16,(.take 17 .done))]))]))]))])))))))))))))))) .z))))) (q0 .z (.seq (some [(5,.u8)]) (q0 .z (.cond .z .z)) (q0 .z .z))))))) func213 [.agg [.s ra,.i .i64 rb,.i .i64 rc,.sl rd,.b re,.sl rf,.sl rg]] h9
theorem jCQ {m:Nat} (h:m<8):((aP (zW ((8:Int)*((7:Int) - (m:Int))))).toNat:Int)=((8*(7 - m):Nat):Int):=by
 have:m=0\/m=1\/m=2\/m=3\/m=4\/m=5\/m=6\/m=7:=by omega
 rcases this with rfl | rfl | rfl | rfl | rfl | rfl | rfl | rfl <;> rfl
def TY (wb:World) (f:Nat->zY) (pl:List (zY)) (i:Nat) (v:Value) (w:World):Prop:=match v with
 | .slice a n c=>if i=15 then dZ wb w ⟨a,n,c⟩ pl else (Sh.Own w ⟨a,n,c⟩ 1 (bys (f i))/\FB wb ⟨a,n,c⟩)
 | _=>False
theorem TY.stable (wb:World) (f:Nat->zY) (pl:List (zY)) : ∀ i v w1 w2,Mod NoB w1 w2->TY wb f pl i v w1->TY wb f pl i v w2:=by
 intro i v w1 w2 hm h
 unfold TY at *
 split at h
 ·split at h
  ·next h9=>rw [if_pos h9]; exact h.no hm
  ·next h9=>rw [if_neg h9]; exact ⟨h.1.no hm,h.2⟩
 ·exact h.elim
theorem TY.mk {wb w:World} {f:Nat->zY} {pl:List (zY)} {i:Nat} {x:Slc} (hi:i≠15) (h1:Sh.Own w x 1 (bys (f i))) (h2:FB wb x):TY wb f pl i (.slice x.a x.len x.cap) w:=by
 unfold TY; simp only []; rw [if_neg hi]; exact ⟨h1,h2⟩
theorem TY.get {wb w:World} {f:Nat->zY} {pl:List (zY)} {i:Nat} {x:Slc} (hi:i≠15) (h:TY wb f pl i (.slice x.a x.len x.cap) w):Sh.Own w x 1 (bys (f i))/\FB wb x:=by
 unfold TY at h; simp only [] at h; rw [if_neg hi] at h; exact h
theorem TY.mkR {wb w:World} {f:Nat->zY} {pl:List (zY)} {x:Slc} (h:dZ wb w x pl):TY wb f pl 15 (.slice x.a x.len x.cap) w:=h
theorem TY.getR {wb w:World} {f:Nat->zY} {pl:List (zY)} {x:Slc} (h:TY wb f pl 15 (.slice x.a x.len x.cap) w):dZ wb w x pl:=h
def gJ (h:Hd):List (zY):=[[1],eG h.a,bI h.b,bI h.c,bI (h.d.len:Int)]
def tR (h:Hd) (i:Nat):zY:=if i=0 then [1] else if i=3 then h.a else if i=4 then eG h.a else if i=7 then bI h.b else if i=10 then bI h.c else if i=14 then bI (h.d.len:Int) else (gJ h).flatten
theorem qJC {W:World} {a b c:Slc} {p q r:zY} (ha:aK W a 1 (bys p)/\∀ x,a.blk=some x->x<W.heap.size) (hb:aK W b 1 (bys q)/\∀ x,b.blk=some x->x<W.heap.size) (hc:aK W c 1 (bys r)/\∀ x,c.blk=some x->x<W.heap.size) :
 ∀ i (h:i<[a,b,c].length) (h':i<[p,q,r].length),aK W [a,b,c][i] 1 (bys [p,q,r][i])/\∀ x,[a,b,c][i].blk=some x->x<W.heap.size:=by
 intro i hi h9
 match i,hi with
 | 0,_=>exact ha
 | 1,_=>exact hb
 | 2,_=>exact hc
section
variable {w:World}
theorem fT {n:Int} : Calls prog 281 #[.int .i64 n] w (Ret (RL (bI n) w)):=by
 refine qQK _ ?_
 unfold qSX
 obtain ⟨t7,k5,k6,p8,p9⟩:=i5
 refine ⟨λl' w'=>match l' with | [.sl o,.i _ x]=>∃ m:Nat,x=(7:Int) - (m:Int)/\m<=8/\Sh.Own w' o 1 (bys ((bI n).take m))/\FB w o/\Mod NoB w w' | _=>False,λl' _=>match l' with | [.sl _,.i _ x]=>(x+1).toNat | _=>0,⟨0,rfl,by omega,bK _ _,FB.nil _,Mod.refl _ _⟩,?_⟩
 rintro o x w1 ⟨m,rfl,hm,ho,hf,k3⟩
 refine aC (λh=>?_) λh=>?_
 ·have h9:m<8:=by have:=of_decide_eq_true h; omega
  have u0:o.len=m:=by have:=ho.1; simp at this; omega
  rw [jCQ h9,Int.toNat_natCast,<-qU (n:=n) h9]
  refine ⟨by omega,?_⟩
  refine fQ [(bI n)[m]'(by simp; exact h9)] rfl rfl (by omega) (by omega) λy b w2 k4 ey hb2 q8=>⟨y,rfl,?_⟩
  have hyl:y.len=1:=by rw [ey]
  refine aS u26 k5 k6 p8 rfl p9 (ho.no k4.mod) q8.rd (eX _) (by omega) (by omega) λo' w3 q9 hlen hblk t6=>⟨o',rfl,⟨m+1,?_,by omega,?_,hf.step (Nat.le_trans k3.size k4.mod.size) hblk,hf.mod (k3.tr k4.mod) t6⟩,?_⟩
  ·rw [wrap_i64 (by omega)]; omega
  ·rw [aL (show m<(bI n).length by simp; exact h9),gV]; exact q9
  ·rw [wrap_i64 (by omega)]; (try simp only []); omega
 ·have h9:m=8:=by have:=of_decide_eq_false h; omega
  subst h9
  rw [List.take_of_length_le (by simp)] at ho
  exact ⟨o,rfl,ho,hf,k3⟩
theorem nX {parts:Slc} {pl:List (zY)} {X:Nat->Prop} (hp:PartsAt w parts pl X) (t6 : ∀ x,X x->x<w.heap.size) (hn:pl.flatten.length<=1000000000) (hpl:pl.length<=1000000000) :
 Calls prog 212 #[.slice parts.a parts.len parts.cap] w (Ret (RL pl.flatten w)):=by
 refine qNA _ ?_
 unfold qXX
 obtain ⟨t7,k4,k5,k6,p8⟩:=i5
 obtain ⟨ss,g1,g2,g3,g4⟩:=hp
 have hsl:ss.length=parts.len:=by have:=g1.1; simp at this; omega
 have htk : ∀ n,(pl.take n).flatten.length<=pl.flatten.length:=λn=>by
  conv=>rhs; rw [<-List.take_append_drop n pl,List.flatten_append,List.length_append]
  omega
 refine ⟨λl' w'=>match l' with | [.sl o,.i _ x]=>∃ k:Nat,x=(k:Int)/\k<=pl.length/\Sh.Own w' o 1 (bys (pl.take k).flatten)/\FB w o/\Mod NoB w w' | _=>False,λl' _=>match l' with | [.sl _,.i _ x]=>(pl.length - x).toNat | _=>0,⟨0,rfl,by omega,bK _ _,FB.nil _,Mod.refl _ _⟩,?_⟩
 rintro o x w1 ⟨k,rfl,hk,ho,hf,h9⟩
 refine aC (λh=>?_) λh=>?_
 ·have hkl:k<pl.length:=by have:=of_decide_eq_true h; omega
  have hks:k<ss.length:=by omega
  obtain ⟨a0,p9,k3⟩:=vT (g1.no h9) (i:=k) (by simp; omega)
  rw [p9]
  have ei:(ss.map Slc.val)[k]'(by simp; omega)=ss[k].val:=by simp
  rw [ei] at k3
  have u0:=aV ho.rd
  have u1:=aV (g4 k hks hkl).1
  have etk:(pl.take (k+1)).flatten=(pl.take k).flatten++pl[k]:=by rw [aL hkl,List.flatten_append]; simp
  have h1:=htk (k+1)
  rw [etk,List.length_append] at h1
  refine ⟨⟨by omega,by omega⟩,ss[k],k3,?_⟩
  refine aS u26 k4 k5 k6 rfl p8 ho ((g4 k hks hkl).1.no h9) (eX _) (by omega) (by omega) λo' w3 q8 hlen hblk q9=>⟨o',rfl,⟨k+1,aI (by omega),by omega,?_,hf.step h9.size hblk,hf.mod h9 q9⟩,?_⟩
  ·rw [etk,gV]; exact q8
  ·rw [aI (by omega)]; (try simp only []); omega
 ·have hkk:k=pl.length:=by have:=of_decide_eq_false h; omega
  subst hkk
  rw [List.take_length] at ho
  exact ⟨o,rfl,ho,hf,h9⟩
theorem uN {b:Slc} {l:zY} (hb:aK w b 1 (bys l)) (hn:l.length<=900000000):Calls prog 280 #[.slice b.a b.len b.cap] w (Ret (RL (eG l) w)):=by
 refine qMN _ ?_
 unfold qSR
 obtain ⟨q8,k4,k5,k6,p8⟩:=i5
 have hl:=aV hb
 refine dP fT λx w1 ho hf h9=>?_
 rw [show ((b.len:Nat):Int)=((l.length:Nat):Int) by omega] at ho
 have hxl:=aV ho.rd
 simp at hxl
 refine aS u26 k4 k5 k6 rfl p8 ho (hb.no h9) (eX _) (by omega) (by omega) λo' w3 k3 hlen hblk p9=>⟨o',rfl,o',rfl,?_,hf.step h9.size hblk,hf.mod h9 p9⟩
 rw [<-gV] at k3; exact k3
theorem qHW {h:Hd} {r:Rc} (H:bH w h r) (hs:r.shaped=true):Calls prog 213 #[h.val] w (Ret (RL r.text w)):=by
 refine qLO h.a h.b h.c h.d h.e h.f h.g ?_
 unfold qVO
 obtain ⟨a8,i6,i7,i8⟩:=H.sm
 refine aQ (v:=h.val) (l:=h.cells) rfl λp w1 hN hb=>⟨_,rfl,h.a,h.b,h.c,h.d,h.e,h.f,h.g,rdH hb,?_⟩
 refine aB (lW (h:=h) (H.no hN.mod)) ?_
 rintro u w2 ⟨rfl,y8⟩
 rw [hs]
 refine ⟨_,rfl,aC (λh=>by cases h) λ_=>?_⟩
 have u2:Mod NoB w w2.drew:=(hN.mod.tr y8).tr (Mod.drew _ _)
 have p8:=(hb.no y8).drew
 refine ⟨Mod NoB w2.drew,Mod.refl _ _,TY w2.drew (tR h) (gJ h),TY.stable _ _ _,Mod.refl _ _,?_⟩
 refine ⟨λw5 hm _=>fQ [1] rfl rfl (by omega) (by omega) λy yb w6 v6 ey o0 k3=>⟨y,rfl,v6.mod,hm.tr v6.mod,TY.mk (by omega) k3 (by subst ey; exact FB.new (by have:=v6.at_; have:=hm.size; omega))⟩,λx2=>?_⟩
 refine ⟨h.a,λw' hm=>bT (i:=0) (p8.no hm) rfl,?_⟩
 refine ⟨λw5 hm _=>oB (by exact qL) u26 uU8 λy w6 k3 hlen hblk h9 j2=>⟨y,rfl,h9,hm.tr h9,TY.mk (by omega) k3 (λz hz=>by
  rcases hblk with e | e
  ·rw [e] at hz; cases hz; exact hm.size
  ·rw [e] at hz; cases hz)⟩,λx5=>?_⟩
 refine ⟨λw5 hm _ ht=>?_,λx7=>?_⟩
 ·obtain ⟨ho,hf⟩:=ht.get (by omega)
  refine dP (uN (l:=h.a) ho.rd (by rw [H.key]; omega)) λy w6 k3 k5 h9=>⟨h9,hm.tr h9,TY.mk (by omega) k3 (k5.le hm.size)⟩
 refine ⟨h.b,λw' hm=>bT (i:=1) (p8.no hm) rfl,?_⟩
 refine ⟨λw5 hm _ ht=>dP fT λy w6 k3 k5 h9=>⟨h9,hm.tr h9,TY.mk (by omega) k3 (k5.le hm.size)⟩,λx10=>?_⟩
 refine ⟨h.c,λw' hm=>bT (i:=2) (p8.no hm) rfl,?_⟩
 refine ⟨λw5 hm _ ht=>dP fT λy w6 k3 k5 h9=>⟨h9,hm.tr h9,TY.mk (by omega) k3 (k5.le hm.size)⟩,λx13=>?_⟩
 refine ⟨h.d,λw' hm=>bT (i:=3) (p8.no hm) rfl,?_⟩
 refine ⟨λw5 hm _ ht=>dP fT λy w6 k3 k5 h9=>⟨h9,hm.tr h9,TY.mk (by omega) k3 (k5.le hm.size)⟩,λx16=>?_⟩
 refine ⟨λw5 hm _ t14 t10 t7 t4 t0=>?_,λx18=>?_⟩
 ·have g : ∀ {i:Nat} {y:Slc},i≠15->TY w2.drew (tR h) (gJ h) i (.slice y.a y.len y.cap) w5->aK w5 y 1 (bys (tR h i))/\∀ z,y.blk=some z->z<w5.heap.size:=λhi ht=>⟨(ht.get hi).1.rd,λz hz=>(ht.get hi).1.lt hz⟩
  exact fL [x2,x7,x10,x13,x16] _ rfl rfl (by omega) (by omega) hm rfl (qVC (g (by omega) t0) (g (by omega) t4) (g (by omega) t7) (g (by omega) t10) (g (by omega) t14)) λy w6 hR h9 hz=>⟨y,rfl,h9,hm.tr h9,TY.mkR hR⟩
 have v7:(gJ h).flatten.length=33+r.key.length:=by simp [gJ,jC,H.key]; omega
 refine ⟨λw5 hm _ t15 _=>?_,λj3=>?_⟩
 ·refine dP (nX t15.getR.parts (λ_ h=>h) (by rw [v7]; omega) (by simp [gJ])) λy w6 k3 k5 h9=>⟨h9,hm.tr h9,TY.mk (by omega) k3 (k5.le hm.size)⟩
 intro j4 v8 _ t16 t15 t14 t10 t7 t4 t3 t0
 obtain ⟨q9,y0⟩:=t16.get (by omega)
 have q9:Sh.Own j4 j3 1 (bys (gJ h).flatten):=q9
 have hdl:=dW H.ctx
 let cb:List (Int×Int)->zY:=λl=>l.flatMap λd=>bI d.1++bI d.2
 have y9 : ∀ l,(cb l).length=l.length*16:=λl=>by
  rw [show cb l=(rW l).flatten from (jE l).symm,fW]
 refine ⟨λl w'=>match l with | [.sl y,.i _ x]=>∃ k:Nat,x=(k:Int)/\k<=r.ctx.length/\Sh.Own w' y 1 (bys ((gJ h).flatten++cb (r.ctx.take k)))/\FB w2.drew y/\Mod NoB w2.drew w' | _=>False,λl _=>match l with | [.sl _,.i _ x]=>(r.ctx.length - x).toNat | _=>0,⟨0,rfl,by omega,by simpa [cb] using q9,y0,v8⟩,?_⟩
 rintro y x u1 ⟨k,rfl,hk,u9,o1,k4⟩
 have j5:=u2.tr k4
 have o2 : ∀ z,y.blk=some z->z<u1.heap.size:=λz hz=>u9.lt hz
 refine ⟨h.d,bT (i:=3) (p8.no k4) rfl,aC (λhlt=>?_) λhge=>?_⟩
 ·have hlt:k<r.ctx.length:=by have:=of_decide_eq_true hlt; omega
  have hm20d:=k4.tr (Mod.drew NoB u1)
  obtain ⟨a,ea,hr⟩:=fP (H.ctx.no (u2.tr hm20d)) hlt
  have z1 : ∀ w',Mod NoB u1.drew w'->Rd w' (Addr.add ⟨p,0,none⟩ 3) [h.d.val]:=λw' hm=>bT (i:=3) (p8.no (hm20d.tr hm)) rfl
  refine ⟨Mod NoB u1.drew,Mod.refl _ _,h.d,z1,⟨by omega,by omega⟩,?_⟩
  rw [ea]
  refine ⟨r.ctx[k].1,λw' hm=>(cW.2 (hr 0 _ rfl)).mod hm λh=>h,h.d,z1,⟨by omega,by omega⟩,?_⟩
  rw [ea]
  refine ⟨r.ctx[k].2,λw' hm=>(cW.2 (hr 1 _ rfl)).mod hm λh=>h,?_,trivial⟩
  refine dP fT λna z6 z7 hfa y1=>⟨y1,?_,trivial⟩
  refine dP fT λnb j6 z8 o3 v1=>⟨y1.tr v1,?_,trivial⟩
  have t6:=y1.tr v1
  have u3:=((u9.no (Mod.drew NoB u1)).no t6)
  refine fL (wb:=j6) [y,na,nb] [(gJ h).flatten++cb (r.ctx.take k),bI r.ctx[k].1,bI r.ctx[k].2] rfl rfl (by omega) (by omega) (Mod.refl _ _) rfl (qJC ⟨u3.rd,λz hz=>u3.lt hz⟩ ⟨(z7.no v1).rd,λz hz=>(z7.no v1).lt hz⟩ ⟨z8.rd,λz hz=>z8.lt hz⟩) λyl b5 hRl k6 hyl=>⟨yl,rfl,t6.tr k6,?_,trivial⟩
  have p9:=t6.tr k6
  have etk:cb (r.ctx.take (k+1))=cb (r.ctx.take k)++(bI r.ctx[k].1++bI r.ctx[k].2):=by
   show (r.ctx.take (k+1)).flatMap _=_
   rw [aL hlt,List.flatMap_append]; simp [cb]
  have hfl:[(gJ h).flatten++cb (r.ctx.take k),bI r.ctx[k].1,bI r.ctx[k].2].flatten=(gJ h).flatten++cb (r.ctx.take (k+1)):=by
   rw [etk]; simp
  have u4:=hm20d.tr p9
  refine dP (nX hRl.parts (λ_ h=>h) (by rw [hfl,List.length_append,v7,y9,List.length_take]; omega) (by simp)) λt b6 y2 y5 hmt=>⟨p9.tr hmt,⟨k+1,aI (by omega),by omega,by rw [<-hfl]; exact y2,y5.le u4.size,u4.tr hmt⟩,?_⟩
  rw [aI (by omega)]; (try simp only []); omega
 ·have hkk:k=r.ctx.length:=by have:=of_decide_eq_false hge; omega
  subst hkk
  rw [List.take_length] at u9
  refine ⟨λl w'=>match l with | [.u8 c]=>c=(if r.gone then 1 else 0)/\w'=u1 | _=>False,?_,?_⟩
  ·refine ⟨h.e,bT (i:=4) (p8.no k4) rfl,aC (λhe=>⟨?_,rfl⟩) λhe=>⟨?_,rfl⟩⟩
   ·rw [H.gone] at he; rw [he]; rfl
   ·rw [H.gone] at he; rw [he]; rfl
  rintro c o4 ⟨rfl,rfl⟩
  refine fQ [if r.gone then 1 else 0] rfl rfl (by omega) (by omega) λgb o5 o6 u5 eg a6 a7=>⟨gb,rfl,?_⟩
  have u0:=k4.tr u5.mod
  refine ⟨h.f,bT (i:=5) (p8.no u0) rfl,?_⟩
  refine dP (uN (H.val.no (u2.tr u0)) (by omega)) λvb z6 hov o7 hmv=>?_
  have y7:=u0.tr hmv
  have u6:=(u9.no u5.mod).no hmv
  have u7:=a7.no hmv
  refine fL (wb:=z6) [y,gb,vb] [(gJ h).flatten++cb r.ctx,[if r.gone then 1 else 0],eG r.val] rfl rfl (by omega) (by omega) (Mod.refl _ _) rfl (qJC ⟨u6.rd,λz hz=>u6.lt hz⟩ ⟨u7.rd,λz hz=>u7.lt hz⟩ ⟨hov.rd,λz hz=>hov.lt hz⟩) λyl b5 hRl k6 hyl=>⟨yl,rfl,?_⟩
  have hfin:[(gJ h).flatten++cb r.ctx,[if r.gone then 1 else 0],eG r.val].flatten=r.text:=by
   simp only [gJ,H.key,H.cl,H.sq,<-hdl,cb]
   simp [Rc.text]
  have q8:=y7.tr k6
  refine dP (nX hRl.parts (λ_ h=>h) ?_ (by simp)) λt b6 y2 y5 hmt=>⟨t,rfl,by rw [<-hfin]; exact y2,y5.le (u2.tr q8).size,(u2.tr q8).tr hmt⟩
  have e1:[(gJ h).flatten++cb r.ctx,[if r.gone then (1:UInt8) else 0],eG r.val].flatten.length=(gJ h).flatten.length+(cb r.ctx).length+1+(eG r.val).length:=by simp; omega
  rw [e1,v7,y9,jC]; omega
theorem qRM {h:Hd} {r:Rc} (H:bH w h r) (hr:r.right=true):Calls prog 127 #[h.val] w (Ret λv w'=>∃ x:Slc,v = .tuple #[x.val,.int .i64 0]/\Sh.Own w' x 1 (bys r.enc)/\Mod NoB w w'):=by
 refine qQV h.a h.b h.c h.d h.e h.f h.g ?_
 unfold qWF
 obtain ⟨q8,q9,t6,t7⟩:=H.sm
 have hs:r.shaped=true:=by simp only [Rc.right,Bool.and_eq_true] at hr; exact hr.1
 refine aQ (v:=h.val) (l:=h.cells) rfl λp w1 hN hb=>⟨_,rfl,h.a,h.b,h.c,h.d,h.e,h.f,h.g,rdH hb,?_⟩
 refine aB (lY (h:=h) (H.no hN.mod)) ?_
 rintro u w2 ⟨rfl,k5⟩
 rw [hr]
 refine ⟨_,rfl,aC (λh=>by cases h) λ_=>?_⟩
 have k3:Mod NoB w w2.drew:=(hN.mod.tr k5).tr (Mod.drew _ _)
 have k6:=(hb.no k5).drew
 refine ⟨Mod NoB w2.drew,Mod.refl _ _,h.a,h.b,h.c,h.d,h.e,h.f,h.g,λw' hm=>rdH (k6.no hm),h.g,λw' hm=>bT (i:=6) (k6.no hm) rfl,?_,trivial⟩
 refine dP (qHW (h:=h) (H.no k3) hs) λx w3 p8 u0 h9=>⟨h9,?_,trivial⟩
 have hg3:=H.sig.no (k3.tr h9)
 refine fL (wb:=w3) [x,h.g] [r.text,r.sig] rfl rfl (by omega) (by omega) (Mod.refl _ _) rfl (uM p8.rd (λz hz=>p8.lt hz) hg3 (λz hz=>Nat.lt_of_lt_of_le (H.lt z (.inr (.inr hz))) (k3.tr h9).size)) λyl w4 hRl k4 hyl=>⟨yl,rfl,h9.tr k4,?_,trivial⟩
 have hfl:[r.text,r.sig].flatten=r.enc:=by simp [Rc.enc]
 have htl:r.text.length<=100000000:=by
  have:r.text.length=42+r.key.length+r.ctx.length*16+r.val.length:=by
   have e:(r.ctx.flatMap λd=>bI d.1++bI d.2).length=r.ctx.length*16:=by rw [<-jE,fW]
   simp only [Rc.text,List.length_append,List.length_cons,List.length_nil,jF,jC,e]; omega
  omega
 refine dP (nX hRl.parts (λ_ h=>h) (by rw [hfl,Rc.enc,List.length_append]; omega) (by simp)) λt w5 p9 u1 hmt=>⟨(h9.tr k4).tr hmt,t,rfl,by rw [<-hfl]; exact p9,((k3.tr h9).tr k4).tr hmt⟩
theorem xQ {h:Hd} {r:Rc} (H:bH w h r) (hr:r.right=true):Calls prog 66 #[h.val] w (Ret λv w'=>v = .string ⟨r.enc.toArray⟩/\Mod NoB w w'):=by
 refine jBL h.a h.b h.c h.d h.e h.f h.g ?_
 unfold jFD
 refine aQ (v:=h.val) (l:=h.cells) rfl λp w1 hN hb=>⟨_,rfl,h.a,h.b,h.c,h.d,h.e,h.f,h.g,rdH hb,?_⟩
 refine aB (qRM (h:=h) (H.no hN.mod) hr) ?_
 rintro u w2 ⟨x,rfl,ho,h9⟩
 exact ⟨x,0,rfl,fG (e:=5) u26 qL uU8 ho.rd ⟨_,rfl,rfl,hN.mod.tr h9⟩⟩
end
section
variable {w:World}
theorem jAW {seed:Slc} {sl:zY} {h:Hd} {r:Rc} (hg:iW w) (hs:aK w seed 1 (bys sl)) (hsl : ∀ z,seed.blk=some z->z<w.heap.size) (hl:sl.length=32) (H:bH w h r) (hsh:r.shaped=true) :
 Calls prog 55 #[.slice seed.a seed.len seed.cap,h.val] w (Ret λv w'=>∃ (h':Hd) (sg:zY),v = .tuple #[h'.val,.int .i64 0]/\bH w' h' {r with sig:=sg}/\sg.length=64/\uW w h'/\Mod NoB w w'):=by
 refine jCD _ h.a h.b h.c h.d h.e h.f h.g ?_
 unfold jHN
 obtain ⟨ir,hr1,hr2,o2,o3⟩:=iF
 obtain ⟨iw,hw1,hw2,o4,o5⟩:=qKE
 obtain ⟨z8,j2,j3,o6⟩:=H.sm
 refine aQ (l:=h.cells) rfl λp w1 hN hb=>⟨_,rfl,?_⟩
 refine aN (l:=Hd.cells ⟨[],0,0,⟨none,0,0⟩,false,⟨none,0,0⟩,⟨none,0,0⟩⟩) hr1 hr2 rfl λx w2 t6 hb2=>⟨_,rfl,?_⟩
 refine ⟨h.a,h.b,h.c,h.d,h.e,h.f,h.g,rdH (hb.no t6.mod),?_⟩
 refine aN (l:=Hd.cells ⟨[],0,0,⟨none,0,0⟩,false,⟨none,0,0⟩,⟨none,0,0⟩⟩) hw1 hw2 rfl λq w3 t7 hb3=>⟨_,rfl,?_⟩
 refine cB (h:=h) (by kernel_rfl) (by kernel_rfl) hb3 rfl λw4 u2 y2=>?_
 have e1:=hN.at_; have e2:=t6.at_; have e3:=t7.at_; have e4:=hN.size; have e5:=t6.size; have e6:=t7.size
 have q9:Mod NoB w w4:=((hN.mod.tr t6.mod).tr t7.mod).fresh u2.mod λz e=>by omega
 have y5:=(hb.no (t6.mod.tr t7.mod)).mod u2.mod (by omega)
 have j4:=(hb2.no t7.mod).mod u2.mod (by omega)
 refine aB (qKD (hg.no q9) (hs.no q9) (λz hz=>Nat.lt_of_lt_of_le (hsl z hz) q9.size) hl) ?_
 rintro v w5 ⟨b,lb,rfl,hlb,o7,hsb,u3⟩
 refine ⟨⟨some ⟨b,0,none⟩,32,32⟩,rfl,?_⟩
 refine kG (e:=5) u26 ⟨_,rfl,aC (λh=>by simp at h) λ_=>?_⟩
 have j5:=q9.tr u3
 refine ⟨h.a,h.b,h.c,h.d,h.e,h.f,h.g,rdH (y2.no u3),?_⟩
 refine aB (lL (h:=h) (H.no j5)) ?_
 rintro u w7 ⟨rfl,j6⟩
 rw [hsh]
 refine ⟨_,rfl,aC (λh=>by cases h) λ_=>?_⟩
 have p8:=u3.tr j6
 have y7:=q9.tr p8
 refine ⟨h.a,h.b,h.c,h.d,h.e,h.f,h.g,rdH (y5.no p8),?_⟩
 refine aB (jHA (h:=h) (H.no y7)) ?_
 rintro u w9 ⟨h',rfl,H',y8,b5⟩
 refine ⟨h'.a,h'.b,h'.c,h'.d,h'.e,h'.f,h'.g,rfl,?_⟩
 have k5:=p8.tr b5
 have b6:=q9.tr k5
 have s4:w4.heap.size=w3.heap.size:=u2.size
 have s7:=p8.size
 refine cB (h:=h') (by kernel_rfl) (by kernel_rfl) (y5.no k5) rfl λu4 k6 u5=>?_
 have q8:Mod NoB w u4:=b6.fresh k6.mod λz e=>by omega
 have H10:bH u4 h' r:=H'.mod k6.mod λz hz e=>by have:=y8 z hz; omega
 have u6:=(y2.no k5).mod k6.mod (by omega)
 have u7:=(j4.no k5).mod k6.mod (by omega)
 refine ⟨h.a,h.b,h.c,h.d,h.e,h.f,h.g,rdH u6,?_⟩
 refine dP (qEA (h:=h) (H.no q8)) λtx a6 y9 o8 u9=>?_
 refine fL (wb:=a6) [tx] [r.text] rfl rfl (by omega) (by omega) (Mod.refl _ _) rfl (qTB y9.rd λz hz=>y9.lt hz) λty a7 hR v1 _=>⟨ty,rfl,?_⟩
 have k4:=u9.tr v1
 have p9:=q8.tr k4
 obtain ⟨ss,o1,f1,l1,c1⟩:=hR
 refine yZ (jBF (hg.no p9) (hs.no p9) (λz hz=>Nat.lt_of_lt_of_le (hsl z hz) p9.size) hl o1.rd (λz hz=>o1.lt hz) l1 (λi a b=>⟨(c1 i a b).1,λz hz=>((c1 i a b).2 z hz).1⟩) (by have:=rM (r:=r); simp; omega) (by simp)) λsg lg a8 z1 i6 i7 v6=>?_
 have k3:=k4.tr v6
 have v7:=q8.tr k3
 refine dH (i:=6) (by kernel_rfl) (by kernel_rfl) rfl (u5.no k3) (by rw [Hd.len]; omega) λi8 u0 v8=>?_
 have u1:Blk i8 p (Hd.cells ⟨h'.a,h'.b,h'.c,h'.d,h'.e,h'.f,sg⟩) 40:=v8
 refine ⟨h'.a,h'.b,h'.c,h'.d,h'.e,h'.f,sg,rdH u1,?_⟩
 refine cB (h:=⟨h'.a,h'.b,h'.c,h'.d,h'.e,h'.f,sg⟩) (by kernel_rfl) (by kernel_rfl) ((u7.no k3).mod u0.mod (by omega)) rfl λo0 y0 y1=>?_
 refine ⟨h'.a,h'.b,h'.c,h'.d,h'.e,h'.f,sg,rdH y1,?_⟩
 have h9:Mod (λz=>z=p\/z=x) a8 o0:=(u0.mod.mono λ_ _ e=>.inl e).tr (y0.mod.mono λ_ _ e=>.inr e)
 have hnew : ∀ z,h'.d.blk=some z\/h'.f.blk=some z\/h'.g.blk=some z->w7.heap.size<=z:=y8
 have z6 : ∀ z,sg.blk=some z->a7.heap.size<=z:=i7
 have o9:=k4.size; have r0:u4.heap.size=w9.heap.size:=k6.size; have s9:=k5.size
 have H13:=H10.no k3
 refine ⟨⟨h'.a,h'.b,h'.c,h'.d,h'.e,h'.f,sg⟩,lg,rfl,⟨H'.key,H'.cl,H'.sq,H'.gone,H13.ctx.mod h9 λz hz e=>?_,H13.val.mod h9 λz hz e=>?_,z1.rd.mod h9 λz hz e=>?_,⟨z8,j2,j3,by show lg.length<=1000000; omega⟩,?_⟩,i6,?_,v7.fresh h9 λz e=>?_⟩
 ·have:=hnew z (.inl hz); omega
 ·have:=hnew z (.inr (.inl hz)); omega
 ·have:=z6 z hz; omega
 ·rintro z (hz | hz | hz)
  ·exact Nat.lt_of_lt_of_le (H13.lt z (.inl hz)) h9.size
  ·exact Nat.lt_of_lt_of_le (H13.lt z (.inr (.inl hz))) h9.size
  ·exact Nat.lt_of_lt_of_le (z1.lt hz) h9.size
 ·have z7:=y7.size
  rintro z (hz | hz | hz)
  ·exact Nat.le_trans z7 (hnew z (.inl hz))
  ·exact Nat.le_trans z7 (hnew z (.inr (.inl hz)))
  ·have:=z6 z hz; have:=p9.size; omega
 ·omega
end
def sh7 (w:World) (R:RW):Prop:=
 aD prog 27 [.string ⟨([107]).toArray⟩,.int .i64 1,.int .i64 1,.slice none 0 0] w (aG R) λv w1=>∃ xa:zY,∃ xb xc:Int,∃ xd:Slc,∃ xe:Bool,∃ xf xg:Slc,v=(zR xa xb xc xd xe xf xg)/\aD prog 27 [.string ⟨([107]).toArray⟩,.int .i64 2,.int .i64 1,.slice none 0 0] w1 (aG R) λv1 w2=>∃ xa1:zY,∃ xb1 xc1:Int,∃ xd1:Slc,∃ xe1:Bool,∃ xf1 xg1:Slc,v1=(zR xa1 xb1 xc1 xd1 xe1 xf1 xg1)/\aH prog (Instr.alloc 40 true (.tuple #[])) w2 λv2 w3=>∃ a:zO,v2=(.pointer a)/\aH prog (Instr.alloc 40 true (.tuple #[])) w3 λv3 w4=>∃ b:zO,v3=(.pointer b)/\aA a λa1=>aJ prog (storeVar 40 a1 (zR xa xb xc xd xe xf xg)) w4 λw5=>aA b λa2=>aJ prog (storeVar 40 a2 (zR xa1 xb1 xc1 xd1 xe1 xf1 xg1)) w5 λw6=>aH prog (Instr.buildSlice 37 1 #[(0,(.agg #[.int .i64 1,.int .i64 1]))]) w6 λv4 w7=>∃ x:Slc,v4=(zS x)/\aD prog 27 [.string ⟨([107]).toArray⟩,.int .i64 3,.int .i64 1,zS x] w7 (aG R) λv5 w8=>∃ xa2:zY,∃ xb2 xc2:Int,∃ xd2:Slc,∃ xe2:Bool,∃ xf2 xg2:Slc,v5=(zR xa2 xb2 xc2 xd2 xe2 xf2 xg2)/\aH prog (Instr.alloc 40 true (.tuple #[])) w8 λv6 w9=>∃ c:zO,v6=(.pointer c)/\aA c λa3=>aJ prog (storeVar 40 a3 (zR xa2 xb2 xc2 xd2 xe2 xf2 xg2)) w9 λw10=>∃ sx:zP,sx w10.drew/\aA c λa4=>∃ xa3:zY,∃ xb3 xc3:Int,∃ xd3:Slc,∃ xe3:Bool,∃ xf3 xg3:Slc,(∀ w',sx w'->Rd w' a4 (yR xa3 xb3 xc3 xd3 xe3 xf3 xg3))/\aA a λa5=>∃ xa4:zY,∃ xb4 xc4:Int,∃ xd4:Slc,∃ xe4:Bool,∃ xf4 xg4:Slc,(∀ w',sx w'->Rd w' a5 (yR xa4 xb4 xc4 xd4 xe4 xf4 xg4))/\aA b λa6=>∃ xa5:zY,∃ xb5 xc5:Int,∃ xd5:Slc,∃ xe5:Bool,∃ xf5 xg5:Slc,(∀ w',sx w'->Rd w' a6 (yR xa5 xb5 xc5 xd5 xe5 xf5 xg5))/\aA b λa7=>∃ xa6:zY,∃ xb6 xc6:Int,∃ xd6:Slc,∃ xe6:Bool,∃ xf6 xg6:Slc,(∀ w',sx w'->Rd w' a7 (yR xa6 xb6 xc6 xd6 xe6 xf6 xg6))/\aA c λa8=>∃ xa7:zY,∃ xb7 xc7:Int,∃ xd7:Slc,∃ xe7:Bool,∃ xf7 xg7:Slc,(∀ w',sx w'->Rd w' a8 (yR xa7 xb7 xc7 xd7 xe7 xf7 xg7))/\((aH prog (Instr.buildSlice 22 3 #[(0,(zR xa3 xb3 xc3 xd3 xe3 xf3 xg3)),(1,(zR xa4 xb4 xc4 xd4 xe4 xf4 xg4)),(2,(zR xa5 xb5 xc5 xd5 xe5 xf5 xg5))]) w10.drew λv7 w11=>∃ x1:Slc,v7=(zS x1)/\(sx w11/\((aD prog 11 [zS x1] w11 (aG R) λv8 w12=>∃ x2:Slc,v8=(zS x2)/\(sx w12/\((aH prog (Instr.buildSlice 22 2 #[(0,(zR xa6 xb6 xc6 xd6 xe6 xf6 xg6)),(1,(zR xa7 xb7 xc7 xd7 xe7 xf7 xg7))]) w12 λv9 w13=>∃ x3:Slc,v9=(zS x3)/\(sx w13/\((aD prog 14 [zS x2,zS x3] w13 (aG R) λv10 w14=>∃ x4:Bool,v10=(.bool x4)/\(sx w14/\aE x4 (aA a λa9=>∃ xa8:zY,∃ xb8 xc8:Int,∃ xd8:Slc,∃ xe8:Bool,∃ xf8 xg8:Slc,(∀ w',sx w'->Rd w' a9 (yR xa8 xb8 xc8 xd8 xe8 xf8 xg8))/\aA b λa10=>∃ xa9:zY,∃ xb9 xc9:Int,∃ xd9:Slc,∃ xe9:Bool,∃ xf9 xg9:Slc,(∀ w',sx w'->Rd w' a10 (yR xa9 xb9 xc9 xd9 xe9 xf9 xg9))/\aA c λa11=>∃ xa10:zY,∃ xb10 xc10:Int,∃ xd10:Slc,∃ xe10:Bool,∃ xf10 xg10:Slc,(∀ w',sx w'->Rd w' a11 (yR xa10 xb10 xc10 xd10 xe10 xf10 xg10))/\((aH prog (Instr.buildSlice 22 3 #[(0,(zR xa8 xb8 xc8 xd8 xe8 xf8 xg8)),(1,(zR xa9 xb9 xc9 xd9 xe9 xf9 xg9)),(2,(zR xa10 xb10 xc10 xd10 xe10 xf10 xg10))]) w14 λv11 w15=>∃ x5:Slc,v11=(zS x5)/\(sx w15/\((aD prog 10 [zS x5] w15 (aG R) λv12 w16=>∃ x6:Slc,v12=(zS x6)/\(sx w16/\R (.returned (.bool ((x6.len:Int)==(1:Int)))) w16))/\True)))/\True)) ((((sx w14/\(((sx w14/\zF R false w14))/\True)))/\True))))/\True)))/\True)))/\(aH prog (Instr.buildSlice 22 2 #[(0,(zR xa6 xb6 xc6 xd6 xe6 xf6 xg6)),(1,(zR xa7 xb7 xc7 xd7 xe7 xf7 xg7))]) w11 λv13 w17=>∃ x7:Slc,v13=(zS x7)/\(sx w17/\((aD prog 11 [zS x1] w17 (aG R) λv14 w18=>∃ x8:Slc,v14=(zS x8)/\(sx w18/\((aD prog 14 [zS x8,zS x7] w18 (aG R) λv15 w19=>∃ x9:Bool,v15=(.bool x9)/\(sx w19/\aE x9 (aA a λa12=>∃ xa11:zY,∃ xb11 xc11:Int,∃ xd11:Slc,∃ xe11:Bool,∃ xf11 xg11:Slc,(∀ w',sx w'->Rd w' a12 (yR xa11 xb11 xc11 xd11 xe11 xf11 xg11))/\aA b λa13=>∃ xa12:zY,∃ xb12 xc12:Int,∃ xd12:Slc,∃ xe12:Bool,∃ xf12 xg12:Slc,(∀ w',sx w'->Rd w' a13 (yR xa12 xb12 xc12 xd12 xe12 xf12 xg12))/\aA c λa14=>∃ xa13:zY,∃ xb13 xc13:Int,∃ xd13:Slc,∃ xe13:Bool,∃ xf13 xg13:Slc,(∀ w',sx w'->Rd w' a14 (yR xa13 xb13 xc13 xd13 xe13 xf13 xg13))/\((aH prog (Instr.buildSlice 22 3 #[(0,(zR xa11 xb11 xc11 xd11 xe11 xf11 xg11)),(1,(zR xa12 xb12 xc12 xd12 xe12 xf12 xg12)),(2,(zR xa13 xb13 xc13 xd13 xe13 xf13 xg13))]) w19 λv16 w20=>∃ x10:Slc,v16=(zS x10)/\(sx w20/\((aD prog 10 [zS x10] w20 (aG R) λv17 w21=>∃ x11:Slc,v17=(zS x11)/\(sx w21/\R (.returned (.bool ((x11.len:Int)==(1:Int)))) w21))/\True)))/\True)) ((((sx w19/\(((sx w19/\zF R false w19))/\True)))/\True))))/\True)))/\True)))/\True)))/\(aH prog (Instr.buildSlice 22 2 #[(0,(zR xa6 xb6 xc6 xd6 xe6 xf6 xg6)),(1,(zR xa7 xb7 xc7 xd7 xe7 xf7 xg7))]) w10.drew λv18 w22=>∃ x12:Slc,v18=(zS x12)/\(sx w22/\((aH prog (Instr.buildSlice 22 3 #[(0,(zR xa3 xb3 xc3 xd3 xe3 xf3 xg3)),(1,(zR xa4 xb4 xc4 xd4 xe4 xf4 xg4)),(2,(zR xa5 xb5 xc5 xd5 xe5 xf5 xg5))]) w22 λv19 w23=>∃ x13:Slc,v19=(zS x13)/\(sx w23/\((aD prog 11 [zS x13] w23 (aG R) λv20 w24=>∃ x14:Slc,v20=(zS x14)/\(sx w24/\((aD prog 14 [zS x14,zS x12] w24 (aG R) λv21 w25=>∃ x15:Bool,v21=(.bool x15)/\(sx w25/\aE x15 (aA a λa15=>∃ xa14:zY,∃ xb14 xc14:Int,∃ xd14:Slc,∃ xe14:Bool,∃ xf14 xg14:Slc,(∀ w',sx w'->Rd w' a15 (yR xa14 xb14 xc14 xd14 xe14 xf14 xg14))/\aA b λa16=>∃ xa15:zY,∃ xb15 xc15:Int,∃ xd15:Slc,∃ xe15:Bool,∃ xf15 xg15:Slc,(∀ w',sx w'->Rd w' a16 (yR xa15 xb15 xc15 xd15 xe15 xf15 xg15))/\aA c λa17=>∃ xa16:zY,∃ xb16 xc16:Int,∃ xd16:Slc,∃ xe16:Bool,∃ xf16 xg16:Slc,(∀ w',sx w'->Rd w' a17 (yR xa16 xb16 xc16 xd16 xe16 xf16 xg16))/\((aH prog (Instr.buildSlice 22 3 #[(0,(zR xa14 xb14 xc14 xd14 xe14 xf14 xg14)),(1,(zR xa15 xb15 xc15 xd15 xe15 xf15 xg15)),(2,(zR xa16 xb16 xc16 xd16 xe16 xf16 xg16))]) w25 λv22 w26=>∃ x16:Slc,v22=(zS x16)/\(sx w26/\((aD prog 10 [zS x16] w26 (aG R) λv23 w27=>∃ x17:Slc,v23=(zS x17)/\(sx w27/\R (.returned (.bool ((x17.len:Int)==(1:Int)))) w27))/\True)))/\True)) ((((sx w25/\(((sx w25/\zF R false w25))/\True)))/\True))))/\True)))/\True)))/\True)))/\True)
theorem jGQ {w:World} {R:RW} (h9:sh7 w R):Calls prog 7 #[] w R:=
 zC (q0 .z (q0 .z (q0 .z (q0 (.draw 1 (.take 0 (.take 1 (.take 2 (.take 5 (.take 6 (.all [(3,(.all [(4,(.all [(7,(.all [(8,(.take 9 (.take 10 (.take 11 (.take 12 (.all [(13,(.all [(14,(.take 15 (.take 16 (.take 17 (.take 18 .done)))))]))]))))))]))])),(7,(.all [(4,(.all [(8,(.take 9 (.take 10 (.take 11 (.take 12 (.all [(13,(.all [(14,(.take 15 (.take 16 (.take 17 (.take 18 .done)))))]))]))))))]))]))])),(7,(.all [(3,(.all [(4,(.all [(8,(.take 9 (.take 10 (.take 11 (.take 12 (.all [(13,(.all [(14,(.take 15 (.take 16 (.take 17 (.take 18 .done)))))]))]))))))]))]))]))]))))))) .z)))) func7 [] h9
def sh8 (l:Slc) (w:World) (R:RW):Prop:=
 ∃ (inv:zT) (mu:zU),inv [.i .i64 0] w/\(∀ i:Int,∀ w1:World,inv [.i .i64 i] w1->∃ j:zT,(aE (decide (i<l.len)) (j [.b (decide (i<17))] w1) (j [.b false] w1))/\(∀ x:Bool,∀ w2:World,j [.b x] w2->aE x ((zB i l.len/\aA l.a λa=>∃ x1:zY,Rd w2 ((a.add (i.toNat*7)).add 0) [.string ⟨x1.toArray⟩]/\aE (decide ((x1.length:Int) > (200:Int))) (zF R false w2) ((zB i l.len/\aA l.a λa1=>∃ x2:Slc,Rd w2 ((a1.add (i.toNat*7)).add 5) [zS x2]/\aE (decide ((x2.len:Int) > (2000:Int))) (zF R false w2) ((zB i l.len/\aA l.a λa2=>∃ x3:Slc,Rd w2 ((a2.add (i.toNat*7)).add 3) [zS x3]/\aE (decide ((x3.len:Int) > (50:Int))) (zF R false w2) ((zB i l.len/\aA l.a λa3=>∃ x4:Slc,Rd w2 ((a3.add (i.toNat*7)).add 6) [zS x4]/\aE (decide ((x4.len:Int) > (200:Int))) (zF R false w2) ((inv [.i .i64 (zW (i+1))] w2/\mu [.i .i64 (zW (i+1))] w2<mu [.i .i64 i] w1)))))))))) (R (.returned (.bool (decide ((l.len:Int)<=(16:Int))))) w2)))
theorem jDE (l:Slc) {w:World} {R:RW} (h9:sh8 l w R):Calls prog 8 #[zS l] w R:=
 zC (q0 .z (q0 (q0 .z (.block none (.loop [(3,(.i .i64))] (q0 (.seq (some [(11,.b)]) .z (.cond .z .z)) (q0 (.block none (q0 .z (.cond (q0 .z .z) .z))) .z))))) (q0 .z .z))) func8 [.sl l] h9
def jEQ (key:zY) (client seq:Int) (context:Slc) (w:World) (R:RW):Prop:=
 aH prog (Instr.alloc 40 true (.tuple #[])) w λv w1=>∃ x:zO,v=(.pointer x)/\aD prog 56 [.int .i64 client] w1 (aG R) λv1 w2=>∃ x1:Slc,v1=(zS x1)/\aD prog 55 [zS x1,.agg #[.string ⟨key.toArray⟩,.int .i64 client,.int .i64 seq,zS context,.bool false,.slice none 0 0,.slice none 0 0]] w2 (aG R) λv2 w3=>∃ xaa:zY,∃ xab xac:Int,∃ xad:Slc,∃ xae:Bool,∃ xaf xag:Slc,∃ xb:Int,v2=(.tuple #[zR xaa xab xac xad xae xaf xag,.int .i64 xb])/\aH prog (Instr.alloc 40 true (.tuple #[])) w3 λv3 w4=>∃ r:zO,v3=(.pointer r)/\aA r λa=>aJ prog (storeVar 40 a (zR xaa xab xac xad xae xaf xag)) w4 λw5=>aA r λa1=>∃ xa:zY,∃ xb1 xc:Int,∃ xd:Slc,∃ xe:Bool,∃ xf xg:Slc,Rd w5 a1 (yR xa xb1 xc xd xe xf xg)/\aA x λa2=>aJ prog (storeVar 40 a2 (zR xa xb1 xc xd xe xf xg)) w5 λw6=>aA x λa3=>∃ xa1:zY,∃ xb2 xc1:Int,∃ xd1:Slc,∃ xe1:Bool,∃ xf1 xg1:Slc,Rd w6 a3 (yR xa1 xb2 xc1 xd1 xe1 xf1 xg1)/\R (.returned (zR xa1 xb2 xc1 xd1 xe1 xf1 xg1)) w6
theorem jDC (key:zY) (client seq:Int) (context:Slc) {w:World} {R:RW} (h9:jEQ key client seq context w R):Calls prog 27 #[.string ⟨key.toArray⟩,.int .i64 client,.int .i64 seq,zS context] w R:=
 zC (q0 .z (q0 .z (q0 .z .z))) func27 [.s key,.i .i64 client,.i .i64 seq,.sl context] h9
def jDS (client:Int) (w:World) (R:RW):Prop:=
 aH prog (Instr.makeSlice 38 (.int .i64 32) (.int .i64 32)) w λv w1=>∃ x:Slc,v=(zS x)/\∃ (inv:zT) (mu:zU),inv [.i .i64 0] w1/\(∀ i:Int,∀ w2:World,inv [.i .i64 i] w2->aE (decide (i<32)) ((zB i x.len/\aA x.a λa=>aJ prog (storeVar 5 (a.add (i.toNat*1)) (.int .u8 ((dN (zW ((zW (client*7))+i)))).toNat)) w2 λw3=>(inv [.i .i64 (zW (i+1))] w3/\mu [.i .i64 (zW (i+1))] w3<mu [.i .i64 i] w2))) (R (.returned (zS x)) w2))
theorem jBO (client:Int) {w:World} {R:RW} (h9:jDS client w R):Calls prog 56 #[.int .i64 client] w R:=
 zC (q0 .z (q0 .z (q0 (q0 .z (.block none (.loop [(4,(.i .i64))] (q0 (q0 .z (.cond .z .z)) (q0 (.block none .z) .z))))) (q0 .z .z)))) func56 [.i .i64 client] h9
end Go.Proofs.YthaefcgpbccmbaaGreatDoor
end
section
namespace Go.Proofs.YthaefcgpbccmbaaGreatDoor
open Go Go.Sh Go.MapKept
open Go.Proofs.Tryz
section
variable {w:World}
theorem jCC {client:Int} : Calls prog 56 #[.int .i64 client] w (Ret (RN 32 w)):=by
 refine jBO _ ?_
 unfold jDS
 obtain ⟨t6,k6,p8,p9,q8⟩:=i5
 refine bW (l:=32) (c:=32) u26 k6 p8 p9 rfl q8 rfl rfl (by omega) (by omega) (by omega) λe w1 hN1 hb1 h9=>⟨⟨some ⟨e,0,none⟩,32,32⟩,rfl,?_⟩
 rw [kI] at h9
 have hat:=hN1.at_
 refine ⟨λl' w'=>match l' with | [.i _ x]=>∃ (k:Nat) (l:zY),x=k/\l.length=32/\Sh.Own w' ⟨some ⟨e,0,none⟩,32,32⟩ 1 (bys l)/\Mod NoB w w' | _=>False,λl' _=>match l' with | [.i _ x]=>(32 - x).toNat | _=>0,
  ⟨0,List.replicate 32 0,rfl,by simp,h9,hN1.mod⟩,?_⟩
 rintro x w2 ⟨k,l,rfl,hl,k3,k4⟩
 refine aC (λhlt=>?_) λhge=>?_
 ·have hk:k<32:=by have:=of_decide_eq_true hlt; omega
  refine ⟨⟨by omega,by show (k:Int)<((32:Nat):Int); omega⟩,?_⟩
  simp only [Int.toNat_natCast]
  refine iC (by kernel_rfl) (by kernel_rfl) rfl k3 rfl hk λw3 k5 q9 hs3=>⟨⟨k+1,_,aI (by omega),?_,by rw [fU] at k5; exact k5,k4.fresh q9 λz hz=>?_⟩,?_⟩
  ·simp [hl]
  ·rw [Slc.blk_mk,if_neg (by omega)] at hz; cases hz; omega
  ·rw [aI (by omega)]; (try simp only []); omega
 ·exact ⟨⟨some ⟨e,0,none⟩,32,32⟩,l,rfl,k3,hl,FB.new (by omega),k4⟩
theorem sI {key:zY} {cl sq:Int} {ctx:Slc} {cx:List (Int×Int)} (hg:iW w) (hc:aK w ctx 2 (dts cx)) (hcl : ∀ z,ctx.blk=some z->z<w.heap.size)
 (hk:key.length<=1000000) (hcx:cx.length<=1000000) (hsh:Rc.shaped ⟨key,cl,sq,cx,false,[],[]⟩=true) :
 Calls prog 27 #[.string ⟨key.toArray⟩,.int .i64 cl,.int .i64 sq,.slice ctx.a ctx.len ctx.cap] w (Ret λv w'=>∃ (h':Hd) (sg:zY),v=h'.val/\bH w' h' ⟨key,cl,sq,cx,false,[],sg⟩/\sg.length=64/\uW w h'/\Mod NoB w w'):=by
 refine jDC _ _ _ _ ?_
 unfold jEQ
 obtain ⟨ir,hr1,hr2,u1,u2⟩:=iF
 refine aN (l:=Hd.cells ⟨[],0,0,⟨none,0,0⟩,false,⟨none,0,0⟩,⟨none,0,0⟩⟩) hr1 hr2 rfl λx w1 hN1 hb1=>⟨_,rfl,?_⟩
 refine yZ jCC λs l w2 k6 hl u3 h9=>?_
 have hM2:=hN1.mod.tr h9
 have H:bH w2 ⟨key,cl,sq,ctx,false,⟨none,0,0⟩,⟨none,0,0⟩⟩ ⟨key,cl,sq,cx,false,[],[]⟩:=
  ⟨rfl,rfl,rfl,rfl,hc.no hM2,pL _ _,pL _ _,⟨hk,hcx,by simp,by simp⟩,λz hz=>by
   rcases hz with hz | hz | hz
   ·exact Nat.lt_of_lt_of_le (hcl z hz) hM2.size
   ·simp at hz
   ·simp at hz⟩
 refine aB (jAW (h:=⟨key,cl,sq,ctx,false,⟨none,0,0⟩,⟨none,0,0⟩⟩) (hg.no hM2) k6.rd (λz hz=>k6.lt hz) hl H hsh) ?_
 rintro v w3 ⟨h',sg,rfl,H',q8,hnew,k3⟩
 refine ⟨h'.a,h'.b,h'.c,h'.d,h'.e,h'.f,h'.g,0,rfl,?_⟩
 refine aN (l:=Hd.cells ⟨[],0,0,⟨none,0,0⟩,false,⟨none,0,0⟩,⟨none,0,0⟩⟩) hr1 hr2 rfl λr w4 k4 hb4=>⟨_,rfl,?_⟩
 have p8:=hM2.tr k3
 have s1:=hN1.size; have a1:=hN1.at_; have a4:=k4.at_; have s3:=p8.size; have u4:=(h9.tr k3).size; have s4:=k4.size
 refine cB (h:=h') (by kernel_rfl) (by kernel_rfl) hb4 rfl λw5 q9 t6=>?_
 have k5:Mod NoB w3 w5:=k4.mod.fresh q9.mod λz e=>by omega
 refine ⟨h'.a,h'.b,h'.c,h'.d,h'.e,h'.f,h'.g,rdH t6,?_⟩
 have t7:=(hb1.no (h9.tr (k3.tr k5)))
 refine cB (h:=h') (by kernel_rfl) (by kernel_rfl) t7 rfl λw6 p9 u0=>?_
 refine ⟨h'.a,h'.b,h'.c,h'.d,h'.e,h'.f,h'.g,rdH u0,h',sg,rfl,(H'.no k5).mod p9.mod λz hz e=>?_,q8,λz hz=>?_,(p8.tr k5).fresh p9.mod λz e=>by omega⟩
 ·have:=hnew z hz; have:=hM2.size; have:=h9.size; omega
 ·have:=hnew z hz; have:=hM2.size; omega
end
def lim (r:Rc):Prop:=r.key.length<=200/\r.val.length<=2000/\r.ctx.length<=50/\r.sig.length<=200
def qKU (l:List Rc):Prop:=l.length<=16/\∀ r∈l,lim r
theorem vH {w:World} {a:Addr} {vs:List Value} {j:Nat} {v:Value} (h:Rd w a vs) (hj:vs[j]? = some v):Rd w (a.add j) [v]:=cW.2 (h j v hj)
theorem qRF {w:World} {s:Slc} {ls:List Rc} (hl:iY w s ls) (hn:s.len<=9000000000000000000) :
 Calls prog 8 #[.slice s.a s.len s.cap] w (Ret λv w'=>∃ b,v = .bool b/\(b=true->qKU ls)/\w'=w):=by
 refine jDE _ ?_
 unfold sh8
 have hlen:=hl.len
 obtain ⟨hs,g1,g2,g3,g4⟩:=hl
 refine ⟨λl' w'=>match l' with | [.i _ x]=>∃ k:Nat,x=k/\k<=17/\k<=ls.length/\(∀ r∈ls.take k,lim r)/\w'=w | _=>False,λl' _=>match l' with | [.i _ x]=>(17 - x).toNat | _=>0,⟨0,rfl,by omega,by omega,by simp,rfl⟩,?_⟩
 rintro x w1 ⟨k,rfl,hk,hkl,hk2,rfl⟩
 refine ⟨λl' w'=>match l' with | [.b t]=>t=decide (k<ls.length/\k<17)/\w'=w1 | _=>False,aC (λh=>⟨?_,rfl⟩) (λh=>⟨?_,rfl⟩),?_⟩
 ·have:=of_decide_eq_true h
  exact decide_eq_decide.2 ⟨λ_=>⟨by omega,by omega⟩,λ_=>by omega⟩
 ·have:=of_decide_eq_false h
  exact (decide_eq_false (by omega)).symm
 ·rintro x w2 ⟨rfl,rfl⟩
  refine aC (λh=>?_) λh=>?_
  ·have h:=of_decide_eq_true h
   have k3:k<hs.length:=by omega
   obtain ⟨A,ea,h9⟩:=aZ Hd.len (by omega) g1 k3
   have H:=g4 k k3 (by omega)
   have hc:=dW H.ctx
   have hv:=aV H.val
   have hg:=aV H.sig
   rw [ea]
   refine ⟨⟨by omega,by omega⟩,hs[k].a,vH (j:=0) h9 rfl,aC (λh1=>⟨false,rfl,(λh=>by cases h),rfl⟩) λh1=>?_⟩
   have h1:=of_decide_eq_false h1
   refine ⟨⟨by omega,by omega⟩,hs[k].f,vH (j:=5) h9 rfl,aC (λh2=>⟨false,rfl,(λh=>by cases h),rfl⟩) λh2=>?_⟩
   have h2:=of_decide_eq_false h2
   refine ⟨⟨by omega,by omega⟩,hs[k].d,vH (j:=3) h9 rfl,aC (λh3=>⟨false,rfl,(λh=>by cases h),rfl⟩) λh3=>?_⟩
   have h3:=of_decide_eq_false h3
   refine ⟨⟨by omega,by omega⟩,hs[k].g,vH (j:=6) h9 rfl,aC (λh4=>⟨false,rfl,(λh=>by cases h),rfl⟩) λh4=>?_⟩
   have h4:=of_decide_eq_false h4
   refine ⟨⟨k+1,aI (by omega),by omega,by omega,λr hr=>?_,rfl⟩,?_⟩
   ·rw [aL (show k<ls.length by omega)] at hr
    rcases List.mem_append.1 hr with hr | hr
    ·exact hk2 r hr
    ·simp at hr; subst hr
     rw [H.key] at h1
     exact ⟨by omega,by omega,by omega,by omega⟩
   ·rw [aI (by omega)]; (try simp only []); omega
  ·have h:=of_decide_eq_false h
   refine ⟨_,rfl,λhb=>?_,rfl⟩
   have hb:=of_decide_eq_true hb
   rw [List.take_of_length_le (by omega)] at hk2
   exact ⟨by omega,hk2⟩
theorem iY.at {w:World} {s:Slc} {ls:List Rc} (h:iY w s ls) (hq:qKU ls):bO w.heap.size w s ls:=by
 obtain ⟨hs,h1,h2,h3,h4⟩:=h
 refine ⟨hs,h1,h2,h3,λi a b=>⟨(h4 i a b).at ?_,λz hz=>(h4 i a b).lt z hz⟩⟩
 have:=hq.2 ls[i] (List.getElem_mem _)
 exact ⟨by have:=this.1; omega,by have:=this.2.2.1; omega,by have:=this.2.1; omega,by have:=this.2.2.2; omega⟩
theorem tG {w:World} {b n:Nat} {T:TypeId} {hs:List Hd} {rs:List Rc} (hb:Blk w b (hcells hs) T) (hn:hs.length=n) (hl:rs.length=n) (hI : ∀ i (h:i<hs.length) (h':i<rs.length),bH w hs[i] rs[i]) :
 bO w.heap.size w ⟨some ⟨b,0,none⟩,n,n⟩ rs:=
 ⟨hs,(aY (n:=n) (k:=7) hb (by rw [hcells,cJ Hd.len,hn])).rd,λz hz=>by
  rw [Slc.blk_mk] at hz
  split at hz
  ·cases hz
  ·cases hz; exact hb.lt,by omega,λi a b=>⟨hI i a b,λz hz=>(hI i a b).lt z hz⟩⟩
theorem pD {w:World} {K:Value->zP} {h1 h2:Hd} {r1 r2:Rc} (H1:bH w h1 r1) (H2:bH w h2 r2)
 (hK : ∀ (x:Slc) w',Mod NoB w w'->bO w'.heap.size w' x [r1,r2]->K (.slice x.a x.len x.cap) w'):aH prog (Instr.buildSlice 22 2 #[(0,h1.val),(1,h2.val)]) w K:=by
 obtain ⟨ir,hr1,hr2,k3,k5⟩:=iF
 refine bZ [h1.val,h2.val] (l:=hcells [h1,h2]) fA hr1 hr2 k3 (by omega) rfl (by omega) (by omega) rfl (by intro v hv; simp at hv; rcases hv with rfl | rfl <;> rfl) (by simp [hcells,aR,Value.cells,Hd.val]) λlb w8 h9 k4=>hK ⟨some ⟨lb,0,none⟩,2,2⟩ w8 h9.mod (tG k4 rfl rfl λi a b=>?_)
 match i,a with
 | 0,_=>exact H1.no h9.mod
 | 1,_=>exact H2.no h9.mod
theorem jS {w:World} {K:Value->zP} {h1 h2 h3:Hd} {r1 r2 r3:Rc} (H1:bH w h1 r1) (H2:bH w h2 r2) (H3:bH w h3 r3)
 (hK : ∀ (x:Slc) w',Mod NoB w w'->bO w'.heap.size w' x [r1,r2,r3]->K (.slice x.a x.len x.cap) w'):aH prog (Instr.buildSlice 22 3 #[(0,h1.val),(1,h2.val),(2,h3.val)]) w K:=by
 obtain ⟨ir,hr1,hr2,k3,k5⟩:=iF
 refine bZ [h1.val,h2.val,h3.val] (l:=hcells [h1,h2,h3]) fA hr1 hr2 k3 (by omega) rfl (by omega) (by omega) rfl (by intro v hv; simp at hv; rcases hv with rfl | rfl | rfl <;> rfl) (by simp [hcells,aR,Value.cells,Hd.val]) λlb w8 h9 k4=>hK ⟨some ⟨lb,0,none⟩,3,3⟩ w8 h9.mod (tG k4 rfl rfl λi a b=>?_)
 match i,a with
 | 0,_=>exact H1.no h9.mod
 | 1,_=>exact H2.no h9.mod
 | 2,_=>exact H3.no h9.mod
end Go.Proofs.YthaefcgpbccmbaaGreatDoor
end
section
namespace Go.Sh
def exA (s:zY):Rc:=⟨[107],1,1,[],false,[],s⟩
def exB (s:zY):Rc:=⟨[107],2,1,[],false,[],s⟩
def exC (s:zY):Rc:=⟨[107],3,1,[(1,1)],false,[],s⟩
theorem jHP {s:zY} (h:s.length=64):(exA s).right=true:=by simp only [Rc.right,exA,h]; rfl
theorem jHD {s:zY} (h:s.length=64):(exB s).right=true:=by simp only [Rc.right,exB,h]; rfl
theorem jGB {s:zY} (h:s.length=64):(exC s).right=true:=by simp only [Rc.right,exC,h]; rfl
theorem lT {sa sb sc:zY} (ha:sa.length=64) (hb:sb.length=64) (hc:sc.length=64) {ls:List Rc} (hs : ∀ r,r∈ls↔r=exA sa\/r=exB sb\/r=exC sc) {L:List (zY×List Rc)} (h:dO ls L) :
 L=[([107],[exB sb,exC sc])]:=by
 have hr : ∀ k r,r∈bF ls k↔k=[107]/\(r=exA sa\/r=exB sb\/r=exC sc):=λk r=>by
  simp only [bF,List.mem_filter,hs,Bool.and_eq_true,decide_eq_true_eq]
  constructor
  ·rintro ⟨rfl | rfl | rfl,_,h2⟩
   ·exact ⟨h2.symm,.inl rfl⟩
   ·exact ⟨h2.symm,.inr (.inl rfl)⟩
   ·exact ⟨h2.symm,.inr (.inr rfl)⟩
  ·rintro ⟨rfl,rfl | rfl | rfl⟩
   ·exact ⟨.inl rfl,jHP ha,rfl⟩
   ·exact ⟨.inr (.inl rfl),jHD hb,rfl⟩
   ·exact ⟨.inr (.inr rfl),jGB hc,rfl⟩
 have k3:iD (bF ls [107]) [exA sa,exB sb,exC sc]:=by
  refine ⟨?_,λr=>?_⟩
  ·simp only [List.pairwise_cons,List.mem_cons,List.not_mem_nil,or_false,forall_eq_or_imp,forall_eq,cY,exA,exB,exC]
   refine ⟨⟨.inl (by decide),.inl (by decide)⟩,.inl (by decide),λa h=>h.elim,List.Pairwise.nil⟩
  ·rw [hr]
   simp only [List.mem_cons,List.not_mem_nil,or_false,true_and]
   constructor
   ·intro hm
    refine ⟨hm,λr' h9 h1 _=>?_⟩
    rw [hr] at h9
    have:r'=r:=by
     rcases hm with rfl | rfl | rfl <;> rcases h9.2 with rfl | rfl | rfl <;> first | rfl | exact absurd h1 (by simp [exA,exB,exC])
    subst this
    exact List.lt_irrefl _
   ·exact λh=>h.1
 have e:nH [exA sa,exB sb,exC sc]=[exB sb,exC sc]:=by
  have o1:(exC sc).over (exA sa)=true:=by rfl
  have o2:(exB sb).over (exA sa)=false:=by rfl
  have o3:(exA sa).over (exB sb)=false:=by rfl
  have o4:(exC sc).over (exB sb)=false:=by rfl
  have o5:(exA sa).over (exC sc)=false:=by rfl
  have o6:(exB sb).over (exC sc)=false:=by rfl
  simp only [nH,List.filter_cons,List.filter_nil,List.any_cons,List.any_nil,o1,o2,o3,o4,o5,o6]
  simp [exA,exB,exC]
 refine h.uniq (l':=ls) ⟨?_,λk s=>?_⟩ λr=>Iff.rfl
 ·exact List.pairwise_cons.2 ⟨λa h=>by simp at h,List.Pairwise.nil⟩
 ·simp only [List.mem_cons,List.not_mem_nil,or_false,Prod.mk.injEq]
  constructor
  ·rintro ⟨rfl,rfl⟩
   exact ⟨by simp,_,k3,e.symm⟩
  ·rintro ⟨h1,c,hc1,rfl⟩
   by_cases hk:k=[107]
   ·subst hk
    refine ⟨rfl,?_⟩
    rw [hc1.uniq k3 λr=>Iff.rfl,e]
   ·have:c=[]:=List.eq_nil_iff_forall_not_mem.2 λr h9=>hk ((hr k r).1 ((hc1.mem r).1 h9).1).1
    subst this
    exact absurd rfl h1
end Go.Sh
end
section
namespace Go.Proofs.YthaefcgpbccmbaaGreatDoor
open Go Go.Sh Go.MapKept
open Go.Proofs.Tryz
theorem bO.r {B:Nat} {w:World} {s:Slc} {ls:List Rc} (h:bO B w s ls):fO w s ls:=by
 obtain ⟨hs,h1,h2,h3,h4⟩:=h
 exact ⟨hs,h1,h3,λi a b=>(h4 i a b).1⟩
theorem iU.len {w:World} {o:Slc} {L:Lv} (h:iU w o L):L.length=o.len:=by
 obtain ⟨es,g1,g2,_⟩:=h
 have:=bA cL (by omega) g1; omega
section
variable {w:World}
theorem qPH (hg:iW w):Calls prog 7 #[] w (Ret λv w'=>v = .bool true/\Mod NoB w w'):=by
 refine jGQ ?_
 unfold sh7
 obtain ⟨ir,hr1,hr2,i7,i8⟩:=iF
 obtain ⟨id,j4,hd2,j5,o0⟩:=qI
 refine aB (sI (key:=[107]) (cl:=1) (sq:=1) (ctx:=⟨none,0,0⟩) (cx:=[]) hg (pL _ _) (by simp) (by simp) (by simp) (by rfl)) ?_
 rintro v w1 ⟨ha,sa,rfl,Ha,la,na,v8⟩
 refine ⟨ha.a,ha.b,ha.c,ha.d,ha.e,ha.f,ha.g,rfl,?_⟩
 refine aB (sI (key:=[107]) (cl:=2) (sq:=1) (ctx:=⟨none,0,0⟩) (cx:=[]) (hg.no v8) (pL _ _) (by simp) (by simp) (by simp) (by rfl)) ?_
 rintro v w2 ⟨hb,sb,rfl,Hb,lb,nb,y0⟩
 refine ⟨hb.a,hb.b,hb.c,hb.d,hb.e,hb.f,hb.g,rfl,?_⟩
 refine aN (l:=Hd.cells ⟨[],0,0,⟨none,0,0⟩,false,⟨none,0,0⟩,⟨none,0,0⟩⟩) hr1 hr2 rfl λp w3 u9 j6=>⟨_,rfl,?_⟩
 refine aN (l:=Hd.cells ⟨[],0,0,⟨none,0,0⟩,false,⟨none,0,0⟩,⟨none,0,0⟩⟩) hr1 hr2 rfl λq w4 u6 b5=>⟨_,rfl,?_⟩
 have e3:=u9.at_; have e4:=u6.at_; have s3:=u9.size; have s4:=u6.size
 refine cB (h:=ha) (by kernel_rfl) (by kernel_rfl) (j6.no u6.mod) rfl λw5 y1 b6=>?_
 refine cB (h:=hb) (by kernel_rfl) (by kernel_rfl) (b5.mod y1.mod (by omega)) rfl λw6 y2 a6=>?_
 have a7:=b6.mod y2.mod (by omega)
 have t7:Mod NoB w2 w6:=(((u9.mod.tr u6.mod).fresh y1.mod λz e=>by omega)).fresh y2.mod λz e=>by omega
 refine bZ [.agg #[.int .i64 1,.int .i64 1]] (l:=dts [(1,1)]) kU j4 hd2 j5 (by omega) rfl (by omega) (by omega) rfl (by intro v hv; simp at hv; subst hv; rfl) rfl λd w7 y5 y7=>⟨⟨some ⟨d,0,none⟩,1,1⟩,rfl,?_⟩
 have y8:=((v8.tr y0).tr t7).tr y5.mod
 refine aB (sI (key:=[107]) (cl:=3) (sq:=1) (ctx:=⟨some ⟨d,0,none⟩,1,1⟩) (cx:=[(1,1)]) (hg.no y8) (aY (n:=1) (k:=2) y7 (by simp [dts])).rd (λz hz=>by rw [Slc.blk_mk,if_neg (by omega)] at hz; cases hz; exact y7.lt) (by simp) (by simp) (by rfl)) ?_
 rintro v w8 ⟨hc,sc,rfl,Hc,lc,nc,y9⟩
 refine ⟨hc.a,hc.b,hc.c,hc.d,hc.e,hc.f,hc.g,rfl,?_⟩
 refine aN (l:=Hd.cells ⟨[],0,0,⟨none,0,0⟩,false,⟨none,0,0⟩,⟨none,0,0⟩⟩) hr1 hr2 rfl λr w9 z1 a8=>⟨_,rfl,?_⟩
 have e9:=z1.at_
 refine cB (h:=hc) (by kernel_rfl) (by kernel_rfl) a8 rfl λq8 v1 v6=>?_
 have q9:Mod NoB w8 q8:=z1.mod.fresh v1.mod λz e=>by omega
 have p9:Mod NoB w6 q8:=y5.mod.tr (y9.tr q9)
 have v7:Mod NoB w q8.drew:=(y8.tr (y9.tr q9)).tr (Mod.drew NoB q8)
 have u7:=(a7.no p9).drew
 have u2:=(a6.no p9).drew
 have u3:=v6.drew
 have HA:bH q8.drew ha (exA sa):=Ha.no (y0.tr (t7.tr (p9.tr (Mod.drew NoB q8))))
 have HB:bH q8.drew hb (exB sb):=Hb.no (t7.tr (p9.tr (Mod.drew NoB q8)))
 have HC:bH q8.drew hc (exC sc):=Hc.no (q9.tr (Mod.drew NoB q8))
 have gr : ∀ {w1:World} {x1:Slc} {K:Slc->zP} {pan:List PanicEntry->zP},bO w1.heap.size w1 x1 [exC sc,exA sa,exB sb]->(∀ x2 w2,Mod NoB w1 w2->fO w2 x2 [exB sb,exC sc]->K x2 w2)->
  aD prog 11 [.slice x1.a x1.len x1.cap] w1 pan λv w'=>∃ x2:Slc,v = .slice x2.a x2.len x2.cap/\K x2 w':=λhR hK=>
  aB (qAZ hR (by simp)) λv w' ⟨o,L,hv,hL,hQ,hm⟩=>⟨o,hv,hK o w' hm (by
   have:=lT la lb lc (λr=>by simp only [List.mem_cons,List.not_mem_nil,or_false]; exact ⟨λh=>by rcases h with h | h | h; exact .inr (.inr h); exact .inl h; exact .inr (.inl h),λh=>by rcases h with h | h | h; exact .inr (.inl h); exact .inr (.inr h); exact .inl h⟩) hL
   subst this
   simpa using hQ.r)⟩
 refine ⟨Mod NoB q8.drew,Mod.refl _ _,hc.a,hc.b,hc.c,hc.d,hc.e,hc.f,hc.g,λw' hm=>rdH (u3.no hm),ha.a,ha.b,ha.c,ha.d,ha.e,ha.f,ha.g,λw' hm=>rdH (u7.no hm),hb.a,hb.b,hb.c,hb.d,hb.e,hb.f,hb.g,λw' hm=>rdH (u2.no hm),hb.a,hb.b,hb.c,hb.d,hb.e,hb.f,hb.g,λw' hm=>rdH (u2.no hm),hc.a,hc.b,hc.c,hc.d,hc.e,hc.f,hc.g,λw' hm=>rdH (u3.no hm),?_,?_,trivial⟩
 ·refine jS (h1:=hc) (h2:=ha) (h3:=hb) HC HA HB λx1 i6 k3 u0=>⟨x1,rfl,k3,?_,?_,trivial⟩
  ·refine gr u0 λx2 z6 k4 u1=>⟨k3.tr k4,?_,trivial⟩
   refine pD (h1:=hb) (h2:=hc) (HB.no (k3.tr k4)) (HC.no (k3.tr k4)) λx3 z7 k5 t6=>⟨x3,rfl,(k3.tr k4).tr k5,?_,trivial⟩
   have u1:=u1.no k5
   have t6:=t6.r
   have u4:=(k3.tr k4).tr k5
   clear k3 k4 k5 u0
   refine aB (iN u1 t6 (by simp)) ?_
   rintro v z8 ⟨rfl,h9⟩
   have h9:=u4.tr h9
   refine ⟨_,rfl,h9,aC (λ_=>?_) λh=>by simp at h⟩
   refine ⟨ha.a,ha.b,ha.c,ha.d,ha.e,ha.f,ha.g,λw' hm=>rdH (u7.no hm),hb.a,hb.b,hb.c,hb.d,hb.e,hb.f,hb.g,λw' hm=>rdH (u2.no hm),hc.a,hc.b,hc.c,hc.d,hc.e,hc.f,hc.g,λw' hm=>rdH (u3.no hm),?_,trivial⟩
   refine jS (h1:=ha) (h2:=hb) (h3:=hc) (HA.no h9) (HB.no h9) (HC.no h9) λx5 j2 p8 u5=>⟨x5,rfl,h9.tr p8,?_,trivial⟩
   refine aB (sO u5 (by simp)) ?_
   rintro v j3 ⟨x6,L,rfl,hL,hQ,k6⟩
   have k6:=(h9.tr p8).tr k6
   have:=lT la lb lc (λr=>by simp only [List.mem_cons,List.not_mem_nil,or_false]) hL
   subst this
   have h6:=hQ.r.len
   refine ⟨x6,rfl,k6,congrArg Value.bool ?_,v7.tr k6⟩
   have h6:x6.len=1:=h6.symm
   rw [h6]; rfl
  ·refine pD (h1:=hb) (h2:=hc) (HB.no k3) (HC.no k3) λx3 z6 k4 t6=>⟨x3,rfl,k3.tr k4,?_,trivial⟩
   refine gr ((u0.mod (k4.mono λ_ _ h=>h.elim)).le k4.size) λx2 z7 k5 u1=>⟨(k3.tr k4).tr k5,?_,trivial⟩
   have t6:=t6.r.no k5
   have u4:=(k3.tr k4).tr k5
   clear k3 k4 k5 u0
   refine aB (iN u1 t6 (by simp)) ?_
   rintro v z8 ⟨rfl,h9⟩
   have h9:=u4.tr h9
   refine ⟨_,rfl,h9,aC (λ_=>?_) λh=>by simp at h⟩
   refine ⟨ha.a,ha.b,ha.c,ha.d,ha.e,ha.f,ha.g,λw' hm=>rdH (u7.no hm),hb.a,hb.b,hb.c,hb.d,hb.e,hb.f,hb.g,λw' hm=>rdH (u2.no hm),hc.a,hc.b,hc.c,hc.d,hc.e,hc.f,hc.g,λw' hm=>rdH (u3.no hm),?_,trivial⟩
   refine jS (h1:=ha) (h2:=hb) (h3:=hc) (HA.no h9) (HB.no h9) (HC.no h9) λx5 j2 p8 u5=>⟨x5,rfl,h9.tr p8,?_,trivial⟩
   refine aB (sO u5 (by simp)) ?_
   rintro v j3 ⟨x6,L,rfl,hL,hQ,k6⟩
   have k6:=(h9.tr p8).tr k6
   have:=lT la lb lc (λr=>by simp only [List.mem_cons,List.not_mem_nil,or_false]) hL
   subst this
   have h6:=hQ.r.len
   refine ⟨x6,rfl,k6,congrArg Value.bool ?_,v7.tr k6⟩
   have h6:x6.len=1:=h6.symm
   rw [h6]; rfl
 ·refine pD (h1:=hb) (h2:=hc) HB HC λx3 i6 k3 t6=>⟨x3,rfl,k3,?_,trivial⟩
  refine jS (h1:=hc) (h2:=ha) (h3:=hb) (HC.no k3) (HA.no k3) (HB.no k3) λx1 z6 k4 u0=>⟨x1,rfl,k3.tr k4,?_,trivial⟩
  refine gr u0 λx2 z7 k5 u1=>⟨(k3.tr k4).tr k5,?_,trivial⟩
  have t6:=(t6.r.no k4).no k5
  have u4:=(k3.tr k4).tr k5
  clear k3 k4 k5 u0
  refine aB (iN u1 t6 (by simp)) ?_
  rintro v z8 ⟨rfl,h9⟩
  have h9:=u4.tr h9
  refine ⟨_,rfl,h9,aC (λ_=>?_) λh=>by simp at h⟩
  refine ⟨ha.a,ha.b,ha.c,ha.d,ha.e,ha.f,ha.g,λw' hm=>rdH (u7.no hm),hb.a,hb.b,hb.c,hb.d,hb.e,hb.f,hb.g,λw' hm=>rdH (u2.no hm),hc.a,hc.b,hc.c,hc.d,hc.e,hc.f,hc.g,λw' hm=>rdH (u3.no hm),?_,trivial⟩
  refine jS (h1:=ha) (h2:=hb) (h3:=hc) (HA.no h9) (HB.no h9) (HC.no h9) λx5 j2 p8 u5=>⟨x5,rfl,h9.tr p8,?_,trivial⟩
  refine aB (sO u5 (by simp)) ?_
  rintro v j3 ⟨x6,L,rfl,hL,hQ,k6⟩
  have k6:=(h9.tr p8).tr k6
  have:=lT la lb lc (λr=>by simp only [List.mem_cons,List.not_mem_nil,or_false]) hL
  subst this
  have h6:=hQ.r.len
  refine ⟨x6,rfl,k6,congrArg Value.bool ?_,v7.tr k6⟩
  have h6:x6.len=1:=h6.symm
  rw [h6]; rfl
end
def jN (w0 w:World) (x:Slc) (rs:List Rc):Prop:=
 ∃ hs:List Hd,Sh.Own w x 7 (hcells hs)/\FB w0 x/\hs.length=rs.length/\(∀ i (h:i<hs.length) (h':i<rs.length),bH w0 hs[i] rs[i])/\Mod NoB w0 w
theorem jN.nil {w0 w:World} (h:Mod NoB w0 w):jN w0 w ⟨none,0,0⟩ []:=⟨[],bK _ 7,FB.nil _,rfl,λi h=>by simp at h,h⟩
theorem jN.no {w0 w w':World} {x:Slc} {rs:List Rc} (h:jN w0 w x rs) (hm:Mod NoB w w'):jN w0 w' x rs:=by
 obtain ⟨hs,h1,h2,h3,h4,h5⟩:=h
 exact ⟨hs,h1.no hm,h2,h3,h4,h5.tr hm⟩
theorem jN.at {w0 w:World} {x:Slc} {rs:List Rc} (h:jN w0 w x rs):bO w.heap.size w x rs:=by
 obtain ⟨hs,h1,h2,h3,h4,h5⟩:=h
 exact ⟨hs,h1.rd,λz hz=>h1.lt hz,h3,λi a b=>⟨(h4 i a b).no h5,λz hz=>Nat.lt_of_lt_of_le ((h4 i a b).lt z hz) h5.size⟩⟩
theorem jN.m {w0 w:World} {x:Slc} {rs:List Rc} (h:jN w0 w x rs):Mod NoB w0 w:=by
 obtain ⟨hs,h1,h2,h3,h4,h5⟩:=h
 exact h5
theorem qHO {w0 w:World} {x:Slc} {rs:List Rc} {h:Hd} {r:Rc} {K:Slc->zP} (hR:jN w0 w x rs) (H:bH w0 h r) (hn:rs.length<=100000) (hK : ∀ x' w',jN w0 w' x' (rs++[r])->K x' w') :
 aH prog (Instr.buildSlice 22 1 #[(0,h.val)]) w λv w'=>∃ x6:Slc,v = .slice x6.a x6.len x6.cap/\aH prog (Builtin.append_ #[22,22] 22 #[.slice x.a x.len x.cap,.slice x6.a x6.len x6.cap]) w' λv4 w8=>∃ x7:Slc,v4 = .slice x7.a x7.len x7.cap/\K x7 w8:=by
 obtain ⟨ir,hr1,hr2,k4,k5⟩:=iF
 obtain ⟨hs,h1,h2,h3,h4,h5⟩:=hR
 have hxl:=bA Hd.len (by omega) h1.rd
 refine bZ [h.val] (l:=hcells [h]) fA hr1 hr2 k4 (by omega) rfl (by omega) (by omega) rfl (by intro v hv; simp at hv; subst hv; rfl) (by simp [hcells,aR,Value.cells,Hd.val]) λlb w8 h9 k6=>⟨⟨some ⟨lb,0,none⟩,1,1⟩,rfl,?_⟩
 have k3:aK w8 ⟨some ⟨lb,0,none⟩,1,1⟩ 7 (hcells [h]):=(aY (n:=1) (k:=7) k6 (by rw [hcells,cJ Hd.len]; rfl)).rd
 refine aS fA hr1 hr2 k4 rfl k5 (h1.no h9.mod) k3 (dF Hd.one _) (by simp only []; omega) (by simp only []; omega) λx' w9 p8 hlen hblk p9=>⟨x',rfl,hK x' w9 ⟨hs++[h],by rw [hcells,bP]; exact p8,h2.step (Nat.le_trans h5.size h9.mod.size) hblk,by simp [h3],λi a b=>?_,h2.mod (h5.tr h9.mod) p9⟩⟩
 rcases Nat.lt_or_ge i hs.length with hi | hi
 ·rw [List.getElem_append_left hi,List.getElem_append_left (by omega)]; exact h4 i hi (by omega)
 ·have q8:i=hs.length:=by simp at a; omega
  subst q8
  rw [List.getElem_append_right (by omega),List.getElem_append_right (by omega)]
  simpa using H
theorem rN (l:List Hd) (n:Nat) (hn:n<=l.length):(hcells l).take (n*7)=hcells (l.take n)/\(hcells l).drop (n*7)=hcells (l.drop n):=by
 have e:hcells l=hcells (l.take n)++hcells (l.drop n):=by
  unfold hcells
  rw [<-bP,List.take_append_drop]
 have hl:(hcells (l.take n)).length=n*7:=by rw [hcells,cJ Hd.len,List.length_take,Nat.min_eq_left hn]
 rw [e]
 exact ⟨List.take_left' hl,List.drop_left' hl⟩
section
variable {w:World}
theorem tB {K:Value->zP} {h:Hd} (hK : ∀ (x:Slc) w',Mod NoB w w'->aK w' x 7 (hcells [h])->(∀ z,x.blk=some z->z<w'.heap.size)->(∀ z,x.blk=some z->w.heap.size<=z)->x.len=1->K (.slice x.a x.len x.cap) w') :
 aH prog (Instr.buildSlice 22 1 #[(0,h.val)]) w K:=by
 obtain ⟨ir,hr1,hr2,k4,k5⟩:=iF
 refine bZ [h.val] (l:=hcells [h]) fA hr1 hr2 k4 (by omega) rfl (by omega) (by omega) rfl (by intro v hv; simp at hv; subst hv; rfl) (by simp [hcells,aR,Value.cells,Hd.val]) λlb w8 h9 k3=>hK ⟨some ⟨lb,0,none⟩,1,1⟩ w8 h9.mod (aY (n:=1) (k:=7) k3 (by rw [hcells,cJ Hd.len]; rfl)).rd (λz hz=>?_) (λz hz=>?_) rfl
 ·rw [Slc.blk_mk,if_neg (by omega)] at hz; cases hz; exact k3.lt
 ·rw [Slc.blk_mk,if_neg (by omega)] at hz; cases hz; have:=h9.at_; omega
theorem qFF {K:Value->zP} {w0:World} {x y:Slc} {rs ls:List Rc} {gs:List Hd} (hR:jN w0 w x rs) (hy:aK w y 7 (hcells gs)) (hl:gs.length=ls.length) (hg : ∀ i (h:i<gs.length) (h':i<ls.length),bH w0 gs[i] ls[i]) (hn:rs.length+ls.length<=100000) (hK : ∀ x' w',jN w0 w' x' (rs++ls)->Mod (λb=>x.blk=some b) w w'->K (.slice x'.a x'.len x'.cap) w') :
 aH prog (Builtin.append_ #[22,22] 22 #[.slice x.a x.len x.cap,.slice y.a y.len y.cap]) w K:=by
 obtain ⟨ir,hr1,hr2,k3,k4⟩:=iF
 obtain ⟨hs,h1,h2,h3,h4,h5⟩:=hR
 have hxl:=bA Hd.len (by omega) h1.rd
 have hyl:=bA Hd.len (by omega) hy
 refine aS fA hr1 hr2 k3 rfl k4 h1 hy (dF Hd.one _) (by omega) (by omega) λx' w9 k5 hlen hblk h9=>hK x' w9 ⟨hs++gs,by rw [hcells,bP]; exact k5,h2.step h5.size hblk,by simp [h3,hl],λi a b=>?_,h2.mod h5 h9⟩ h9
 rcases Nat.lt_or_ge i hs.length with hi | hi
 ·rw [List.getElem_append_left hi,List.getElem_append_left (by omega)]; exact h4 i hi (by omega)
 ·have a':i - hs.length<gs.length:=by rw [List.length_append] at a; omega
  have e1:(hs++gs)[i]=gs[i - hs.length]'a':=List.getElem_append_right hi
  have e2:(rs++ls)[i]=ls[i - hs.length]'(by omega):=by
   rw [List.getElem_append_right (by omega)]
   simp only [h3]
  rw [e1,e2]; exact hg _ a' (by omega)
end
end Go.Proofs.YthaefcgpbccmbaaGreatDoor
end
section
namespace Go.Proofs.YthaefcgpbccmbaaGreatDoor
open Go Go.Sh
open Go.Proofs.Tryz
def qXT (l:Slc) (w:World) (R:RW):Prop:=
 aH prog (Builtin.append_ #[37,37] 37 #[.slice none 0 0,zS l]) w λv w1=>∃ x:Slc,v=(zS x)/\R (.returned (zS x)) w1
theorem qQB (l:Slc) {w:World} {R:RW} (h9:qXT l w R):Calls prog 128 #[zS l] w R:=
 zC (q0 .z (q0 .z (q0 .z .z))) func128 [.sl l] h9
def qXW (l:Slc) (w:World) (R:RW):Prop:=
 aH prog (Builtin.append_ #[38,38] 38 #[.slice none 0 0,zS l]) w λv w1=>∃ x:Slc,v=(zS x)/\R (.returned (zS x)) w1
theorem qNX (l:Slc) {w:World} {R:RW} (h9:qXW l w R):Calls prog 129 #[zS l] w R:=
 zC (q0 .z (q0 .z (q0 .z .z))) func129 [.sl l] h9
def jHC (xa:zY) (xb xc:Int) (xd:Slc) (xe:Bool) (xf xg:Slc) (w:World) (R:RW):Prop:=
 aH prog (Instr.box 40 (zR xa xb xc xd xe xf xg)) w λv w1=>∃ x:zO,v=(.pointer x)/\aH prog (Instr.alloc 40 true (.tuple #[])) w1 λv1 w2=>∃ x1:zO,v1=(.pointer x1)/\aA x λa=>∃ x2:Slc,Rd w2 (a.add 3) [zS x2]/\aD prog 128 [zS x2] w2 (aG R) λv2 w3=>∃ x3:Slc,v2=(zS x3)/\aA x λa1=>aJ prog (storeVar 37 (a1.add 3) (zS x3)) w3 λw4=>aA x λa2=>∃ x4:Slc,Rd w4 (a2.add 5) [zS x4]/\aD prog 129 [zS x4] w4 (aG R) λv3 w5=>∃ x5:Slc,v3=(zS x5)/\aA x λa3=>aJ prog (storeVar 38 (a3.add 5) (zS x5)) w5 λw6=>aA x λa4=>∃ x6:Slc,Rd w6 (a4.add 6) [zS x6]/\aD prog 129 [zS x6] w6 (aG R) λv4 w7=>∃ x7:Slc,v4=(zS x7)/\aA x λa5=>aJ prog (storeVar 38 (a5.add 6) (zS x7)) w7 λw8=>aA x λa6=>∃ xa1:zY,∃ xb1 xc1:Int,∃ xd1:Slc,∃ xe1:Bool,∃ xf1 xg1:Slc,Rd w8 a6 (yR xa1 xb1 xc1 xd1 xe1 xf1 xg1)/\aA x1 λa7=>aJ prog (storeVar 40 a7 (zR xa1 xb1 xc1 xd1 xe1 xf1 xg1)) w8 λw9=>aA x1 λa8=>∃ xa2:zY,∃ xb2 xc2:Int,∃ xd2:Slc,∃ xe2:Bool,∃ xf2 xg2:Slc,Rd w9 a8 (yR xa2 xb2 xc2 xd2 xe2 xf2 xg2)/\R (.returned (zR xa2 xb2 xc2 xd2 xe2 xf2 xg2)) w9
theorem jCR (xa:zY) (xb xc:Int) (xd:Slc) (xe:Bool) (xf xg:Slc) {w:World} {R:RW} (h9:jHC xa xb xc xd xe xf xg w R):Calls prog 69 #[zR xa xb xc xd xe xf xg] w R:=
 zC (q0 .z (q0 .z (q0 .z (q0 .z (q0 .z .z))))) func69 [.agg [.s xa,.i .i64 xb,.i .i64 xc,.sl xd,.b xe,.sl xf,.sl xg]] h9
def jFM (l:Slc) (w:World) (R:RW):Prop:=
 ∃ (inv:zT) (mu:zU),inv [.sl ⟨none,0,0⟩,.i .i64 0] w/\(∀ out:Slc,∀ i:Int,∀ w1:World,inv [.sl out,.i .i64 i] w1->aE (decide (i<l.len)) ((zB i l.len/\aA l.a λa=>∃ xa:zY,∃ xb xc:Int,∃ xd:Slc,∃ xe:Bool,∃ xf xg:Slc,Rd w1 (a.add (i.toNat*7)) (yR xa xb xc xd xe xf xg)/\aD prog 69 [zR xa xb xc xd xe xf xg] w1 (aG R) λv w2=>∃ xa1:zY,∃ xb1 xc1:Int,∃ xd1:Slc,∃ xe1:Bool,∃ xf1 xg1:Slc,v=(zR xa1 xb1 xc1 xd1 xe1 xf1 xg1)/\aH prog (Instr.alloc 40 true (.tuple #[])) w2 λv1 w3=>∃ x:zO,v1=(.pointer x)/\aA x λa1=>aJ prog (storeVar 40 a1 (zR xa1 xb1 xc1 xd1 xe1 xf1 xg1)) w3 λw4=>aA x λa2=>∃ xa2:zY,∃ xb2 xc2:Int,∃ xd2:Slc,∃ xe2:Bool,∃ xf2 xg2:Slc,Rd w4 a2 (yR xa2 xb2 xc2 xd2 xe2 xf2 xg2)/\aH prog (Instr.buildSlice 22 1 #[(0,(zR xa2 xb2 xc2 xd2 xe2 xf2 xg2))]) w4 λv2 w5=>∃ x1:Slc,v2=(zS x1)/\aH prog (Builtin.append_ #[22,22] 22 #[zS out,zS x1]) w5 λv3 w6=>∃ x2:Slc,v3=(zS x2)/\(inv [.sl x2,.i .i64 (zW (i+1))] w6/\mu [.sl x2,.i .i64 (zW (i+1))] w6<mu [.sl out,.i .i64 i] w1))) (R (.returned (zS out)) w1))
theorem jAG (l:Slc) {w:World} {R:RW} (h9:jFM l w R):Calls prog 36 #[zS l] w R:=
 zC (q0 .z (q0 .z (q0 (q0 .z (.block none (.loop [(3,.sl),(4,(.i .i64))] (q0 (q0 .z (.cond .z .z)) (q0 (.block none (q0 .z .z)) .z))))) (q0 .z .z)))) func36 [.sl l] h9
def jDH (sets:Slc) (w:World) (R:RW):Prop:=
 ∃ (inv:zT) (mu:zU),inv [.sl ⟨none,0,0⟩,.i .i64 0] w/\(∀ all:Slc,∀ i:Int,∀ w1:World,inv [.sl all,.i .i64 i] w1->aE (decide (i<sets.len)) ((zB i sets.len/\aA sets.a λa=>∃ x:Slc,Rd w1 (a.add (i.toNat*1)) [zS x]/\aH prog (Builtin.append_ #[22,22] 22 #[zS all,zS x]) w1 λv w2=>∃ x1:Slc,v=(zS x1)/\(inv [.sl x1,.i .i64 (zW (i+1))] w2/\mu [.sl x1,.i .i64 (zW (i+1))] w2<mu [.sl all,.i .i64 i] w1))) (aD prog 65 [zS all] w1 (aG R) λv1 w3=>∃ x2:Bool,v1=(.bool x2)/\aE (!x2) (R (.returned (.tuple #[.slice none 0 0,.int .i64 4])) w3) (∃ (inv1:zT) (mu1:zU),inv1 [.sl ⟨none,0,0⟩,.i .i64 0] w3/\(∀ least:Slc,∀ i1:Int,∀ w4:World,inv1 [.sl least,.i .i64 i1] w4->aE (decide (i1<all.len)) (∃ (inv2:zT) (mu2:zU),inv2 [.i .i64 (-1:Int),.i .i64 0] w4/\(∀ at0 k:Int,∀ w5:World,inv2 [.i .i64 at0,.i .i64 k] w5->aE (decide (k<least.len)) (∃ j:zT,((zB k least.len/\aA least.a λa1=>(zB i1 all.len/\aA all.a λa2=>∃ x3:Int,Rd w5.drew ((a1.add (k.toNat*7)).add 1) [.int .i64 x3]/\∃ x4:Int,Rd w5.drew ((a2.add (i1.toNat*7)).add 1) [.int .i64 x4]/\aE (x3==x4) ((zB k least.len/\aA least.a λa3=>(zB i1 all.len/\aA all.a λa4=>∃ x5:Int,Rd w5.drew ((a3.add (k.toNat*7)).add 2) [.int .i64 x5]/\∃ x6:Int,Rd w5.drew ((a4.add (i1.toNat*7)).add 2) [.int .i64 x6]/\j [.b (x5==x6)] w5.drew))) (j [.b false] w5.drew))))/\(∀ x7:Bool,∀ w6:World,j [.b x7] w6->aE x7 ((inv2 [.i .i64 k,.i .i64 (zW (k+1))] w6/\mu2 [.i .i64 k,.i .i64 (zW (k+1))] w6<mu2 [.i .i64 at0,.i .i64 k] w5)) ((inv2 [.i .i64 at0,.i .i64 (zW (k+1))] w6/\mu2 [.i .i64 at0,.i .i64 (zW (k+1))] w6<mu2 [.i .i64 at0,.i .i64 k] w5)))) (aE (decide (at0<0)) ((zB i1 all.len/\aA all.a λa5=>∃ xa:zY,∃ xb xc:Int,∃ xd:Slc,∃ xe:Bool,∃ xf xg:Slc,Rd w5 (a5.add (i1.toNat*7)) (yR xa xb xc xd xe xf xg)/\aH prog (Instr.buildSlice 22 1 #[(0,(zR xa xb xc xd xe xf xg))]) w5 λv2 w7=>∃ x8:Slc,v2=(zS x8)/\aH prog (Builtin.append_ #[22,22] 22 #[zS least,zS x8]) w7 λv3 w8=>∃ x9:Slc,v3=(zS x9)/\(inv1 [.sl x9,.i .i64 (zW (i1+1))] w8/\mu1 [.sl x9,.i .i64 (zW (i1+1))] w8<mu1 [.sl least,.i .i64 i1] w4))) (∃ sx:zP,sx w5.drew/\(zB i1 all.len/\aA all.a λa6=>(zB at0 least.len/\aA least.a λa7=>∃ xa1:zY,∃ xb1 xc1:Int,∃ xd1:Slc,∃ xe1:Bool,∃ xf1 xg1:Slc,(∀ w',sx w'->Rd w' (a6.add (i1.toNat*7)) (yR xa1 xb1 xc1 xd1 xe1 xf1 xg1))/\∃ xa2:zY,∃ xb2 xc2:Int,∃ xd2:Slc,∃ xe2:Bool,∃ xf2 xg2:Slc,(∀ w',sx w'->Rd w' (a7.add (at0.toNat*7)) (yR xa2 xb2 xc2 xd2 xe2 xf2 xg2))/\((aD prog 66 [zR xa1 xb1 xc1 xd1 xe1 xf1 xg1] w5.drew (aG R) λv4 w9=>∃ x10:zY,v4=(.string ⟨x10.toArray⟩)/\(sx w9/\((aD prog 66 [zR xa2 xb2 xc2 xd2 xe2 xf2 xg2] w9 (aG R) λv5 w10=>∃ x11:zY,v5=(.string ⟨x11.toArray⟩)/\(sx w10/\aE (Op.bytesLess x10 x11) ((zB i1 all.len/\aA all.a λa8=>∃ xa3:zY,∃ xb3 xc3:Int,∃ xd3:Slc,∃ xe3:Bool,∃ xf3 xg3:Slc,Rd w10 (a8.add (i1.toNat*7)) (yR xa3 xb3 xc3 xd3 xe3 xf3 xg3)/\(zB at0 least.len/\aA least.a λa9=>aJ prog (storeVar 40 (a9.add (at0.toNat*7)) (zR xa3 xb3 xc3 xd3 xe3 xf3 xg3)) w10 λw11=>(inv1 [.sl least,.i .i64 (zW (i1+1))] w11/\mu1 [.sl least,.i .i64 (zW (i1+1))] w11<mu1 [.sl least,.i .i64 i1] w4)))) ((inv1 [.sl least,.i .i64 (zW (i1+1))] w10/\mu1 [.sl least,.i .i64 (zW (i1+1))] w10<mu1 [.sl least,.i .i64 i1] w4))))/\True)))/\True))))))) (∃ (inv3:zT) (mu3:zU),inv3 [.sl ⟨none,0,0⟩,.i .i64 0] w4/\(∀ out:Slc,∀ i2:Int,∀ w12:World,inv3 [.sl out,.i .i64 i2] w12->aE (decide (i2<least.len)) (∃ (inv4:zT) (mu4:zU),inv4 [.b false,.i .i64 0] w12/\(∀ under:Bool,∀ k1:Int,∀ w13:World,inv4 [.b under,.i .i64 k1] w13->aE (decide (k1<least.len)) (∃ sx1:zP,sx1 w13.drew/\aE under ((((inv4 [.b true,.i .i64 (zW (k1+1))] w13.drew/\mu4 [.b true,.i .i64 (zW (k1+1))] w13.drew<mu4 [.b under,.i .i64 k1] w13))/\True)) (aE (i2 != k1) ((zB k1 least.len/\aA least.a λa10=>(zB i2 least.len/\aA least.a λa11=>∃ xa4:zY,∃ xb4 xc4:Int,∃ xd4:Slc,∃ xe4:Bool,∃ xf4 xg4:Slc,(∀ w',sx1 w'->Rd w' (a10.add (k1.toNat*7)) (yR xa4 xb4 xc4 xd4 xe4 xf4 xg4))/\∃ xa5:zY,∃ xb5 xc5:Int,∃ xd5:Slc,∃ xe5:Bool,∃ xf5 xg5:Slc,(∀ w',sx1 w'->Rd w' (a11.add (i2.toNat*7)) (yR xa5 xb5 xc5 xd5 xe5 xf5 xg5))/\((aD prog 67 [zR xa4 xb4 xc4 xd4 xe4 xf4 xg4,zR xa5 xb5 xc5 xd5 xe5 xf5 xg5] w13.drew (aG R) λv6 w14=>∃ x12:Bool,v6=(.bool x12)/\(inv4 [.b x12,.i .i64 (zW (k1+1))] w14/\mu4 [.b x12,.i .i64 (zW (k1+1))] w14<mu4 [.b under,.i .i64 k1] w13))/\True)))) ((((inv4 [.b false,.i .i64 (zW (k1+1))] w13.drew/\mu4 [.b false,.i .i64 (zW (k1+1))] w13.drew<mu4 [.b under,.i .i64 k1] w13))/\True)))) (aE under ((inv3 [.sl out,.i .i64 (zW (i2+1))] w13/\mu3 [.sl out,.i .i64 (zW (i2+1))] w13<mu3 [.sl out,.i .i64 i2] w12)) (∃ (inv5:zT) (mu5:zU),inv5 [.i .i64 0] w13/\(∀ at1:Int,∀ w15:World,inv5 [.i .i64 at1] w15->∃ sx2:zP,sx2 w15.drew/\aE (decide (at1<out.len)) ((zB at1 out.len/\aA out.a λa12=>(zB i2 least.len/\aA least.a λa13=>∃ xa6:zY,∃ xb6 xc6:Int,∃ xd6:Slc,∃ xe6:Bool,∃ xf6 xg6:Slc,(∀ w',sx2 w'->Rd w' (a12.add (at1.toNat*7)) (yR xa6 xb6 xc6 xd6 xe6 xf6 xg6))/\∃ xa7:zY,∃ xb7 xc7:Int,∃ xd7:Slc,∃ xe7:Bool,∃ xf7 xg7:Slc,(∀ w',sx2 w'->Rd w' (a13.add (i2.toNat*7)) (yR xa7 xb7 xc7 xd7 xe7 xf7 xg7))/\((aD prog 68 [zR xa6 xb6 xc6 xd6 xe6 xf6 xg6,zR xa7 xb7 xc7 xd7 xe7 xf7 xg7] w15.drew (aG R) λv7 w16=>∃ x13:Bool,v7=(.bool x13)/\aE x13 ((inv5 [.i .i64 (zW (at1+1))] w16/\mu5 [.i .i64 (zW (at1+1))] w16<mu5 [.i .i64 at1] w15)) (aH prog (Instr.buildSlice 22 0 #[]) w16 λv8 w17=>∃ x14:Slc,v8=(zS x14)/\((0<=at1/\at1<=(out.len:Nat))/\aH prog (Builtin.append_ #[22,22] 22 #[zS x14,.slice (aF out 7 (at1.toNat) out.len out.cap).a (aF out 7 (at1.toNat) out.len out.cap).len (aF out 7 (at1.toNat) out.len out.cap).cap]) w17 λv9 w18=>∃ x15:Slc,v9=(zS x15)/\∃ sx3:zP,sx3 w18.drew/\((0<=at1/\at1<=(out.cap:Nat))/\(zB i2 least.len/\aA least.a λa14=>∃ xa8:zY,∃ xb8 xc8:Int,∃ xd8:Slc,∃ xe8:Bool,∃ xf8 xg8:Slc,(∀ w',sx3 w'->Rd w' (a14.add (i2.toNat*7)) (yR xa8 xb8 xc8 xd8 xe8 xf8 xg8))/\((aD prog 69 [zR xa8 xb8 xc8 xd8 xe8 xf8 xg8] w18.drew (aG R) λv10 w19=>∃ xa9:zY,∃ xb9 xc9:Int,∃ xd9:Slc,∃ xe9:Bool,∃ xf9 xg9:Slc,v10=(zR xa9 xb9 xc9 xd9 xe9 xf9 xg9)/\((aH prog (Instr.buildSlice 22 1 #[(0,(zR xa9 xb9 xc9 xd9 xe9 xf9 xg9))]) w19 λv11 w20=>∃ x16:Slc,v11=(zS x16)/\(sx3 w20/\((aH prog (Builtin.append_ #[22,22] 22 #[.slice (aF out 7 0 (at1.toNat) out.cap).a (aF out 7 0 (at1.toNat) out.cap).len (aF out 7 0 (at1.toNat) out.cap).cap,zS x16]) w20 λv12 w21=>∃ x17:Slc,v12=(zS x17)/\(sx3 w21/\((aH prog (Builtin.append_ #[22,22] 22 #[zS x17,zS x15]) w21 λv13 w22=>∃ x18:Slc,v13=(zS x18)/\(sx3 w22/\(inv3 [.sl x18,.i .i64 (zW (i2+1))] w22/\mu3 [.sl x18,.i .i64 (zW (i2+1))] w22<mu3 [.sl out,.i .i64 i2] w12)))/\True)))/\True)))/\True))/\True))))))/\True)))) (((aH prog (Instr.buildSlice 22 0 #[]) w15.drew λv14 w23=>∃ x19:Slc,v14=(zS x19)/\((0<=at1/\at1<=(out.len:Nat))/\aH prog (Builtin.append_ #[22,22] 22 #[zS x19,.slice (aF out 7 (at1.toNat) out.len out.cap).a (aF out 7 (at1.toNat) out.len out.cap).len (aF out 7 (at1.toNat) out.len out.cap).cap]) w23 λv15 w24=>∃ x20:Slc,v15=(zS x20)/\∃ sx4:zP,sx4 w24.drew/\((0<=at1/\at1<=(out.cap:Nat))/\(zB i2 least.len/\aA least.a λa15=>∃ xa10:zY,∃ xb10 xc10:Int,∃ xd10:Slc,∃ xe10:Bool,∃ xf10 xg10:Slc,(∀ w',sx4 w'->Rd w' (a15.add (i2.toNat*7)) (yR xa10 xb10 xc10 xd10 xe10 xf10 xg10))/\((aD prog 69 [zR xa10 xb10 xc10 xd10 xe10 xf10 xg10] w24.drew (aG R) λv16 w25=>∃ xa11:zY,∃ xb11 xc11:Int,∃ xd11:Slc,∃ xe11:Bool,∃ xf11 xg11:Slc,v16=(zR xa11 xb11 xc11 xd11 xe11 xf11 xg11)/\((aH prog (Instr.buildSlice 22 1 #[(0,(zR xa11 xb11 xc11 xd11 xe11 xf11 xg11))]) w25 λv17 w26=>∃ x21:Slc,v17=(zS x21)/\(sx4 w26/\((aH prog (Builtin.append_ #[22,22] 22 #[.slice (aF out 7 0 (at1.toNat) out.cap).a (aF out 7 0 (at1.toNat) out.cap).len (aF out 7 0 (at1.toNat) out.cap).cap,zS x21]) w26 λv18 w27=>∃ x22:Slc,v18=(zS x22)/\(sx4 w27/\((aH prog (Builtin.append_ #[22,22] 22 #[zS x22,zS x20]) w27 λv19 w28=>∃ x23:Slc,v19=(zS x23)/\(sx4 w28/\(inv3 [.sl x23,.i .i64 (zW (i2+1))] w28/\mu3 [.sl x23,.i .i64 (zW (i2+1))] w28<mu3 [.sl out,.i .i64 i2] w12)))/\True)))/\True)))/\True))/\True)))))/\True))))))) (R (.returned (.tuple #[zS out,.int .i64 0])) w12)))))))
theorem jAJ (sets:Slc) {w:World} {R:RW} (h9:jDH sets w R):Calls prog 35 #[zS sets] w R:=
 zC (q0 .z (q0 .z (q0 (q0 .z (.block none (.loop [(4,.sl),(5,(.i .i64))] (q0 (q0 .z (.cond .z .z)) (q0 (.block none .z) .z))))) (q0 (q0 .z (.cond (q0 .z .z) .z)) (q0 .z (q0 (q0 .z (.block none (.loop [(6,.sl),(7,(.i .i64))] (q0 (q0 .z (.cond .z .z)) (q0 (.block none (q0 .z (q0 (q0 .z (.block none (.loop [(8,(.i .i64)),(9,(.i .i64))] (q0 (q0 .z (.cond .z .z)) (q0 (.block none (.seq (some [(66,.b)]) (.draw 2 (.take 0 (.take 1 (.take 2 (.take 3 (.take 5 (.take 6 (.take 7 (.take 8 (.take 4 (.take 9 (.take 10 (.take 11 (.take 12 (.take 13 (.take 14 (.take 15 (.take 17 (.take 18 (.take 19 (.take 20 (.take 16 (.take 21 (.take 22 (.take 23 .done))))))))))))))))))))))))) (.cond .z .z))) .z))))) (q0 .z (.cond .z (q0 (.draw 1 (.take 0 (.take 1 (.take 2 (.take 5 (.take 6 (.take 7 (.take 3 (.take 8 (.all [(4,(.all [(9,(.take 10 .done))]))])))))))))) (.cond .z .z))))))) .z))))) (q0 .z (q0 (q0 .z (.block none (.loop [(10,.sl),(11,(.i .i64))] (q0 (q0 .z (.cond .z .z)) (q0 (.block none (q0 .z (q0 (q0 .z (.block none (.loop [(12,.b),(13,(.i .i64))] (q0 (q0 .z (.cond .z .z)) (q0 (.block none (.draw 1 (.take 0 (.take 1 (.take 2 (.take 3 (.take 4 (.take 5 (.take 6 (.take 7 (.take 8 (.take 10 (.take 11 (.take 12 (.take 9 (.take 13 (.all [(14,(.take 15 (.take 16 (.take 17 .done))))]))))))))))))))))) .z))))) (q0 (q0 .z (.cond .z .z)) (q0 .z (q0 (.block none (.loop [(14,(.i .i64))] (q0 (q0 (.draw 1 (.take 0 (.take 1 (.take 2 (.take 3 (.take 4 (.take 5 (.take 6 (.take 7 (.take 9 (.take 10 (.take 11 (.take 8 (.take 12 (.all [(13,(.take 14 .done))]))))))))))))))) (.cond .z .z)) (.block none .z)))) (q0 .z (.draw 1 (.take 0 (.take 1 (.take 2 (.take 3 (.take 4 (.take 5 (.take 10 (.take 6 (.all [(7,(.all [(8,(.all [(9,(.all [(11,(.take 12 .done))]))]))]))]))))))))))))))))) .z))))) (q0 .z .z))))))))) func35 [.sl sets] h9
def jGS (l:Slc) (w:World) (R:RW):Prop:=
 ∃ (inv:zT) (mu:zU),inv [.sl ⟨none,0,0⟩,.i .i64 0] w/\(∀ out:Slc,∀ i:Int,∀ w1:World,inv [.sl out,.i .i64 i] w1->aE (decide (i<l.len)) ((zB i l.len/\aA l.a λa=>∃ xa:zY,∃ xb xc:Int,∃ xd:Slc,∃ xe:Bool,∃ xf xg:Slc,Rd w1 (a.add (i.toNat*7)) (yR xa xb xc xd xe xf xg)/\aD prog 34 [zR xa xb xc xd xe xf xg] w1 (aG R) λv w2=>∃ x:Bool,v=(.bool x)/\aE (!x) ((inv [.sl out,.i .i64 (zW (i+1))] w2/\mu [.sl out,.i .i64 (zW (i+1))] w2<mu [.sl out,.i .i64 i] w1)) (∃ (inv1:zT) (mu1:zU),inv1 [.i .i64 0] w2/\(∀ at0:Int,∀ w3:World,inv1 [.i .i64 at0] w3->aE (decide (at0<out.len)) ((zB at0 out.len/\aA out.a λa1=>(zB i l.len/\aA l.a λa2=>∃ x1:zY,Rd w3.drew (a1.add (at0.toNat*1)) [.string ⟨x1.toArray⟩]/\∃ x2:zY,Rd w3.drew ((a2.add (i.toNat*7)).add 0) [.string ⟨x2.toArray⟩]/\aE (Op.bytesLess x1 x2) ((inv1 [.i .i64 (zW (at0+1))] w3.drew/\mu1 [.i .i64 (zW (at0+1))] w3.drew<mu1 [.i .i64 at0] w3)) (∃ j:zT,(aE (at0==(out.len:Int)) (j [.b true] w3.drew.drew) ((zB at0 out.len/\aA out.a λa3=>(zB i l.len/\aA l.a λa4=>∃ x3:zY,Rd w3.drew.drew (a3.add (at0.toNat*1)) [.string ⟨x3.toArray⟩]/\∃ x4:zY,Rd w3.drew.drew ((a4.add (i.toNat*7)).add 0) [.string ⟨x4.toArray⟩]/\j [.b (!(x3==x4))] w3.drew.drew))))/\(∀ x5:Bool,∀ w4:World,j [.b x5] w4->aE x5 (aH prog (Instr.buildSlice 66 0 #[]) w4 λv1 w5=>∃ x6:Slc,v1=(zS x6)/\((0<=at0/\at0<=(out.len:Nat))/\aH prog (Builtin.append_ #[66,66] 66 #[zS x6,.slice (aF out 1 (at0.toNat) out.len out.cap).a (aF out 1 (at0.toNat) out.len out.cap).len (aF out 1 (at0.toNat) out.len out.cap).cap]) w5 λv2 w6=>∃ x7:Slc,v2=(zS x7)/\∃ sx:zP,sx w6.drew/\((0<=at0/\at0<=(out.cap:Nat))/\(zB i l.len/\aA l.a λa5=>∃ x8:zY,(∀ w',sx w'->Rd w' ((a5.add (i.toNat*7)).add 0) [.string ⟨x8.toArray⟩])/\((aH prog (Instr.buildSlice 66 1 #[(0,(.string ⟨x8.toArray⟩))]) w6.drew λv3 w7=>∃ x9:Slc,v3=(zS x9)/\((aH prog (Builtin.append_ #[66,66] 66 #[.slice (aF out 1 0 (at0.toNat) out.cap).a (aF out 1 0 (at0.toNat) out.cap).len (aF out 1 0 (at0.toNat) out.cap).cap,zS x9]) w7 λv4 w8=>∃ x10:Slc,v4=(zS x10)/\(sx w8/\((aH prog (Builtin.append_ #[66,66] 66 #[zS x10,zS x7]) w8 λv5 w9=>∃ x11:Slc,v5=(zS x11)/\(sx w9/\(inv [.sl x11,.i .i64 (zW (i+1))] w9/\mu [.sl x11,.i .i64 (zW (i+1))] w9<mu [.sl out,.i .i64 i] w1)))/\True)))/\True))/\True))))) ((inv [.sl out,.i .i64 (zW (i+1))] w4/\mu [.sl out,.i .i64 (zW (i+1))] w4<mu [.sl out,.i .i64 i] w1))))))) (∃ j1:zT,(aE (at0==(out.len:Int)) (j1 [.b true] w3.drew.drew) ((zB at0 out.len/\aA out.a λa6=>(zB i l.len/\aA l.a λa7=>∃ x12:zY,Rd w3.drew.drew (a6.add (at0.toNat*1)) [.string ⟨x12.toArray⟩]/\∃ x13:zY,Rd w3.drew.drew ((a7.add (i.toNat*7)).add 0) [.string ⟨x13.toArray⟩]/\j1 [.b (!(x12==x13))] w3.drew.drew))))/\(∀ x14:Bool,∀ w10:World,j1 [.b x14] w10->aE x14 (aH prog (Instr.buildSlice 66 0 #[]) w10 λv6 w11=>∃ x15:Slc,v6=(zS x15)/\((0<=at0/\at0<=(out.len:Nat))/\aH prog (Builtin.append_ #[66,66] 66 #[zS x15,.slice (aF out 1 (at0.toNat) out.len out.cap).a (aF out 1 (at0.toNat) out.len out.cap).len (aF out 1 (at0.toNat) out.len out.cap).cap]) w11 λv7 w12=>∃ x16:Slc,v7=(zS x16)/\∃ sx1:zP,sx1 w12.drew/\((0<=at0/\at0<=(out.cap:Nat))/\(zB i l.len/\aA l.a λa8=>∃ x17:zY,(∀ w',sx1 w'->Rd w' ((a8.add (i.toNat*7)).add 0) [.string ⟨x17.toArray⟩])/\((aH prog (Instr.buildSlice 66 1 #[(0,(.string ⟨x17.toArray⟩))]) w12.drew λv8 w13=>∃ x18:Slc,v8=(zS x18)/\((aH prog (Builtin.append_ #[66,66] 66 #[.slice (aF out 1 0 (at0.toNat) out.cap).a (aF out 1 0 (at0.toNat) out.cap).len (aF out 1 0 (at0.toNat) out.cap).cap,zS x18]) w13 λv9 w14=>∃ x19:Slc,v9=(zS x19)/\(sx1 w14/\((aH prog (Builtin.append_ #[66,66] 66 #[zS x19,zS x16]) w14 λv10 w15=>∃ x20:Slc,v10=(zS x20)/\(sx1 w15/\(inv [.sl x20,.i .i64 (zW (i+1))] w15/\mu [.sl x20,.i .i64 (zW (i+1))] w15<mu [.sl out,.i .i64 i] w1)))/\True)))/\True))/\True))))) ((inv [.sl out,.i .i64 (zW (i+1))] w10/\mu [.sl out,.i .i64 (zW (i+1))] w10<mu [.sl out,.i .i64 i] w1)))))))) (R (.returned (zS out)) w1))
theorem jCL (l:Slc) {w:World} {R:RW} (h9:jGS l w R):Calls prog 33 #[zS l] w R:=
 zC (q0 .z (q0 .z (q0 (q0 .z (.block none (.loop [(3,.sl),(4,(.i .i64))] (q0 (q0 .z (.cond .z .z)) (q0 (.block none (q0 (q0 .z (.cond .z .z)) (q0 .z (q0 (.block none (.loop [(5,(.i .i64))] (q0 (q0 (.draw 2 (.take 0 (.take 1 (.take 2 (.take 3 (.take 4 (.take 5 (.take 6 (.take 7 (.take 9 (.take 10 (.take 11 (.take 12 (.take 8 (.take 13 (.take 14 (.take 15 .done))))))))))))))))) (.cond .z .z)) (.block none .z)))) (.seq (some [(52,.b)]) (.draw 2 (.take 0 (.take 1 (.take 2 (.take 3 (.take 4 (.take 5 (.take 6 (.take 7 (.take 9 (.take 10 (.take 11 (.take 12 (.take 8 (.take 13 (.take 14 (.take 15 .done))))))))))))))))) (.cond (q0 .z (.draw 1 (.take 0 (.take 1 (.take 2 (.take 3 (.take 4 (.take 5 (.take 6 (.take 10 (.take 7 (.all [(8,(.all [(9,(.all [(11,(.take 12 .done))]))]))])))))))))))) .z)))))) .z))))) (q0 .z .z)))) func33 [.sl l] h9
def jFK (l:Slc) (w:World) (R:RW):Prop:=
 aD prog 33 [zS l] w (aG R) λv w1=>∃ x:Slc,v=(zS x)/\∃ (inv:zT) (mu:zU),inv [.sl ⟨none,0,0⟩,.i .i64 0] w1/\(∀ out:Slc,∀ i:Int,∀ w2:World,inv [.sl out,.i .i64 i] w2->aE (decide (i<x.len)) (∃ (inv1:zT) (mu1:zU),inv1 [.sl ⟨none,0,0⟩,.i .i64 0] w2/\(∀ sets:Slc,∀ n:Int,∀ w3:World,inv1 [.sl sets,.i .i64 n] w3->aE (decide (n<l.len)) (∃ j:zT,(∃ sx:zP,sx w3.drew/\(zB n l.len/\aA l.a λa=>(zB i x.len/\aA x.a λa1=>∃ x1:zY,(∀ w',sx w'->Rd w' ((a.add (n.toNat*7)).add 0) [.string ⟨x1.toArray⟩])/\∃ x2:zY,(∀ w',sx w'->Rd w' (a1.add (i.toNat*1)) [.string ⟨x2.toArray⟩])/\aE (x1==x2) ((zB n l.len/\aA l.a λa2=>∃ xa:zY,∃ xb xc:Int,∃ xd:Slc,∃ xe:Bool,∃ xf xg:Slc,(∀ w',sx w'->Rd w' (a2.add (n.toNat*7)) (yR xa xb xc xd xe xf xg))/\((aD prog 34 [zR xa xb xc xd xe xf xg] w3.drew (aG R) λv1 w4=>∃ x3:Bool,v1=(.bool x3)/\(sx w4/\j [.b x3] w4))/\True))) ((((sx w3.drew/\j [.b false] w3.drew))/\True)))))/\(∀ x4:Bool,∀ w5:World,j [.b x4] w5->aE x4 ((zB n l.len/\aA l.a λa3=>∃ xa1:zY,∃ xb1 xc1:Int,∃ xd1:Slc,∃ xe1:Bool,∃ xf1 xg1:Slc,Rd w5 (a3.add (n.toNat*7)) (yR xa1 xb1 xc1 xd1 xe1 xf1 xg1)/\aH prog (Instr.buildSlice 22 1 #[(0,(zR xa1 xb1 xc1 xd1 xe1 xf1 xg1))]) w5 λv2 w6=>∃ x5:Slc,v2=(zS x5)/\aH prog (Instr.buildSlice 33 1 #[(0,(zS x5))]) w6 λv3 w7=>∃ x6:Slc,v3=(zS x6)/\aH prog (Builtin.append_ #[33,33] 33 #[zS sets,zS x6]) w7 λv4 w8=>∃ x7:Slc,v4=(zS x7)/\(inv1 [.sl x7,.i .i64 (zW (n+1))] w8/\mu1 [.sl x7,.i .i64 (zW (n+1))] w8<mu1 [.sl sets,.i .i64 n] w3))) ((inv1 [.sl sets,.i .i64 (zW (n+1))] w5/\mu1 [.sl sets,.i .i64 (zW (n+1))] w5<mu1 [.sl sets,.i .i64 n] w3)))) (aD prog 35 [zS sets] w3 (aG R) λv5 w9=>∃ xa2:Slc,∃ xb2:Int,v5=(.tuple #[zS xa2,.int .i64 xb2])/\aE (decide ((xa2.len:Int) > (0:Int))) ((zB i x.len/\aA x.a λa4=>∃ x8:zY,Rd w9 (a4.add (i.toNat*1)) [.string ⟨x8.toArray⟩]/\aH prog (Instr.buildSlice 26 1 #[(0,(.agg #[.string ⟨x8.toArray⟩,zS xa2]))]) w9 λv6 w10=>∃ x9:Slc,v6=(zS x9)/\aH prog (Builtin.append_ #[26,26] 26 #[zS out,zS x9]) w10 λv7 w11=>∃ x10:Slc,v7=(zS x10)/\(inv [.sl x10,.i .i64 (zW (i+1))] w11/\mu [.sl x10,.i .i64 (zW (i+1))] w11<mu [.sl out,.i .i64 i] w2))) ((inv [.sl out,.i .i64 (zW (i+1))] w9/\mu [.sl out,.i .i64 (zW (i+1))] w9<mu [.sl out,.i .i64 i] w2))))) (R (.returned (zS out)) w2))
theorem jCS (l:Slc) {w:World} {R:RW} (h9:jFK l w R):Calls prog 13 #[zS l] w R:=
 zC (q0 .z (q0 .z (q0 .z (q0 (q0 .z (.block none (.loop [(3,.sl),(5,(.i .i64))] (q0 (q0 .z (.cond .z .z)) (q0 (.block none (q0 .z (q0 (q0 .z (.block none (.loop [(6,.sl),(7,(.i .i64))] (q0 (q0 .z (.cond .z .z)) (q0 (.block none (.seq (some [(40,.b)]) (.draw 1 (.take 0 (.take 1 (.take 2 (.take 3 (.take 5 (.take 6 (.take 7 (.take 4 (.take 8 (.take 9 (.take 10 (.take 11 (.take 12 (.take 13 (.take 14 (.all [(15,(.take 16 .done))]))))))))))))))))) (.cond .z .z))) .z))))) (q0 .z (q0 .z (.cond .z .z)))))) .z))))) (q0 .z .z))))) func13 [.sl l] h9
def jEX (l:Slc) (w:World) (R:RW):Prop:=
 aD prog 13 [zS l] w (aG R) λv w1=>∃ x:Slc,v=(zS x)/\∃ (inv:zT) (mu:zU),inv [.sl ⟨none,0,0⟩,.i .i64 0] w1/\(∀ out:Slc,∀ i:Int,∀ w2:World,inv [.sl out,.i .i64 i] w2->aE (decide (i<x.len)) ((zB i x.len/\aA x.a λa=>∃ x1:Slc,Rd w2 ((a.add (i.toNat*2)).add 1) [zS x1]/\aD prog 36 [zS x1] w2 (aG R) λv1 w3=>∃ x2:Slc,v1=(zS x2)/\aH prog (Builtin.append_ #[22,22] 22 #[zS out,zS x2]) w3 λv2 w4=>∃ x3:Slc,v2=(zS x3)/\(inv [.sl x3,.i .i64 (zW (i+1))] w4/\mu [.sl x3,.i .i64 (zW (i+1))] w4<mu [.sl out,.i .i64 i] w2))) (R (.returned (zS out)) w2))
theorem jCN (l:Slc) {w:World} {R:RW} (h9:jEX l w R):Calls prog 15 #[zS l] w R:=
 zC (q0 .z (q0 .z (q0 .z (q0 (q0 .z (.block none (.loop [(3,.sl),(5,(.i .i64))] (q0 (q0 .z (.cond .z .z)) (q0 (.block none .z) .z))))) (q0 .z .z))))) func15 [.sl l] h9
section
variable {w:World}
theorem qRC {s:Slc} {l:List (Int×Int)} (hs:aK w s 2 (dts l)) (hn:l.length<=1000000):Calls prog 128 #[.slice s.a s.len s.cap] w (Ret λv w'=>∃ x:Slc,v=x.val/\Sh.Own w' x 2 (dts l)/\FB w x/\Mod NoB w w'):=by
 refine qQB _ ?_
 unfold qXT
 obtain ⟨id,h9,hd2,k3,k4⟩:=qI
 have hl:=dW hs
 exact aS (s:=⟨none,0,0⟩) kU h9 hd2 k3 rfl k4 (bK _ 2) hs (qS l) (by simp only []; omega) (by simp only []; omega) λx w1 ho hlen hblk hm=>⟨x,rfl,x,rfl,ho,(FB.nil w).step (Nat.le_refl _) hblk,(FB.nil w).mod (Mod.refl _ _) hm⟩
theorem qCT {s:Slc} {l:zY} (hs:aK w s 1 (bys l)) (hn:l.length<=1000000):Calls prog 129 #[.slice s.a s.len s.cap] w (Ret λv w'=>∃ x:Slc,v=x.val/\Sh.Own w' x 1 (bys l)/\FB w x/\Mod NoB w w'):=by
 refine qNX _ ?_
 unfold qXW
 obtain ⟨k6,h9,k3,k4,k5⟩:=i5
 have hl:=aV hs
 exact aS (s:=⟨none,0,0⟩) u26 h9 k3 k4 rfl k5 (bK _ 1) hs (eX _) (by simp only []; omega) (by simp only []; omega) λx w1 ho hlen hblk hm=>⟨x,rfl,x,rfl,ho,(FB.nil w).step (Nat.le_refl _) hblk,(FB.nil w).mod (Mod.refl _ _) hm⟩
theorem uU {h:Hd} {r:Rc} (H:bH w h r):Calls prog 69 #[h.val] w (Ret λv w'=>∃ h':Hd,v=h'.val/\bH w' h' r/\uW w h'/\Mod NoB w w'):=by
 refine jCR h.a h.b h.c h.d h.e h.f h.g ?_
 unfold jHC
 obtain ⟨ir,hr1,hr2,z6,z7⟩:=iF
 obtain ⟨z8,v6,v7,v8⟩:=H.sm
 refine aQ (v:=h.val) (l:=h.cells) rfl λp w1 hN hb=>⟨_,rfl,?_⟩
 refine aN (l:=Hd.cells ⟨[],0,0,⟨none,0,0⟩,false,⟨none,0,0⟩,⟨none,0,0⟩⟩) hr1 hr2 rfl λq w2 t7 hb2=>⟨_,rfl,?_⟩
 have hp2:=hb.no t7.mod
 have e1:=hN.at_; have e2:=t7.at_; have hpl:=hb.lt
 have hM2:=hN.mod.tr t7.mod
 refine ⟨h.d,bT (i:=3) hp2 rfl,?_⟩
 refine aB (qRC (H.ctx.no hM2) v6) ?_
 rintro v w3 ⟨x3,rfl,y0,u1,h9⟩
 refine ⟨x3,rfl,?_⟩
 refine dH (i:=3) (by kernel_rfl) (by kernel_rfl) rfl (hp2.no h9) (by rw [Hd.len]; omega) λw4 k4 k6=>?_
 have k6:Blk w4 p (Hd.cells ⟨h.a,h.b,h.c,x3,h.e,h.f,h.g⟩) _:=k6
 have u9:=hM2.tr h9
 have u2:Mod NoB w w4:=u9.fresh k4.mod λz e=>by omega
 have hx3p : ∀ z,x3.blk=some z->¬ z=p:=λz hz e=>by have:=u1 z hz; have:=t7.size; omega
 refine ⟨h.f,bT (i:=5) k6 rfl,?_⟩
 refine aB (qCT (H.val.no u2) v7) ?_
 rintro v w5 ⟨x5,rfl,y1,u3,p8⟩
 refine ⟨x5,rfl,?_⟩
 refine dH (i:=5) (by kernel_rfl) (by kernel_rfl) rfl (k6.no p8) (by rw [Hd.len]; omega) λw6 p9 q8=>?_
 have q8:Blk w6 p (Hd.cells ⟨h.a,h.b,h.c,x3,h.e,x5,h.g⟩) _:=q8
 have v1:=u2.tr p8
 have u4:Mod NoB w w6:=v1.fresh p9.mod λz e=>by omega
 have s3:=u9.size; have s4:=u2.size; have s5:=v1.size; have s6:=u4.size
 have hx5p : ∀ z,x5.blk=some z->¬ z=p:=λz hz e=>by have:=u3 z hz; have:=k6.lt; omega
 refine ⟨h.g,bT (i:=6) q8 rfl,?_⟩
 refine aB (qCT (H.sig.no u4) v8) ?_
 rintro v w7 ⟨x7,rfl,y2,u5,q9⟩
 refine ⟨x7,rfl,?_⟩
 refine dH (i:=6) (by kernel_rfl) (by kernel_rfl) rfl (q8.no q9) (by rw [Hd.len]; omega) λw8 t6 u6=>?_
 have u6:Blk w8 p (Hd.cells ⟨h.a,h.b,h.c,x3,h.e,x5,x7⟩) _:=u6
 have y5:=u4.tr q9
 have y7:Mod NoB w w8:=y5.fresh t6.mod λz e=>by omega
 have hx7p : ∀ z,x7.blk=some z->¬ z=p:=λz hz e=>by have:=u5 z hz; have:=q8.lt; omega
 have hq8 : ∃ l,Blk w8 q l 40/\l.length=7:=⟨_,((((((hb2.no h9).mod k4.mod (by omega)).no p8).mod p9.mod (by omega)).no q9).mod t6.mod (by omega)),rfl⟩
 obtain ⟨lq,hq8,y8⟩:=hq8
 let h':Hd:=⟨h.a,h.b,h.c,x3,h.e,x5,x7⟩
 refine ⟨h'.a,h'.b,h'.c,h'.d,h'.e,h'.f,h'.g,rdH u6,?_⟩
 refine cB (h:=h') (by kernel_rfl) (by kernel_rfl) hq8 y8 λw9 u0 y9=>?_
 have z1:Mod NoB w w9:=y7.fresh u0.mod λz e=>by omega
 have u7 : ∀ z,z=q->z<w2.heap.size:=λz e=>by have:=hb2.lt; omega
 have k3:Sh.Own w9 x3 2 (dts r.ctx):=(((((y0.mod k4.mod λz hz e=>hx3p z hz e).no p8).mod p9.mod λz hz e=>hx3p z hz e).no q9).mod t6.mod λz hz e=>hx3p z hz e).mod u0.mod λz hz e=>by have:=u1 z hz; have:=u7 z e; omega
 have k5:Sh.Own w9 x5 1 (bys r.val):=(((y1.mod p9.mod λz hz e=>hx5p z hz e).no q9).mod t6.mod λz hz e=>hx5p z hz e).mod u0.mod λz hz e=>by have:=u3 z hz; have:=u7 z e; have:=h9.size; have:=k4.mod.size; omega
 have k7:Sh.Own w9 x7 1 (bys r.sig):=(y2.mod t6.mod λz hz e=>hx7p z hz e).mod u0.mod λz hz e=>by have:=u5 z hz; have:=u7 z e; have:=h9.size; have:=k4.mod.size; have:=p8.size; have:=p9.mod.size; omega
 refine ⟨h'.a,h'.b,h'.c,h'.d,h'.e,h'.f,h'.g,rdH y9,h',rfl,⟨H.key,H.cl,H.sq,H.gone,k3.rd,k5.rd,k7.rd,H.sm,λz hz=>?_⟩,λz hz=>?_,z1⟩
 ·rcases hz with hz | hz | hz
  ·exact k3.lt hz
  ·exact k5.lt hz
  ·exact k7.lt hz
 ·have s2:=hM2.size
  rcases hz with hz | hz | hz
  ·have:=u1 z hz; omega
  ·have:=u3 z hz; omega
  ·have:=u5 z hz; omega
theorem qMO {B:Nat} {s:Slc} {rs:List Rc} {K:zY} (hR:bO B w s rs) (hn:rs.length<=1000000) (hr : ∀ r∈rs,r.right=true/\r.key=K):Calls prog 65 #[.slice s.a s.len s.cap] w (Ret λv w'=>v = .bool true/\Mod NoB w w'):=by
 refine jAP _ ?_
 unfold jGE
 have hl:=hR.len
 obtain ⟨hs,g1,g2,g3,g4⟩:=hR
 refine ⟨λl' w'=>match l' with | [.i _ x]=>∃ k:Nat,x=k/\k<=rs.length/\Mod NoB w w' | _=>False,λl' _=>match l' with | [.i _ x]=>(rs.length - x).toNat | _=>0,⟨0,rfl,by omega,Mod.refl _ _⟩,?_⟩
 rintro x w1 ⟨k,rfl,hk,k4⟩
 refine aC (λh=>?_) λh=>⟨rfl,k4⟩
 have hkl:k<rs.length:=by have:=of_decide_eq_true h; omega
 have h9:k<hs.length:=by omega
 have hm1d:=k4.tr (Mod.drew NoB w1)
 obtain ⟨A,ea,k5⟩:=aZ Hd.len (by omega) (g1.no hm1d) h9
 obtain ⟨A',ea',k3⟩:=aZ Hd.len (by omega) (g1.no hm1d) (show 0<hs.length by omega)
 rw [ea] at ea'; cases ea'
 rw [ea]
 refine ⟨Mod NoB w1.drew,Mod.refl _ _,⟨by omega,by omega⟩,hs[k].a,hs[k].b,hs[k].c,hs[k].d,hs[k].e,hs[k].f,hs[k].g,λw' hm=>k5.mod hm λh=>h,?_,trivial⟩
 refine aB (lY (h:=hs[k]) ((g4 k h9 hkl).1.no hm1d)) ?_
 rintro v w2 ⟨rfl,k6⟩
 have p8:=(hr rs[k] (List.getElem_mem _))
 rw [p8.1]
 have e1:hs[k].a=K:=(g4 k h9 hkl).1.key.trans p8.2
 have e0:hs[0].a=K:=(g4 0 (by omega) (by omega)).1.key.trans (hr rs[0] (List.getElem_mem _)).2
 refine ⟨_,rfl,k6,aC (λh=>by cases h) λ_=>⟨⟨by omega,by omega⟩,⟨by omega,by omega⟩,K,λw' hm=>cW.2 ((k5.mod hm λh=>h) 0 _ (by show some (Value.string ⟨hs[k].a.toArray⟩)=_; rw [e1])),K,λw' hm=>cW.2 ((k3.mod hm λh=>h) 0 _ (by show some (Value.string ⟨hs[0].a.toArray⟩)=_; rw [e0])),aC (λh=>by simp at h) λ_=>⟨⟨k+1,aI (by omega),by omega,hm1d.tr k6⟩,?_⟩⟩⟩
 rw [aI (by omega)]; (try simp only []); omega
end
theorem tY (l:List Rc) : ∃ l':List Rc,l'.Perm l/\l'.Pairwise (λa b=>¬ ltS b a):=by
 classical
 refine ⟨l.mergeSort (λa b=>decide (¬ ltS b a)),List.mergeSort_perm _ _,?_⟩
 have:=List.pairwise_mergeSort (le:=λa b:Rc=>decide (¬ ltS b a)) (λa b c h1 h2=>by
  simp only [decide_eq_true_eq] at *
  exact qDJ h2 h1) (λa b=>by
  simp only [Bool.or_eq_true,decide_eq_true_eq]
  rcases Classical.em (ltS b a) with h | h
  ·exact .inr λh'=>qDE _ (qJZ h h')
  ·exact .inl h) l
 exact this.imp λh=>by simpa using h
theorem zA {l:List Rc} (hr : ∀ r∈l,r.right=true) : ∃ c,iD l c:=by
 obtain ⟨l',h1,h2⟩:=tY l
 exact ⟨_,yV (tE h2 λr h=>hr r (h1.mem_iff.1 h)) λr=>h1.mem_iff⟩
theorem qDO (a:zY) : ¬ a<a:=List.lt_irrefl a
theorem qLY {a b c:zY} (h1 : ¬ a<b) (h2:c<b) : ¬ a<c:=λh=>h1 (List.lt_trans h h2)
theorem blt_eq {a b:zY} (h1 : ¬ a<b) (h2 : ¬ b<a):a=b:=by
 rcases gD a b with ⟨_,h⟩ | ⟨_,h⟩ | ⟨_,h⟩
 ·exact absurd h h1
 ·exact h
 ·exact absurd h h2
structure Lst (X l:List Rc):Prop where
 nd : ∀ i j (hi:i<l.length) (hj:j<l.length),bN l[i] l[j]->i=j
 mem : ∀ r∈l,r∈X
 min : ∀ r∈X,∃ s∈l,bN s r/\¬ r.enc<s.enc
theorem Lst.nil:Lst [] []:=⟨λi j hi=>absurd hi (by simp),(λr h=>by cases h),(λr h=>by cases h)⟩
theorem Lst.new {X l:List Rc} {r:Rc} (h:Lst X l) (hn : ∀ s∈l,¬ bN s r):Lst (X++[r]) (l++[r]):=by
 refine ⟨λi j hi hj e=>?_,λs hs=>?_,λs hs=>?_⟩
 ·rw [List.length_append,List.length_singleton] at hi hj
  rcases Nat.lt_or_ge i l.length with a | a <;> rcases Nat.lt_or_ge j l.length with b | b
  ·rw [List.getElem_append_left a,List.getElem_append_left b] at e; exact h.nd i j a b e
  ·have:j=l.length:=by omega
   subst this
   rw [List.getElem_append_left a,List.getElem_append_right (Nat.le_refl _)] at e
   simp at e
   exact absurd e (hn _ (List.getElem_mem a))
  ·have:i=l.length:=by omega
   subst this
   rw [List.getElem_append_left b,List.getElem_append_right (Nat.le_refl _)] at e
   simp at e
   exact absurd (⟨e.1.symm,e.2.symm⟩:bN l[j] r) (hn _ (List.getElem_mem b))
  ·omega
 ·rcases List.mem_append.1 hs with hs | hs
  ·exact List.mem_append_left _ (h.mem s hs)
  ·exact List.mem_append_right _ hs
 ·rcases List.mem_append.1 hs with hs | hs
  ·obtain ⟨t,h1,h2⟩:=h.min s hs
   exact ⟨t,List.mem_append_left _ h1,h2⟩
  ·have:s=r:=by simpa using hs
   subst this
   exact ⟨s,List.mem_append_right _ hs,⟨rfl,rfl⟩,qDO _⟩
theorem Lst.keep {X l:List Rc} {r s:Rc} (h:Lst X l) (hs:s∈l) (hd:bN s r) (hl : ¬ r.enc<s.enc):Lst (X++[r]) l:=
 ⟨h.nd,λs hs=>List.mem_append_left _ (h.mem s hs),λt ht=>by
  rcases List.mem_append.1 ht with ht | ht
  ·exact h.min t ht
  ·have:t=r:=by simpa using ht
   subst this
   exact ⟨s,hs,hd,hl⟩⟩
theorem Lst.put {X l:List Rc} {r:Rc} {k:Nat} (h:Lst X l) (hk:k<l.length) (hd:bN l[k] r) (hl:r.enc<l[k].enc):Lst (X++[r]) (l.set k r):=by
 have hg : ∀ i (hi:i<l.length),bN ((l.set k r)[i]'(by simpa using hi)) l[i]:=λi hi=>by
  rw [List.getElem_set]
  split
  ·next e=>subst e; exact ⟨hd.1.symm,hd.2.symm⟩
  ·exact ⟨rfl,rfl⟩
 refine ⟨λi j hi hj e=>?_,λs hs=>?_,λs hs=>?_⟩
 ·have h9:i<l.length:=by simpa using hi
  have k3:j<l.length:=by simpa using hj
  have a:=hg i h9
  have b:=hg j k3
  exact h.nd i j h9 k3 ⟨by rw [<-a.1,e.1,b.1],by rw [<-a.2,e.2,b.2]⟩
 ·rcases List.mem_or_eq_of_mem_set hs with hs | rfl
  ·exact List.mem_append_left _ (h.mem s hs)
  ·simp
 ·have hr:r∈l.set k r:=List.mem_iff_getElem.2 ⟨k,by simpa using hk,by simp⟩
  rcases List.mem_append.1 hs with hs | hs
  ·obtain ⟨t,h1,h2,h3⟩:=h.min s hs
   obtain ⟨j,hj,rfl⟩:=List.getElem_of_mem h1
   rcases Classical.em (j=k) with e | e
   ·subst e
    exact ⟨r,hr,⟨hd.1.symm.trans h2.1,hd.2.symm.trans h2.2⟩,qLY h3 hl⟩
   ·refine ⟨l[j],List.mem_iff_getElem.2 ⟨j,by simpa using hj,?_⟩,h2,h3⟩
    rw [List.getElem_set,if_neg λe'=>e e'.symm]
  ·have:s=r:=by simpa using hs
   subst this
   exact ⟨s,hr,⟨rfl,rfl⟩,qDO _⟩
theorem Lst.iff {X l:List Rc} (h:Lst X l) (hr : ∀ r∈X,r.right=true) (r:Rc):r∈l↔r∈X/\∀ r'∈X,r'.cl=r.cl->r'.sq=r.sq->¬ (r'.enc<r.enc):=by
 constructor
 ·intro hm
  refine ⟨h.mem r hm,λr' h' e1 e2=>?_⟩
  obtain ⟨s,h1,h2,h3⟩:=h.min r' h'
  obtain ⟨i,hi,rfl⟩:=List.getElem_of_mem hm
  obtain ⟨j,hj,rfl⟩:=List.getElem_of_mem h1
  obtain rfl:=h.nd j i hj hi ⟨h2.1.trans e1,h2.2.trans e2⟩
  exact h3
 ·rintro ⟨h1,h2⟩
  obtain ⟨s,a,b,c⟩:=h.min r h1
  have:=h2 s (h.mem s a) b.1 b.2
  rw [wA (hr r h1) (hr s (h.mem s a)) (blt_eq c this)]
  exact a
structure qF (l:List Rc) (k:Nat) (o:List Rc):Prop where
 pw:o.Pairwise cY
 mem : ∀ r,r∈o↔∃ i,∃ h:i<l.length,i<k/\r=l[i]/\∀ j (hj:j<l.length),j≠i->l[j].over l[i]=false
theorem qF.zero (l:List Rc):qF l 0 []:=⟨List.Pairwise.nil,λr=>⟨(λh=>by cases h),λ⟨i,_,h,_⟩=>by omega⟩⟩
theorem qF.skip {l o:List Rc} {k:Nat} (h:qF l k o) (hk:k<l.length) (hu : ∃ j,∃ hj:j<l.length,j≠k/\l[j].over l[k]=true):qF l (k+1) o:=by
 refine ⟨h.pw,λr=>?_⟩
 rw [h.mem]
 constructor
 ·rintro ⟨i,hi,a,b,c⟩; exact ⟨i,hi,by omega,b,c⟩
 ·rintro ⟨i,hi,a,b,c⟩
  refine ⟨i,hi,?_,b,c⟩
  rcases Nat.lt_or_ge i k with h' | h'
  ·exact h'
  ·have:i=k:=by omega
   subst this
   obtain ⟨j,hj,h1,h2⟩:=hu
   rw [c j hj h1] at h2; cases h2
theorem qF.ins {l o:List Rc} {k p:Nat} (h:qF l k o) (k3 : ∀ i j (hi:i<l.length) (hj:j<l.length),bN l[i] l[j]->i=j) (hk:k<l.length) (hu : ∀ j (hj:j<l.length),j≠k->l[j].over l[k]=false) (hp:p<=o.length)
 (h1 : ∀ j (hj:j<o.length),j<p->cY o[j] l[k]) (h2 : ∀ hp:p<o.length,¬ cY o[p] l[k]):qF l (k+1) (o.take p++l[k] :: o.drop p):=by
 have hne : ∀ x∈o,¬ bN x l[k]:=λx hx e=>by
  obtain ⟨i,hi,a,b,_⟩:=(h.mem x).1 hx
  subst b
  have:=k3 i k hi hk e; omega
 have m1 : ∀ x∈o.take p,cY x l[k]:=λx hx=>by
  obtain ⟨a,ha,rfl⟩:=List.getElem_of_mem hx
  rw [List.length_take] at ha
  rw [List.getElem_take]
  exact h1 a (by omega) (by omega)
 have m2 : ∀ x∈o.drop p,cY l[k] x:=λx hx=>by
  obtain ⟨a,ha,rfl⟩:=List.getElem_of_mem hx
  rw [List.length_drop] at ha
  rw [List.getElem_drop]
  have hlt : ∀ x,¬ cY x l[k]->¬ bN x l[k]->cY l[k] x:=λx a b=>by unfold cY bN at *; omega
  have h9:cY l[k] (o[p]'(by omega)):=hlt _ (h2 (by omega)) (hne _ (List.getElem_mem _))
  rcases Nat.eq_zero_or_pos a with rfl | k4
  ·exact h9
  ·exact oH _ _ _ h9 (List.pairwise_iff_getElem.1 h.pw p (p+a) (by omega) (by omega) (by omega))
 refine ⟨List.pairwise_append.2 ⟨h.pw.sublist (List.take_sublist _ _),List.pairwise_cons.2 ⟨m2,h.pw.sublist (List.drop_sublist _ _)⟩,λa ha b hb=>?_⟩,λr=>?_⟩
 ·rcases List.mem_cons.1 hb with rfl | hb
  ·exact m1 a ha
  ·exact oH _ _ _ (m1 a ha) (m2 b hb)
 ·have hm:r∈o.take p++l[k] :: o.drop p↔r∈o\/r=l[k]:=by
   conv=>rhs; rw [<-List.take_append_drop p o]
   simp only [List.mem_append,List.mem_cons]
   constructor
   ·rintro (h | h | h)
    ·exact .inl (.inl h)
    ·exact .inr h
    ·exact .inl (.inr h)
   ·rintro ((h | h) | h)
    ·exact .inl h
    ·exact .inr (.inr h)
    ·exact .inr (.inl h)
  rw [hm,h.mem]
  constructor
  ·rintro (⟨i,hi,a,b,c⟩ | rfl)
   ·exact ⟨i,hi,by omega,b,c⟩
   ·exact ⟨k,hk,by omega,rfl,hu⟩
  ·rintro ⟨i,hi,a,b,c⟩
   rcases Nat.lt_or_ge i k with h' | h'
   ·exact .inl ⟨i,hi,h',b,c⟩
   ·have:i=k:=by omega
    subst this
    exact .inr b
theorem qEQ {X l o:List Rc} (hL:Lst X l) (hr : ∀ r∈X,r.right=true) (hO:qF l l.length o):dR X o:=by
 obtain ⟨c,hc⟩:=zA hr
 have hcl : ∀ r,r∈c↔r∈l:=λr=>by rw [hc.mem,hL.iff hr]
 refine ⟨c,hc,jY gX oH hO.pw (hc.pw.sublist List.filter_sublist) λr=>?_⟩
 rw [hO.mem]
 simp only [nH,List.mem_filter,Bool.not_eq_true',List.any_eq_false]
 constructor
 ·rintro ⟨i,hi,_,rfl,h⟩
  refine ⟨(hcl _).2 (List.getElem_mem hi),λy hy=>?_⟩
  obtain ⟨j,hj,rfl⟩:=List.getElem_of_mem ((hcl y).1 hy)
  rcases Classical.em (j=i) with e | e
  ·subst e; simp
  ·simp [h j hj e]
 ·rintro ⟨h1,h2⟩
  obtain ⟨i,hi,rfl⟩:=List.getElem_of_mem ((hcl r).1 h1)
  refine ⟨i,hi,hi,rfl,λj hj hji=>?_⟩
  have:=h2 l[j] ((hcl _).2 (List.getElem_mem hj))
  cases e:l[j].over l[i] with
  | false=>rfl
  | true=>
    have hd : ¬ (l[i].cl=l[j].cl/\l[i].sq=l[j].sq):=λh=>hji (hL.nd j i hj hi ⟨h.1.symm,h.2.symm⟩)
    rw [e,decide_eq_false hd] at this
    simp at this
theorem lF : ∀ (x y:zY),Op.bytesLess x y=decide (x<y)
 | [],[]=>by simp [Op.bytesLess]
 | _ :: _,[]=>by simp [Op.bytesLess]
 | [],_ :: _=>by simp [Op.bytesLess]
 | a :: x,b :: y=>by
   rw [Op.bytesLess,lF x y]
   simp only [List.cons_lt_cons_iff]
   by_cases h1:a<b <;> by_cases h2:a=b <;> by_cases h3:x<y <;> simp [h1,h2,h3]
def iE (w0 w:World) (x:Slc) (rs:List Rc):Prop:=
 ∃ ps:List (Hd×Rc),Sh.Own w x 7 (hcells (ps.map (·.1)))/\FB w0 x/\ps.map (·.2)=rs/\(∀ q∈ps,bH w q.1 q.2/\∀ z,q.1.on z->w0.heap.size<=z/\z<w.heap.size/\x.blk≠some z)/\Mod NoB w0 w
theorem iE.nil {w0 w:World} (h:Mod NoB w0 w):iE w0 w ⟨none,0,0⟩ []:=⟨[],bK _ 7,FB.nil _,rfl,λq h=>by (cases h),h⟩
theorem iE.no {w0 w w':World} {x:Slc} {rs:List Rc} (h:iE w0 w x rs) (hm:Mod NoB w w'):iE w0 w' x rs:=by
 obtain ⟨ps,h1,h2,h3,h4,h5⟩:=h
 exact ⟨ps,h1.no hm,h2,h3,λq hq=>⟨(h4 q hq).1.no hm,λz hz=>by obtain ⟨a,b,c⟩:=(h4 q hq).2 z hz; exact ⟨a,Nat.lt_of_lt_of_le b hm.size,c⟩⟩,h5.tr hm⟩
theorem iE.len {w0 w:World} {x:Slc} {rs:List Rc} (h:iE w0 w x rs):rs.length=x.len:=by
 obtain ⟨ps,h1,h2,rfl,_⟩:=h
 have:=bA Hd.len (by omega) h1.rd
 simp at this ⊢; omega
theorem iE.at {w0 w:World} {x:Slc} {rs:List Rc} (h:iE w0 w x rs):bO w.heap.size w x rs:=by
 obtain ⟨ps,h1,h2,rfl,h4,h5⟩:=h
 refine ⟨ps.map (·.1),h1.rd,λz hz=>h1.lt hz,by simp,λi a b=>?_⟩
 simp only [List.getElem_map]
 obtain ⟨c1,c2⟩:=h4 (ps[i]'(by simpa using a)) (List.getElem_mem _)
 exact ⟨c1,λz hz=>(c2 z hz).2.1⟩
theorem nM (a b:List Hd):hcells (a++b)=hcells a++hcells b:=by unfold hcells; exact bP _ _
section
variable {w:World}
theorem qUU {w4:World} {out least:Slc} {rs ls:List Rc} {gs:List Hd} {p k:Nat} {K:Slc->zP} {R:RW} (hR:iE w4 w out rs) (hl:aK w least 7 (hcells gs)) (hll : ∀ z,least.blk=some z->z<w4.heap.size) (hgl:gs.length=ls.length) (hg : ∀ i (a:i<gs.length) (b:i<ls.length),bH w gs[i] ls[i])
 (hk:k<ls.length) (hp:p<=rs.length) (hn:rs.length<=100000) (hK : ∀ x w',iE w4 w' x (rs.take p++ls[k] :: rs.drop p)->K x w') :
 aH prog (Instr.buildSlice 22 0 #[]) w λv8 y5=>∃ x14:Slc,v8=(.slice x14.a x14.len x14.cap)/\((0<=(p:Int)/\(p:Int)<=(out.len:Nat))/\aH prog (Builtin.append_ #[22,22] 22 #[.slice x14.a x14.len x14.cap,.slice (aF out 7 ((p:Int).toNat) out.len out.cap).a (aF out 7 ((p:Int).toNat) out.len out.cap).len (aF out 7 ((p:Int).toNat) out.len out.cap).cap]) y5 λv9 k4=>∃ x15:Slc,v9=(.slice x15.a x15.len x15.cap)/\∃ v7:zP,v7 k4.drew/\((0<=(p:Int)/\(p:Int)<=(out.cap:Nat))/\((0<=(k:Int)/\(k:Int)<(least.len:Nat))/\aA least.a λo4=>∃ j3:zY,∃ j4 j5:Int,∃ u5:Slc,∃ j6:Bool,∃ u6 u7:Slc,(∀ w',v7 w'->Rd w' (o4.add ((k:Int).toNat*7)) [.string ⟨j3.toArray⟩,.int .i64 j4,.int .i64 j5,.slice u5.a u5.len u5.cap,.bool j6,.slice u6.a u6.len u6.cap,.slice u7.a u7.len u7.cap])/\((aD prog 69 [.agg #[.string ⟨j3.toArray⟩,.int .i64 j4,.int .i64 j5,.slice u5.a u5.len u5.cap,.bool j6,.slice u6.a u6.len u6.cap,.slice u7.a u7.len u7.cap]] k4.drew (aG R) λo5 b5=>∃ b6:zY,∃ a6 a7:Int,∃ u9:Slc,∃ a8:Bool,∃ v1 v6:Slc,o5=(.agg #[.string ⟨b6.toArray⟩,.int .i64 a6,.int .i64 a7,.slice u9.a u9.len u9.cap,.bool a8,.slice v1.a v1.len v1.cap,.slice v6.a v6.len v6.cap])/\((aH prog (Instr.buildSlice 22 1 #[(0,(.agg #[.string ⟨b6.toArray⟩,.int .i64 a6,.int .i64 a7,.slice u9.a u9.len u9.cap,.bool a8,.slice v1.a v1.len v1.cap,.slice v6.a v6.len v6.cap]))]) b5 λo6 k6=>∃ x16:Slc,o6=(.slice x16.a x16.len x16.cap)/\(v7 k6/\((aH prog (Builtin.append_ #[22,22] 22 #[.slice (aF out 7 0 ((p:Int).toNat) out.cap).a (aF out 7 0 ((p:Int).toNat) out.cap).len (aF out 7 0 ((p:Int).toNat) out.cap).cap,.slice x16.a x16.len x16.cap]) k6 λv12 y0=>∃ x17:Slc,v12=(.slice x17.a x17.len x17.cap)/\(v7 y0/\((aH prog (Builtin.append_ #[22,22] 22 #[.slice x17.a x17.len x17.cap,.slice x15.a x15.len x15.cap]) y0 λo7 p8=>∃ x18:Slc,o7=(.slice x18.a x18.len x18.cap)/\(v7 p8/\K x18 p8))/\True)))/\True)))/\True))/\True)))):=by
 obtain ⟨ir,hr1,hr2,y7,y8⟩:=iF
 have o8:=hR.len
 obtain ⟨ps,o1,f1,rfl,c1,m1⟩:=hR
 have hpl:ps.length=out.len:=by simpa using o8
 have hcap:=o1.2.1
 have i6:p<=ps.length:=by simpa using hp
 have s5:ps.length<=100000:=by simpa using hn
 have o9:=bA Hd.len (by omega) hl
 refine kZ fA hr1 λb0 y5 q8=>⟨⟨some ⟨b0,0,none⟩,0,0⟩,rfl,⟨by omega,by omega⟩,?_⟩
 simp only [Int.toNat_natCast]
 have hcut:aK y5 (aF out 7 p out.len out.cap) 7 (hcells ((ps.map (·.1)).drop p)):=by
  have:=((o1.rd.no q8.mod).cut (l:=p) (n:=out.len) (m:=out.cap) (by omega) (Nat.le_refl _) hcap (Nat.le_refl _))
  rw [(rN (ps.map (·.1)) p (by simpa using i6)).2,List.take_of_length_le (by rw [hcells,cJ Hd.len,List.length_drop,List.length_map,hpl]; exact Nat.le_refl _)] at this
  exact this
 have i7:(aF out 7 p out.len out.cap).len=out.len - p:=rfl
 refine aS (s:=⟨some ⟨b0,0,none⟩,0,0⟩) fA hr1 hr2 y7 rfl y8 (kW _ _ 7) hcut (dF Hd.one _) (by rw [i7]; simp only []; omega) (by rw [i7]; simp only []; omega) λx15 k4 q9 y9 t6 t7=>⟨x15,rfl,?_⟩
 rw [List.nil_append] at q9
 have t7:Mod NoB y5 k4:=t7.mono λz _ e=>by rw [Slc.blk_mk,if_pos rfl] at e; cases e
 have hD:Mod NoB w k4.drew:=(q8.mod.tr t7).tr (Mod.drew NoB k4)
 have z1 : ∀ z,x15.blk=some z->w.heap.size<=z:=λz hz=>by
  rcases t6 with e | e
  ·rw [e,Slc.blk_mk,if_pos rfl] at hz; cases hz
  ·rw [e] at hz; cases hz; exact q8.mod.size
 have hout : ∀ z,out.blk=some z->z<w.heap.size:=λz hz=>o1.lt hz
 let S:Nat->Prop:=λz=>out.blk=some z
 have hne : ∀ z,least.blk=some z->¬ S z:=λz hz e=>by have:=hll z hz; have:=f1 z e; omega
 have hkg:k<gs.length:=by omega
 refine ⟨Mod S k4.drew,Mod.refl _ _,⟨by omega,by omega⟩,⟨by omega,by omega⟩,?_⟩
 obtain ⟨A,ea,_⟩:=aZ Hd.len (by omega) (hl.no hD) hkg
 rw [ea]
 refine ⟨gs[k].a,gs[k].b,gs[k].c,gs[k].d,gs[k].e,gs[k].f,gs[k].g,λw' hm=>by
  obtain ⟨A',ea',h'⟩:=aZ Hd.len (by omega) ((hl.no hD).mod hm hne) hkg
  rw [ea] at ea'; cases ea'; exact h',?_,trivial⟩
 refine aB (uU (h:=gs[k]) ((hg k hkg hk).no hD)) ?_
 rintro v b5 ⟨h',rfl,H',hnew,y1⟩
 refine ⟨h'.a,h'.b,h'.c,h'.d,h'.e,h'.f,h'.g,rfl,?_,trivial⟩
 refine tB (h:=h') λx16 k6 p9 z6 i8 _ r0=>⟨x16,rfl,(y1.tr p9).mono (λ_ _ h=>h.elim),?_,trivial⟩
 have h9:=y1.tr p9
 have u0:Mod NoB w k6:=hD.tr h9
 have s6:=hD.size; have s7:=h9.size
 have ec:aF out 7 0 p out.cap=⟨out.a,p,out.cap⟩:=vG hcap (by omega)
 rw [ec]
 have o0:=(o1.no u0).take (n:=p) (by omega)
 rw [(rN (ps.map (·.1)) p (by simpa using i6)).1] at o0
 refine aS (s:=⟨out.a,p,out.cap⟩) fA hr1 hr2 y7 rfl y8 o0 z6 (dF Hd.one _) (by simp only []; omega) (by simp only []; omega) λx17 y0 z7 u1 u2 k3=>⟨x17,rfl,?_⟩
 have k3:Mod S k6 y0:=k3
 have s8:=k3.size
 have u3:x17.blk=out.blk\/x17.blk=some k6.heap.size:=u2
 refine ⟨(h9.mono (λ_ _ h=>h.elim):Mod S k4.drew k6).tr k3,?_,trivial⟩
 have y2:Sh.Own y0 x15 7 (hcells ((ps.map (·.1)).drop p)):=(((q9.no (Mod.drew NoB k4)).no h9).mod k3 λz hz e=>by have:=z1 z hz; have:=hout z e; omega)
 have r7:x17.len=p+1:=by rw [u1]; simp only []; omega
 have r8:x15.len=ps.length - p:=by have:=bA Hd.len (by omega) q9.rd; simp at this; omega
 refine aS fA hr1 hr2 y7 rfl y8 z7 y2.rd (dF Hd.one _) (by omega) (by omega) λx18 p8 z8 j2 k5 u4=>⟨x18,rfl,?_⟩
 have s9:=u4.size
 have o2:Mod S k4.drew p8:=((h9.mono (λ_ _ h=>h.elim):Mod S k4.drew k6).tr k3).trans u4 (λ_ _ h=>h) λz hz e=>by
  rcases u3 with h | h
  ·rw [h] at e; exact e
  ·rw [h] at e; cases e; omega
 have r9:Mod NoB w4 p8:=(m1.tr hD).fresh o2 λz e=>f1 z e
 refine ⟨o2,hK x18 p8 ?_⟩
 have s4:=m1.size
 have key : ∀ {g:Hd} {r:Rc},bH k6 g r->(∀ z,g.on z->w4.heap.size<=z/\z<k6.heap.size/\out.blk≠some z)->bH p8 g r/\∀ z,g.on z->w4.heap.size<=z/\z<p8.heap.size/\x18.blk≠some z:=λ{g r} H hz=>by
  have o3 : ∀ z,g.on z->x17.blk≠some z:=λz h e=>by
   obtain ⟨a,b,c⟩:=hz z h
   rcases u3 with h' | h'
   ·rw [h'] at e; exact c e
   ·rw [h'] at e; cases e; omega
  refine ⟨(H.mod k3 λz h=>(hz z h).2.2).mod u4 λz h=>o3 z h,λz h=>?_⟩
  obtain ⟨a,b,c⟩:=hz z h
  refine ⟨a,by omega,λe=>?_⟩
  rcases k5 with h' | h'
  ·rw [h'] at e; exact o3 z h e
  ·rw [h'] at e; cases e; omega
 have hold : ∀ q∈ps,bH p8 q.1 q.2/\∀ z,q.1.on z->w4.heap.size<=z/\z<p8.heap.size/\x18.blk≠some z:=λq hq=>by
  obtain ⟨a,b⟩:=c1 q hq
  exact key (a.no u0) λz hz=>by obtain ⟨b1,b2,b3⟩:=b z hz; exact ⟨b1,by have:=u0.size; omega,b3⟩
 have hnw:=key (H'.no p9) λz hz=>by
  have h1:=hnew z hz
  have h2:=Nat.lt_of_lt_of_le (H'.lt z hz) p9.size
  exact ⟨by omega,h2,λe=>by have:=hout z e; omega⟩
 refine ⟨ps.take p++(h',ls[k]) :: ps.drop p,?_,?_,?_,λq hq=>?_,r9⟩
 ·have e:(ps.take p++(h',ls[k]) :: ps.drop p).map (·.1)=(ps.map (·.1)).take p++[h']++(ps.map (·.1)).drop p:=by simp [List.map_take,List.map_drop]
  rw [e,nM,nM]; exact z8
 ·intro z hz
  rcases k5 with h | h
  ·rw [h] at hz
   rcases u3 with h' | h'
   ·rw [h'] at hz; exact f1 z hz
   ·rw [h'] at hz; cases hz; omega
  ·rw [h] at hz; cases hz; omega
 ·simp [List.map_take,List.map_drop]
 ·rcases List.mem_append.1 hq with h | h
  ·exact hold q (List.mem_of_mem_take h)
  ·rcases List.mem_cons.1 h with rfl | h
   ·exact hnw
   ·exact hold q (List.mem_of_mem_drop h)
end
theorem dU {x:zO} {a:Addr} {K:Addr->Prop} (h:x=some a) (hk:K a):aA x K:=by rw [h]; exact hk
section
variable {w:World}
theorem qIQ {s:Slc} {ls:List (List Rc)} {K:zY} (hs:jX w.heap.size w s ls) (hK : ∀ l∈ls,∀ r∈l,r.right=true/\r.key=K) (hn:ls.flatten.length<=10000) (hln:ls.length<=10000) :
 Calls prog 35 #[.slice s.a s.len s.cap] w (Ret λv w'=>∃ out rs,v = .tuple #[out.val,.int .i64 0]/\dR ls.flatten rs/\(∃ w0,w.heap.size<=w0.heap.size/\iE w0 w' out rs)/\Mod NoB w w'):=by
 refine jAJ _ ?_
 unfold jDH
 have hsl:ls.length=s.len:=by
  obtain ⟨vs,h1,_,h3,_⟩:=hs
  have:=h1.1; simp at this; omega
 have hall : ∀ r∈ls.flatten,r.right=true/\r.key=K:=λr hr=>by
  obtain ⟨l,hl,hr⟩:=List.mem_flatten.1 hr
  exact hK l hl r hr
 have htk : ∀ n,(ls.take n).flatten.length<=ls.flatten.length:=λn=>by
  conv=>rhs; rw [<-List.take_append_drop n ls,List.flatten_append,List.length_append]
  omega
 refine ⟨λl' w'=>match l' with | [.sl x,.i _ y]=>∃ k:Nat,y=(k:Int)/\k<=ls.length/\jN w w' x (ls.take k).flatten | _=>False,λl' _=>match l' with | [.sl _,.i _ y]=>(ls.length - y).toNat | _=>0,⟨0,rfl,by omega,jN.nil (Mod.refl _ _)⟩,?_⟩
 rintro all y w1 ⟨k,rfl,hk,u9⟩
 refine aC (λh=>?_) λh=>?_
 ·have hlt:k<ls.length:=by have:=of_decide_eq_true h; omega
  obtain ⟨vs,g1,g2,g3,g4⟩:=hs
  have o1:k<vs.length:=by omega
  obtain ⟨a0,o2,v6⟩:=vT (g1.no u9.m) (i:=k) (by simp; omega)
  rw [o2]
  have ei:(vs.map Slc.val)[k]'(by simp; omega)=vs[k].val:=by simp
  rw [ei] at v6
  refine ⟨⟨by omega,by omega⟩,vs[k],v6,?_⟩
  obtain ⟨gs,q1,q2,q3,q4⟩:=g4 k o1 hlt
  have etk:(ls.take (k+1)).flatten=(ls.take k).flatten++ls[k]:=by rw [aL hlt,List.flatten_append]; simp
  have hle:=htk (k+1)
  rw [etk,List.length_append] at hle
  refine qFF (ls:=ls[k]) u9 (q1.no u9.m) q3 (λi a b=>(q4 i a b).1) (by omega) λx' w2 o3 _=>⟨x',rfl,⟨k+1,aI (by omega),by omega,by rw [etk]; exact o3⟩,?_⟩
  rw [aI (by omega)]; (try simp only []); omega
 have hkk:k=ls.length:=by have:=of_decide_eq_false h; omega
 subst hkk
 rw [List.take_length] at u9
 generalize hX:ls.flatten=X at *
 refine aB (qMO u9.at (by omega) hall) ?_
 rintro v w3 ⟨rfl,o4⟩
 refine ⟨_,rfl,aC (λh=>by cases h) λ_=>?_⟩
 have a7:=u9.no o4
 have a8:=a7.m
 have t6:=a7.at
 have s6:=t6.len
 obtain ⟨es,p1,p2,p3,p4⟩:=t6
 have hP : ∀ i (a:i<es.length) (b:i<X.length),bH w3 es[i] X[i]:=λi a b=>(p4 i a b).1
 refine ⟨λl' w'=>match l' with | [.sl x,.i _ y]=>∃ (k:Nat) (lst:List Rc),y=(k:Int)/\k<=X.length/\lst.length<=k/\Lst (X.take k) lst/\jN w3 w' x lst | _=>False,λl' _=>match l' with | [.sl _,.i _ y]=>(X.length - y).toNat | _=>0,⟨0,[],rfl,by omega,by simp,Lst.nil,jN.nil (Mod.refl _ _)⟩,?_⟩
 rintro least y w4 ⟨k,lst,rfl,hk,s7,hL,y0⟩
 have y1:=y0.m
 refine aC (λh=>?_) λh=>?_
 ·have hkl:k<X.length:=by have:=of_decide_eq_true h; omega
  have p8:k<es.length:=by omega
  have hla:=y0.at
  have hll:=hla.len
  have etk:X.take (k+1)=X.take k++[X[k]]:=aL hkl
  have o5:=hall X[k] (List.getElem_mem hkl)
  refine ⟨λl' w'=>match l' with | [.i _ a,.i _ y]=>∃ m:Nat,y=(m:Int)/\m<=lst.length/\((a = -1/\∀ j (hj:j<lst.length),j<m->¬ bN lst[j] X[k])\/∃ j,∃ hj:j<lst.length,a=(j:Int)/\bN lst[j] X[k])/\Mod NoB w4 w' | _=>False,λl' _=>match l' with | [.i _ _,.i _ y]=>(lst.length - y).toNat | _=>0,⟨0,rfl,by omega,.inl ⟨rfl,λj hj h=>by omega⟩,Mod.refl _ _⟩,?_⟩
  rintro o6 y w5 ⟨m,rfl,hm,hat,y2⟩
  obtain ⟨hs4,q1,q2,q3,q4,q5⟩:=y0
  refine aC (λh=>?_) λh=>?_
  ·have v1:m<lst.length:=by have:=of_decide_eq_true h; omega
   have y5:m<hs4.length:=by omega
   have hm5d:=y2.tr (Mod.drew NoB w5)
   obtain ⟨A,ea,t7⟩:=aZ Hd.len (by omega) (q1.no hm5d).rd y5
   obtain ⟨C,ec,u0⟩:=aZ Hd.len (by omega) (p1.no (y1.tr hm5d)) p8
   rw [ea,ec]
   have e1:hs4[m].b=lst[m].cl:=(q4 m y5 v1).cl
   have e2:hs4[m].c=lst[m].sq:=(q4 m y5 v1).sq
   have e3:es[k].b=X[k].cl:=(hP k p8 hkl).cl
   have e4:es[k].c=X[k].sq:=(hP k p8 hkl).sq
   refine ⟨λl' w'=>match l' with | [.b t]=>(t=true↔bN lst[m] X[k])/\w'=w5.drew | _=>False,⟨⟨by omega,by omega⟩,⟨by omega,by omega⟩,hs4[m].b,cW.2 (t7 1 _ rfl),es[k].b,cW.2 (u0 1 _ rfl),aC (λh1=>⟨⟨by omega,by omega⟩,⟨by omega,by omega⟩,hs4[m].c,cW.2 (t7 2 _ rfl),es[k].c,cW.2 (u0 2 _ rfl),?_,rfl⟩) λh1=>⟨⟨(λh=>by cases h),λh=>?_⟩,rfl⟩⟩,?_⟩
   ·have h1:lst[m].cl=X[k].cl:=by rw [e1,e3] at h1; simpa using h1
    rw [e2,e4]
    constructor
    ·intro h; exact ⟨h1,by simpa using h⟩
    ·intro h; simpa using h.2
   ·have h1 : ¬ lst[m].cl=X[k].cl:=by rw [e1,e3] at h1; simpa using h1
    exact absurd h.1 h1
   ·rintro t w6 ⟨ht,rfl⟩
    refine aC (λy7=>⟨⟨m+1,aI (by omega),by omega,.inr ⟨m,v1,rfl,ht.1 y7⟩,hm5d⟩,?_⟩) λv7=>⟨⟨m+1,aI (by omega),by omega,?_,hm5d⟩,?_⟩
    ·rw [aI (by omega)]; (try simp only []); omega
    ·rcases hat with ⟨h1,h2⟩ | h1
     ·refine .inl ⟨h1,λj hj s8=>?_⟩
      rcases Nat.lt_or_ge j m with h' | h'
      ·exact h2 j hj h'
      ·have:j=m:=by omega
       subst this
       intro hd
       rw [ht.2 hd] at v7; cases v7
     ·exact .inr h1
    ·rw [aI (by omega)]; (try simp only []); omega
  have y8:m=lst.length:=by have:=of_decide_eq_false h; omega
  subst y8
  have o7:jN w3 w5 least lst:=jN.no ⟨hs4,q1,q2,q3,q4,q5⟩ y2
  have i6:=y1.tr y2
  refine aC (λh=>?_) λh=>?_
  ·
   have o8 : ∀ s∈lst,¬ bN s X[k]:=λs o9=>by
    rcases hat with ⟨_,h2⟩ | ⟨j,hj,h1,_⟩
    ·obtain ⟨j,hj,rfl⟩:=List.getElem_of_mem o9
     exact h2 j hj hj
    ·have:=of_decide_eq_true h; omega
   obtain ⟨C,ec,u0⟩:=aZ Hd.len (by omega) (p1.no i6) p8
   rw [ec]
   refine ⟨⟨by omega,by omega⟩,es[k].a,es[k].b,es[k].c,es[k].d,es[k].e,es[k].f,es[k].g,u0,?_⟩
   refine qHO (h:=es[k]) o7 (hP k p8 hkl) (by omega) λx' w8 r0=>⟨⟨k+1,lst++[X[k]],aI (by omega),by omega,by simp; omega,?_,r0⟩,?_⟩
   ·rw [etk]; exact hL.new o8
   ·rw [aI (by omega)]; (try simp only []); omega
  ·
   have y9 : ∃ j,∃ hj:j<lst.length,o6=(j:Int)/\bN lst[j] X[k]:=by
    rcases hat with ⟨h1,_⟩ | h1
    ·have:=of_decide_eq_false h; omega
    ·exact h1
   obtain ⟨j,hj,rfl,hd⟩:=y9
   have z1:j<hs4.length:=by omega
   have hm5d:=i6.tr (Mod.drew NoB w5)
   have hm5e:=y2.tr (Mod.drew NoB w5)
   obtain ⟨C,ec,u0⟩:=aZ Hd.len (by omega) (p1.no hm5d) p8
   obtain ⟨A,ea,t7⟩:=aZ Hd.len (by omega) (q1.no hm5e).rd z1
   rw [ec,ea]
   refine ⟨Mod NoB w5.drew,Mod.refl _ _,⟨by omega,by omega⟩,⟨by omega,by omega⟩,es[k].a,es[k].b,es[k].c,es[k].d,es[k].e,es[k].f,es[k].g,λw' hm=>u0.mod hm λh=>h,hs4[j].a,hs4[j].b,hs4[j].c,hs4[j].d,hs4[j].e,hs4[j].f,hs4[j].g,λw' hm=>t7.mod hm λh=>h,?_,trivial⟩
   refine aB (xQ (h:=es[k]) ((hP k p8 hkl).no hm5d) o5.1) ?_
   rintro v w9 ⟨rfl,z6⟩
   refine ⟨_,rfl,z6,?_,trivial⟩
   have r7:=hall lst[j] (List.mem_of_mem_take (hL.mem _ (List.getElem_mem hj)))
   refine aB (xQ (h:=hs4[j]) ((q4 j z1 hj).no (hm5d.tr z6)) r7.1) ?_
   rintro v s9 ⟨rfl,z7⟩
   have k4:=z6.tr z7
   have z8:=hm5d.tr k4
   have k5:=hm5e.tr k4
   refine ⟨_,rfl,k4,aC (λhlt=>?_) λhlt=>⟨⟨k+1,lst,aI (by omega),by omega,by omega,?_,jN.no ⟨hs4,q1,q2,q3,q4,q5⟩ k5⟩,?_⟩⟩
   ·have hlt:X[k].enc<lst[j].enc:=by rw [lF] at hlt; exact of_decide_eq_true hlt
    obtain ⟨C',ec',j2⟩:=aZ Hd.len (by omega) (p1.no z8) p8
    rw [ec] at ec'; cases ec'
    refine ⟨⟨by omega,by omega⟩,es[k].a,es[k].b,es[k].c,es[k].d,es[k].e,es[k].f,es[k].g,j2,⟨by omega,by omega⟩,?_⟩
    simp only [Int.toNat_natCast]
    refine lV (us:=es[k].cells) (by kernel_rfl) (by kernel_rfl) rfl (Hd.len _) (Hd.one _) (q1.no k5) ea (by omega) λga v8 j3 r8=>⟨⟨k+1,lst.set j X[k],aI (by omega),by omega,by rw [List.length_set]; omega,?_,hs4.set j es[k],?_,q2,by simp [q3],λi a b=>?_,(q5.tr k5).fresh j3 λz hz=>q2 z hz⟩,?_⟩
    ·rw [etk]; exact hL.put hj hd hlt
    ·have e:=pI Hd.len (y:=es[k]) z1
     unfold hcells at v8 ⊢
     rw [<-e]; exact v8
    ·rw [List.getElem_set,List.getElem_set]
     split
     ·exact hP k p8 hkl
     ·exact q4 i (by simpa using a) (by simpa using b)
    ·rw [aI (by omega)]; (try simp only []); omega
   ·have hlt : ¬ X[k].enc<lst[j].enc:=by rw [lF] at hlt; exact of_decide_eq_false hlt
    rw [etk]; exact hL.keep (List.getElem_mem hj) hd hlt
   ·rw [aI (by omega)]; (try simp only []); omega
 have hkk:k=X.length:=by have:=of_decide_eq_false h; omega
 subst hkk
 rw [List.take_length] at hL
 have hla:=y0.at
 have hll:=hla.len
 obtain ⟨gs,q1,q2,q3,q4⟩:=hla
 have hG : ∀ i (a:i<gs.length) (b:i<lst.length),bH w4 gs[i] lst[i]:=λi a b=>(q4 i a b).1
 refine ⟨λl' w'=>match l' with | [.sl x,.i _ y]=>∃ (k:Nat) (o:List Rc),y=(k:Int)/\k<=lst.length/\o.length<=k/\qF lst k o/\iE w4 w' x o | _=>False,λl' _=>match l' with | [.sl _,.i _ y]=>(lst.length - y).toNat | _=>0,⟨0,[],rfl,by omega,by simp,qF.zero lst,iE.nil (Mod.refl _ _)⟩,?_⟩
 rintro out y i7 ⟨k,o,rfl,hk,gb,hO,p9⟩
 have u5:Mod NoB w4 i7:=by obtain ⟨_,_,_,_,_,h⟩:=p9; exact h
 refine aC (λh=>?_) λh=>?_
 ·have hkl:k<lst.length:=by have:=of_decide_eq_true h; omega
  have hkg:k<gs.length:=by omega
  refine ⟨λl' w'=>match l' with | [.b t,.i _ y]=>∃ m:Nat,y=(m:Int)/\m<=lst.length/\(t=true↔∃ j,∃ hj:j<lst.length,j<m/\j≠k/\lst[j].over lst[k]=true)/\Mod NoB i7 w' | _=>False,λl' _=>match l' with | [.b _,.i _ y]=>(lst.length - y).toNat | _=>0,⟨0,rfl,by omega,⟨(λh=>by cases h),λ⟨j,_,h,_⟩=>by omega⟩,Mod.refl _ _⟩,?_⟩
  rintro under y j4 ⟨m,rfl,hm,hu,q8⟩
  refine aC (λh=>?_) λh=>?_
  ·have v1:m<lst.length:=by have:=of_decide_eq_true h; omega
   have i8:m<gs.length:=by omega
   have hm13d:=q8.tr (Mod.drew NoB j4)
   have hw : ∀ {b:Nat},zW (((m:Nat):Int)+1)=((m+1:Nat):Int):=λ{_}=>aI (by omega)
   refine ⟨Mod NoB j4.drew,Mod.refl _ _,aC (λj5=>⟨⟨⟨m+1,aI (by omega),by omega,⟨λ_=>?_,λ_=>rfl⟩,hm13d⟩,?_⟩,trivial⟩) λu6=>aC (λhne=>?_) λhne=>⟨⟨⟨m+1,aI (by omega),by omega,⟨(λh=>by cases h),λ⟨j,hj,h1,h2,h3⟩=>?_⟩,hm13d⟩,?_⟩,trivial⟩⟩
   ·obtain ⟨j,hj,h1,h2⟩:=hu.1 j5
    exact ⟨j,hj,by omega,h2⟩
   ·rw [aI (by omega)]; (try simp only []); omega
   ·have r9 : ¬ k=m:=by intro e; subst e; simp at hne
    have h9:=u5.tr hm13d
    obtain ⟨A,ea,t7⟩:=aZ Hd.len (by omega) (q1.no h9) i8
    obtain ⟨A',ea',j6⟩:=aZ Hd.len (by omega) (q1.no h9) hkg
    rw [ea] at ea'; cases ea'
    rw [ea]
    refine ⟨⟨by omega,by omega⟩,⟨by omega,by omega⟩,gs[m].a,gs[m].b,gs[m].c,gs[m].d,gs[m].e,gs[m].f,gs[m].g,λw' hm=>t7.mod hm λh=>h,gs[k].a,gs[k].b,gs[k].c,gs[k].d,gs[k].e,gs[k].f,gs[k].g,λw' hm=>j6.mod hm λh=>h,?_,trivial⟩
    refine aB (qKF (a:=gs[m]) (b:=gs[k]) ((hG m i8 v1).no h9) ((hG k hkg hkl).no h9)) ?_
    rintro v gf ⟨rfl,b5⟩
    refine ⟨_,rfl,⟨m+1,aI (by omega),by omega,⟨λht=>⟨m,v1,by omega,λe=>r9 e.symm,ht⟩,λ⟨j,hj,h1,h2,h3⟩=>?_⟩,hm13d.tr b5⟩,?_⟩
    ·rcases Nat.lt_or_ge j m with h' | h'
     ·have:=hu.2 ⟨j,hj,h',h2,h3⟩
      rw [this] at u6; cases u6
     ·have:j=m:=by omega
      subst this; exact h3
    ·rw [aI (by omega)]; (try simp only []); omega
   ·exfalso
    rcases Nat.lt_or_ge j m with h' | h'
    ·have:=hu.2 ⟨j,hj,h',h2,h3⟩
     rw [this] at u6; cases u6
    ·have:j=m:=by omega
     subst this
     have:(k:Int)=(j:Int):=by simpa using hne
     exact h2 (by omega)
   ·rw [aI (by omega)]; (try simp only []); omega
  have y8:m=lst.length:=by have:=of_decide_eq_false h; omega
  subst y8
  refine aC (λj5=>⟨⟨k+1,o,aI (by omega),by omega,by omega,hO.skip hkl ?_,p9.no q8⟩,?_⟩) λu6=>?_
  ·obtain ⟨j,hj,_,h2⟩:=hu.1 j5
   exact ⟨j,hj,h2⟩
  ·rw [aI (by omega)]; (try simp only []); omega
  have s4 : ∀ j (hj:j<lst.length),j≠k->lst[j].over lst[k]=false:=λj hj hjk=>by
   cases e:lst[j].over lst[k] with
   | false=>rfl
   | true=>rw [hu.2 ⟨j,hj,hj,hjk,e⟩] at u6; cases u6
  have q9:=p9.no q8
  have gg:=q9.len
  have h9:=u5.tr q8
  refine ⟨λl' w'=>match l' with | [.i _ y]=>∃ p:Nat,y=(p:Int)/\p<=o.length/\(∀ j (hj:j<o.length),j<p->cY o[j] lst[k])/\Mod NoB j4 w' | _=>False,λl' _=>match l' with | [.i _ y]=>(o.length - y).toNat | _=>0,⟨0,rfl,by omega,λj hj h=>by omega,Mod.refl _ _⟩,?_⟩
  rintro y b6 ⟨p,rfl,hp,hb,a6⟩
  have hm15d:=a6.tr (Mod.drew NoB b6)
  have k3:=h9.tr hm15d
  have fin : ∀ {w':World} (hm:Mod NoB b6.drew w') (h2 : ∀ hp:p<o.length,¬ cY o[p] lst[k]) (x:Slc) (u7:World),iE w4 u7 x (o.take p++lst[k] :: o.drop p)->(∃ (k':Nat) (o':List Rc),zW ((k:Int)+1)=(k':Int)/\k'<=lst.length/\o'.length<=k'/\qF lst k' o'/\iE w4 u7 x o')/\(lst.length - zW ((k:Int)+1)).toNat<(lst.length - (k:Int)).toNat:=λhm h2 x u7 hF=>⟨⟨k+1,_,aI (by omega),by omega,by simp; omega,hO.ins hL.nd hkl s4 hp hb h2,hF⟩,by rw [aI (by omega)]; omega⟩
  refine ⟨Mod NoB b6.drew,Mod.refl _ _,aC (λh=>?_) λh=>?_⟩
  ·have hpl:p<o.length:=by have:=of_decide_eq_true h; omega
   have s5:=(q9.no hm15d).at
   obtain ⟨us,u1,u2,u3,u4⟩:=s5
   have o0:p<us.length:=by omega
   obtain ⟨A,ea,t7⟩:=aZ Hd.len (by omega) u1 o0
   obtain ⟨C,ec,u0⟩:=aZ Hd.len (by omega) (q1.no k3) hkg
   refine ⟨⟨by omega,by omega⟩,dU ea ⟨⟨by omega,by omega⟩,dU ec ⟨us[p].a,us[p].b,us[p].c,us[p].d,us[p].e,us[p].f,us[p].g,λw' hm=>t7.mod hm λh=>h,gs[k].a,gs[k].b,gs[k].c,gs[k].d,gs[k].e,gs[k].f,gs[k].g,λw' hm=>u0.mod hm λh=>h,?_,trivial⟩⟩⟩
   refine aB (qFD (a:=us[p]) (b:=gs[k]) (u4 p o0 hpl).1 ((hG k hkg hkl).no k3)) ?_
   rintro v gh ⟨⟨t,rfl,ht⟩,k6⟩
   refine ⟨t,rfl,aC (λy7=>⟨⟨p+1,aI (by omega),by omega,λj hj h'=>?_,hm15d.tr k6⟩,?_⟩) λv7=>?_⟩
   ·rcases Nat.lt_or_ge j p with h2 | h2
    ·exact hb j hj h2
    ·have:j=p:=by omega
     subst this; exact ht.1 y7
   ·rw [aI (by omega)]; (try simp only []); omega
   ·refine qUU (ls:=lst) (gs:=gs) ((q9.no hm15d).no k6) (q1.no (k3.tr k6)) q2 q3 (λi a b=>(hG i a b).no (k3.tr k6)) hkl hp (by omega) λx u7 hF=>fin k6 (λ_ hlt=>by rw [ht.2 hlt] at v7; cases v7) x u7 hF
  ·have hpl:p=o.length:=by have:=of_decide_eq_false h; omega
   refine ⟨qUU (ls:=lst) (gs:=gs) (q9.no hm15d) (q1.no k3) q2 q3 (λi a b=>(hG i a b).no k3) hkl hp (by omega) λx u7 hF=>fin (Mod.refl _ _) (λh=>by omega) x u7 hF,trivial⟩
 ·have hkk:k=lst.length:=by have:=of_decide_eq_false h; omega
  subst hkk
  exact ⟨out,o,rfl,qEQ hL (λr hr=>(hall r hr).1) hO,⟨w4,(a8.tr y1).size,p9⟩,(a8.tr y1).tr u5⟩
end
theorem uKs:prog.underlying 66=some (.slice 9):=by kernel_rfl
theorem iKs : ∃ i,prog.info? 9=some i/\i.zero=some (.string ⟨#[]⟩)/\i.size=1/\i.bytes=16:=bC (by kernel_rfl) (by kernel_rfl) (by kernel_rfl)
theorem xF (ks:List (zY)) : ∀ y∈ks.map eT,y.oneCell'=true:=λy hy=>by
 obtain ⟨k,_,rfl⟩:=List.mem_map.1 hy; rfl
def jL (w0 w:World) (x:Slc) (ks:List (zY)):Prop:=Sh.Own w x 1 (ks.map eT)/\FB w0 x/\Mod NoB w0 w
theorem jL.no {w0 w w':World} {x:Slc} {ks:List (zY)} (h:jL w0 w x ks) (hm:Mod NoB w w'):jL w0 w' x ks:=⟨h.1.no hm,h.2.1,h.2.2.tr hm⟩
theorem jL.len {w0 w:World} {x:Slc} {ks:List (zY)} (h:jL w0 w x ks):ks.length=x.len:=by have:=h.1.1; simp at this; omega
structure KeysOf (l:List Rc) (ks:List (zY)):Prop where
 pw:ks.Pairwise (· < ·)
 mem : ∀ k,k∈ks↔∃ r∈l,r.right=true/\r.key=k
theorem KeysOf.skip {l:List Rc} {ks:List (zY)} {r:Rc} (h:KeysOf l ks) (hr:r.right=false):KeysOf (l++[r]) ks:=⟨h.pw,λk=>by
 rw [h.mem]
 constructor
 ·rintro ⟨s,h1,h2⟩; exact ⟨s,List.mem_append_left _ h1,h2⟩
 ·rintro ⟨s,h1,h2,h3⟩
  rcases List.mem_append.1 h1 with h1 | h1
  ·exact ⟨s,h1,h2,h3⟩
  ·have:s=r:=by simpa using h1
   subst this
   rw [hr] at h2; cases h2⟩
theorem KeysOf.keep {l:List Rc} {ks:List (zY)} {r:Rc} (h:KeysOf l ks) (hk:r.key∈ks):KeysOf (l++[r]) ks:=⟨h.pw,λk=>by
 constructor
 ·intro h'; obtain ⟨s,h1,h2⟩:=(h.mem k).1 h'; exact ⟨s,List.mem_append_left _ h1,h2⟩
 ·rintro ⟨s,h1,h2,h3⟩
  rcases List.mem_append.1 h1 with h1 | h1
  ·exact (h.mem k).2 ⟨s,h1,h2,h3⟩
  ·have:s=r:=by simpa using h1
   subst this
   rw [<-h3]; exact hk⟩
theorem KeysOf.ins {l:List Rc} {ks:List (zY)} {r:Rc} {p:Nat} (h:KeysOf l ks) (hr:r.right=true) (hp:p<=ks.length) (h1 : ∀ j (hj:j<ks.length),j<p->ks[j]<r.key) (h2 : ∀ hp:p<ks.length,¬ ks[p]<r.key/\ks[p]≠r.key):KeysOf (l++[r]) (ks.take p++r.key :: ks.drop p):=by
 have m1 : ∀ x∈ks.take p,x<r.key:=λx hx=>by
  obtain ⟨a,ha,rfl⟩:=List.getElem_of_mem hx
  rw [List.length_take] at ha
  rw [List.getElem_take]
  exact h1 a (by omega) (by omega)
 have m2 : ∀ x∈ks.drop p,r.key<x:=λx hx=>by
  obtain ⟨a,ha,rfl⟩:=List.getElem_of_mem hx
  rw [List.length_drop] at ha
  rw [List.getElem_drop]
  have h9:r.key<ks[p]'(by omega):=by
   obtain ⟨a1,a2⟩:=h2 (by omega)
   rcases gD (ks[p]'(by omega)) r.key with ⟨_,h⟩ | ⟨_,h⟩ | ⟨_,h⟩
   ·exact absurd h a1
   ·exact absurd h a2
   ·exact h
  rcases Nat.eq_zero_or_pos a with rfl | k3
  ·exact h9
  ·exact List.lt_trans h9 (List.pairwise_iff_getElem.1 h.pw p (p+a) (by omega) (by omega) (by omega))
 refine ⟨List.pairwise_append.2 ⟨h.pw.sublist (List.take_sublist _ _),List.pairwise_cons.2 ⟨m2,h.pw.sublist (List.drop_sublist _ _)⟩,λa ha b hb=>?_⟩,λk=>?_⟩
 ·rcases List.mem_cons.1 hb with rfl | hb
  ·exact m1 a ha
  ·exact List.lt_trans (m1 a ha) (m2 b hb)
 ·have hm:k∈ks.take p++r.key :: ks.drop p↔k∈ks\/k=r.key:=by
   conv=>rhs; rw [<-List.take_append_drop p ks]
   simp only [List.mem_append,List.mem_cons]
   constructor
   ·rintro (h | h | h)
    ·exact .inl (.inl h)
    ·exact .inr h
    ·exact .inl (.inr h)
   ·rintro ((h | h) | h)
    ·exact .inl h
    ·exact .inr (.inr h)
    ·exact .inr (.inl h)
  rw [hm,h.mem]
  constructor
  ·rintro (⟨s,h1,h2⟩ | rfl)
   ·exact ⟨s,List.mem_append_left _ h1,h2⟩
   ·exact ⟨r,by simp,hr,rfl⟩
  ·rintro ⟨s,h1,h2,h3⟩
   rcases List.mem_append.1 h1 with h1 | h1
   ·exact .inl ⟨s,h1,h2,h3⟩
   ·have:s=r:=by simpa using h1
    subst this
    exact .inr h3.symm
section
variable {w:World}
theorem rd_key {w0:World} {x:Slc} {ks:List (zY)} (h:jL w0 w x ks) {i:Nat} (hi:i<ks.length) : ∃ a,x.a=some a/\Rd w (a.add (i*1)) [.string ⟨ks[i].toArray⟩]:=by
 obtain ⟨a,ea,hr⟩:=vT h.1.rd (i:=i) (by simpa using hi)
 have ei:(ks.map eT)[i]'(by simpa using hi)=eT ks[i]:=by simp
 rw [ei] at hr
 exact ⟨a,ea,hr⟩
theorem kins {w0:World} {out l:Slc} {ks:List (zY)} {key:zY} {a5:Addr} {p k:Nat} {K:Slc->zP} (hR:jL w0 w out ks) (hn:ks.length<=100000) (hp:p<=ks.length) (hkl:k<l.len) (hla:l.a=some a5) (z1 : ∀ w',Mod (λz=>out.blk=some z) w w'->Rd w' ((a5.add (k*7)).add 0) [.string ⟨key.toArray⟩])
 (hK : ∀ x w',jL w0 w' x (ks.take p++key :: ks.drop p)->K x w') :
 aH prog (Instr.buildSlice 66 0 #[]) w λv1 w5=>∃ x6:Slc,v1=(.slice x6.a x6.len x6.cap)/\((0<=(p:Int)/\(p:Int)<=(out.len:Nat))/\aH prog (Builtin.append_ #[66,66] 66 #[.slice x6.a x6.len x6.cap,.slice (aF out 1 ((p:Int).toNat) out.len out.cap).a (aF out 1 ((p:Int).toNat) out.len out.cap).len (aF out 1 ((p:Int).toNat) out.len out.cap).cap]) w5 λv2 w6=>∃ x7:Slc,v2=(.slice x7.a x7.len x7.cap)/\∃ sx:zP,sx w6.drew/\((0<=(p:Int)/\(p:Int)<=(out.cap:Nat))/\((0<=(k:Int)/\(k:Int)<(l.len:Nat))/\aA l.a λa5=>∃ x8:zY,(∀ w',sx w'->Rd w' ((a5.add ((k:Int).toNat*7)).add 0) [.string ⟨x8.toArray⟩])/\((aH prog (Instr.buildSlice 66 1 #[(0,(.string ⟨x8.toArray⟩))]) w6.drew λv3 w7=>∃ x9:Slc,v3=(.slice x9.a x9.len x9.cap)/\((aH prog (Builtin.append_ #[66,66] 66 #[.slice (aF out 1 0 ((p:Int).toNat) out.cap).a (aF out 1 0 ((p:Int).toNat) out.cap).len (aF out 1 0 ((p:Int).toNat) out.cap).cap,.slice x9.a x9.len x9.cap]) w7 λv4 w8=>∃ x10:Slc,v4=(.slice x10.a x10.len x10.cap)/\(sx w8/\((aH prog (Builtin.append_ #[66,66] 66 #[.slice x10.a x10.len x10.cap,.slice x7.a x7.len x7.cap]) w8 λv5 w9=>∃ x11:Slc,v5=(.slice x11.a x11.len x11.cap)/\(sx w9/\K x11 w9))/\True)))/\True))/\True)))):=by
 obtain ⟨ir,hr1,hr2,u2,u3⟩:=iKs
 have j3:=hR.len
 obtain ⟨o1,f1,m1⟩:=hR
 have hcap:=o1.2.1
 refine kZ uKs hr1 λb0 y1 k5=>⟨⟨some ⟨b0,0,none⟩,0,0⟩,rfl,⟨by omega,by omega⟩,?_⟩
 simp only [Int.toNat_natCast]
 have hcut:aK y1 (aF out 1 p out.len out.cap) 1 ((ks.drop p).map eT):=by
  have:=((o1.rd.no k5.mod).cut (l:=p) (n:=out.len) (m:=out.cap) (by omega) (Nat.le_refl _) hcap (Nat.le_refl _))
  rw [List.take_of_length_le (by rw [List.length_drop,List.length_map]; omega),Nat.mul_one,<-List.map_drop] at this
  exact this
 have y2:(aF out 1 p out.len out.cap).len=out.len - p:=rfl
 refine aS (s:=⟨some ⟨b0,0,none⟩,0,0⟩) uKs hr1 hr2 u2 rfl u3 (kW _ _ 1) hcut (xF _) (by rw [y2]; simp only []; omega) (by rw [y2]; simp only []; omega) λx15 k4 k6 u4 p8 p9=>⟨x15,rfl,?_⟩
 rw [List.nil_append] at k6
 have p9:Mod NoB y1 k4:=p9.mono λz _ e=>by rw [Slc.blk_mk,if_pos rfl] at e; cases e
 have hD:Mod NoB w k4.drew:=(k5.mod.tr p9).tr (Mod.drew NoB k4)
 have u5 : ∀ z,x15.blk=some z->w.heap.size<=z:=λz hz=>by
  rcases p8 with e | e
  ·rw [e,Slc.blk_mk,if_pos rfl] at hz; cases hz
  ·rw [e] at hz; cases hz; exact k5.mod.size
 have hout : ∀ z,out.blk=some z->z<w.heap.size:=λz hz=>o1.lt hz
 let S:Nat->Prop:=λz=>out.blk=some z
 have z6 : ∀ {w'},Mod S k4.drew w'->Mod S w w':=λhm=>hD.no hm
 refine ⟨Mod S k4.drew,Mod.refl _ _,⟨by omega,by omega⟩,⟨by omega,by omega⟩,dU hla ⟨key,λw' hm=>z1 w' (z6 hm),?_,trivial⟩⟩
 refine bZ [eT key] (l:=[eT key]) uKs hr1 hr2 u2 (by omega) rfl (by omega) (by omega) rfl (by intro v hv; simp at hv; subst hv; rfl) (by simp [Value.cells,eT]) λyb t7 u6 z7=>⟨⟨some ⟨yb,0,none⟩,1,1⟩,rfl,?_,trivial⟩
 have u7:aK t7 ⟨some ⟨yb,0,none⟩,1,1⟩ 1 [eT key]:=(aY (n:=1) (k:=1) z7 rfl).rd
 have h9:=u6.mod
 have u9:Mod NoB w t7:=hD.tr h9
 have j4:=hD.size; have j5:=h9.size
 have ec:aF out 1 0 p out.cap=⟨out.a,p,out.cap⟩:=vG hcap (by omega)
 rw [ec]
 have y5:=(o1.no u9).take (n:=p) (by omega)
 rw [Nat.mul_one,<-List.map_take] at y5
 refine aS (s:=⟨out.a,p,out.cap⟩) uKs hr1 hr2 u2 rfl u3 y5 u7 (by intro u hu; simp at hu; subst hu; rfl) (by simp only []; omega) (by simp only []; omega) λx17 y7 v6 q8 q9 k3=>⟨x17,rfl,?_⟩
 have k3:Mod S t7 y7:=k3
 have j6:=k3.size
 have u0:x17.blk=out.blk\/x17.blk=some t7.heap.size:=q9
 refine ⟨(h9.mono (λ_ _ h=>h.elim):Mod S k4.drew t7).tr k3,?_,trivial⟩
 have u1:Sh.Own y7 x15 1 ((ks.drop p).map eT):=(((k6.no (Mod.drew NoB k4)).no h9).mod k3 λz hz e=>by have:=u5 z hz; have:=hout z e; omega)
 have z8:x17.len=p+1:=by rw [q8]
 have j2:x15.len=ks.length - p:=by have:=k6.1; simp at this; omega
 refine aS uKs hr1 hr2 u2 rfl u3 v6 u1.rd (xF _) (by omega) (by omega) λx18 y8 v7 v8 t6 y0=>⟨x18,rfl,?_⟩
 have y9:Mod S k4.drew y8:=((h9.mono (λ_ _ h=>h.elim):Mod S k4.drew t7).tr k3).trans y0 (λ_ _ h=>h) λz hz e=>by
  rcases u0 with h | h
  ·rw [h] at e; exact e
  ·rw [h] at e; cases e; omega
 have s4:=m1.size
 refine ⟨y9,hK x18 y8 ⟨?_,λz hz=>?_,(m1.tr hD).fresh y9 λz e=>f1 z e⟩⟩
 ·have e:(ks.take p++key :: ks.drop p).map eT=(ks.take p).map eT++[eT key]++(ks.drop p).map eT:=by simp
  rw [e]; exact v7
 ·rcases t6 with h | h
  ·rw [h] at hz
   rcases u0 with h' | h'
   ·rw [h'] at hz; exact f1 z hz
   ·rw [h'] at hz; cases hz; omega
  ·rw [h] at hz; cases hz; omega
theorem qGD {B:Nat} {s:Slc} {rs:List Rc} (hR:bO B w s rs) (u3:B<=w.heap.size) (hn:rs.length<=10000):Calls prog 33 #[.slice s.a s.len s.cap] w (Ret λv w'=>∃ x ks,v=x.val/\KeysOf rs ks/\jL w w' x ks/\ks.length<=rs.length):=by
 refine jCL _ ?_
 unfold jGS
 have hl:=hR.len
 obtain ⟨hs,g1,g2,g3,g4⟩:=hR
 refine ⟨λl' w'=>match l' with | [.sl x,.i _ y]=>∃ (k:Nat) (ks:List (zY)),y=(k:Int)/\k<=rs.length/\ks.length<=k/\KeysOf (rs.take k) ks/\jL w w' x ks | _=>False,λl' _=>match l' with | [.sl _,.i _ y]=>(rs.length - y).toNat | _=>0,⟨0,[],rfl,by omega,by simp,⟨List.Pairwise.nil,λk=>by simp⟩,bK _ 1,FB.nil _,Mod.refl _ _⟩,?_⟩
 rintro out y w1 ⟨k,ks,rfl,hk,hks,hO,hF1⟩
 have k5:=hF1.2.2
 refine aC (λh=>?_) λh=>?_
 ·have hkl:k<rs.length:=by have:=of_decide_eq_true h; omega
  have k4:k<hs.length:=by omega
  have etk:rs.take (k+1)=rs.take k++[rs[k]]:=aL hkl
  obtain ⟨A,ea,p9⟩:=aZ Hd.len (by omega) (g1.no k5) k4
  refine ⟨⟨by omega,by omega⟩,dU ea ⟨hs[k].a,hs[k].b,hs[k].c,hs[k].d,hs[k].e,hs[k].f,hs[k].g,p9,?_⟩⟩
  refine aB (lY (h:=hs[k]) ((g4 k k4 hkl).1.no k5)) ?_
  rintro v w2 ⟨rfl,k6⟩
  have hF2:=hF1.no k6
  have q8:hs[k].a=rs[k].key:=(g4 k k4 hkl).1.key
  refine ⟨_,rfl,aC (λhr=>⟨⟨k+1,ks,aI (by omega),by omega,by omega,by rw [etk]; exact hO.skip (by simpa using hr),hF2⟩,?_⟩) λhr=>?_⟩
  ·rw [aI (by omega)]; (try simp only []); omega
  have hr:rs[k].right=true:=by simpa using hr
  have q9 : ∀ {w'},Mod NoB w2 w'->Rd w' ((A.add (k*7)).add 0) [.string ⟨rs[k].key.toArray⟩]:=λhm=>cW.2 ((p9.mod (k6.tr hm) λh=>h) 0 _ (by show some (Value.string ⟨hs[k].a.toArray⟩)=_; rw [q8]))
  have u4:=hF2.len
  refine ⟨λl' w'=>match l' with | [.i _ y]=>∃ p:Nat,y=(p:Int)/\p<=ks.length/\(∀ j (hj:j<ks.length),j<p->ks[j]<rs[k].key)/\Mod NoB w2 w' | _=>False,λl' _=>match l' with | [.i _ y]=>(ks.length - y).toNat | _=>0,⟨0,rfl,by omega,λj hj h=>by omega,Mod.refl _ _⟩,?_⟩
  rintro y w3 ⟨p,rfl,hp,hb,t7⟩
  have hm3d:=t7.tr (Mod.drew NoB w3)
  have hm3e:=hm3d.tr (Mod.drew NoB w3.drew)
  have hfin:(∀ hp:p<ks.length,¬ ks[p]<rs[k].key/\ks[p]≠rs[k].key)->∀ x w',jL w w' x (ks.take p++rs[k].key :: ks.drop p)->(∃ (k':Nat) (ks':List (zY)),zW ((k:Int)+1)=(k':Int)/\k'<=rs.length/\ks'.length<=k'/\KeysOf (rs.take k') ks'/\jL w w' x ks')/\(rs.length - zW ((k:Int)+1)).toNat<(rs.length - (k:Int)).toNat:=λh2 x w' hF=>⟨⟨k+1,_,aI (by omega),by omega,by simp; omega,by rw [etk]; exact hO.ins hr hp hb h2,hF⟩,by rw [aI (by omega)]; omega⟩
  have h9 : ∀ (h2 : ∀ hp:p<ks.length,¬ ks[p]<rs[k].key/\ks[p]≠rs[k].key),_:=λh2=>kins (l:=s) (a5:=A) (p:=p) (k:=k) (hF2.no hm3e) (by omega) hp (by omega) ea (λw' hm=>by
   obtain ⟨A',ea',h'⟩:=aZ Hd.len (by omega) (((g1.no k5).no (k6.tr hm3e)).mod hm λz hz e=>by have:=g2 z hz; have:=hF1.2.1 z e; omega) k4
   rw [ea] at ea'; cases ea'
   exact cW.2 (h' 0 _ (by show some (Value.string ⟨hs[k].a.toArray⟩)=_; rw [q8]))) (hfin h2)
  have k3:rs[k].key∈ks->∀ {w'},Mod NoB w2 w'->(∃ (k':Nat) (ks':List (zY)),zW ((k:Int)+1)=(k':Int)/\k'<=rs.length/\ks'.length<=k'/\KeysOf (rs.take k') ks'/\jL w w' out ks')/\(rs.length - zW ((k:Int)+1)).toNat<(rs.length - (k:Int)).toNat:=λhm w' u0=>⟨⟨k+1,ks,aI (by omega),by omega,by omega,by rw [etk]; exact hO.keep hm,hF2.no u0⟩,by rw [aI (by omega)]; omega⟩
  refine aC (λh=>?_) λh=>?_
  ·have hpl:p<ks.length:=by have:=of_decide_eq_true h; omega
   obtain ⟨C,ec,u1⟩:=rd_key (hF2.no hm3d) hpl
   obtain ⟨C',ec',p8⟩:=rd_key (hF2.no hm3e) hpl
   rw [ec] at ec'; cases ec'
   refine ⟨⟨by omega,by omega⟩,dU ec ⟨⟨by omega,by omega⟩,dU ea ⟨ks[p],u1,rs[k].key,q9 hm3d,aC (λhlt=>⟨⟨p+1,aI (by omega),by omega,λj hj h'=>?_,hm3d⟩,?_⟩) λhlt=>?_⟩⟩⟩
   ·rcases Nat.lt_or_ge j p with h2 | h2
    ·exact hb j hj h2
    ·have:j=p:=by omega
     subst this
     rw [lF] at hlt; exact of_decide_eq_true hlt
   ·rw [aI (by omega)]; (try simp only []); omega
   have hnl : ¬ ks[p]<rs[k].key:=by rw [lF] at hlt; exact of_decide_eq_false hlt
   refine ⟨λl' w'=>match l' with | [.b t]=>(t=true↔ks[p]≠rs[k].key)/\w'=w3.drew.drew | _=>False,aC (λh=>?_) (λh=>⟨⟨by omega,by omega⟩,dU ec ⟨⟨by omega,by omega⟩,dU ea ⟨ks[p],p8,rs[k].key,q9 hm3e,by simp,rfl⟩⟩⟩),?_⟩
   ·exfalso
    have:(p:Int)=(out.len:Int):=by simpa using h
    omega
   ·rintro t w4 ⟨ht,rfl⟩
    refine aC (λu2=>h9 λ_=>⟨hnl,ht.1 u2⟩) λt6=>k3 ?_ hm3e
    have:ks[p]=rs[k].key:=Classical.byContradiction λe=>by rw [ht.2 e] at t6; cases t6
    rw [<-this]; exact List.getElem_mem _
  ·have hpl:p=ks.length:=by have:=of_decide_eq_false h; omega
   refine ⟨λl' w'=>match l' with | [.b t]=>t=true/\w'=w3.drew.drew | _=>False,aC (λh=>⟨rfl,rfl⟩) (λh=>?_),?_⟩
   ·exfalso
    have h' : ¬ (p:Int)=(out.len:Int):=by simpa using h
    omega
   ·rintro t w4 ⟨rfl,rfl⟩
    exact aC (λ_=>h9 λhp=>by omega) λh=>by cases h
 ·have hkk:k=rs.length:=by have:=of_decide_eq_false h; omega
  subst hkk
  rw [List.take_length] at hO
  exact ⟨out,ks,rfl,hO,hF1,hks⟩
end
def oL (w0 w:World) (x:Slc) (rs:List Rc):Prop:=
 ∃ ps:List (Slc×Rc),Sh.Own w x 1 (ps.map λq=>q.1.val)/\FB w0 x/\ps.map (·.2)=rs/\(∀ q∈ps,(∃ h:Hd,aK w q.1 7 (hcells [h])/\bH w h q.2/\∀ z,h.on z->z<w0.heap.size)/\∀ z,q.1.blk=some z->z<w.heap.size/\x.blk≠some z)/\Mod NoB w0 w
theorem oL.nil {w0 w:World} (h:Mod NoB w0 w):oL w0 w ⟨none,0,0⟩ []:=⟨[],bK _ 1,FB.nil _,rfl,(λq h=>by cases h),h⟩
theorem oL.no {w0 w w':World} {x:Slc} {rs:List Rc} (h:oL w0 w x rs) (hm:Mod NoB w w'):oL w0 w' x rs:=by
 obtain ⟨ps,h1,h2,h3,h4,h5⟩:=h
 refine ⟨ps,h1.no hm,h2,h3,λq hq=>?_,h5.tr hm⟩
 obtain ⟨⟨g,a,b,c⟩,d⟩:=h4 q hq
 exact ⟨⟨g,a.no hm,b.no hm,c⟩,λz hz=>⟨Nat.lt_of_lt_of_le (d z hz).1 hm.size,(d z hz).2⟩⟩
theorem oL.at {w0 w:World} {x:Slc} {rs:List Rc} (h:oL w0 w x rs):jX w.heap.size w x (rs.map λr=>[r]):=by
 obtain ⟨ps,h1,h2,rfl,h4,h5⟩:=h
 refine ⟨ps.map (·.1),by rw [List.map_map]; exact h1.rd,λz hz=>h1.lt hz,by simp,λi a b=>?_⟩
 simp only [List.getElem_map]
 obtain ⟨⟨g,q1,q2,q3⟩,q4⟩:=h4 (ps[i]'(by simpa using a)) (List.getElem_mem _)
 refine ⟨[g],q1,λz hz=>(q4 z hz).1,rfl,λj c d=>?_⟩
 match j,c with
 | 0,_=>exact ⟨q2,λz hz=>q2.lt z hz⟩
theorem uL (l:List Rc):(l.map λr=>[r]).flatten=l:=by
 induction l with
 | nil=>rfl
 | cons a l ih=>simp [ih]
structure qK (rs:List Rc) (ks:List (zY)) (k:Nat) (L:Lv):Prop where
 pw:L.Pairwise λa b=>a.1<b.1
 mem : ∀ e,e∈L↔∃ i,∃ h:i<ks.length,i<k/\e.1=ks[i]/\e.2≠[]/\dR (bF rs e.1) e.2
theorem qK.zero (rs:List Rc) (ks:List (zY)):qK rs ks 0 []:=⟨List.Pairwise.nil,λe=>⟨(λh=>by cases h),λ⟨i,_,h,_⟩=>by omega⟩⟩
theorem qK.skip {rs:List Rc} {ks:List (zY)} {k:Nat} {L:Lv} (h:qK rs ks k L) (hk:k<ks.length) (hJ:dR (bF rs ks[k]) []):qK rs ks (k+1) L:=⟨h.pw,λe=>by
 rw [h.mem]
 constructor
 ·rintro ⟨i,hi,a,b⟩; exact ⟨i,hi,by omega,b⟩
 ·rintro ⟨i,hi,a,b,c,d⟩
  rcases Nat.lt_or_ge i k with h' | h'
  ·exact ⟨i,hi,h',b,c,d⟩
  ·have:i=k:=by omega
   subst this
   rw [b] at d
   exact absurd (d.uniq hJ λ_=>Iff.rfl) c⟩
theorem qK.add {rs:List Rc} {ks:List (zY)} {k:Nat} {L:Lv} {s:List Rc} (h:qK rs ks k L) (hs:ks.Pairwise (· < ·)) (hk:k<ks.length) (hJ:dR (bF rs ks[k]) s) (hne:s≠[]):qK rs ks (k+1) (L++[(ks[k],s)]):=by
 refine ⟨List.pairwise_append.2 ⟨h.pw,List.pairwise_singleton _ _,λa ha b hb=>?_⟩,λe=>?_⟩
 ·have:b=(ks[k],s):=by simpa using hb
  subst this
  obtain ⟨i,hi,h1,h2,_⟩:=(h.mem a).1 ha
  rw [h2]; exact List.pairwise_iff_getElem.1 hs i k hi hk h1
 ·rw [List.mem_append,h.mem]
  constructor
  ·rintro (⟨i,hi,a,b⟩ | he)
   ·exact ⟨i,hi,by omega,b⟩
   ·have:e=(ks[k],s):=by simpa using he
    subst this
    exact ⟨k,hk,by omega,rfl,hne,hJ⟩
  ·rintro ⟨i,hi,a,b,c,d⟩
   rcases Nat.lt_or_ge i k with h' | h'
   ·exact .inl ⟨i,hi,h',b,c,d⟩
   ·have:i=k:=by omega
    subst this
    refine .inr ?_
    rw [b] at d
    have e2:=d.uniq hJ λ_=>Iff.rfl
    obtain ⟨e1,e3⟩:=e
    simp only [] at b e2
    subst b; subst e2; simp
theorem qK.leaves {rs:List Rc} {ks:List (zY)} {L:Lv} (h:qK rs ks ks.length L) (hk:KeysOf rs ks):dO rs L:=⟨h.pw,λk s=>by
 rw [h.mem]
 constructor
 ·rintro ⟨i,hi,_,_,c,d⟩; exact ⟨c,d⟩
 ·rintro ⟨c,d⟩
  have hne:bF rs k≠[]:=λe=>by
   rw [e] at d
   exact c (List.eq_nil_iff_forall_not_mem.2 λr hr=>by have:=kJ d r hr; cases this)
  obtain ⟨r,hr⟩:=List.exists_mem_of_ne_nil _ hne
  obtain ⟨h1,h2⟩:=List.mem_filter.1 hr
  simp only [Bool.and_eq_true,decide_eq_true_eq] at h2
  obtain ⟨i,hi,e⟩:=List.getElem_of_mem ((hk.mem k).2 ⟨r,h1,h2⟩)
  exact ⟨i,hi,hi,e.symm,c,d⟩⟩
section
variable {w:World}
theorem pY {s:Slc} {rs:List Rc} (hR:bO w.heap.size w s rs) (hn:rs.length<=1000):Calls prog 13 #[.slice s.a s.len s.cap] w (Ret λv w'=>∃ x L,v=x.val/\dO rs L/\eY (λz=>w.heap.size<=z) w' x L/\Mod NoB w w'):=by
 refine jCS _ ?_
 unfold jFK
 obtain ⟨il,hl1,hl2,y1,hl4⟩:=xO
 obtain ⟨is,hs1,hs2,hs3,hs4⟩:=qZR
 have hl:=hR.len
 refine aB (qGD hR (Nat.le_refl _) (by omega)) ?_
 rintro v w1 ⟨x,ks,rfl,hK,t7,hkn⟩
 refine ⟨x,rfl,?_⟩
 have hxl:=t7.len
 have y2:=t7.2.2
 obtain ⟨hs,g1,g2,g3,g4⟩:=hR
 refine ⟨λl' w'=>match l' with | [.sl o,.i _ y]=>∃ (k:Nat) (L:Lv),y=(k:Int)/\k<=ks.length/\L.length<=k/\qK rs ks k L/\eY (λz=>w1.heap.size<=z) w' o L/\Mod NoB w1 w' | _=>False,λl' _=>match l' with | [.sl _,.i _ y]=>(ks.length - y).toNat | _=>0,⟨0,[],rfl,by omega,by simp,qK.zero _ _,⟨[],bK _ 2,λz hz=>by simp at hz,rfl,λi h=>absurd h (by simp)⟩,Mod.refl _ _⟩,?_⟩
 rintro out y w2 ⟨k,L,rfl,hk,i6,hL,u3,p8⟩
 have hM2:=y2.tr p8
 refine aC (λh=>?_) λh=>?_
 ·have hkl:k<ks.length:=by have:=of_decide_eq_true h; omega
  refine ⟨λl' w'=>match l' with | [.sl o,.i _ y]=>∃ (m:Nat),y=(m:Int)/\m<=rs.length/\oL w2 w' o (bF (rs.take m) ks[k]) | _=>False,λl' _=>match l' with | [.sl _,.i _ y]=>(rs.length - y).toNat | _=>0,⟨0,rfl,by omega,oL.nil (Mod.refl _ _)⟩,?_⟩
  rintro sets y w3 ⟨m,rfl,hm,u0⟩
  have p9:Mod NoB w2 w3:=by obtain ⟨_,_,_,_,_,h⟩:=u0; exact h
  have y5:=hM2.tr p9
  have hrl:(bF rs ks[k]).length<=rs.length:=List.length_filter_le _ _
  have hrm : ∀ n,(bF (rs.take n) ks[k]).length<=rs.length:=λn=>Nat.le_trans (List.length_filter_le _ _) (by rw [List.length_take]; omega)
  refine aC (λh=>?_) λh=>?_
  ·have q9:m<rs.length:=by have:=of_decide_eq_true h; omega
   have q8:m<hs.length:=by omega
   have hm3d:=p9.tr (Mod.drew NoB w3)
   have hM3d:=y5.tr (Mod.drew NoB w3)
   have u4:hs[m].a=rs[m].key:=(g4 m q8 q9).1.key
   have etk:bF (rs.take (m+1)) ks[k]=bF (rs.take m) ks[k]++(if rs[m].right=true/\rs[m].key=ks[k] then [rs[m]] else []):=by rw [aL q9,kQ]
   obtain ⟨A,ea,y7⟩:=aZ Hd.len (by omega) (g1.no hM3d) q8
   obtain ⟨C,ec,u5⟩:=rd_key (t7.no (p8.tr hm3d)) hkl
   refine ⟨λl' w'=>match l' with | [.b t]=>(t=true↔rs[m].right=true/\rs[m].key=ks[k])/\Mod NoB w3 w' | _=>False,?_,?_⟩
   ·refine ⟨Mod NoB w3.drew,Mod.refl _ _,⟨by omega,by omega⟩,dU ea ⟨⟨by omega,by omega⟩,dU ec ⟨rs[m].key,λw' hm=>cW.2 ((y7.mod hm λh=>h) 0 _ (by show some (Value.string ⟨hs[m].a.toArray⟩)=_; rw [u4])),ks[k],λw' hm=>u5.mod hm λh=>h,aC (λhe=>⟨⟨by omega,by omega⟩,dU ea ⟨hs[m].a,hs[m].b,hs[m].c,hs[m].d,hs[m].e,hs[m].f,hs[m].g,λw' hm=>y7.mod hm λh=>h,?_,trivial⟩⟩) λhe=>⟨⟨Mod.refl _ _,⟨(λh=>by cases h),λh=>?_⟩,Mod.drew NoB w3⟩,trivial⟩⟩⟩⟩
    ·have he:rs[m].key=ks[k]:=by simpa using he
     refine aB (lY (h:=hs[m]) ((g4 m q8 q9).1.no hM3d)) ?_
     rintro v w4 ⟨rfl,y8⟩
     exact ⟨_,rfl,y8,⟨λh=>⟨h,he⟩,λh=>h.1⟩,(Mod.drew NoB w3).tr y8⟩
    ·have he : ¬ rs[m].key=ks[k]:=by simpa using he
     exact absurd h.2 he
   ·rintro t w5 ⟨ht,y9⟩
    have u6:=u0.no y9
    have z1:=y5.tr y9
    refine aC (λz8=>?_) λz6=>⟨⟨m+1,aI (by omega),by omega,?_⟩,?_⟩
    ·have t6:=ht.1 z8
     obtain ⟨A',ea',u7⟩:=aZ Hd.len (by omega) (g1.no z1) q8
     rw [ea] at ea'; cases ea'
     refine ⟨⟨by omega,by omega⟩,dU ea ⟨hs[m].a,hs[m].b,hs[m].c,hs[m].d,hs[m].e,hs[m].f,hs[m].g,u7,?_⟩⟩
     refine tB (h:=hs[m]) λx5 w6 j2 j3 u9 fresh5 _=>⟨x5,rfl,?_⟩
     refine bZ [x5.val] (l:=[x5.val]) qCJ hs1 hs2 hs3 (by omega) rfl (by omega) (by omega) rfl (by intro v hv; simp at hv; subst hv; rfl) (by simp [Value.cells,Slc.val]) λyb w7 v1 j4=>⟨⟨some ⟨yb,0,none⟩,1,1⟩,rfl,?_⟩
     have k5:aK w7 ⟨some ⟨yb,0,none⟩,1,1⟩ 1 [x5.val]:=(aY (n:=1) (k:=1) j4 rfl).rd
     have k6:=j2.tr v1.mod
     obtain ⟨ps,o1,o2,o3,o4,o5⟩:=u6.no k6
     have j5:ps.length=sets.len:=by have:=o1.1; simp at this; omega
     have hpl:ps.length<=rs.length:=by have:=hrm m; rw [<-o3,List.length_map] at this; exact this
     have hsb : ∀ z,sets.blk=some z->z<w5.heap.size:=λz hz=>by obtain ⟨_,q,_⟩:=u6; exact q.lt hz
     refine aS qCJ hs1 hs2 hs3 rfl hs4 o1 k5 (by intro u hu; simp at hu; subst hu; rfl) (by simp only []; omega) (by simp only []; omega) λx' w8 j6 hlen hblk u1=>⟨x',rfl,⟨m+1,aI (by omega),by omega,?_⟩,?_⟩
     ·have s7:=k6.size; have s8:=u1.size
      have hH:bH w7 hs[m] rs[m]:=(g4 m q8 q9).1.no (z1.tr k6)
      have b5 : ∀ z,hs[m].on z->z<w2.heap.size:=λz hz=>by have:=(g4 m q8 q9).1.lt z hz; have:=hM2.size; omega
      have hbw : ∀ z,sets.blk=some z->w2.heap.size<=z:=λz hz=>o2 z hz
      rw [etk,if_pos t6]
      refine ⟨ps++[(x5,rs[m])],by rw [List.map_append]; exact j6,o2.step o5.size hblk,by rw [List.map_append,o3]; rfl,λq hq=>?_,o2.mod o5 u1⟩
      have key : ∀ {y:Slc} {g:Hd} {r:Rc},aK w7 y 7 (hcells [g])->bH w7 g r->(∀ z,g.on z->z<w2.heap.size)->(∀ z,y.blk=some z->z<w7.heap.size/\sets.blk≠some z)->(∃ h:Hd,aK w8 y 7 (hcells [h])/\bH w8 h r/\∀ z,h.on z->z<w2.heap.size)/\∀ z,y.blk=some z->z<w8.heap.size/\x'.blk≠some z:=λ{y g r} a b c d=>by
       refine ⟨⟨g,a.mod u1 λz hz e=>(d z hz).2 e,b.mod u1 λz hz e=>by have:=c z hz; have:=hbw z e; omega,c⟩,λz hz=>⟨by have:=(d z hz).1; omega,λe=>?_⟩⟩
       rcases hblk with h' | h'
       ·rw [h'] at e; exact (d z hz).2 e
       ·rw [h'] at e; cases e; have:=(d _ hz).1; omega
      rcases List.mem_append.1 hq with hq | hq
      ·obtain ⟨⟨g,a,b,c⟩,d⟩:=o4 q hq
       exact key a b c d
      ·have:q=(x5,rs[m]):=by simpa using hq
       subst this
       refine key (j3.no v1.mod) hH b5 λz hz=>⟨Nat.lt_of_lt_of_le (u9 z hz) v1.mod.size,λe=>?_⟩
       have h1:=hsb z e
       have h2:=fresh5 z hz
       omega
     ·rw [aI (by omega)]; (try simp only []); omega
    ·rw [etk,if_neg (λh=>by rw [ht.2 h] at z6; cases z6),List.append_nil]; exact u6
    ·rw [aI (by omega)]; (try simp only []); omega
  have b6:m=rs.length:=by have:=of_decide_eq_false h; omega
  subst b6
  rw [List.take_length] at u0
  have hall : ∀ l∈(bF rs ks[k]).map (λr=>[r]),∀ r∈l,r.right=true/\r.key=ks[k]:=λl hl r hr=>by
   obtain ⟨r',h',rfl⟩:=List.mem_map.1 hl
   have:r=r':=by simpa using hr
   subst this
   have:=(List.mem_filter.1 h').2
   simpa using this
  refine aB (qIQ u0.at hall (by rw [uL]; omega) (by rw [List.length_map]; omega)) ?_
  rintro v w9 ⟨o,js,rfl,hJ,⟨w0,hw0,z7⟩,v6⟩
  rw [uL] at hJ
  have hjl:=z7.len
  have k3:=p9.tr v6
  have a6:eY (λz=>w1.heap.size<=z) w9 out L:=u3.mod k3 λz hz _=>⟨λh=>h,hz⟩
  refine ⟨o,0,rfl,aC (λh=>?_) λh=>⟨⟨k+1,L,aI (by omega),by omega,by omega,?_,a6,p8.tr k3⟩,?_⟩⟩
  ·have hne:js≠[]:=λe=>by
    have:=of_decide_eq_true h
    rw [e] at hjl; simp at hjl; omega
   obtain ⟨C,ec,u5⟩:=rd_key (t7.no (p8.tr k3)) hkl
   refine ⟨⟨by omega,by omega⟩,dU ec ⟨ks[k],u5,?_⟩⟩
   refine bZ [.agg (dG (ks[k],o)).toArray] (l:=aR dG [(ks[k],o)]) qT hl1 hl2 y1 (by omega) rfl (by omega) (by omega) rfl (by intro v hv; simp at hv; subst hv; rfl) (by simp [aR,dG,Value.cells,eT,Slc.val]) λlb u2 k4 hlb=>⟨⟨some ⟨lb,0,none⟩,1,1⟩,rfl,?_⟩
   have k5:aK u2 ⟨some ⟨lb,0,none⟩,1,1⟩ 2 (aR dG [(ks[k],o)]):=(aY (n:=1) (k:=2) hlb rfl).rd
   have v7:eY (λz=>w1.heap.size<=z/\z<w3.heap.size) u2 out L:=(u3.mod p9 λz hz hl=>⟨λh=>h,hz,Nat.lt_of_lt_of_le hl p9.size⟩:eY (λz=>w1.heap.size<=z/\z<w3.heap.size) w3 out L).mod (v6.tr k4.mod) λz hz _=>⟨λh=>h,hz⟩
   obtain ⟨es,q1,q2,q3,q4⟩:=v7
   have j5:=bA cL (by omega) q1.rd
   obtain ⟨ps,r1,r2,r3,r4,r5⟩:=z7.no k4.mod
   refine aS qT hl1 hl2 y1 rfl hl4 q1 k5 (dF lZ _) (by simp only []; omega) (by simp only []; omega) λx' a7 v8 hlen hblk h9=>⟨x',rfl,⟨k+1,L++[(ks[k],js)],aI (by omega),by omega,by simp; omega,hL.add hK.pw hkl hJ hne,?_,?_⟩,?_⟩
   ·have i7:=k4.mod.size; have i8:=h9.size; have o0:=p8.size; have o6:=p9.size; have o7:=v6.size
    have y0 : ∀ z,x'.blk=some z->out.blk=some z\/z=u2.heap.size:=λz hz=>by
     rcases hblk with h' | h'
     ·left; rw [<-h']; exact hz
     ·right; rw [h'] at hz; cases hz; rfl
    have hset:vF (λz=>w1.heap.size<=z/\x'.blk≠some z) a7 o js:=by
     have hfr : ∀ z,(o.blk=some z\/∃ q∈ps,q.1.on z)->w3.heap.size<=z/\z<u2.heap.size:=λz hz=>by
      rcases hz with hz | ⟨q,hq,hz⟩
      ·have:=r2 z hz; exact ⟨by omega,r1.lt hz⟩
      ·obtain ⟨a,b,c⟩:=(r4 q hq).2 z hz; exact ⟨by omega,b⟩
     have hno : ∀ z,(o.blk=some z\/∃ q∈ps,q.1.on z)->out.blk≠some z:=λz hz e=>by have:=(hfr z hz).1; have:=(q2 z e).2; omega
     have hnx : ∀ z,(o.blk=some z\/∃ q∈ps,q.1.on z)->w1.heap.size<=z/\x'.blk≠some z:=λz hz=>⟨by have:=(hfr z hz).1; omega,λe=>by
      rcases y0 z e with h' | h'
      ·exact hno z hz h'
      ·have:=(hfr z hz).2; omega⟩
     subst r3
     refine ⟨ps.map (·.1),r1.mod h9 λz hz=>hno z (.inl hz),λz hz=>hnx z (.inl hz),by simp,λi a b=>?_⟩
     simp only [List.getElem_map]
     have hq:=List.getElem_mem (l:=ps) (show i<ps.length by simpa using a)
     exact ⟨(r4 _ hq).1.mod h9 λz hz=>hno z (.inr ⟨_,hq,hz⟩),λz hz=>hnx z (.inr ⟨_,hq,hz⟩)⟩
    refine ⟨es++[(ks[k],o)],by rw [bP]; exact v8,λz hz=>?_,by simp [q3],λi a b=>?_⟩
    ·rcases y0 z hz with h' | h'
     ·exact (q2 z h').1
     ·omega
    ·rcases Nat.lt_or_ge i es.length with hi | hi
     ·have e1:(es++[(ks[k],o)])[i]=es[i]:=List.getElem_append_left hi
      have e2:(L++[(ks[k],js)])[i]=L[i]'(by omega):=List.getElem_append_left (by omega)
      rw [e1,e2]
      obtain ⟨c1,c2⟩:=q4 i hi (by omega)
      refine ⟨c1,c2.mod h9 λz hz hl=>⟨λe=>hz.2 e,hz.1.1,λe=>?_⟩⟩
      rcases y0 z e with h' | h'
      ·exact hz.2 h'
      ·omega
     ·have a8:i=es.length:=by simp at a; omega
      subst a8
      have e1:(es++[(ks[k],o)])[es.length]=(ks[k],o):=by rw [List.getElem_append_right (Nat.le_refl _)]; simp
      have e2:(L++[(ks[k],js)])[es.length]'(by simp; omega)=(ks[k],js):=by rw [List.getElem_append_right (by omega)]; simp [q3]
      rw [e1,e2]
      exact ⟨rfl,hset⟩
   ·exact (p8.tr (k3.tr k4.mod)).fresh h9 λz hz=>(q2 z hz).1
   ·rw [aI (by omega)]; (try simp only []); omega
  ·have:js=[]:=List.eq_nil_of_length_eq_zero (by have:=of_decide_eq_false h; omega)
   subst this
   exact hL.skip hkl hJ
  ·rw [aI (by omega)]; (try simp only []); omega
 ·have hkk:k=ks.length:=by have:=of_decide_eq_false h; omega
  subst hkk
  exact ⟨out,L,rfl,hL.leaves hK,u3.mod (Mod.refl NoB w2) λz hz _=>⟨λh=>h,Nat.le_trans y2.size hz⟩,hM2⟩
end
section
variable {w:World}
theorem zE {K:Value->zP} {w4:World} {x y:Slc} {rs ls:List Rc} {qs:List (Hd×Rc)} (hx:iE w4 w x rs) (hy:aK w y 7 (hcells (qs.map (·.1)))) (h9:qs.map (·.2)=ls) (hq : ∀ q∈qs,bH w q.1 q.2/\∀ z,q.1.on z->w4.heap.size<=z/\x.blk≠some z) (hn:rs.length+ls.length<=1000000)
 (hK : ∀ x' w',iE w4 w' x' (rs++ls)->K (.slice x'.a x'.len x'.cap) w') :
 aH prog (Builtin.append_ #[22,22] 22 #[.slice x.a x.len x.cap,.slice y.a y.len y.cap]) w K:=by
 obtain ⟨ir,hr1,hr2,k3,k4⟩:=iF
 have hxl:=hx.len
 have hyl:=bA Hd.len (by omega) hy
 rw [List.length_map] at hyl
 have hll:ls.length=qs.length:=by rw [<-h9,List.length_map]
 obtain ⟨ps,o1,f1,rfl,c1,m1⟩:=hx
 have s4:=m1.size
 refine aS fA hr1 hr2 k3 rfl k4 o1 hy (dF Hd.one _) (by omega) (by omega) λx' w' ho hlen hblk hm=>hK x' w' ⟨ps++qs,by rw [List.map_append,nM]; exact ho,f1.step s4 hblk,by rw [List.map_append,h9],λq k5=>?_,f1.mod m1 hm⟩
 have sm:=hm.size
 have key : ∀ {g:Hd} {r:Rc},bH w g r->(∀ z,g.on z->w4.heap.size<=z/\x.blk≠some z)->bH w' g r/\∀ z,g.on z->w4.heap.size<=z/\z<w'.heap.size/\x'.blk≠some z:=λ{g r} H hz=>⟨H.mod hm λz h=>(hz z h).2,λz h=>⟨(hz z h).1,by have:=H.lt z h; omega,λe=>by
  rcases hblk with h' | h'
  ·rw [h'] at e; exact (hz z h).2 e
  ·rw [h'] at e; cases e; exact absurd (H.lt _ h) (Nat.lt_irrefl _)⟩⟩
 rcases List.mem_append.1 k5 with h | h
 ·obtain ⟨a,b⟩:=c1 q h
  exact key a λz hz=>⟨(b z hz).1,(b z hz).2.2⟩
 ·obtain ⟨a,b⟩:=hq q h
  exact key a b
theorem qAX {B:Nat} {s:Slc} {rs:List Rc} (hR:bO B w s rs) (hn:rs.length<=100000):Calls prog 36 #[.slice s.a s.len s.cap] w (Ret λv w'=>∃ x,v=x.val/\iE w w' x rs):=by
 refine jAG _ ?_
 unfold jFM
 obtain ⟨ir,hr1,hr2,u4,u5⟩:=iF
 have hl:=hR.len
 obtain ⟨hs,g1,g2,g3,g4⟩:=hR
 refine ⟨λl' w'=>match l' with | [.sl o,.i _ y]=>∃ k:Nat,y=(k:Int)/\k<=rs.length/\iE w w' o (rs.take k) | _=>False,λl' _=>match l' with | [.sl _,.i _ y]=>(rs.length - y).toNat | _=>0,⟨0,rfl,by omega,iE.nil (Mod.refl _ _)⟩,?_⟩
 rintro out y w1 ⟨k,rfl,hk,hF⟩
 have k3:Mod NoB w w1:=by obtain ⟨_,_,_,_,_,h⟩:=hF; exact h
 refine aC (λh=>?_) λh=>?_
 ·have hkl:k<rs.length:=by have:=of_decide_eq_true h; omega
  have k6:k<hs.length:=by omega
  obtain ⟨A,ea,p9⟩:=aZ Hd.len (by omega) (g1.no k3) k6
  refine ⟨⟨by omega,by omega⟩,dU ea ⟨hs[k].a,hs[k].b,hs[k].c,hs[k].d,hs[k].e,hs[k].f,hs[k].g,p9,?_⟩⟩
  refine aB (uU (h:=hs[k]) ((g4 k k6 hkl).1.no k3)) ?_
  rintro v w2 ⟨h',rfl,H',hnew,q8⟩
  refine ⟨h'.a,h'.b,h'.c,h'.d,h'.e,h'.f,h'.g,rfl,?_⟩
  refine aN (l:=Hd.cells ⟨[],0,0,⟨none,0,0⟩,false,⟨none,0,0⟩,⟨none,0,0⟩⟩) hr1 hr2 rfl λp w3 p8 q9=>⟨_,rfl,?_⟩
  have e3:=p8.at_
  refine cB (h:=h') (by kernel_rfl) (by kernel_rfl) q9 rfl λw4 t6 t7=>?_
  have k4:Mod NoB w2 w4:=p8.mod.fresh t6.mod λz e=>by omega
  refine ⟨h'.a,h'.b,h'.c,h'.d,h'.e,h'.f,h'.g,rdH t7,?_⟩
  refine tB (h:=h') λx5 w5 u0 u1 _ _ _=>⟨x5,rfl,?_⟩
  have h9:=k4.tr u0
  have k5:=q8.tr h9
  have s1:=k3.size
  have u2 : ∀ z,out.blk=some z->z<w1.heap.size:=λz hz=>by obtain ⟨_,q,_⟩:=hF; exact q.lt hz
  refine zE (qs:=[(h',rs[k])]) (ls:=[rs[k]]) (hF.no k5) u1 rfl (λq hq=>?_) (by simp; omega) λx' w6 u3=>⟨x',rfl,⟨k+1,aI (by omega),by omega,by rw [aL hkl]; exact u3⟩,?_⟩
  ·have:q=(h',rs[k]):=by simpa using hq
   subst this
   exact ⟨H'.no h9,λz hz=>⟨by have:=hnew z hz; omega,λe=>by have:=hnew z hz; have:=u2 z e; omega⟩⟩
  ·rw [aI (by omega)]; (try simp only []); omega
 ·have hkk:k=rs.length:=by have:=of_decide_eq_false h; omega
  subst hkk
  rw [List.take_length] at hF
  exact ⟨out,rfl,hF⟩
theorem tV {s:Slc} {rs:List Rc} (hR:bO w.heap.size w s rs) (hn:rs.length<=100):Calls prog 15 #[.slice s.a s.len s.cap] w (Ret λv w'=>∃ x L,v=x.val/\dO rs L/\fO w' x (L.flatMap (·.2))/\Mod NoB w w'):=by
 refine jCN _ ?_
 unfold jEX
 have hl:=hR.len
 refine aB (pY hR (by omega)) ?_
 rintro v w1 ⟨x,L,rfl,hL,hQ,k6⟩
 obtain ⟨n1,n2⟩:=kH hL
 have hxl:=hQ.r.len
 obtain ⟨es,q1,q2,q3,q4⟩:=hQ
 have k4 : ∀ k,k<=L.length->((L.take k).flatMap (·.2)).length<=k*rs.length:=λk hk=>by
  induction k with
  | zero=>simp
  | succ k ih=>
    have:=ih (by omega)
    rw [aL (show k<L.length by omega),List.flatMap_append,List.length_append]
    have h2:=n2 L[k] (List.getElem_mem _)
    simp only [List.flatMap_cons,List.flatMap_nil,List.append_nil]
    rw [Nat.succ_mul]; omega
 refine ⟨x,rfl,?_⟩
 refine ⟨λl' w'=>match l' with | [.sl o,.i _ y]=>∃ k:Nat,y=(k:Int)/\k<=L.length/\iE w1 w' o ((L.take k).flatMap (·.2)) | _=>False,λl' _=>match l' with | [.sl _,.i _ y]=>(L.length - y).toNat | _=>0,⟨0,rfl,by omega,iE.nil (Mod.refl _ _)⟩,?_⟩
 rintro out y w2 ⟨k,rfl,hk,hF⟩
 have h9:Mod NoB w1 w2:=by obtain ⟨_,_,_,_,_,h⟩:=hF; exact h
 refine aC (λh=>?_) λh=>?_
 ·have hkl:k<L.length:=by have:=of_decide_eq_true h; omega
  have k5:k<es.length:=by omega
  obtain ⟨A,ea,p8⟩:=aZ cL (by omega) (q1.no h9).rd k5
  refine ⟨⟨by omega,by omega⟩,dU ea ⟨es[k].2,cW.2 (p8 1 _ rfl),?_⟩⟩
  have hset:=(q4 k k5 hkl).2
  have k3:bO w2.heap.size w2 es[k].2 L[k].2:=by
   obtain ⟨gs,r1,r2,r3,r4⟩:=hset
   exact ⟨gs,(r1.no h9).rd,λz hz=>(r1.no h9).lt hz,r3,λi a b=>⟨(r4 i a b).1.no h9,λz hz=>((r4 i a b).1.no h9).lt z hz⟩⟩
  have hk2:=n2 L[k] (List.getElem_mem _)
  refine aB (qAX k3 (by omega)) ?_
  rintro v w3 ⟨x2,rfl,hF2⟩
  have p9:Mod NoB w2 w3:=by obtain ⟨_,_,_,_,_,h⟩:=hF2; exact h
  obtain ⟨qs,t1,t2,t3,t4,t5⟩:=hF2
  have q8 : ∀ z,out.blk=some z->z<w2.heap.size:=λz hz=>by obtain ⟨_,q,_⟩:=hF; exact q.lt hz
  have hb1:=k4 k hk
  have hb2:=k4 (k+1) hkl
  have etk:(L.take (k+1)).flatMap (·.2)=(L.take k).flatMap (·.2)++L[k].2:=by rw [aL hkl,List.flatMap_append]; simp
  have t6:L.length*rs.length<=100*100:=Nat.mul_le_mul (by omega) (by omega)
  have hmk:k*rs.length<=L.length*rs.length:=Nat.mul_le_mul_right _ hk
  have s2:=h9.size
  refine ⟨x2,rfl,zE (qs:=qs) (ls:=L[k].2) (hF.no p9) t1.rd t3 (λq hq=>⟨(t4 q hq).1,λz hz=>?_⟩) (by omega) λx' w4 q9=>⟨x',rfl,⟨k+1,aI (by omega),by omega,by rw [etk]; exact q9⟩,?_⟩⟩
  ·obtain ⟨a,b,c⟩:=(t4 q hq).2 z hz
   exact ⟨by omega,λe=>by have:=q8 z e; omega⟩
  ·rw [aI (by omega)]; (try simp only []); omega
 ·have hkk:k=L.length:=by have:=of_decide_eq_false h; omega
  subst hkk
  rw [List.take_length] at hF
  exact ⟨out,L,rfl,hL,hF.at.r,k6.tr h9⟩
end
def jER (k i:Int) (w:World) (R:RW):Prop:=
 R (.returned (.int .i64 (zW ((zW ((1000003:Int)*(zW (k+7))))+i)))) w
theorem jAE (k i:Int) {w:World} {R:RW} (h9:jER k i w R):Calls prog 59 #[.int .i64 k,.int .i64 i] w R:=
 zC (q0 .z (q0 .z .z)) func59 [.i .i64 k,.i .i64 i] h9
def qWA (k i:Int) (w:World) (R:RW):Prop:=
 aD prog 59 [.int .i64 k,.int .i64 i] w (aG R) λv w1=>∃ x:Int,v=(.int .i64 x)/\(0<=(((56:UInt64)).toNat:Int)/\R (.returned (.int .u8 (((aM ((aP x)*(11400714819323198485:UInt64)) ((((56:UInt64)).toNat:Int)).toNat)).toUInt8).toNat)) w1)
theorem qPY (k i:Int) {w:World} {R:RW} (h9:qWA k i w R):Calls prog 115 #[.int .i64 k,.int .i64 i] w R:=
 zC (q0 .z (q0 .z .z)) func115 [.i .i64 k,.i .i64 i] h9
def qTQ (k i:Int) (w:World) (R:RW):Prop:=
 (0<=(((8:UInt64)).toNat:Int)/\(0<=(((16:UInt64)).toNat:Int)/\(0<=(((8:UInt64)).toNat:Int)/\(0<=(((16:UInt64)).toNat:Int)/\aH prog (Instr.buildSlice 38 8 #[(0,(.int .u8 ((35:UInt8)).toNat)),(1,(.int .u8 ((dN k)).toNat)),(2,(.int .u8 ((dN (Int.fdiv k (2 ^ (min ((((8:UInt64)).toNat:Int)).toNat (IntKind.bits .i64)))))).toNat)),(3,(.int .u8 ((dN (Int.fdiv k (2 ^ (min ((((16:UInt64)).toNat:Int)).toNat (IntKind.bits .i64)))))).toNat)),(4,(.int .u8 ((47:UInt8)).toNat)),(5,(.int .u8 ((dN i)).toNat)),(6,(.int .u8 ((dN (Int.fdiv i (2 ^ (min ((((8:UInt64)).toNat:Int)).toNat (IntKind.bits .i64)))))).toNat)),(7,(.int .u8 ((dN (Int.fdiv i (2 ^ (min ((((16:UInt64)).toNat:Int)).toNat (IntKind.bits .i64)))))).toNat))]) w λv w1=>∃ x:Slc,v=(zS x)/\aH prog (convert 38 9 (zS x)) w1 λv1 w2=>∃ x1:zY,v1=(.string ⟨x1.toArray⟩)/\R (.returned (.string ⟨x1.toArray⟩)) w2))))
theorem qOV (k i:Int) {w:World} {R:RW} (h9:qTQ k i w R):Calls prog 132 #[.int .i64 k,.int .i64 i] w R:=
 zC (q0 .z (q0 .z .z)) func132 [.i .i64 k,.i .i64 i] h9
def jGL (l:Slc) (w:World) (R:RW):Prop:=
 aH prog (Instr.makeSlice 38 (.int .i64 0) (.int .i64 (zW ((l.len:Int)+12)))) w λv w1=>∃ x:Slc,v=(zS x)/\aH prog (Builtin.append_ #[38,38] 38 #[zS x,zS l]) w1 λv1 w2=>∃ x1:Slc,v1=(zS x1)/\∃ (inv:zT) (mu:zU),inv [.sl x1,.i .i64 0] w2/\(∀ out:Slc,∀ i:Int,∀ w3:World,inv [.sl out,.i .i64 i] w3->aE (decide (i<12)) (aD prog 115 [.int .i64 1,.int .i64 i] w3 (aG R) λv2 w4=>∃ x2:UInt8,v2=(.int .u8 x2.toNat)/\aH prog (Instr.buildSlice 38 1 #[(0,(.int .u8 x2.toNat))]) w4 λv3 w5=>∃ x3:Slc,v3=(zS x3)/\aH prog (Builtin.append_ #[38,38] 38 #[zS out,zS x3]) w5 λv4 w6=>∃ x4:Slc,v4=(zS x4)/\(inv [.sl x4,.i .i64 (zW (i+1))] w6/\mu [.sl x4,.i .i64 (zW (i+1))] w6<mu [.sl out,.i .i64 i] w3)) (((0<=(l.len:Int)/\(l.len:Int)<=(out.cap:Nat))/\R (.returned (.slice (aF out 1 0 (((l.len:Int)).toNat) out.cap).a (aF out 1 0 (((l.len:Int)).toNat) out.cap).len (aF out 1 0 (((l.len:Int)).toNat) out.cap).cap)) w3)))
theorem jAY (l:Slc) {w:World} {R:RW} (h9:jGL l w R):Calls prog 58 #[zS l] w R:=
 zC (q0 .z (q0 .z (q0 .z (q0 (q0 .z (.block none (.loop [(3,.sl),(4,(.i .i64))] (q0 (q0 .z (.cond .z .z)) (q0 (.block none .z) .z))))) (q0 .z .z))))) func58 [.sl l] h9
def jDP (out l:Slc) (w:World) (R:RW):Prop:=
 aE ((out.len:Int) != (l.len:Int)) (zF R false w) (((0<=(zW ((l.len:Int)+12))/\(zW ((l.len:Int)+12))<=(out.cap:Nat))/\∃ (inv:zT) (mu:zU),inv [.i .i64 0] w/\(∀ i:Int,∀ w1:World,inv [.i .i64 i] w1->aE (decide (i<((aF out 1 0 (((zW ((l.len:Int)+12))).toNat) out.cap).len:Int))) (∃ sx:zP,sx w1.drew/\aE (decide (i<l.len)) (((0<=i/\i<((aF out 1 0 (((zW ((l.len:Int)+12))).toNat) out.cap).len:Nat))/\aA (aF out 1 0 (((zW ((l.len:Int)+12))).toNat) out.cap).a λa=>(zB i l.len/\aA l.a λa1=>∃ x:UInt8,(∀ w',sx w'->Rd w' (a.add (i.toNat*1)) [.int .u8 x.toNat])/\∃ x1:UInt8,(∀ w',sx w'->Rd w' (a1.add (i.toNat*1)) [.int .u8 x1.toNat])/\aE (!(x==x1)) ((((sx w1.drew/\zF R false w1.drew))/\True)) (aE (decide (i>=(l.len:Int))) (((0<=i/\i<((aF out 1 0 (((zW ((l.len:Int)+12))).toNat) out.cap).len:Nat))/\aA (aF out 1 0 (((zW ((l.len:Int)+12))).toNat) out.cap).a λa2=>∃ x2:UInt8,(∀ w',sx w'->Rd w' (a2.add (i.toNat*1)) [.int .u8 x2.toNat])/\((aD prog 115 [.int .i64 1,.int .i64 (zW (i - (l.len:Int)))] w1.drew (aG R) λv w2=>∃ x3:UInt8,v=(.int .u8 x3.toNat)/\(sx w2/\aE (!(x2==x3)) (zF R false w2) ((inv [.i .i64 (zW (i+1))] w2/\mu [.i .i64 (zW (i+1))] w2<mu [.i .i64 i] w1))))/\True))) ((((sx w1.drew/\(inv [.i .i64 (zW (i+1))] w1.drew/\mu [.i .i64 (zW (i+1))] w1.drew<mu [.i .i64 i] w1)))/\True)))))) (aE (decide (i>=(l.len:Int))) (((0<=i/\i<((aF out 1 0 (((zW ((l.len:Int)+12))).toNat) out.cap).len:Nat))/\aA (aF out 1 0 (((zW ((l.len:Int)+12))).toNat) out.cap).a λa3=>∃ x4:UInt8,(∀ w',sx w'->Rd w' (a3.add (i.toNat*1)) [.int .u8 x4.toNat])/\((aD prog 115 [.int .i64 1,.int .i64 (zW (i - (l.len:Int)))] w1.drew (aG R) λv1 w3=>∃ x5:UInt8,v1=(.int .u8 x5.toNat)/\(sx w3/\aE (!(x4==x5)) (zF R false w3) ((inv [.i .i64 (zW (i+1))] w3/\mu [.i .i64 (zW (i+1))] w3<mu [.i .i64 i] w1))))/\True))) ((((sx w1.drew/\(inv [.i .i64 (zW (i+1))] w1.drew/\mu [.i .i64 (zW (i+1))] w1.drew<mu [.i .i64 i] w1)))/\True)))) (zF R true w1))))
theorem jCZ (out l:Slc) {w:World} {R:RW} (h9:jDP out l w R):Calls prog 71 #[zS out,zS l] w R:=
 zC (q0 .z (q0 (q0 .z (.cond (q0 .z .z) .z)) (q0 .z (q0 (q0 .z (.block none (.loop [(6,(.i .i64))] (q0 (q0 .z (.cond .z .z)) (q0 (.block none (q0 (.draw 1 (.take 0 (.take 1 (.take 2 (.take 3 (.take 4 (.take 5 (.take 6 (.take 7 (.take 9 (.take 10 (.take 11 (.take 8 (.take 12 (.take 13 (.take 14 (.take 15 (.take 16 (.take 17 (.take 18 (.take 19 (.take 20 (.take 21 (.take 22 (.take 23 (.take 24 (.take 26 (.take 27 (.take 28 (.take 29 (.take 25 (.all [(30,(.take 31 (.take 32 (.take 33 (.take 34 .done)))))])))))))))))))))))))))))))))))))) (.cond (q0 .z .z) .z))) .z))))) (q0 .z .z))))) func71 [.sl out,.sl l] h9
def mk (k i:Int):Int:=zW ((zW ((1000003:Int)*(zW (k+(7:Int)))))+i)
def mb (k i:Int):UInt8:=(aM ((aP (mk k i))*(11400714819323198485:UInt64)) 56).toUInt8
def mt (k i:Int):zY:=[35,dN k,dN (Int.fdiv k (2 ^ (min 8 (IntKind.bits .i64)))),dN (Int.fdiv k (2 ^ (min 16 (IntKind.bits .i64)))),47,dN i,dN (Int.fdiv i (2 ^ (min 8 (IntKind.bits .i64)))),dN (Int.fdiv i (2 ^ (min 16 (IntKind.bits .i64))))]
theorem qAI {w:World} {k i:Int} : Calls prog 59 #[.int .i64 k,.int .i64 i] w (Ret λv w'=>v = .int .i64 (mk k i)/\w'=w):=by
 refine jAE _ _ ?_
 unfold jER
 exact ⟨rfl,rfl⟩
theorem nE {w:World} {k i:Int} : Calls prog 115 #[.int .i64 k,.int .i64 i] w (Ret λv w'=>v = .int .u8 (mb k i).toNat/\w'=w):=by
 refine qPY _ _ ?_
 unfold qWA
 refine aB qAI ?_
 rintro v w1 ⟨rfl,rfl⟩
 exact ⟨_,rfl,by omega,rfl,rfl⟩
theorem qAA {w:World} {k i:Int} : Calls prog 132 #[.int .i64 k,.int .i64 i] w (Ret λv w'=>v = .string ⟨(mt k i).toArray⟩/\Mod NoB w w'):=by
 refine qOV _ _ ?_
 unfold qTQ
 refine ⟨by omega,by omega,by omega,by omega,fQ (mt k i) rfl rfl (by omega) (by omega) λx b w1 hN hx hb ho=>⟨x,rfl,?_⟩⟩
 refine fG (e:=5) (by kernel_rfl) (by kernel_rfl) (by kernel_rfl) ho.rd ⟨_,rfl,rfl,hN.mod⟩
def marks:Nat->zY
 | 0=>[]
 | n+1=>marks n++[mb 1 n]
@[simp] theorem qFT : ∀ n,(marks n).length=n
 | 0=>rfl
 | n+1=>by simp [marks,qFT n]
theorem yO : ∀ (n i:Nat),i<n->(marks n)[i]? = some (mb 1 i)
 | 0,i,h=>by omega
 | n+1,i,h=>by
   rcases Nat.lt_or_ge i n with h' | h'
   ·rw [marks,List.getElem?_append_left (by simpa using h'),yO n i h']
   ·have:i=n:=by omega
    subst this
    rw [marks,List.getElem?_append_right (by simp)]; simp
def fC (w:World) (x:Slc) (l:zY):Prop:=x.len=l.length/\Sh.Own w ⟨x.a,x.len+12,x.cap⟩ 1 (bys (l++marks 12))
theorem fC.rd {w:World} {x:Slc} {l:zY} (h:fC w x l):aK w x 1 (bys l):=by
 have:=h.2.rd.take (n:=x.len) (by simp only []; omega)
 rw [Nat.mul_one,gV,h.1,List.take_append_of_le_length (by simp),List.take_of_length_le (by simp)] at this
 have e:=h.1
 rw [<-e] at this
 exact this
theorem fC.cap {w:World} {x:Slc} {l:zY} (h:fC w x l):x.len+12<=x.cap:=h.2.2.1
theorem fC.mod {w w':World} {x:Slc} {l:zY} {S:Nat->Prop} (h:fC w x l) (hm:Mod S w w') (hs : ∀ b,x.blk=some b->¬ S b):fC w' x l:=⟨h.1,h.2.mod hm hs⟩
theorem fC.no {w w':World} {x:Slc} {l:zY} (h:fC w x l) (hm:Mod NoB w w'):fC w' x l:=h.mod hm λ_ _ h=>h
theorem fC.lt {w:World} {x:Slc} {l:zY} (h:fC w x l) {b:Nat} (hb:x.blk=some b):b<w.heap.size:=h.2.lt hb
theorem pS {w:World} {s:Slc} {l:zY} (hs:aK w s 1 (bys l)) (hn:l.length<=1000000000) :
 Calls prog 58 #[.slice s.a s.len s.cap] w (Ret λv w'=>∃ x:Slc,v=x.val/\fC w' x l/\FB w x/\Mod NoB w w'):=by
 refine jAY _ ?_
 unfold jGL
 obtain ⟨u4,k3,k4,k5,k6⟩:=i5
 have hL:=aV hs
 rw [show zW ((s.len:Int)+12)=((s.len+12:Nat):Int) by rw [wrap_i64 (by omega)]; omega]
 refine bW (l:=0) (c:=s.len+12) u26 k3 k4 k5 rfl k6 rfl rfl (by omega) (by omega) (by omega) λe0 w1 hN1 hb1 t6=>⟨⟨_,_,_⟩,rfl,?_⟩
 have hf1:FB w ⟨some ⟨e0,0,none⟩,0,s.len+12⟩:=FB.new (by rw [hN1.at_]; exact Nat.le_refl _)
 refine aS u26 k3 k4 k5 rfl k6 (s:=⟨some ⟨e0,0,none⟩,0,s.len+12⟩) t6 (hs.no hN1.mod) (eX _) (by simp only []; omega) (by simp only []; omega) λs2 w2 h9 hl2 hb2 t7=>⟨s2,rfl,?_⟩
 have hf2:=hf1.step hN1.mod.size hb2
 have hM2:=hf1.mod hN1.mod t7
 have h9:Sh.Own w2 s2 1 (bys l):=by simpa using h9
 refine ⟨λl' w'=>match l' with | [.sl q,.i _ i]=>∃ k:Nat,i=k/\k<=12/\Sh.Own w' q 1 (bys (l++marks k))/\FB w q/\Mod NoB w w' | _=>False,λl' _=>match l' with | [.sl q,.i _ i]=>(12 - i).toNat | _=>0,
  ⟨0,rfl,by omega,by simpa [marks] using h9,hf2,hM2⟩,?_⟩
 rintro q i w3 ⟨k,rfl,hk,hq,p8,p9⟩
 refine aC (λhlt=>?_) λhge=>?_
 ·have q8:k<12:=by simp at hlt; omega
  refine aB nE ?_
  rintro v w4 ⟨rfl,rfl⟩
  refine ⟨_,rfl,lC (w0:=w) hq p8 p9 (by simp; omega) λs5 w5 q9 u0 u1 u5=>?_⟩
  rw [aI (by omega)]
  refine ⟨⟨k+1,rfl,by omega,?_,u0,u1⟩,by (try simp only []); omega⟩
  rw [List.append_assoc] at q9
  exact q9
 ·have q8:k=12:=by simp at hge; omega
  subst q8
  have u2:=aV hq.rd
  have u3:=hq.2.1
  simp at u2
  refine ⟨⟨by omega,by omega⟩,?_⟩
  rw [Int.toNat_natCast,lE u3 (by omega)]
  refine ⟨_,rfl,⟨by simp only []; omega,?_⟩,p8,p9⟩
  simp only []
  rw [show s.len+12=q.len by omega]
  exact hq
theorem qA {w:World} {x s:Slc} {l:zY} (hx:fC w x l) (hs:aK w s 1 (bys l)) (hn:l.length<=1000000000) :
 Calls prog 71 #[.slice x.a x.len x.cap,.slice s.a s.len s.cap] w (Ret λv w'=>v = .bool true/\Mod NoB w w'):=by
 refine jCZ _ _ ?_
 unfold jDP
 have hL:=aV hs
 have hc:=hx.cap
 have hxl:=hx.1
 have k4:x.len=s.len:=by omega
 refine aC (λh=>by simp [k4] at h) λ_=>?_
 rw [show zW ((s.len:Int)+12)=((s.len+12:Nat):Int) by rw [wrap_i64 (by omega)]; omega]
 refine ⟨⟨by omega,by omega⟩,?_⟩
 have e1:aF x 1 0 (((s.len+12:Nat):Int)).toNat x.cap=⟨x.a,s.len+12,x.cap⟩:=by rw [Int.toNat_natCast]; exact lE (by omega) (by omega)
 simp only [e1]
 have hall:aK w ⟨x.a,s.len+12,x.cap⟩ 1 (bys (l++marks 12)):=by rw [<-k4]; exact hx.2.rd
 have hal:(l++marks 12).length=s.len+12:=by simp; omega
 refine ⟨λl' w'=>match l' with | [.i _ i]=>∃ k:Nat,i=k/\k<=s.len+12/\Mod NoB w w' | _=>False,λl' _=>match l' with | [.i _ i]=>(s.len+12 - i).toNat | _=>0,⟨0,rfl,by omega,Mod.refl _ _⟩,?_⟩
 rintro i w1 ⟨k,rfl,hk,k3⟩
 refine aC (λhlt=>?_) λhge=>⟨rfl,k3⟩
 have k5:k<s.len+12:=by simp at hlt; omega
 obtain ⟨xa,ea,hra⟩:=gL hall (i:=k) (by omega)
 have ea':x.a=some xa:=ea
 have h9:(∃ k':Nat,zW ((k:Int)+1)=k'/\k'<=s.len+12/\Mod NoB w w1.drew)/\(s.len+12 - zW ((k:Int)+1)).toNat<((s.len:Int)+12 - (k:Int)).toNat:=by
  rw [aI (by omega)]
  exact ⟨⟨k+1,rfl,by omega,k3.dr⟩,by omega⟩
 refine ⟨λw'=>Mod NoB w w',k3.dr,aC (λh=>?_) λh=>?_⟩
 ·have hkl:k<s.len:=by simp at h; omega
  obtain ⟨sa,es,hrs⟩:=gL hs (i:=k) (by omega)
  simp only [ea',es,Int.toNat_natCast]
  have hv:(l++marks 12)[k]'(by omega)=l[k]'(by omega):=List.getElem_append_left _
  rw [hv] at hra
  refine ⟨⟨by omega,by omega⟩,⟨by omega,by omega⟩,_,λw' h=>hra.mod h λh=>h,_,λw' h=>hrs.mod h λh=>h,aC (λe=>by simp at e) λ_=>aC (λe=>by simp at e; omega) λ_=>⟨⟨k3.dr,h9⟩,trivial⟩⟩
 ·have hkl:s.len<=k:=by simp at h; omega
  simp only [ea',Int.toNat_natCast]
  have hv:(l++marks 12)[k]'(by omega)=mb 1 ((k - s.len:Nat):Int):=by
   rw [List.getElem_append_right (by omega)]
   have:=yO 12 (k - l.length) (by omega)
   rw [List.getElem?_eq_getElem (by simp; omega)] at this
   rw [Option.some.inj this,hL]
  rw [hv] at hra
  refine aC (λ_=>⟨⟨by omega,by omega⟩,_,λw' h=>hra.mod h λh=>h,?_,trivial⟩) λe=>by simp at e; omega
  rw [show zW ((k:Int) - (s.len:Int))=((k - s.len:Nat):Int) by rw [wrap_i64 (by omega)]; omega]
  refine aB nE ?_
  rintro v w4 ⟨rfl,rfl⟩
  exact ⟨_,rfl,k3.dr,aC (λe=>by simp at e) λ_=>h9⟩
def lK:Ann:=.block none (.unroll 1 (q0 (q0 .z (.cond .z .z)) .z))
def qDN:Ann:=q0 .z (q0 (q0 .z lK) (q0 .z (q0 (q0 .z lK) (q0 (q0 .z lK) (q0 (q0 .z lK) (q0 (q0 .z lK) (q0 .z .z)))))))
theorem qHJ {T e:TypeId} {w:World} {K:zP} (ht:prog.underlying T=some (.slice e)) (hi : ∃ i,prog.info? e=some i/\i.zero=some (.slice none 0 0)/\i.size=1/\i.bytes=24) (hK : ∀ w',Mod NoB w w'->K w') :
 aH prog (Instr.makeSlice T (.int .i64 0) (.int .i64 0)) w λv w1=>∃ x:Slc,v = .slice x.a x.len x.cap/\K w1:=by
 obtain ⟨i,h1,h2,h3,h4⟩:=hi
 exact bW (l:=0) (c:=0) ht h1 h2 h3 rfl h4 rfl rfl (by omega) (by omega) (by omega) λb w' hN hb ho=>⟨⟨_,_,_⟩,rfl,hK w' hN.mod⟩
def bS (f:FuncId):Prop:=∀ w:World,Calls prog f #[.slice none 0 0] w (Ret λv w'=>v = .bool true/\Mod NoB w w')
theorem cX {f:FuncId} {fn:Func} {T e:TypeId} (hf:prog.funcs[f]? = some fn) (hb:fn.body.isSome=true:=by kernel_rfl) (hl:Nat.ble 1 fn.ntmps=true:=by kernel_rfl) (ht:prog.underlying T=some (.slice e):=by kernel_rfl) (hi : ∃ i,prog.info? e=some i/\i.zero=some (.slice none 0 0)/\i.size=1/\i.bytes=24:=by exact bC (by kernel_rfl) (by kernel_rfl) (by kernel_rfl))
 (he : ∀ w R,aH prog (Instr.makeSlice T (.int .i64 0) (.int .i64 0)) w (λv w1=>∃ x:Slc,v = .slice x.a x.len x.cap/\R (.returned (.bool true)) w1)=den prog fn.ntmps none qDN (jZ fn) (qSB prog fn R) [] (gK 0 [.sl ⟨none,0,0⟩]) w:=by intro w R; kernel_rfl):bS f:=
 λw=>dE qDN hf hb [.sl ⟨none,0,0⟩] hl (he w _) (qHJ ht hi λw' hm=>⟨rfl,hm⟩)
theorem qEY:bS 73:=cX (T:=72) (e:=185) func73
theorem qFM:bS 74:=cX (T:=73) (e:=187) func74
theorem qIV:bS 75:=cX (T:=74) (e:=36) func75
theorem qFR:bS 76:=cX (T:=75) (e:=189) func76
theorem qFS:bS 77:=cX (T:=76) (e:=66) func77
theorem qAP:bS 79:=cX (T:=78) (e:=191) func79
theorem qHP:bS 80:=cX (T:=79) (e:=77) func80
theorem qBJ:bS 84:=cX (T:=81) (e:=194) func84
theorem qFP:bS 85:=cX (T:=82) (e:=199) func85
theorem qEV:bS 86:=cX (T:=83) (e:=205) func86
theorem qAT:bS 87:=cX (T:=84) (e:=210) func87
theorem qGA:bS 88:=cX (T:=85) (e:=215) func88
theorem qH:bS 89:=cX (T:=86) (e:=220) func89
theorem qAQ:bS 90:=cX (T:=87) (e:=225) func90
theorem wX:bS 91:=cX (T:=88) (e:=231) func91
theorem xX:bS 92:=cX (T:=89) (e:=236) func92
theorem yG:bS 93:=cX (T:=90) (e:=242) func93
theorem yQ:bS 94:=cX (T:=91) (e:=247) func94
theorem qEI:bS 95:=cX (T:=92) (e:=252) func95
theorem qES:bS 96:=cX (T:=93) (e:=258) func96
theorem bY {x:zO} {a:Addr} {K:Addr->Prop} (h:x=some a) (hk:K a):aA x K:=by rw [h]; exact hk
def sl (ss:List Slc) (k:Nat):Slc:=ss.getD k ⟨none,0,0⟩
theorem pR {ss:List Slc} {k:Nat} (h:k<ss.length):sl ss k=ss[k]:=by rw [sl,List.getD,List.getElem?_eq_getElem h]; rfl
theorem qIO {ss:List Slc} {k j:Nat} {g:Slc} (h:k<ss.length):sl (ss.set k g) j=if k=j then g else sl ss j:=by
 unfold sl
 rw [List.getD,List.getD,List.getElem?_set]
 split
 ·next e=>subst e; simp [h]
 ·rfl
theorem tW {w w':World} {s:Slc} {ss:List Slc} {a:Addr} {k:Nat} (h:aK w s 1 (ss.map Slc.val)) (ha:s.a=some a) (hk:k<ss.length) (hm:Mod NoB w w'):Rd w' (a.add (k*1)) [(sl ss k).val]:=by
 obtain ⟨a',e,hr⟩:=pA h hk
 rw [ha] at e; cases e
 rw [pR hk]
 exact hr.mod hm λh=>h
theorem rD {w:World} {s:Slc} {ss:List Slc} (h:aK w s 1 (ss.map Slc.val)) (hk:0<ss.length) : ∃ a,s.a=some a:=by
 obtain ⟨a',e,_⟩:=pA h hk; exact ⟨a',e⟩
theorem mG {s t:Slc} (h1:s.a=t.a) (h2:s.cap=t.cap):s.blk=t.blk:=by unfold Slc.blk; rw [h1,h2]
def UB (ss:List Slc) (x:Nat):Prop:=∃ k,k<ss.length/\(sl ss k).blk=some x
end Go.Proofs.YthaefcgpbccmbaaGreatDoor
end
section
namespace Go.Sh
open Go
theorem rngK {α:Type} {f:α->List Value} {z:Value} {z0:α} {k:Nat} (hz:z.cells=(f z0).toArray) (hk:(f z0).length=k) (hk0:0<k) (n:Nat):(Array.range (n*k)).map (λj=>z.cells[j % z.cells.size]!)=((List.replicate n z0).flatMap f).toArray:=by
 have h9:z.cells.size=k:=by rw [hz]; simp [hk]
 have hlen : ∀ n,((List.replicate n z0).flatMap f).length=n*k:=λn=>by
  induction n with
  | zero=>simp
  | succ n ih=>rw [List.replicate_succ,List.flatMap_cons,List.length_append,ih,hk,Nat.succ_mul]; omega
 have hget : ∀ n j,j<n*k->((List.replicate n z0).flatMap f)[j]? = (f z0)[j % k]?:=λn=>by
  induction n with
  | zero=>intro j h; omega
  | succ n ih=>
    intro j h
    rw [List.replicate_succ,List.flatMap_cons]
    rcases Nat.lt_or_ge j k with h' | h'
    ·rw [List.getElem?_append_left (by omega),Nat.mod_eq_of_lt h']
    ·rw [List.getElem?_append_right (by omega),hk,ih (j - k) (by rw [Nat.succ_mul] at h; omega)]
     congr 1
     conv=>rhs; rw [show j=(j - k)+k by omega,Nat.add_mod_right]
 apply Array.ext'
 rw [Array.toList_map,Array.toList_range]
 apply List.ext_getElem?
 intro j
 rcases Nat.lt_or_ge j (n*k) with h | h
 ·rw [hget n j h,List.getElem?_map,List.getElem?_range h]
  have hm:j % k<k:=Nat.mod_lt _ hk0
  simp only [Option.map_some]
  have e:z.cells[j % z.cells.size]! = (f z0)[j % k]'(by omega):=by
   rw [h9,getElem!_pos z.cells _ (by omega)]
   simp [hz]
  rw [e]
  exact (List.getElem?_eq_getElem _).symm
 ·rw [List.getElem?_eq_none (by simpa using h),List.getElem?_eq_none (by rw [hlen]; exact h)]
section
variable {P:Program} {w:World} {K:Value->zP}
theorem iP {α:Type} {f:α->List Value} {z0:α} {t e:TypeId} {i:TypeInfo} {z:Value} {k:Nat} (ht:P.underlying t=some (.slice e)) (hi:P.info? e=some i) (hz:i.zero=some z) (hk:i.size=k) (h9:z.cells=(f z0).toArray) (hkl:(f z0).length=k) (hk0:0<k) {bytes:Nat} (k3:i.bytes=bytes)
 {kl kc:IntKind} {li ci:Int} {c l:Nat} (hl:li=(l:Int)) (hc:ci=(c:Int)) (k4:l<=c) (hc0:0<c) (hb:c*bytes<=281474976710656) (k5:c<=9223372036854775807)
 (hK : ∀ b w',New w w' b (.cells ((List.replicate c z0).flatMap f).toArray e)->Own w' ⟨some ⟨b,0,none⟩,l,c⟩ k ((List.replicate l z0).flatMap f)->K (.slice (some ⟨b,0,none⟩) l c) w') :
 aH P (Instr.makeSlice t (.int kl li) (.int kc ci)) w K:=by
 subst hl hc k3
 have hlen : ∀ n,((List.replicate n z0).flatMap f).length=n*k:=λn=>by
  induction n with
  | zero=>simp
  | succ n ih=>rw [List.replicate_succ,List.flatMap_cons,List.length_append,ih,hkl,Nat.succ_mul]; omega
 refine gS (l:=(List.replicate c z0).flatMap f) (e:=e) (n:=l) (c:=c) (λw=>?_) (λb w' hN k6=>hK b w' hN ?_)
 ·have e1:zW (c:Int)=c:=wrap_i64 (by omega)
  have e2:zW (l:Int)=l:=wrap_i64 (by omega)
  unfold Instr.makeSlice
  simp only [asInt,asIntOf,Sem.run_bind,Sem.run_pure,run_underlying ht,Result.andThen_ok,run_sizeOf hi,mK hi,hk,e1,e2,Int.toNat_natCast,run_askRoom]
  have g6 : ¬ ((decide ((c:Int)<0) || decide ((i.bytes:Int)*(c:Int) > 2 ^ 48) || decide ((l:Int)<0) || decide ((l:Int) > (c:Int)))=true):=by
   simp only [Bool.or_eq_true,decide_eq_true_eq,gt_iff_lt]
   have:(2:Int) ^ 48=281474976710656:=by decide
   have g2:(i.bytes*(c:Int))=((c*i.bytes:Nat):Int):=by rw [Nat.mul_comm]; simp
   rw [this,g2]; omega
  rw [if_neg g6]
  simp only [Sem.run_bind,Sem.run_pure,Result.andThen_ok,run_sizeOf hi,mK hi,hk,Int.toNat_natCast,run_askRoom]
  rw [if_neg (by have:=Nat.mul_pos hc0 hk0; omega)]
  simp only [Sem.run_bind,xP hi hz,Result.andThen_ok,Sem.run_pure,newRow,rngK h9 hkl hk0]
  simp
 ·have:=qW (n:=l) (k:=k) k6 (hlen c) k4
  have e:((List.replicate c z0).flatMap f).take (l*k)=(List.replicate l z0).flatMap f:=by
   obtain ⟨d,rfl⟩ : ∃ d,c=l+d:=⟨c - l,by omega⟩
   rw [<-List.replicate_append_replicate,List.flatMap_append,List.take_append_of_le_length (by rw [hlen]; exact Nat.le_refl _),List.take_of_length_le (by rw [hlen]; exact Nat.le_refl _)]
  rw [e] at this
  exact this
theorem jP {α:Type} {f:α->List Value} {c:α} {v:Value} {t e:TypeId} {i:TypeInfo} {z:Value} {k:Nat} {bytes:Nat} {L:Slc->zP} {s:Slc} {vs:List Value} (ht:P.underlying t=some (.slice e)) (hi:P.info? e=some i) (hz:i.zero=some z) (hk:i.size=k) (h9:z.cells.size=k) (k3:i.bytes=bytes)
 (hv:v.cells=(f c).toArray) (hkl:(f c).length=k) (hk0:0<k) (hks:k<=2 ^ 24) (h1 : ∀ u∈f c,u.oneCell'=true) (hs:Own w s k vs) (hb:(s.len+1)*bytes<=140737488355328) (hn:s.len<=2000000000)
 (hK1 : ∀ w',s.len+1<=s.cap->Own w' ⟨s.a,s.len+1,s.cap⟩ k (vs++f c)->Mod (λb=>s.blk=some b) w w'->L ⟨s.a,s.len+1,s.cap⟩ w')
 (hK2 : ∀ b cp w',s.cap<s.len+1->w.heap.size<=b->Own w' ⟨some ⟨b,0,none⟩,s.len+1,cp⟩ k (vs++f c)->s.len+1<=cp->Mod NoB w w'->L ⟨some ⟨b,0,none⟩,s.len+1,cp⟩ w') :
 aH P (Instr.buildSlice t 1 #[(0,v)]) w λv w2=>∃ x1:Slc,v=(.slice x1.a x1.len x1.cap)/\aH P (Builtin.append_ #[t,t] t #[(.slice s.a s.len s.cap),(.slice x1.a x1.len x1.cap)]) w2 λv1 w3=>∃ x2:Slc,v1=(.slice x2.a x2.len x2.cap)/\L x2 w3:=by
 refine bZ (l:=f c) [v] ht hi hz hk hk0 rfl (by decide) (by omega) rfl (by intro u hu; simp at hu; subst hu; rw [hv]; simp [hkl]) (by simp [hv]) λb w1 hN k4=>⟨⟨some ⟨b,0,none⟩,1,1⟩,rfl,?_⟩
 refine pW (x:=⟨some ⟨b,0,none⟩,1,1⟩) ht hi hz hk h9 k3 (hs.no hN.mod) (aY (n:=1) (k:=k) k4 (by rw [hkl]; omega)).rd h1 (by simp only []; omega) (by simp only []; omega) (λhc w2 ho hm _=>⟨_,rfl,hK1 w2 hc ho (hN.mod.no hm)⟩) (λhc cp w2 ho k5 hm _=>⟨⟨some ⟨w1.heap.size,0,none⟩,s.len+1,cp⟩,rfl,hK2 _ cp w2 hc hN.mod.size ho k5 (hN.mod.tr hm)⟩)
end
end Go.Sh
namespace Go.Proofs.YthaefcgpbccmbaaGreatDoor
open Go Go.Sh
def mkg {α:Type} (m:Int->Int->α) (k:Nat):Nat->List α
 | 0=>[]
 | n+1=>mkg m k n++[m k n]
section
variable {α:Type} {m:Int->Int->α} {f:α->List Value} {K:Nat}
@[simp] theorem vE (k:Nat) : ∀ n,(mkg m k n).length=n
 | 0=>rfl
 | n+1=>by simp [mkg,vE k n]
theorem pH (k:Nat) : ∀ (n i:Nat),i<n->(mkg m k n)[i]? = some (m k i)
 | 0,i,h=>by omega
 | n+1,i,h=>by
   rcases Nat.lt_or_ge i n with h' | h'
   ·rw [mkg,List.getElem?_append_left (by simpa using h'),pH k n i h']
   ·have:i=n:=by omega
    subst this
    rw [mkg,List.getElem?_append_right (by simp)]; simp
theorem qII (k:Nat) {n l:Nat} (h:n<=l):(mkg m k l).take n=mkg m k n:=by
 induction l with
 | zero=>have:n=0:=by omega
         subst this; rfl
 | succ l ih=>
   rcases Nat.lt_or_ge l n with h' | h'
   ·have:n=l+1:=by omega
    subst this; rw [List.take_of_length_le (by simp)]
   ·rw [mkg,List.take_append_of_le_length (by simpa using h'),ih h']
theorem rd_c {w w':World} {s:Slc} {l:List α} {a:Addr} {i:Nat} {c:α} (hk : ∀ x,(f x).length=K) (hk0:0<K) (h:aK w s K (aR f l)) (ha:s.a=some a) (hc:l[i]? = some c) (hm:Mod NoB w w'):Rd w' (a.add (i*K)) (f c):=by
 obtain ⟨hi,hv⟩:=List.getElem?_eq_some_iff.1 hc
 obtain ⟨a',e,hr⟩:=aZ hk hk0 h hi
 rw [ha] at e; cases e
 rw [hv] at hr
 exact hr.mod hm λh=>h
theorem tC {w:World} {s:Slc} {vs:List Value} (h:Sh.Own w s K vs) (hl:0<s.len) : ∃ a,s.a=some a:=by
 rcases h.owned with ⟨_,h0,_⟩ | ⟨_,b,o,_,_,e,_⟩
 ·omega
 ·exact ⟨_,e⟩
def kY (f:α->List Value) (K n0:Nat) (w:World) (s g:Slc) (l:List α):Prop:=Sh.Own w g K (aR f l)/\(g.blk=s.blk\/∃ b,g.blk=some b/\n0<=b)
end
end Go.Proofs.YthaefcgpbccmbaaGreatDoor
end
section
namespace Go.Proofs.YthaefcgpbccmbaaGreatDoor
open Go Go.Sh
open Go.Proofs.Tryz
def qXA (k i:Int) (w:World) (R:RW):Prop:=
 aH prog (Instr.alloc 52 true (.tuple #[])) w λv w1=>∃ x:zO,v=(.pointer x)/\aD prog 59 [.int .i64 k,.int .i64 i] w1 (aG R) λv1 w2=>∃ x1:Int,v1=(.int .i64 x1)/\aA x λa=>aJ prog (storeVar 52 a (.agg #[.int .i64 0,.int .i64 x1])) w2 λw3=>aA x λa1=>∃ xa xb:Int,Rd w3 a1 [.int .i64 xa,.int .i64 xb]/\R (.returned (.agg #[.int .i64 xa,.int .i64 xb])) w3
theorem qRK (k i:Int) {w:World} {R:RW} (h9:qXA k i w R):Calls prog 114 #[.int .i64 k,.int .i64 i] w R:=
 zC (q0 .z (q0 .z .z)) func114 [.i .i64 k,.i .i64 i] h9
def jHK (k i:Int) (w:World) (R:RW):Prop:=
 aH prog (Instr.alloc 40 true (.tuple #[])) w λv w1=>∃ x:zO,v=(.pointer x)/\aD prog 59 [.int .i64 k,.int .i64 i] w1 (aG R) λv1 w2=>∃ x1:Int,v1=(.int .i64 x1)/\aA x λa=>aJ prog (storeVar 40 a (.agg #[.string ⟨([]).toArray⟩,.int .i64 0,.int .i64 x1,.slice none 0 0,.bool false,.slice none 0 0,.slice none 0 0])) w2 λw3=>aA x λa1=>∃ xa:zY,∃ xb xc:Int,∃ xd:Slc,∃ xe:Bool,∃ xf xg:Slc,Rd w3 a1 (yR xa xb xc xd xe xf xg)/\R (.returned (zR xa xb xc xd xe xf xg)) w3
theorem jAM (k i:Int) {w:World} {R:RW} (h9:jHK k i w R):Calls prog 29 #[.int .i64 k,.int .i64 i] w R:=
 zC (q0 .z (q0 .z .z)) func29 [.i .i64 k,.i .i64 i] h9
def qWI (k i:Int) (w:World) (R:RW):Prop:=
 aH prog (Instr.alloc 64 true (.tuple #[])) w λv w1=>∃ x:zO,v=(.pointer x)/\aD prog 132 [.int .i64 k,.int .i64 i] w1 (aG R) λv1 w2=>∃ x1:zY,v1=(.string ⟨x1.toArray⟩)/\aA x λa=>aJ prog (storeVar 64 a (.agg #[.string ⟨x1.toArray⟩,.slice none 0 0])) w2 λw3=>aA x λa1=>∃ xa:zY,∃ xb:Slc,Rd w3 a1 [.string ⟨xa.toArray⟩,zS xb]/\R (.returned (.agg #[.string ⟨xa.toArray⟩,zS xb])) w3
theorem qQN (k i:Int) {w:World} {R:RW} (h9:qWI k i w R):Calls prog 134 #[.int .i64 k,.int .i64 i] w R:=
 zC (q0 .z (q0 .z .z)) func134 [.i .i64 k,.i .i64 i] h9
theorem vM {ox oy:Operand} {x y:Int×Int} {K:Value->Prop} (hk:K (.bool (decide (x=y)))) :
 bB prog (do eqGuard .eql 52 ox oy (.agg #[.int .i64 x.1,.int .i64 x.2]) (.agg #[.int .i64 y.1,.int .i64 y.2]); binOp .eql 52 (.agg #[.int .i64 x.1,.int .i64 x.2]) (.agg #[.int .i64 y.1,.int .i64 y.2])) K:=by
 refine qCM (λw=>?_) hk
 have hg:prog.eqGuardType prog.depth 52=false:=by kernel_rfl
 have u3:=Tryz.underlying3
 have a3:=Tryz.isAgg3
 have z3:=Tryz.sizeOf3
 have h9:(Op.equal 52 (.agg #[.int .i64 x.1,.int .i64 x.2]) (.agg #[.int .i64 y.1,.int .i64 y.2])).run prog w = .ok (decide (x=y)) w:=by
  show (Op.equalIn 10000 52 _ _).run _ _=_
  rw [show (10000:Nat)=9999+1 from rfl,run_equalIn_agg w 9999 52 _ _ qTF (by kernel_rfl)]
  simp only [Program.fieldsOf,Tryz.underlying52]
  go_simp
  by_cases h1:x.1=y.1 <;> by_cases h2:x.2=y.2 <;> simp [h1,h2,Prod.ext_iff]
 simp only [Sem.run_bind,run_eqGuard_agg w .eql 52 ox oy _ _ hg,Result.andThen_ok]
 show (do pure (Value.bool (<-Op.equal 52 _ _)):Sem Value).run prog w=_
 simp only [Sem.run_bind,h9,Result.andThen_ok]
 rfl
def fF (d:Int×Int):List Value:=[.int .i64 d.1,.int .i64 d.2]
theorem lQ (d:Int×Int):(fF d).length=2:=rfl
theorem pO (d:Int×Int) : ∀ v∈fF d,v.oneCell'=true:=by
 intro v hv
 simp [fF] at hv
 rcases hv with rfl | rfl <;> rfl
def mD (k i:Int):Int×Int:=(0,mk k i)
def mR (k i:Int):Hd:=⟨[],0,mk k i,⟨none,0,0⟩,false,⟨none,0,0⟩,⟨none,0,0⟩⟩
def rcM (k i:Int):Rc:={key:=[],cl:=0,sq:=mk k i,ctx:=[],gone:=false,val:=[],sig:=[]}
def mL (k i:Int):zY×Slc:=(mt k i,⟨none,0,0⟩)
theorem qBU (w:World) (k i:Int):bH w (mR k i) (rcM k i):=
 ⟨rfl,rfl,rfl,rfl,(bK w 2).rd,(bK w 1).rd,(bK w 1).rd,⟨by simp [rcM],by simp [rcM],by simp [rcM],by simp [rcM]⟩,λz hz=>by simp [mR] at hz⟩
theorem uI (w:World):fO w ⟨none,0,0⟩ []:=⟨[],(bK w 7).rd,rfl,λi h=>absurd h (by simp)⟩
section
variable {w:World}
theorem pP {k i:Int} : Calls prog 114 #[.int .i64 k,.int .i64 i] w (Ret λv w'=>v = .agg #[.int .i64 (mD k i).1,.int .i64 (mD k i).2]/\Mod NoB w w'):=by
 refine qRK _ _ ?_
 unfold qXA
 obtain ⟨id,h9,hd2,k3,k4⟩:=qI
 refine aN (l:=[.int .i64 0,.int .i64 0]) h9 hd2 rfl λq w1 hN1 hb1=>⟨_,rfl,?_⟩
 refine aB qAI ?_
 rintro v w2 ⟨rfl,rfl⟩
 refine ⟨_,rfl,?_⟩
 show aJ _ _ _ _
 refine bU (vs:=fF (mD k i)) (by kernel_rfl) (by kernel_rfl) rfl hb1 (by simp [fF]) (pO _) λw3 ht3 hb3=>?_
 have hb3:Blk w3 q (fF (mD k i)) 52:=hb3
 have hq:=hN1.at_
 exact ⟨(mD k i).1,(mD k i).2,hb3.rd λj v hj=>by rw [Nat.zero_add]; exact hj,rfl,hN1.mod.fresh ht3.mod λz e=>by have e:z=q:=e; omega⟩
theorem kK {k i:Int} : Calls prog 29 #[.int .i64 k,.int .i64 i] w (Ret λv w'=>v=(mR k i).val/\Mod NoB w w'):=by
 refine jAM _ _ ?_
 unfold jHK
 obtain ⟨ir,hr1,hr2,h9,k3⟩:=iF
 refine aN (l:=hz0) hr1 hr2 rfl λq w1 hN1 hb1=>⟨_,rfl,?_⟩
 refine aB qAI ?_
 rintro v w2 ⟨rfl,rfl⟩
 refine ⟨_,rfl,?_⟩
 show aJ _ _ _ _
 refine cB (h:=mR k i) (by kernel_rfl) (by kernel_rfl) hb1 rfl λw3 ht3 hb3=>?_
 have hq:=hN1.at_
 exact ⟨(mR k i).a,(mR k i).b,(mR k i).c,(mR k i).d,(mR k i).e,(mR k i).f,(mR k i).g,rdH hb3,rfl,hN1.mod.fresh ht3.mod λz e=>by have e:z=q:=e; omega⟩
theorem zX {k i:Int} : Calls prog 134 #[.int .i64 k,.int .i64 i] w (Ret λv w'=>v = .agg (dG (mL k i)).toArray/\Mod NoB w w'):=by
 refine qQN _ _ ?_
 unfold qWI
 obtain ⟨il,hl1,hl2,k3,hl4⟩:=xO
 refine aN (l:=[.string ⟨#[]⟩,.slice none 0 0]) hl1 hl2 rfl λq w1 hN1 hb1=>⟨_,rfl,?_⟩
 refine aB qAA ?_
 rintro v w2 ⟨rfl,h9⟩
 refine ⟨_,rfl,?_⟩
 show aJ _ _ _ _
 refine bU (vs:=dG (mL k i)) (by kernel_rfl) (by kernel_rfl) rfl (hb1.no h9) (by simp [dG]) (lZ _) λw3 ht3 hb3=>?_
 have hb3:Blk w3 q (dG (mL k i)) 64:=hb3
 have hq:=hN1.at_
 exact ⟨(mL k i).1,(mL k i).2,hb3.rd λj v hj=>by rw [Nat.zero_add]; exact hj,rfl,(hN1.mod.tr h9).fresh ht3.mod λz e=>by have e:z=q:=e; omega⟩
end
end Go.Proofs.YthaefcgpbccmbaaGreatDoor
end
