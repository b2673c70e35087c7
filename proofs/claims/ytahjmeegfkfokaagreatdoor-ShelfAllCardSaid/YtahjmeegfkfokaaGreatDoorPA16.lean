/- The forms of the translated functions,their contracts and the plain laws behind them,put together by a program. -/
import Derived.Test.YtahjmeegfkfokaaGreatDoorPA15
import Derived.Sort.Statements
set_option linter.unusedSimpArgs false
set_option linter.unusedVariables false
set_option maxRecDepth 100000
set_option maxHeartbeats 4000000
section
namespace Go.Proofs.YtahjmeegfkfokaaGreatDoor
open Go Go.Sh
open Go.Proofs.Tryz
theorem qEU {n m:Int} (hn:0≤n∧n<4611686018427387904) (hm:0≤m∧m<4611686018427387904) (h:bR n=bR m):n=m:=by
 have H : ∀ k,k≤8→aM (aN n) (8*(8 - k))=aM (aN m) (8*(8 - k)):=by
  intro k
  induction k with
  | zero=>intro _; rfl
  | succ k ih=>
    intro hk
    have ih:=ih (by omega)
    have hk':k<8:=by omega
    have e:8*(8 - (k+1))=8*(7 - k):=by omega
    rw [e,← rF (n:=n) hk',← rF (n:=m) hk',ih]
    have hb:(aM (aN n) (8*(7 - k))).toUInt8=(aM (aN m) (8*(7 - k))).toUInt8:=by
     rw [← uT hk',← uT hk']
     simp only [h]
    rw [hb]
 have h8:=H 8 (Nat.le_refl _)
 have g : ∀ {x:Int},0≤x∧x<4611686018427387904→(aM (aN x) (8*(8 - 8))).toNat=x.toNat:=fun {x} hx=>by
  unfold aM aN
  rw [if_pos (by omega),UInt64.toNat_shiftRight]
  have e0:(UInt64.ofNat (8*(8 - 8))).toNat % 64=0:=by decide
  rw [e0,Nat.shiftRight_zero,UInt64.toNat_ofNat']
  omega
 have h9:=congrArg UInt64.toNat h8
 rw [g hn,g hm] at h9
 omega
theorem qCG {n m:Int} {x y:List UInt8} (hn:0≤n∧n<4611686018427387904) (hm:0≤m∧m<4611686018427387904) (h:bR n++x=bR m++y):n=m∧x=y:=by
 have:=List.append_inj h (by simp)
 exact ⟨qEU hn hm this.1,this.2⟩
theorem jBW {a b x y:List UInt8} (ha:a.length<4611686018427387904) (hb:b.length<4611686018427387904) (h:fH a++x=fH b++y):a=b∧x=y:=by
 simp only [fH,List.append_assoc] at h
 obtain ⟨h1,h2⟩:=qCG (by omega) (by omega) h
 exact List.append_inj h2 (by omega)
theorem jBR {x y:List UInt8} : ∀ {c d:List (Int×Int)},c.length=d.length→(∀ e∈c,bD e=true)→(∀ e∈d,bD e=true)→(c.flatMap fun d=>bR d.1++bR d.2)++x=(d.flatMap fun d=>bR d.1++bR d.2)++y→c=d∧x=y
 | [],[],_,_,_,h=>⟨rfl,h⟩
 | p :: c,q :: d,hl,hc,hd,h=>by
   have hp:=hc p List.mem_cons_self
   have hq:=hd q List.mem_cons_self
   simp only [bD,Bool.and_eq_true,decide_eq_true_eq] at hp hq
   simp only [List.flatMap_cons,List.append_assoc] at h
   obtain ⟨h1,h2⟩:=qCG (by omega) (by omega) h
   obtain ⟨h3,h4⟩:=qCG (by omega) (by omega) h2
   obtain ⟨h5,h6⟩:=jBR (by simpa using hl) (fun e he=>hc e (List.mem_cons_of_mem _ he)) (fun e he=>hd e (List.mem_cons_of_mem _ he)) h4
   exact ⟨by rw [h5,show p=q from Prod.ext h1 h3],h6⟩
theorem pN : ∀ {v:List (Int×Int)},bI v=true→∀ e∈v,bD e=true
 | [],_,e,he=>by simp at he
 | [d],h,e,he=>by simp at he; subst he; exact h
 | d :: f :: l,h,e,he=>by
   simp only [bI,Bool.and_eq_true] at h
   rcases List.mem_cons.1 he with rfl | he
   ·exact h.1.1
   ·exact pN h.2 e he
theorem qCD : ∀ {v:List (Int×Int)} {d:Int×Int},bI (d :: v)=true→(v.length:Int)≤8 - d.1
 | [],d,h=>by
   simp only [bI,bD,Bool.and_eq_true,decide_eq_true_eq] at h
   simp; omega
 | f :: l,d,h=>by
   simp only [bI,Bool.and_eq_true,decide_eq_true_eq] at h
   have:=qCD h.2
   simp only [List.length_cons]; omega
theorem wU {v:List (Int×Int)} (h:bI v=true):v.length≤8:=by
 match v,h with
 | [],_=>simp
 | d :: v,h=>
   have h1:=qCD h
   have h2:=pN h d List.mem_cons_self
   simp only [bD,Bool.and_eq_true,decide_eq_true_eq] at h2
   simp only [List.length_cons]; omega
theorem qBK {r s:Rc} (hr:r.right=true) (hs:s.right=true) (h:r.enc=s.enc):r=s:=by
 obtain ⟨rk,rc,rq,rx,rg,rv,rs⟩:=r
 obtain ⟨sk,sc,sq,sx,sg,sv,ss⟩:=s
 simp only [Rc.right,Rc.shaped,Rc.dot,bD,Bool.and_eq_true,decide_eq_true_eq] at hr hs
 simp only [Rc.enc,Rc.text,List.append_assoc] at h
 have vr:=hr.1.1.1.1.2
 have vs:=hs.1.1.1.1.2
 have dr:((1≤rc∧rc≤8)∧1≤rq)∧rq≤1073741824:=by
  obtain ⟨⟨⟨a,b⟩,c⟩,d⟩:=hr.1.1.1.1.1.2
  exact ⟨⟨⟨of_decide_eq_true a,of_decide_eq_true b⟩,of_decide_eq_true c⟩,of_decide_eq_true d⟩
 have ds:((1≤sc∧sc≤8)∧1≤sq)∧sq≤1073741824:=by
  obtain ⟨⟨⟨a,b⟩,c⟩,d⟩:=hs.1.1.1.1.1.2
  exact ⟨⟨⟨of_decide_eq_true a,of_decide_eq_true b⟩,of_decide_eq_true c⟩,of_decide_eq_true d⟩
 have lr:=wU vr
 have ls:=wU vs
 have h:=(List.append_inj h rfl).2
 obtain ⟨rfl,h⟩:=jBW (by omega) (by omega) h
 obtain ⟨rfl,h⟩:=qCG (by omega) (by omega) h
 obtain ⟨rfl,h⟩:=qCG (by omega) (by omega) h
 obtain ⟨hl,h⟩:=qCG (by omega) (by omega) h
 obtain ⟨rfl,h⟩:=jBR (by omega) (pN vr) (pN vs) h
 obtain ⟨hg,h⟩:=List.append_inj h rfl
 obtain ⟨rfl,rfl⟩:=jBW (by omega) (by omega) h
 have:rg=sg:=by
  cases rg <;> cases sg <;> simp at hg <;> rfl
 rw [this]
theorem dV : ∀ (a b:List UInt8),(Lib.compareBytes a b = -1∧a<b)∨(Lib.compareBytes a b=0∧a=b)∨(Lib.compareBytes a b=1∧b<a)
 | [],[]=>.inr (.inl ⟨rfl,rfl⟩)
 | [],_ :: _=>.inl ⟨rfl,List.nil_lt_cons _ _⟩
 | _ :: _,[]=>.inr (.inr ⟨rfl,List.nil_lt_cons _ _⟩)
 | a :: xs,b :: bs=>by
   unfold Lib.compareBytes
   by_cases h:a<b
   ·rw [if_pos h]; exact .inl ⟨rfl,List.cons_lt_cons_iff.2 (.inl h)⟩
   ·rw [if_neg h]
    by_cases h2:b<a
    ·rw [if_pos h2]; exact .inr (.inr ⟨rfl,List.cons_lt_cons_iff.2 (.inl h2)⟩)
    ·rw [if_neg h2]
     have e:a=b:=UInt8.toNat_inj.1 (by rw [UInt8.lt_iff_toNat_lt] at h h2; omega)
     subst e
     rcases dV xs bs with ⟨h3,h4⟩ | ⟨h3,h4⟩ | ⟨h3,h4⟩
     ·exact .inl ⟨h3,List.cons_lt_cons_iff.2 (.inr ⟨rfl,h4⟩)⟩
     ·exact .inr (.inl ⟨h3,by rw [h4]⟩)
     ·exact .inr (.inr ⟨h3,List.cons_lt_cons_iff.2 (.inr ⟨rfl,h4⟩)⟩)
theorem qMU {a b:List UInt8} : Lib.compareBytes a b<0↔a<b:=by
 rcases dV a b with ⟨h,h'⟩ | ⟨h,h'⟩ | ⟨h,h'⟩
 ·simp [h,h']
 ·subst h'; simp [h,List.lt_irrefl]
 ·rw [h]
  exact ⟨fun e=>by omega,fun e=>absurd (List.lt_trans e h') (List.lt_irrefl _)⟩
def dZ (r s:Rc):Prop:=r.cl=s.cl∧r.sq=s.sq
theorem pM {r s:Rc} : qGY r s<0↔dX r s∨(dZ r s∧r.enc<s.enc):=by
 unfold qGY wP orI lZ dX dZ
 rw [← qMU]
 generalize Lib.compareBytes r.enc s.enc=c
 by_cases h1:r.cl<s.cl
 ·simp [h1]
 ·by_cases h2:r.cl > s.cl
  ·simp [h1,h2]; omega
  ·have h3:r.cl=s.cl:=by omega
   simp only [h1,h2,h3,if_false,ne_eq,not_true_eq_false,Int.lt_irrefl,true_and,false_or]
   by_cases h4:r.sq<s.sq
   ·simp [h4]
   ·by_cases h5:r.sq > s.sq
    ·simp [h4,h5]; omega
    ·have h6:r.sq=s.sq:=by omega
     simp [h4,h5,h6]
def ltS (r s:Rc):Prop:=dX r s∨(dZ r s∧r.enc<s.enc)
theorem zT (r:Rc) : ¬ ltS r r:=fun h=>h.elim (jI r) fun h=>List.lt_irrefl _ h.2
theorem qFQ {r s t:Rc} (h:ltS r s) (h':ltS s t):ltS r t:=by
 unfold ltS dX dZ at *
 rcases h with h | ⟨h,e⟩
 ·rcases h' with h' | ⟨h',e'⟩
  ·left; omega
  ·left; omega
 ·rcases h' with h' | ⟨h',e'⟩
  ·left; omega
  ·exact .inr ⟨by omega,List.lt_trans e e'⟩
theorem qBW {r s t:Rc} (h : ¬ ltS r s) (h' : ¬ ltS s t) : ¬ ltS r t:=by
 unfold ltS dX dZ at *
 rintro (h1 | ⟨h1,e⟩)
 ·have a1 : ¬ (r.cl<s.cl∨r.cl=s.cl∧r.sq<s.sq):=fun x=>h (.inl x)
  have a2 : ¬ (s.cl<t.cl∨s.cl=t.cl∧s.sq<t.sq):=fun x=>h' (.inl x)
  omega
 ·have a1 : ¬ (r.cl<s.cl∨r.cl=s.cl∧r.sq<s.sq):=fun x=>h (.inl x)
  have a2 : ¬ (s.cl<t.cl∨s.cl=t.cl∧s.sq<t.sq):=fun x=>h' (.inl x)
  have b1:r.cl=s.cl∧r.sq=s.sq:=by omega
  have b2:s.cl=t.cl∧s.sq=t.sq:=by omega
  have c1 : ¬ r.enc<s.enc:=fun x=>h (.inr ⟨b1,x⟩)
  have c2 : ¬ s.enc<t.enc:=fun x=>h' (.inr ⟨b2,x⟩)
  rcases dV r.enc s.enc with ⟨_,x⟩ | ⟨_,x⟩ | ⟨_,x⟩
  ·exact c1 x
  ·rw [x] at e; exact c2 e
  ·exact c2 (List.lt_trans x e)
def eqR (r s:Rc):Bool:=wP r s==0
theorem qAW {r s:Rc} : eqR r s=true↔dZ r s:=by
 unfold eqR dZ
 rw [beq_iff_eq,uM]
theorem qD : ∀ {l:List Rc} {p:Rc},(p :: l).Pairwise (fun a b=>¬ ltS b a)→(∀ r∈l,r.right=true)→∀ x,x∈jJ eqR p l↔x∈l∧¬ dZ x p∧∀ r'∈l,dZ r' x→¬ r'.enc<x.enc
 | [],p,_,_,x=>by simp [jJ]
 | b :: l,p,hs,hr,x=>by
   have hs2:=(List.pairwise_cons.1 hs).2
   have hp:=(List.pairwise_cons.1 hs).1
   have hb:=(List.pairwise_cons.1 hs2).1
   have ih:=qD hs2 (fun r h=>hr r (List.mem_cons_of_mem _ h)) x
   simp only [jJ,List.mem_append,ih]
   constructor
   ·rintro (h | ⟨h1,h2,h3⟩)
    ·by_cases e:eqR b p=true
     ·rw [if_pos e] at h; cases h
     ·rw [if_neg e] at h
      rw [List.mem_singleton] at h
      subst h
      refine ⟨List.mem_cons_self,fun h=>e (qAW.2 h),fun r' hr' hsd=>?_⟩
      rcases List.mem_cons.1 hr' with rfl | h
      ·exact List.lt_irrefl _
      ·exact fun he=>hb r' h (.inr ⟨hsd,he⟩)
    ·refine ⟨List.mem_cons_of_mem _ h1,fun hsd=>h2 ?_,fun r' hr' hsd=>?_⟩
     ·have a1 : ¬ dX b p:=fun h=>hp b List.mem_cons_self (.inl h)
      have a2 : ¬ dX x b:=fun h=>hb x h1 (.inl h)
      unfold dX dZ at *; omega
     ·rcases List.mem_cons.1 hr' with rfl | h
      ·exact absurd ⟨hsd.1.symm,hsd.2.symm⟩ h2
      ·exact h3 r' h hsd
   ·rintro ⟨h1,h2,h3⟩
    by_cases e:dZ x b
    ·have hx:x=b:=by
      rcases List.mem_cons.1 h1 with h | h
      ·exact h
      ·have c1 : ¬ x.enc<b.enc:=fun he=>hb x h (.inr ⟨e,he⟩)
       have c2 : ¬ b.enc<x.enc:=h3 b List.mem_cons_self ⟨e.1.symm,e.2.symm⟩
       rcases dV x.enc b.enc with ⟨_,y⟩ | ⟨_,y⟩ | ⟨_,y⟩
       ·exact absurd y c1
       ·exact qBK (hr x h1) (hr b List.mem_cons_self) y
       ·exact absurd y c2
     subst hx
     left
     rw [if_neg fun h=>h2 (qAW.1 h)]
     exact List.mem_singleton.2 rfl
    ·right
     rcases List.mem_cons.1 h1 with h | h
     ·subst h; exact absurd ⟨rfl,rfl⟩ e
     ·exact ⟨h,e,fun r' hr'=>h3 r' (List.mem_cons_of_mem _ hr')⟩
theorem qAA {l:List Rc} {p:Rc} (hs:(p :: l).Pairwise (fun a b=>¬ ltS b a)) (hr : ∀ r∈l,r.right=true) : ∀ x∈jJ eqR p l,dX p x:=by
 intro x hx
 obtain ⟨h1,h2,_⟩:=(qD hs hr x).1 hx
 have a1 : ¬ dX x p:=fun h=>(List.pairwise_cons.1 hs).1 x h1 (.inl h)
 unfold dX dZ at *; omega
theorem qBJ : ∀ {l:List Rc} {p:Rc},(p :: l).Pairwise (fun a b=>¬ ltS b a)→(∀ r∈l,r.right=true)→(jJ eqR p l).Pairwise dX
 | [],p,_,_=>by simp [jJ]
 | b :: l,p,hs,hr=>by
   have hs2:=(List.pairwise_cons.1 hs).2
   have hr2 : ∀ r∈l,r.right=true:=fun r h=>hr r (List.mem_cons_of_mem _ h)
   have ih:=qBJ hs2 hr2
   simp only [jJ]
   split
   ·simpa using ih
   ·simp only [List.singleton_append]
    exact List.pairwise_cons.2 ⟨qAA hs2 hr2,ih⟩
theorem qT {l:List Rc} (hs:l.Pairwise (fun a b=>¬ ltS b a)) (hr : ∀ r∈l,r.right=true):jR l (cpt eqR l):=by
 match l,hs,hr with
 | [],_,_=>exact ⟨by simp [cpt],fun r=>by simp [cpt]⟩
 | a :: l,hs,hr=>
   have hr2 : ∀ r∈l,r.right=true:=fun r h=>hr r (List.mem_cons_of_mem _ h)
   refine ⟨List.pairwise_cons.2 ⟨qAA hs hr2,qBJ hs hr2⟩,fun x=>?_⟩
   have hb:=(List.pairwise_cons.1 hs).1
   simp only [cpt,List.mem_cons,qD hs hr2 x]
   constructor
   ·rintro (h | ⟨h1,h2,h3⟩)
    ·subst h
     refine ⟨.inl rfl,fun r' hr' e1 e2 he=>?_⟩
     rcases hr' with rfl | h
     ·exact List.lt_irrefl _ he
     ·exact hb r' h (.inr ⟨⟨e1,e2⟩,he⟩)
    ·refine ⟨.inr h1,fun r' hr' e1 e2=>?_⟩
     rcases hr' with rfl | h
     ·exact absurd ⟨e1.symm,e2.symm⟩ h2
     ·exact h3 r' h ⟨e1,e2⟩
   ·rintro ⟨h1,h3⟩
    by_cases e:dZ x a
    ·left
     rcases h1 with h | h
     ·exact h
     ·have c1 : ¬ x.enc<a.enc:=fun he=>hb x h (.inr ⟨e,he⟩)
      have c2 : ¬ a.enc<x.enc:=h3 a (.inl rfl) e.1.symm e.2.symm
      rcases dV x.enc a.enc with ⟨_,y⟩ | ⟨_,y⟩ | ⟨_,y⟩
      ·exact absurd y c1
      ·exact qBK (hr2 x h |> fun z=>z) (hr a List.mem_cons_self) y
      ·exact absurd y c2
    ·right
     rcases h1 with h | h
     ·subst h; exact absurd ⟨rfl,rfl⟩ e
     ·exact ⟨h,e,fun r' hr' hsd=>h3 r' (.inr hr') hsd.1 hsd.2⟩
theorem wM {l l' out:List Rc} (h:jR l out) (hs : ∀ r,r∈l↔r∈l'):jR l' out:=⟨h.pw,fun r=>by rw [h.mem]; simp only [hs]⟩
theorem qCW {l l':List Rc} (hp:l'.Perm l) (hs:l'.Pairwise (fun a b=>¬ ltS b a)) (hr : ∀ r∈l,r.right=true):bY l (iR (cpt eqR l')):=
 ⟨_,wM (qT hs fun r h=>hr r (hp.mem_iff.1 h)) fun r=>hp.mem_iff,rfl⟩
theorem xL {α β:Type} (f:α→β) (e:β→β→Bool) : ∀ (l:List α) (p:α),(jJ (fun a b=>e (f a) (f b)) p l).map f=jJ e (f p) (l.map f)
 | [],p=>rfl
 | b :: l,p=>by
   simp only [jJ,List.map_append,List.map_cons,xL f e l b]
   split <;> rfl
theorem qAD {α β:Type} (f:α→β) (e:β→β→Bool) (l:List α):(cpt (fun a b=>e (f a) (f b)) l).map f=cpt e (l.map f):=by
 match l with
 | []=>rfl
 | a :: l=>simp [cpt,xL f e l a]
end Go.Proofs.YtahjmeegfkfokaaGreatDoor
end
