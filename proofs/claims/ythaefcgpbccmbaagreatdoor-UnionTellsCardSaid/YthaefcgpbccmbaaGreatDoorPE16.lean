/- The forms of the translated functions,their contracts and the plain laws behind them,put together by a program. -/
import Derived.Test.YthaefcgpbccmbaaGreatDoorPE15
import Derived.Sort.Statements
set_option linter.unusedSimpArgs false
set_option linter.unusedVariables false
set_option maxRecDepth 100000
set_option maxHeartbeats 4000000
section
namespace Go.Proofs.YthaefcgpbccmbaaGreatDoor
open Go Go.Sh
open Go.Proofs.Tryz
theorem qHZ {n m:Int} (hn:0<=n/\n<4611686018427387904) (hm:0<=m/\m<4611686018427387904) (h:bI n=bI m):n=m:=by
 have H : ∀ k,k<=8->aM (aP n) (8*(8 - k))=aM (aP m) (8*(8 - k)):=by
  intro k
  induction k with
  | zero=>intro _; rfl
  | succ k ih=>
    intro hk
    have ih:=ih (by omega)
    have k3:k<8:=by omega
    have e:8*(8 - (k+1))=8*(7 - k):=by omega
    rw [e,<-rF (n:=n) k3,<-rF (n:=m) k3,ih]
    have hb:(aM (aP n) (8*(7 - k))).toUInt8=(aM (aP m) (8*(7 - k))).toUInt8:=by
     rw [<-qU k3,<-qU k3]
     simp only [h]
    rw [hb]
 have h8:=H 8 (Nat.le_refl _)
 have g : ∀ {x:Int},0<=x/\x<4611686018427387904->(aM (aP x) (8*(8 - 8))).toNat=x.toNat:=λ{x} hx=>by
  unfold aM aP
  rw [if_pos (by omega),UInt64.toNat_shiftRight]
  have e0:(UInt64.ofNat (8*(8 - 8))).toNat % 64=0:=by decide
  rw [e0,Nat.shiftRight_zero,UInt64.toNat_ofNat']
  omega
 have h9:=congrArg UInt64.toNat h8
 rw [g hn,g hm] at h9
 omega
theorem qEP {n m:Int} {x y:zY} (hn:0<=n/\n<4611686018427387904) (hm:0<=m/\m<4611686018427387904) (h:bI n++x=bI m++y):n=m/\x=y:=by
 have:=List.append_inj h (by simp)
 exact ⟨qHZ hn hm this.1,this.2⟩
theorem jGK {a b x y:zY} (ha:a.length<4611686018427387904) (hb:b.length<4611686018427387904) (h:eG a++x=eG b++y):a=b/\x=y:=by
 simp only [eG,List.append_assoc] at h
 obtain ⟨h1,h2⟩:=qEP (by omega) (by omega) h
 exact List.append_inj h2 (by omega)
theorem jDI {x y:zY} : ∀ {c d:List (Int×Int)},c.length=d.length->(∀ e∈c,aU e=true)->(∀ e∈d,aU e=true)->(c.flatMap λd=>bI d.1++bI d.2)++x=(d.flatMap λd=>bI d.1++bI d.2)++y->c=d/\x=y
 | [],[],_,_,_,h=>⟨rfl,h⟩
 | p :: c,q :: d,hl,hc,hd,h=>by
   have hp:=hc p List.mem_cons_self
   have hq:=hd q List.mem_cons_self
   simp only [aU,Bool.and_eq_true,decide_eq_true_eq] at hp hq
   simp only [List.flatMap_cons,List.append_assoc] at h
   obtain ⟨h1,h2⟩:=qEP (by omega) (by omega) h
   obtain ⟨h3,h4⟩:=qEP (by omega) (by omega) h2
   obtain ⟨h5,h6⟩:=jDI (by simpa using hl) (λe he=>hc e (List.mem_cons_of_mem _ he)) (λe he=>hd e (List.mem_cons_of_mem _ he)) h4
   exact ⟨by rw [h5,show p=q from Prod.ext h1 h3],h6⟩
theorem qP : ∀ {v:List (Int×Int)},bG v=true->∀ e∈v,aU e=true
 | [],_,e,he=>by simp at he
 | [d],h,e,he=>by simp at he; subst he; exact h
 | d :: f :: l,h,e,he=>by
   simp only [bG,Bool.and_eq_true] at h
   rcases List.mem_cons.1 he with rfl | he
   ·exact h.1.1
   ·exact qP h.2 e he
theorem qBV : ∀ {v:List (Int×Int)} {d:Int×Int},bG (d :: v)=true->(v.length:Int)<=8 - d.1
 | [],d,h=>by
   simp only [bG,aU,Bool.and_eq_true,decide_eq_true_eq] at h
   simp; omega
 | f :: l,d,h=>by
   simp only [bG,Bool.and_eq_true,decide_eq_true_eq] at h
   have:=qBV h.2
   simp only [List.length_cons]; omega
theorem xL {v:List (Int×Int)} (h:bG v=true):v.length<=8:=by
 match v,h with
 | [],_=>simp
 | d :: v,h=>
   have h1:=qBV h
   have h2:=qP h d List.mem_cons_self
   simp only [aU,Bool.and_eq_true,decide_eq_true_eq] at h2
   simp only [List.length_cons]; omega
theorem wA {r s:Rc} (hr:r.right=true) (hs:s.right=true) (h:r.enc=s.enc):r=s:=by
 obtain ⟨rk,rc,rq,rx,rg,rv,rs⟩:=r
 obtain ⟨sk,sc,sq,sx,sg,sv,ss⟩:=s
 simp only [Rc.right,Rc.shaped,Rc.dot,aU,Bool.and_eq_true,decide_eq_true_eq] at hr hs
 simp only [Rc.enc,Rc.text,List.append_assoc] at h
 have vr:=hr.1.1.1.1.2
 have vs:=hs.1.1.1.1.2
 have dr:((1<=rc/\rc<=8)/\1<=rq)/\rq<=1073741824:=by
  obtain ⟨⟨⟨a,b⟩,c⟩,d⟩:=hr.1.1.1.1.1.2
  exact ⟨⟨⟨of_decide_eq_true a,of_decide_eq_true b⟩,of_decide_eq_true c⟩,of_decide_eq_true d⟩
 have ds:((1<=sc/\sc<=8)/\1<=sq)/\sq<=1073741824:=by
  obtain ⟨⟨⟨a,b⟩,c⟩,d⟩:=hs.1.1.1.1.1.2
  exact ⟨⟨⟨of_decide_eq_true a,of_decide_eq_true b⟩,of_decide_eq_true c⟩,of_decide_eq_true d⟩
 have lr:=xL vr
 have ls:=xL vs
 have h:=(List.append_inj h rfl).2
 obtain ⟨rfl,h⟩:=jGK (by omega) (by omega) h
 obtain ⟨rfl,h⟩:=qEP (by omega) (by omega) h
 obtain ⟨rfl,h⟩:=qEP (by omega) (by omega) h
 obtain ⟨hl,h⟩:=qEP (by omega) (by omega) h
 obtain ⟨rfl,h⟩:=jDI (by omega) (qP vr) (qP vs) h
 obtain ⟨hg,h⟩:=List.append_inj h rfl
 obtain ⟨rfl,rfl⟩:=jGK (by omega) (by omega) h
 have:rg=sg:=by
  cases rg <;> cases sg <;> simp at hg <;> rfl
 rw [this]
theorem gD : ∀ (a b:zY),(Lib.compareBytes a b = -1/\a<b)\/(Lib.compareBytes a b=0/\a=b)\/(Lib.compareBytes a b=1/\b<a)
 | [],[]=>.inr (.inl ⟨rfl,rfl⟩)
 | [],_ :: _=>.inl ⟨rfl,List.nil_lt_cons _ _⟩
 | _ :: _,[]=>.inr (.inr ⟨rfl,List.nil_lt_cons _ _⟩)
 | a :: xs,b :: bs=>by
   unfold Lib.compareBytes
   by_cases h:a<b
   ·rw [if_pos h]; exact .inl ⟨rfl,List.cons_lt_cons_iff.2 (.inl h)⟩
   ·rw [if_neg h]
    by_cases h2:b<a
    ·rw [if_pos h2]; exact .inr (.inr ⟨rfl,List.cons_lt_cons_iff.2 (.inl h2)⟩)
    ·rw [if_neg h2]
     have e:a=b:=UInt8.toNat_inj.1 (by rw [UInt8.lt_iff_toNat_lt] at h h2; omega)
     subst e
     rcases gD xs bs with ⟨h3,h4⟩ | ⟨h3,h4⟩ | ⟨h3,h4⟩
     ·exact .inl ⟨h3,List.cons_lt_cons_iff.2 (.inr ⟨rfl,h4⟩)⟩
     ·exact .inr (.inl ⟨h3,by rw [h4]⟩)
     ·exact .inr (.inr ⟨h3,List.cons_lt_cons_iff.2 (.inr ⟨rfl,h4⟩)⟩)
theorem qRH {a b:zY} : Lib.compareBytes a b<0↔a<b:=by
 rcases gD a b with ⟨h,h'⟩ | ⟨h,h'⟩ | ⟨h,h'⟩
 ·simp [h,h']
 ·subst h'; simp [h,List.lt_irrefl]
 ·rw [h]
  exact ⟨λe=>by omega,λe=>absurd (List.lt_trans e h') (List.lt_irrefl _)⟩
def bN (r s:Rc):Prop:=r.cl=s.cl/\r.sq=s.sq
theorem qR {r s:Rc} : qJX r s<0↔cY r s\/(bN r s/\r.enc<s.enc):=by
 unfold qJX zK orI mU cY bN
 rw [<-qRH]
 generalize Lib.compareBytes r.enc s.enc=c
 by_cases h1:r.cl<s.cl
 ·simp [h1]
 ·by_cases h2:r.cl > s.cl
  ·simp [h1,h2]; omega
  ·have h3:r.cl=s.cl:=by omega
   simp only [h1,h2,h3,if_false,ne_eq,not_true_eq_false,Int.lt_irrefl,true_and,false_or]
   by_cases h4:r.sq<s.sq
   ·simp [h4]
   ·by_cases h5:r.sq > s.sq
    ·simp [h4,h5]; omega
    ·have h6:r.sq=s.sq:=by omega
     simp [h4,h5,h6]
def ltS (r s:Rc):Prop:=cY r s\/(bN r s/\r.enc<s.enc)
theorem qDE (r:Rc) : ¬ ltS r r:=λh=>h.elim (gX r) λh=>List.lt_irrefl _ h.2
theorem qJZ {r s t:Rc} (h:ltS r s) (h':ltS s t):ltS r t:=by
 unfold ltS cY bN at *
 rcases h with h | ⟨h,e⟩
 ·rcases h' with h' | ⟨h',e'⟩
  ·left; omega
  ·left; omega
 ·rcases h' with h' | ⟨h',e'⟩
  ·left; omega
  ·exact .inr ⟨by omega,List.lt_trans e e'⟩
theorem qDJ {r s t:Rc} (h : ¬ ltS r s) (h' : ¬ ltS s t) : ¬ ltS r t:=by
 unfold ltS cY bN at *
 rintro (h1 | ⟨h1,e⟩)
 ·have a1 : ¬ (r.cl<s.cl\/r.cl=s.cl/\r.sq<s.sq):=λx=>h (.inl x)
  have a2 : ¬ (s.cl<t.cl\/s.cl=t.cl/\s.sq<t.sq):=λx=>h' (.inl x)
  omega
 ·have a1 : ¬ (r.cl<s.cl\/r.cl=s.cl/\r.sq<s.sq):=λx=>h (.inl x)
  have a2 : ¬ (s.cl<t.cl\/s.cl=t.cl/\s.sq<t.sq):=λx=>h' (.inl x)
  have b1:r.cl=s.cl/\r.sq=s.sq:=by omega
  have b2:s.cl=t.cl/\s.sq=t.sq:=by omega
  have c1 : ¬ r.enc<s.enc:=λx=>h (.inr ⟨b1,x⟩)
  have c2 : ¬ s.enc<t.enc:=λx=>h' (.inr ⟨b2,x⟩)
  rcases gD r.enc s.enc with ⟨_,x⟩ | ⟨_,x⟩ | ⟨_,x⟩
  ·exact c1 x
  ·rw [x] at e; exact c2 e
  ·exact c2 (List.lt_trans x e)
def eqR (r s:Rc):Bool:=zK r s==0
theorem qCQ {r s:Rc} : eqR r s=true↔bN r s:=by
 unfold eqR bN
 rw [beq_iff_eq,vQ]
theorem sL : ∀ {l:List Rc} {p:Rc},(p :: l).Pairwise (λa b=>¬ ltS b a)->(∀ r∈l,r.right=true)->∀ x,x∈jM eqR p l↔x∈l/\¬ bN x p/\∀ r'∈l,bN r' x->¬ r'.enc<x.enc
 | [],p,_,_,x=>by simp [jM]
 | b :: l,p,hs,hr,x=>by
   have hs2:=(List.pairwise_cons.1 hs).2
   have hp:=(List.pairwise_cons.1 hs).1
   have hb:=(List.pairwise_cons.1 hs2).1
   have ih:=sL hs2 (λr h=>hr r (List.mem_cons_of_mem _ h)) x
   simp only [jM,List.mem_append,ih]
   constructor
   ·rintro (h | ⟨h1,h2,h3⟩)
    ·by_cases e:eqR b p=true
     ·rw [if_pos e] at h; cases h
     ·rw [if_neg e] at h
      rw [List.mem_singleton] at h
      subst h
      refine ⟨List.mem_cons_self,λh=>e (qCQ.2 h),λr' k3 h9=>?_⟩
      rcases List.mem_cons.1 k3 with rfl | h
      ·exact List.lt_irrefl _
      ·exact λhe=>hb r' h (.inr ⟨h9,he⟩)
    ·refine ⟨List.mem_cons_of_mem _ h1,λh9=>h2 ?_,λr' k3 h9=>?_⟩
     ·have a1 : ¬ cY b p:=λh=>hp b List.mem_cons_self (.inl h)
      have a2 : ¬ cY x b:=λh=>hb x h1 (.inl h)
      unfold cY bN at *; omega
     ·rcases List.mem_cons.1 k3 with rfl | h
      ·exact absurd ⟨h9.1.symm,h9.2.symm⟩ h2
      ·exact h3 r' h h9
   ·rintro ⟨h1,h2,h3⟩
    by_cases e:bN x b
    ·have hx:x=b:=by
      rcases List.mem_cons.1 h1 with h | h
      ·exact h
      ·have c1 : ¬ x.enc<b.enc:=λhe=>hb x h (.inr ⟨e,he⟩)
       have c2 : ¬ b.enc<x.enc:=h3 b List.mem_cons_self ⟨e.1.symm,e.2.symm⟩
       rcases gD x.enc b.enc with ⟨_,y⟩ | ⟨_,y⟩ | ⟨_,y⟩
       ·exact absurd y c1
       ·exact wA (hr x h1) (hr b List.mem_cons_self) y
       ·exact absurd y c2
     subst hx
     left
     rw [if_neg λh=>h2 (qCQ.1 h)]
     exact List.mem_singleton.2 rfl
    ·right
     rcases List.mem_cons.1 h1 with h | h
     ·subst h; exact absurd ⟨rfl,rfl⟩ e
     ·exact ⟨h,e,λr' k3=>h3 r' (List.mem_cons_of_mem _ k3)⟩
theorem qBX {l:List Rc} {p:Rc} (hs:(p :: l).Pairwise (λa b=>¬ ltS b a)) (hr : ∀ r∈l,r.right=true) : ∀ x∈jM eqR p l,cY p x:=by
 intro x hx
 obtain ⟨h1,h2,_⟩:=(sL hs hr x).1 hx
 have a1 : ¬ cY x p:=λh=>(List.pairwise_cons.1 hs).1 x h1 (.inl h)
 unfold cY bN at *; omega
theorem qCB : ∀ {l:List Rc} {p:Rc},(p :: l).Pairwise (λa b=>¬ ltS b a)->(∀ r∈l,r.right=true)->(jM eqR p l).Pairwise cY
 | [],p,_,_=>by simp [jM]
 | b :: l,p,hs,hr=>by
   have hs2:=(List.pairwise_cons.1 hs).2
   have hr2 : ∀ r∈l,r.right=true:=λr h=>hr r (List.mem_cons_of_mem _ h)
   have ih:=qCB hs2 hr2
   simp only [jM]
   split
   ·simpa using ih
   ·simp only [List.singleton_append]
    exact List.pairwise_cons.2 ⟨qBX hs2 hr2,ih⟩
theorem tE {l:List Rc} (hs:l.Pairwise (λa b=>¬ ltS b a)) (hr : ∀ r∈l,r.right=true):iD l (cpt eqR l):=by
 match l,hs,hr with
 | [],_,_=>exact ⟨by simp [cpt],λr=>by simp [cpt]⟩
 | a :: l,hs,hr=>
   have hr2 : ∀ r∈l,r.right=true:=λr h=>hr r (List.mem_cons_of_mem _ h)
   refine ⟨List.pairwise_cons.2 ⟨qBX hs hr2,qCB hs hr2⟩,λx=>?_⟩
   have hb:=(List.pairwise_cons.1 hs).1
   simp only [cpt,List.mem_cons,sL hs hr2 x]
   constructor
   ·rintro (h | ⟨h1,h2,h3⟩)
    ·subst h
     refine ⟨.inl rfl,λr' h9 e1 e2 he=>?_⟩
     rcases h9 with rfl | h
     ·exact List.lt_irrefl _ he
     ·exact hb r' h (.inr ⟨⟨e1,e2⟩,he⟩)
    ·refine ⟨.inr h1,λr' h9 e1 e2=>?_⟩
     rcases h9 with rfl | h
     ·exact absurd ⟨e1.symm,e2.symm⟩ h2
     ·exact h3 r' h ⟨e1,e2⟩
   ·rintro ⟨h1,h3⟩
    by_cases e:bN x a
    ·left
     rcases h1 with h | h
     ·exact h
     ·have c1 : ¬ x.enc<a.enc:=λhe=>hb x h (.inr ⟨e,he⟩)
      have c2 : ¬ a.enc<x.enc:=h3 a (.inl rfl) e.1.symm e.2.symm
      rcases gD x.enc a.enc with ⟨_,y⟩ | ⟨_,y⟩ | ⟨_,y⟩
      ·exact absurd y c1
      ·exact wA (hr2 x h |> λz=>z) (hr a List.mem_cons_self) y
      ·exact absurd y c2
    ·right
     rcases h1 with h | h
     ·subst h; exact absurd ⟨rfl,rfl⟩ e
     ·exact ⟨h,e,λr' h9 k3=>h3 r' (.inr h9) k3.1 k3.2⟩
theorem yV {l l' out:List Rc} (h:iD l out) (hs : ∀ r,r∈l↔r∈l'):iD l' out:=⟨h.pw,λr=>by rw [h.mem]; simp only [hs]⟩
theorem qGB {l l':List Rc} (hp:l'.Perm l) (hs:l'.Pairwise (λa b=>¬ ltS b a)) (hr : ∀ r∈l,r.right=true):dR l (nH (cpt eqR l')):=
 ⟨_,yV (tE hs λr h=>hr r (hp.mem_iff.1 h)) λr=>hp.mem_iff,rfl⟩
theorem xK {α β:Type} (f:α->β) (e:β->β->Bool) : ∀ (l:List α) (p:α),(jM (λa b=>e (f a) (f b)) p l).map f=jM e (f p) (l.map f)
 | [],p=>rfl
 | b :: l,p=>by
   simp only [jM,List.map_append,List.map_cons,xK f e l b]
   split <;> rfl
theorem qCK {α β:Type} (f:α->β) (e:β->β->Bool) (l:List α):(cpt (λa b=>e (f a) (f b)) l).map f=cpt e (l.map f):=by
 match l with
 | []=>rfl
 | a :: l=>simp [cpt,xK f e l a]
end Go.Proofs.YthaefcgpbccmbaaGreatDoor
end
