/- The forms of the translated functions,their contracts and the plain laws behind them,put together by a program. -/
import Derived.Test.YtahjmeegfkfokaaGreatDoorPT19
import Derived.KernelRfl
import Derived.Test.YtahjmeegfkfokaaGreatDoorProg
set_option linter.unusedSimpArgs false
set_option linter.unusedVariables false
set_option maxRecDepth 100000
set_option maxHeartbeats 4000000
section
namespace Go.Proofs.YtahjmeegfkfokaaGreatDoor
open Go Go.Sh
open Go.Proofs.Tryz
theorem qHI {L L':Lv} {key:List UInt8} {rs:List Rc} (hs:dU L) (h:uP L key rs L'):lM L' key=rs∧∀ k,k≠key→lM L' k=lM L k:=by
 refine ⟨?_,fun k hk=>?_⟩
 ·rcases Classical.em (rs=[]) with e | e
  ·rw [kW fun x hx=>?_,e]
   rcases (h.mem x).1 hx with ⟨h1,_⟩ | ⟨h1,_⟩
   ·exact absurd e h1
   ·exact h1
  ·exact iP h.pw ((h.mem _).2 (.inl ⟨e,rfl⟩))
 rcases Classical.em (∃ s,(k,s)∈L) with ⟨s,hm⟩ | hn
 ·rw [iP hs hm,iP h.pw ((h.mem _).2 (.inr ⟨hk,hm⟩))]
 ·have h1 : ∀ e∈L,e.1≠k:=fun e he e'=>hn ⟨e.2,by rw [← e']; exact he⟩
  rw [kW h1,kW fun e he e'=>?_]
  rcases (h.mem e).1 he with ⟨_,rfl⟩ | ⟨_,he⟩
  ·exact hk e'.symm
  ·exact h1 e he e'
def Holds (Ls:Nat→Lv) (X:List Rc):Prop:=∀ key,bX (bD X key) (eH Ls key)
theorem holds_none:Holds (fun _=>[]) []:=fun key=>⟨[],⟨List.Pairwise.nil,fun r=>by simp [bD]⟩,rfl⟩
theorem nI {Ls:Nat→Lv} {X:List Rc} (ht:eY (dB X)) (hH:Holds Ls X) (key:List UInt8):fA (bD X key) (eH Ls key):=
 (jT (nA ht key) iF fO).1 (hH key)
theorem kJ {X:List Rc} {r:Rc} (hr:r.right=true):dB (X++[r])=dB X++[r]:=by simp [dB,hr]
theorem eO {X:List Rc} {r x:Rc} {key:List UInt8} (hr:r.right=true):x∈bD (X++[r]) key↔x∈bD X key∨(x=r∧r.key=key):=by
 simp only [dR,kJ hr,List.mem_append,List.mem_singleton]
 constructor
 ·rintro ⟨h | rfl,h2⟩
  ·exact .inl ⟨h,h2⟩
  ·exact .inr ⟨rfl,h2⟩
 ·rintro (⟨h,h2⟩ | ⟨rfl,h2⟩)
  ·exact ⟨.inl h,h2⟩
  ·exact ⟨.inr rfl,h2⟩
section
variable {Ls Ls':Nat→Lv} {X:List Rc} {r:Rc}
theorem qJM (hr:r.right=true) (ht:eY (dB (X++[r]))) (hH:Holds Ls X) : ∀ x∈eH Ls r.key++[r],x∈bD (X++[r]) r.key:=fun x hx=>by
 have ht0:eY (dB X):=ht.sub fun y hy=>by rw [kJ hr]; exact List.mem_append_left _ hy
 rw [eO hr]
 rcases List.mem_append.1 hx with h | h
 ·exact .inl (((nI ht0 hH r.key).mem x).1 h).1
 ·exact .inr ⟨by simpa using h,rfl⟩
theorem wG (hr:r.right=true) (ht:eY (dB (X++[r]))) (hH:Holds Ls X) {rs:List Rc} (hJ:bX (eH Ls r.key++[r]) rs):fA (bD (X++[r]) r.key) rs:=by
 have ht0:eY (dB X):=ht.sub fun y hy=>by rw [kJ hr]; exact List.mem_append_left _ hy
 have hF:=nI ht0 hH r.key
 have hin:=qJM hr ht hH
 have htk:=nA ht r.key
 have hM:=(jT (htk.sub hin) (fun a ha b hb=>iF a (hin a ha) b (hin b hb)) fun a ha=>fO a (hin a ha)).1 hJ
 refine ⟨hM.pw,fun x=>?_⟩
 rw [hM.mem]
 constructor
 ·rintro ⟨h1,h2⟩
  refine ⟨hin x h1,fun y hy=>?_⟩
  cases e:y.over x with
  | false=>rfl
  | true=>
    rcases (eO hr).1 hy with h3 | ⟨rfl,_⟩
    ·obtain ⟨z,z1,z2,z3⟩:=(nA ht0 r.key).max' h3
     have hz:z∈eH Ls r.key:=(hF.mem z).2 ⟨z1,z3⟩
     have hzx:z.over x=true:=by
      rcases z2 with rfl | z2
      ·exact e
      ·exact htk.trans z ((eO hr).2 (.inl z1)) y hy x (hin x h1) z2 e
     have:=h2 z (List.mem_append_left _ hz)
     rw [hzx] at this; cases this
    ·have:=h2 y (List.mem_append_right _ (List.mem_singleton.2 rfl))
     rw [e] at this; cases this
 ·rintro ⟨h1,h2⟩
  refine ⟨?_,fun y hy=>h2 y (hin y hy)⟩
  rcases (eO hr).1 h1 with h3 | ⟨rfl,_⟩
  ·exact List.mem_append_left _ ((hF.mem x).2 ⟨h3,fun y hy=>h2 y ((eO hr).2 (.inl hy))⟩)
  ·exact List.mem_append_right _ (List.mem_singleton.2 rfl)
theorem qIO {B Y rs:List Rc} {k:List UInt8} (hB:B.length≤16) (hY : ∀ x∈Y,x∈B) (hM:fA (bD Y k) rs):rs.length≤16:=
 Nat.le_trans (qN gH hM.pw fun x hx=>hY x (List.mem_filter.1 ((hM.mem x).1 hx).1).1) hB
theorem gL {n:Nat} {e:Int} (hO:bW Ls n) (hn:n≤255) (hX : ∀ rs,fA (bD (X++[r]) r.key) rs→rs.length≤16) (hr:r.right=true) (ht:eY (dB (X++[r]))) (hH:Holds Ls X) (hT:nO Ls r e Ls'):e=0∧Holds Ls' (X++[r]):=by
 rcases hT with ⟨h,_,_⟩ | ⟨_,rs,hJ,hc⟩
 ·rw [hr] at h; cases h
 have hM:=wG hr ht hH hJ
 have hlen:=hX rs hM
 rcases hc with ⟨hf,_,_⟩ | ⟨_,he,hP,_,hel⟩
 ·rcases hf with h | h
  ·omega
  ·have:=hO.n (tOf r.key); omega
 ·refine ⟨he,fun key=>?_⟩
  have hg:=qHI (hO.so _) hP
  rcases Classical.em (key=r.key) with e | e
  ·subst e
   have:eH Ls' r.key=rs:=hg.1
   rw [this]
   exact (jT (nA ht r.key) iF fO).2 hM
  ·have e1:eH Ls' key=eH Ls key:=by
    unfold eH
    rcases Classical.em (tOf key=tOf r.key) with h | h
    ·rw [h]; exact hg.2 key e
    ·rw [hel _ h]
   have e2:bD (X++[r]) key=bD X key:=by
    have : ¬ r.key=key:=fun h=>e h.symm
    simp [bD,List.filter_append,this]
   rw [e1,e2]; exact hH key
end
theorem mT {Ls Ls':Nat→Lv} (h:oL Ls [] Ls'):Ls'=Ls:=by
 generalize hl:([]:List Rc)=l at h
 cases h with
 | nil=>rfl
 | snoc _ _=>simp at hl
theorem sM {Ls Ls':Nat→Lv} {X:List Rc} {r:Rc} (h:oL Ls (X++[r]) Ls') : ∃ L1,oL Ls X L1∧nO L1 r 0 Ls':=by
 generalize hl:X++[r]=l at h
 cases h with
 | nil=>simp at hl
 | snoc h1 h2=>
   obtain ⟨rfl,h3⟩:=List.append_inj' hl rfl
   obtain rfl:r=_:=by simpa using h3
   exact ⟨_,h1,h2⟩
theorem wE {Ls Ls':Nat→Lv} {r:Rc} (h:oL Ls [r] Ls'):nO Ls r 0 Ls':=by
 obtain ⟨L1,h1,h2⟩:=sM (X:=[]) h
 rw [mT h1] at h2; exact h2
theorem tX {Ls:Nat→Lv} {n:Nat} {l:List Rc} {L:Lv} (hO:bW Ls n) (hH:Holds Ls (dB l)) (hs:dU L) (hm : ∀ e,e∈L↔∃ i,i<4∧e∈Ls i):vQ l L:=by
 have e0 : ∀ k,bD (dB l) k=bD l k:=fun k=>by
  simp only [bD,dB,List.filter_filter]
  apply List.filter_congr
  intro x _
  cases x.right <;> simp
 refine ⟨hs,fun k s=>?_⟩
 have hJ:=hH k
 rw [e0] at hJ
 rw [hm]
 constructor
 ·rintro ⟨i,hi,he⟩
  have h1:tOf k=i:=hO.sh i (k,s) he
  have h2:eH Ls k=s:=by
   unfold eH
   rw [h1]; exact iP (hO.so i) he
  have h3:0<s.length:=(hO.ok i (k,s) he).2.2.1
  rw [h2] at hJ
  exact ⟨List.length_pos_iff.1 h3,hJ⟩
 ·rintro ⟨h1,h2⟩
  have h3:eH Ls k=s:=hJ.uniq h2 fun _=>Iff.rfl
  refine ⟨tOf k,uD k,?_⟩
  have e:lM (Ls (tOf k)) k=s:=h3
  have:=wD (L:=Ls (tOf k)) (key:=k) (by rw [e]; exact h1)
  rw [e] at this; exact this
end Go.Proofs.YtahjmeegfkfokaaGreatDoor
end
section
namespace Go.Sh
def exA (s:List UInt8):Rc:=⟨[107],1,1,[],false,[],s⟩
theorem jDD {s:List UInt8} (h:s.length=64):(exA s).right=true:=by simp only [Rc.right,exA,h]; rfl
end Go.Sh
end
section
namespace Go.Proofs.YtahjmeegfkfokaaGreatDoor
open Go Go.Sh
open Go.Proofs.Tryz
theorem dK {X:List Rc} (h : ∀ r∈X,r.right=true):dB X=X:=List.filter_eq_self.2 h
section
variable {Ls:Nat→Lv} {X rs:List Rc} {n:Nat}
theorem qV (hO:bW Ls n) (hn:n+rs.length≤255) (hH:Holds Ls X) (hr : ∀ r∈rs,r.right=true) (ht:eY (dB (X++rs))) (h16 : ∀ Y k out,(∀ y∈Y,y∈X++rs)→fA (bD Y k) out→out.length≤16) :
 ∀ k,k≤rs.length→∀ L1,oL Ls (rs.take k) L1→Holds L1 (X++rs.take k)∧bW L1 (n+k)
 | 0,_,L1,hP=>by
   have hP:oL Ls [] L1:=hP
   rw [mT hP]
   exact ⟨by simpa using hH,hO⟩
 | k+1,hk,L1,hP=>by
   have e1:rs.take (k+1)=rs.take k++[rs[k]]:=aY hk
   rw [e1] at hP
   obtain ⟨L0,h0,hT⟩:=sM hP
   obtain ⟨hH0,hO0⟩:=qV hO hn hH hr ht h16 k (by omega) L0 h0
   have hsub : ∀ y∈X++rs.take k++[rs[k]],y∈X++rs:=fun y hy=>by
    rw [List.append_assoc,← e1] at hy
    rcases List.mem_append.1 hy with h | h
    ·exact List.mem_append_left _ h
    ·exact List.mem_append_right _ (List.mem_of_mem_take h)
   have hrk:=hr rs[k] (List.getElem_mem _)
   have htk:eY (dB (X++rs.take k++[rs[k]])):=ht.sub fun y hy=>List.mem_filter.2 ⟨hsub y (List.mem_filter.1 hy).1,(List.mem_filter.1 hy).2⟩
   have h1:=gL hO0 (by omega) (fun out hM=>h16 _ _ _ hsub hM) hrk htk hH0 hT
   rw [e1,← List.append_assoc]
   exact ⟨h1.2,uY hO0 hT⟩
theorem qYB (hO:bW Ls n) (hn:n+rs.length≤255) (hH:Holds Ls X) (hr : ∀ r∈rs,r.right=true) (ht:eY (dB (X++rs))) (h16 : ∀ Y k out,(∀ y∈Y,y∈X++rs)→fA (bD Y k) out→out.length≤16) {k:Nat} (h:k<rs.length) {L1 L2:Nat→Lv} {e:Int} (hP:oL Ls (rs.take k) L1) (hT:nO L1 rs[k] e L2):e=0:=by
 obtain ⟨hH0,hO0⟩:=qV hO hn hH hr ht h16 k (by omega) L1 hP
 have hsub : ∀ y∈X++rs.take k++[rs[k]],y∈X++rs:=fun y hy=>by
  rw [List.append_assoc,← aY h] at hy
  rcases List.mem_append.1 hy with h | h
  ·exact List.mem_append_left _ h
  ·exact List.mem_append_right _ (List.mem_of_mem_take h)
 exact (gL hO0 (by omega) (fun out hM=>h16 _ _ _ hsub hM) (hr _ (List.getElem_mem _)) (ht.sub fun y hy=>List.mem_filter.2 ⟨hsub y (List.mem_filter.1 hy).1,(List.mem_filter.1 hy).2⟩) hH0 hT).1
end
section
variable {X:List Rc} {r:Rc} {k:List UInt8}
theorem xC (h0 : ∀ x∈X,∀ y,x.over y=false) (hd : ∀ a∈X++[r],∀ b∈X++[r],a.cl=b.cl→a.sq=b.sq→a=b) (hs:r.over r=false):eY (X++[r]):=by
 have hr : ∀ a∈X++[r],∀ y,a.over y=true→a=r:=fun a ha y e=>by
  rcases List.mem_append.1 ha with h | h
  ·rw [h0 a h y] at e; cases e
  ·simpa using h
 refine ⟨fun a ha b hb _=>hd a ha b hb,fun a ha b hb e=>?_,fun a ha b hb c hc e e'=>?_⟩
 ·cases e':b.over a with
  | false=>rfl
  | true=>
    have h1:=hr a ha b e
    have h2:=hr b hb a e'
    subst h1; subst h2
    rw [hs] at e; cases e
 ·have h1:=hr a ha b e
  have h2:=hr b hb c e'
  subst h1; subst h2
  exact e'
theorem qAA (hk : ∀ x∈X++[r],x.right=true∧x.key=k) (ho : ∀ x∈X,r.over x=true) (h0 : ∀ x∈X,∀ y,x.over y=false) (hs:r.over r=false):fA (bD (X++[r]) k) [r]:=by
 have hm : ∀ x,x∈bD (X++[r]) k↔x∈X++[r]:=fun x=>by
  rw [dR,dK fun x hx=>(hk x hx).1]
  exact ⟨fun h=>h.1,fun h=>⟨h,(hk x h).2⟩⟩
 refine ⟨List.pairwise_singleton _ _,fun x=>?_⟩
 simp only [hm]
 constructor
 ·intro h
  have h:x=r:=by simpa using h
  subst h
  refine ⟨by simp,fun y hy=>?_⟩
  rcases List.mem_append.1 hy with h | h
  ·exact h0 y h x
  ·have:y=x:=by simpa using h
   subst this; exact hs
 ·rintro ⟨h1,h2⟩
  rcases List.mem_append.1 h1 with h | h
  ·have:=h2 r (by simp)
   rw [ho x h] at this; cases this
  ·exact h
end
def sw (s:Nat→List UInt8) (i:Nat):Rc:=⟨[107],1+((i % 8:Nat):Int),1+((i / 8:Nat):Int),[],false,[],s i⟩
def sX (s:Nat→List UInt8) (k:Nat):List Rc:=(List.range k).map (sw s)
def lw (t:List UInt8):Rc:=⟨[107],8,3,[(1,2),(2,2),(3,2),(4,2),(5,2),(6,2),(7,2),(8,2)],false,[],t⟩
section
variable {s:Nat→List UInt8} {k:Nat}
theorem uC:sX s (k+1)=sX s k++[sw s k]:=by simp [sX,List.range_succ]
theorem fD {x:Rc} : x∈sX s k↔∃ i,i<k∧x=sw s i:=by
 simp only [sX,List.mem_map,List.mem_range]
 exact ⟨fun ⟨i,h,e⟩=>⟨i,h,e.symm⟩,fun ⟨i,h,e⟩=>⟨i,h,e.symm⟩⟩
theorem rY {i:Nat} (hi:i<17):(sw s i).shaped=true:=by
 have h1:i % 8<8:=Nat.mod_lt _ (by decide)
 have h2:i / 8<3:=by omega
 simp [Rc.shaped,sw,bA,Rc.dot,bG,gW]
 refine ⟨⟨⟨decide_eq_true (by omega),decide_eq_true (by omega)⟩,decide_eq_true (by omega)⟩,decide_eq_true (by omega)⟩
theorem vY {i:Nat} (hi:i<17) (hs:(s i).length=64):(sw s i).right=true:=by
 have e:(sw s i).sig=s i:=rfl
 simp only [Rc.right,rY hi,e,hs]; rfl
theorem pL {i:Nat} {y:Rc} : (sw s i).over y=false:=by
 have:gW (sw s i).ctx y.dot=false:=by simp [sw,gW]
 simp [Rc.over,this]
theorem uI:eY (sX s k):=by
 refine ⟨fun a ha b hb _ h1 h2=>?_,fun a ha b hb e=>?_,fun a ha b hb c hc e=>?_⟩
 ·obtain ⟨i,_,rfl⟩:=fD.1 ha
  obtain ⟨j,_,rfl⟩:=fD.1 hb
  have h1:1+((i % 8:Nat):Int)=1+((j % 8:Nat):Int):=h1
  have h2:1+((i / 8:Nat):Int)=1+((j / 8:Nat):Int):=h2
  have:i=j:=by omega
  subst this; rfl
 ·obtain ⟨i,_,rfl⟩:=fD.1 ha
  rw [pL] at e; cases e
 ·obtain ⟨i,_,rfl⟩:=fD.1 ha
  rw [pL] at e; cases e
theorem nB (hk:k≤17) (hs : ∀ i,i<k→(s i).length=64) : ∀ r∈sX s k,r.right=true:=fun r hr=>by
 obtain ⟨i,hi,rfl⟩:=fD.1 hr
 exact vY (by omega) (hs i hi)
theorem lW (hk:k≤17) (hs : ∀ i,i<k→(s i).length=64) {x:Rc} : x∈bD (sX s k) [107]↔x∈sX s k:=by
 rw [dR,dK (nB hk hs)]
 refine ⟨fun h=>h.1,fun h=>⟨h,?_⟩⟩
 obtain ⟨i,hi,rfl⟩:=fD.1 h
 rfl
theorem qHN (hk:k≤17) (hs : ∀ i,i<k→(s i).length=64) {rs:List Rc} (hM:fA (bD (sX s k) [107]) rs):rs.length=k:=by
 have hl:(sX s k).length=k:=by simp [sX]
 have h1:rs.length≤(sX s k).length:=qN gH hM.pw fun x hx=>(lW hk hs).1 ((hM.mem x).1 hx).1
 have h2:(sX s k).length≤rs.length:=by
  refine qN (lt:=fun a b=>a.sq<b.sq∨(a.sq=b.sq∧a.cl<b.cl)) (fun x=>by omega) ?_ fun x hx=>(hM.mem x).2 ⟨(lW hk hs).2 hx,fun y hy=>?_⟩
  ·refine List.pairwise_map.2 (List.pairwise_lt_range.imp fun {a b} h=>?_)
   show 1+((a / 8:Nat):Int)<1+((b / 8:Nat):Int)∨(1+((a / 8:Nat):Int)=1+((b / 8:Nat):Int)∧1+((a % 8:Nat):Int)<1+((b % 8:Nat):Int))
   omega
  ·obtain ⟨i,_,rfl⟩:=fD.1 ((lW hk hs).1 hy)
   exact pL
 omega
theorem qGX {Ls:Nat→Lv} (hk:k≤17) (hs : ∀ i,i<k→(s i).length=64) (hH:Holds Ls (sX s k)):(eH Ls [107]).length=k:=
 qHN hk hs (nI (by rw [dK (nB hk hs)]; exact uI) hH [107])
theorem sH {Ls Ls':Nat→Lv} {n:Nat} {e:Int} (hO:bW Ls n) (hn:n≤255) (hk:k≤16) (hs : ∀ i,i<k+1→(s i).length=64) (hH:Holds Ls (sX s k)) (hT:nO Ls (sw s k) e Ls'):(k<16→e=0∧Holds Ls' (sX s (k+1)))∧(k=16→e=8):=by
 have hr:(sw s k).right=true:=vY (by omega) (hs k (by omega))
 have ht:eY (dB (sX s k++[sw s k])):=by rw [← uC,dK (nB (by omega) hs)]; exact uI
 have hlen : ∀ rs,fA (bD (sX s k++[sw s k]) [107]) rs→rs.length=k+1:=fun rs hM=>qHN (by omega) hs (by rw [uC]; exact hM)
 constructor
 ·intro h
  rw [uC]
  exact gL hO hn (fun rs hM=>by have:=hlen rs hM; omega) hr ht hH hT
 ·intro h
  rcases hT with ⟨h1,_⟩ | ⟨_,rs,hJ,⟨_,h1,_⟩ | ⟨h1,_⟩⟩
  ·rw [hr] at h1; cases h1
  ·exact h1
  ·have:=hlen rs (wG hr ht hH hJ)
   exact absurd (Or.inl (by omega)) h1
theorem pX {t:List UInt8} (h:t.length=64):(lw t).right=true:=by simp only [Rc.right,lw,h]; rfl
theorem qNA {t:List UInt8} {i:Nat} (hi:i<16):(lw t).over (sw s i)=true:=by
 have h:i=0∨i=1∨i=2∨i=3∨i=4∨i=5∨i=6∨i=7∨i=8∨i=9∨i=10∨i=11∨i=12∨i=13∨i=14∨i=15:=by omega
 rcases h with rfl | rfl | rfl | rfl | rfl | rfl | rfl | rfl | rfl | rfl | rfl | rfl | rfl | rfl | rfl | rfl <;> rfl
theorem qDQ {t:List UInt8} (hs : ∀ i,i<16→(s i).length=64) (ht:t.length=64):(∀ x∈sX s 16++[lw t],x.right=true∧x.key=[107])∧eY (sX s 16++[lw t])∧fA (bD (sX s 16++[lw t]) [107]) [lw t]:=by
 have h1 : ∀ x∈sX s 16++[lw t],x.right=true∧x.key=[107]:=fun x hx=>by
  rcases List.mem_append.1 hx with h | h
  ·exact ⟨nB (by omega) hs x h,by obtain ⟨i,_,rfl⟩:=fD.1 h; rfl⟩
  ·have:x=lw t:=by simpa using h
   subst this; exact ⟨pX ht,rfl⟩
 have h2 : ∀ x∈sX s 16,∀ y,x.over y=false:=fun x hx y=>by
  obtain ⟨i,_,rfl⟩:=fD.1 hx; exact pL
 refine ⟨h1,xC h2 (fun a ha b hb e1 e2=>?_) rfl,qAA h1 (fun x hx=>?_) h2 rfl⟩
 ·rcases List.mem_append.1 ha with h | h <;> rcases List.mem_append.1 hb with h' | h'
  ·exact uI.same a h b h' (by obtain ⟨i,_,rfl⟩:=fD.1 h; obtain ⟨j,_,rfl⟩:=fD.1 h'; rfl) e1 e2
  ·obtain ⟨i,hi,rfl⟩:=fD.1 h
   have:b=lw t:=by simpa using h'
   subst this
   have e2:1+((i / 8:Nat):Int)=3:=e2
   omega
  ·obtain ⟨i,hi,rfl⟩:=fD.1 h'
   have:a=lw t:=by simpa using h
   subst this
   have e2:3=1+((i / 8:Nat):Int):=e2
   omega
  ·rw [List.mem_singleton.1 h,List.mem_singleton.1 h']
 ·obtain ⟨i,hi,rfl⟩:=fD.1 hx
  exact qNA hi
end
theorem qBG {Ls:Nat→Lv} {Y:List Rc} {k:List UInt8} {out:List Rc} (hr : ∀ r∈Y,r.right=true) (ht:eY Y) (hH:Holds Ls Y) (hM:fA (bD Y k) out):eH Ls k=out:=
 (nI (by rw [dK hr]; exact ht) hH k).uniq hM fun r=>Iff.rfl
def exD (s:List UInt8):Rc:=⟨[107],2,1,[(1,1)],false,[],s⟩
theorem qZU {s:List UInt8} (h:s.length=64):(exD s).right=true:=by simp only [Rc.right,exD,h]; rfl
theorem yZ {sa sb:List UInt8} (ha:sa.length=64) (hb:sb.length=64):(∀ x∈[exA sa]++[exD sb],x.right=true∧x.key=[107])∧eY ([exA sa]++[exD sb])∧fA (bD ([exA sa]++[exD sb]) [107]) [exD sb]:=by
 have h1 : ∀ x∈[exA sa]++[exD sb],x.right=true∧x.key=[107]:=fun x hx=>by
  have hx:x=exA sa∨x=exD sb:=by simpa using hx
  rcases hx with rfl | rfl
  ·exact ⟨jDD ha,rfl⟩
  ·exact ⟨qZU hb,rfl⟩
 have h2 : ∀ x∈[exA sa],∀ y,x.over y=false:=fun x hx y=>by
  have:x=exA sa:=by simpa using hx
  subst this; simp [Rc.over,exA,gW]
 refine ⟨h1,xC h2 (fun a ha b hb e1 e2=>?_) rfl,qAA h1 (fun x hx=>?_) h2 rfl⟩
 ·have ha:a=exA sa∨a=exD sb:=by simpa using ha
  have hb:b=exA sa∨b=exD sb:=by simpa using hb
  rcases ha with rfl | rfl <;> rcases hb with rfl | rfl <;> first | rfl | exact absurd e1 (by simp [exA,exD])
 ·have:x=exA sa:=by simpa using hx
  subst this; rfl
theorem qNQ {sa sb:List UInt8} (ha:sa.length=64) (hb:sb.length=64) {Ls:Nat→Lv} {n:Nat} {L:Lv} (hO:bW Ls n) (hH:Holds Ls ([exA sa]++[exD sb])) (hs:dU L) (hm : ∀ e,e∈L↔∃ i,i<4∧e∈Ls i):L.length=1:=by
 obtain ⟨g1,g2,g3⟩:=yZ ha hb
 have hr : ∀ r∈[exA sa]++[exD sb],r.right=true:=fun r hr=>(g1 r hr).1
 have hL:vQ ([exA sa]++[exD sb]) L:=tX hO (by rw [dK hr]; exact hH) hs hm
 have hj:bX (bD ([exA sa]++[exD sb]) [107]) [exD sb]:=(jT (nA (by rw [dK hr]; exact g2) _) iF fO).2 g3
 have h1:([107],[exD sb])∈L:=(hL.mem _ _).2 ⟨by simp,hj⟩
 have h2 : ∀ e∈L,e=([107],[exD sb]):=fun e he=>by
  obtain ⟨k,s⟩:=e
  obtain ⟨q1,q2⟩:=(hL.mem k s).1 he
  rcases Classical.em (k=[107]) with rfl | hk
  ·rw [q2.uniq hj fun r=>Iff.rfl]
  ·exfalso
   have e0:bD ([exA sa]++[exD sb]) k=[]:=List.eq_nil_iff_forall_not_mem.2 fun r hr'=>hk (by
    obtain ⟨a,b⟩:=dR.1 hr'
    rw [← b,(g1 r (by rw [dK hr] at a; exact a)).2])
   rw [e0] at q2
   exact q1 (List.eq_nil_iff_forall_not_mem.2 fun r hr'=>by have:=jR q2 r hr'; cases this)
 match L,h1,h2,hs with
 | [a],_,_,_=>rfl
 | a :: b :: L,_,h2,hs=>
   have e1:=h2 a (by simp)
   have e2:=h2 b (by simp)
   have:=(List.pairwise_cons.1 hs).1 b (by simp)
   rw [e1,e2] at this
   exact absurd this (List.lt_irrefl _)
end Go.Proofs.YtahjmeegfkfokaaGreatDoor
end
section
namespace Go.Proofs.YtahjmeegfkfokaaGreatDoor
open Go Go.Sh Go.MapKept
open Go.Proofs.Tryz
section
variable {w:World}
theorem qOX {p:Nat} {ts:Nat→Tr} {Ls:Nat→Lv} {Bs:Nat→Nat→Prop} {lo n:Nat} {s:Slc} {X rs:List Rc} (hg:dP w) (hlo : ∀ z,isG z→z<lo) (hS:ShAt w p ts Ls Bs lo) (hO:bW Ls n) (hn:n+rs.length≤255) (hR:bV w.heap.size w s rs)
 (hH:Holds Ls X) (hr : ∀ r∈rs,r.right=true) (ht:eY (dB (X++rs))) (h16 : ∀ Y k out,(∀ y∈Y,y∈X++rs)→fA (bD Y k) out→out.length≤16) :
 Calls prog 9 #[.pointer (some ⟨p,0,none⟩),.slice s.a s.len s.cap] w (Ret fun v w'=>v = .int .i64 0∧∃ ts' Ls' Bs',Holds Ls' (X++rs)∧ShAt w' p ts' Ls' Bs' lo∧bW Ls' (n+rs.length)∧(∀ i,i<4→∀ z,((ts' i).W z∨Bs' i z)→w.heap.size≤z)∧Mod (fun z=>z=p) w w'):=by
 refine Calls.mono (yH hg hlo hS hO (by omega) hR) fun e w' h=>?_
 cases e with
 | returned v=>
   obtain ⟨e,rfl,⟨rfl,ts',Ls',Bs',hP,hS',hz,hO',hm⟩ | ⟨he,k,hk,L1,L2,hP,hT,hm⟩⟩:=h
   ·refine ⟨rfl,ts',Ls',Bs',?_,hS',hO',hz,hm⟩
    have:=(qV hO hn hH hr ht h16 rs.length (Nat.le_refl _) Ls' (by rw [List.take_length]; exact hP)).1
    rwa [List.take_length] at this
   ·exact absurd (qYB hO hn hH hr ht h16 hk hP hT) he
 | _=>exact h.elim
theorem xY {p:Nat} {ts:Nat→Tr} {Ls:Nat→Lv} {Bs:Nat→Nat→Prop} {lo n:Nat} {key:List UInt8} (hg:dP w) (hS:ShAt w p ts Ls Bs lo) (hO:bW Ls n) (hn:n≤100000) (hk:key.length≤100000000) :
 Calls prog 11 #[.pointer (some ⟨p,0,none⟩),.string ⟨key.toArray⟩] w (Ret fun v w'=>∃ x:Slc,v=x.val∧iA w.heap.size w' x (eH Ls key)∧Mod NoB w w'):=by
 refine qUJ _ _ ?_
 unfold qZW
 refine aC (nK hS.blk) ?_
 rintro v w1 ⟨rfl,rfl⟩
 refine ⟨_,rfl,aE (fun h=>by cases h) fun _=>?_⟩
 refine aC (qPP (c:=p) (l:=[.bool true]) hg hS.blk hk) ?_
 rintro v w2 ⟨rfl,hm2⟩
 refine ⟨_,rfl,?_⟩
 have h4:=uD key
 refine aC (qFS (key:=key) ((hS.four.no hm2).tr _ h4) (hO.so _) (hO.ok _) (by have:=hO.n (tOf key); omega)) ?_
 rintro v w3 ⟨x,rfl,hN,hm3⟩
 exact ⟨x,rfl,x,rfl,hN.le hm2.size,hm2.tr hm3⟩
theorem qOY {p:Nat} {ts:Nat→Tr} {Ls:Nat→Lv} {Bs:Nat→Nat→Prop} {lo n:Nat} {k:Int} (hS:ShAt w p ts Ls Bs lo) (hO:bW Ls n) (hn:n≤100000) :
 Calls prog 21 #[.pointer (some ⟨p,0,none⟩),.int .i64 k] w (Ret fun v w'=>∃ x:Option Addr,v = .pointer x∧x.isSome=decide (0≤k∧k≤3)∧Mod NoB w w'):=by
 refine qUS _ _ ?_
 unfold qZC
 refine ⟨fun l' w'=>match l' with | [.b t]=>t = !decide (0≤k∧k≤3)∧w'=w | _=>False,?_,?_⟩
 ·refine aC (nK hS.blk) ?_
  rintro v w1 ⟨rfl,rfl⟩
  refine ⟨_,rfl,aE (fun h=>by cases h) fun _=>aE (fun h=>⟨?_,rfl⟩) fun h=>⟨?_,rfl⟩⟩
  ·have:=of_decide_eq_true h
   rw [decide_eq_false (by omega)]; rfl
  ·have:=of_decide_eq_false h
   by_cases h4:k≥4
   ·rw [decide_eq_true h4,decide_eq_false (by omega)]; rfl
   ·rw [decide_eq_false h4,decide_eq_true (by omega)]; rfl
 rintro t w1 ⟨rfl,rfl⟩
 refine aE (fun h=>?_) fun h=>?_
 ·have h:decide (0≤k∧k≤3)=false:=by rwa [Bool.not_eq_true'] at h
  exact ⟨none,rfl,by rw [h]; rfl,Mod.refl _ _⟩
 ·have h:decide (0≤k∧k≤3)=true:=by rwa [Bool.not_eq_false'] at h
  have h':=of_decide_eq_true h
  obtain ⟨m,rfl⟩ : ∃ m:Nat,k=m:=⟨k.toNat,by omega⟩
  have hm4:m<4:=by omega
  refine ⟨⟨by omega,by omega⟩,some ⟨(ts m).p,0,none⟩,?_,?_⟩
  ·rw [aK,aK]
   refine hS.blk.rd1 ?_
   rw [show 0+0+(m:Int).toNat*1=m by omega,List.getElem?_append_left (by show m<4; exact hm4)]
   exact uK ts hm4
  refine aC (qBF (hS.four.tr m hm4) ⟨by omega,by omega⟩ (hO.ok m) (by have:=hO.n m; omega)) ?_
  rintro v w2 ⟨t',B',rfl,_,_,_,hm2⟩
  exact ⟨_,rfl,_,rfl,by rw [h]; rfl,hm2⟩
end
end Go.Proofs.YtahjmeegfkfokaaGreatDoor
end
section
namespace Go.Proofs.YtahjmeegfkfokaaGreatDoor
open Go Go.Sh
open Go.Proofs.Tryz
section
variable {w:World}
theorem qXC {seed:Slc} {sl:List UInt8} {h:Hd} {r:Rc} (hg:iJ w) (hs:aL w seed 1 (bys sl)) (hsl : ∀ z,seed.blk=some z→z<w.heap.size) (hl:sl.length=32) (H:dA w h r) (hsh:r.shaped=true) :
 Calls prog 27 #[.slice seed.a seed.len seed.cap,h.val] w (Ret fun v w'=>∃ (h':Hd) (sg:List UInt8),v = .tuple #[h'.val,.int .i64 0]∧dA w' h' {r with sig:=sg}∧sg.length=64∧qAT w h'∧Mod NoB w w'):=by
 refine qYO _ h.a h.b h.c h.d h.e h.f h.g ?_
 unfold jCR
 obtain ⟨ir,hr1,hr2,hr3,hr4⟩:=pC
 obtain ⟨iw,hw1,hw2,hw3,hw4⟩:=qID
 obtain ⟨sm1,sm2,sm3,sm4⟩:=H.sm
 refine aU (l:=h.cells) rfl fun p w1 hN hb=>⟨_,rfl,?_⟩
 refine aO (l:=Hd.cells ⟨[],0,0,⟨none,0,0⟩,false,⟨none,0,0⟩,⟨none,0,0⟩⟩) hr1 hr2 rfl fun x w2 hN2 hb2=>⟨_,rfl,?_⟩
 refine ⟨h.a,h.b,h.c,h.d,h.e,h.f,h.g,rdH (hb.no hN2.mod),?_⟩
 refine aO (l:=Hd.cells ⟨[],0,0,⟨none,0,0⟩,false,⟨none,0,0⟩,⟨none,0,0⟩⟩) hw1 hw2 rfl fun q w3 hN3 hb3=>⟨_,rfl,?_⟩
 refine cS (h:=h) (by kernel_rfl) (by kernel_rfl) hb3 rfl fun w4 ht4 hq4=>?_
 have e1:=hN.at_; have e2:=hN2.at_; have e3:=hN3.at_; have e4:=hN.size; have e5:=hN2.size; have e6:=hN3.size
 have hM4:Mod NoB w w4:=((hN.mod.tr hN2.mod).tr hN3.mod).fresh ht4.mod fun z e=>by omega
 have hp4:=(hb.no (hN2.mod.tr hN3.mod)).mod ht4.mod (by omega)
 have hx4:=(hb2.no hN3.mod).mod ht4.mod (by omega)
 refine aC (qFI (hg.no hM4) (hs.no hM4) (fun z hz=>Nat.lt_of_lt_of_le (hsl z hz) hM4.size) hl) ?_
 rintro v w5 ⟨b,lb,rfl,hlb,hbb,hsb,hm5⟩
 refine ⟨⟨some ⟨b,0,none⟩,32,32⟩,rfl,?_⟩
 refine gZ (e:=5) u26 ⟨_,rfl,aE (fun h=>by simp at h) fun _=>?_⟩
 have hM5:=hM4.tr hm5
 refine ⟨h.a,h.b,h.c,h.d,h.e,h.f,h.g,rdH (hq4.no hm5),?_⟩
 refine aC (kR (h:=h) (H.no hM5)) ?_
 rintro u w7 ⟨rfl,hm7⟩
 rw [hsh]
 refine ⟨_,rfl,aE (fun h=>by cases h) fun _=>?_⟩
 have hm47:=hm5.tr hm7
 have hM7:=hM4.tr hm47
 refine ⟨h.a,h.b,h.c,h.d,h.e,h.f,h.g,rdH (hp4.no hm47),?_⟩
 refine aC (jBH (h:=h) (H.no hM7)) ?_
 rintro u w9 ⟨h',rfl,H',hn',hm9⟩
 refine ⟨h'.a,h'.b,h'.c,h'.d,h'.e,h'.f,h'.g,rfl,?_⟩
 have hm49:=hm47.tr hm9
 have hM9:=hM4.tr hm49
 have s4:w4.heap.size=w3.heap.size:=ht4.size
 have s7:=hm47.size
 refine cS (h:=h') (by kernel_rfl) (by kernel_rfl) (hp4.no hm49) rfl fun w10 ht10 hp10=>?_
 have hM10:Mod NoB w w10:=hM9.fresh ht10.mod fun z e=>by omega
 have H10:dA w10 h' r:=H'.mod ht10.mod fun z hz e=>by have:=hn' z hz; omega
 have hq10:=(hq4.no hm49).mod ht10.mod (by omega)
 have hx10:=(hx4.no hm49).mod ht10.mod (by omega)
 refine ⟨h.a,h.b,h.c,h.d,h.e,h.f,h.g,rdH hq10,?_⟩
 refine iD (qBQ (h:=h) (H.no hM10)) fun tx w11 hot hft hm11=>?_
 refine kQ (wb:=w11) [tx] [r.text] rfl rfl (by omega) (by omega) (Mod.refl _ _) rfl (qPV hot.rd fun z hz=>hot.lt hz) fun ty w12 hR hm12 _=>⟨ty,rfl,?_⟩
 have hm1012:=hm11.tr hm12
 have hM12:=hM10.tr hm1012
 obtain ⟨ss,o1,f1,l1,c1⟩:=hR
 refine uQ (qXP (hg.no hM12) (hs.no hM12) (fun z hz=>Nat.lt_of_lt_of_le (hsl z hz) hM12.size) hl o1.rd (fun z hz=>o1.lt hz) l1 (fun i a b=>⟨(c1 i a b).1,fun z hz=>((c1 i a b).2 z hz).1⟩) (by have:=rK (r:=r); simp; omega) (by simp)) fun sg lg w13 hog hlg hfg hm13=>?_
 have hm1013:=hm1012.tr hm13
 have hM13:=hM10.tr hm1013
 refine dF (i:=6) (by kernel_rfl) (by kernel_rfl) rfl (hp10.no hm1013) (by rw [Hd.len]; omega) fun w14 ht14 hp14=>?_
 have hp14':Blk w14 p (Hd.cells ⟨h'.a,h'.b,h'.c,h'.d,h'.e,h'.f,sg⟩) 30:=hp14
 refine ⟨h'.a,h'.b,h'.c,h'.d,h'.e,h'.f,sg,rdH hp14',?_⟩
 refine cS (h:=⟨h'.a,h'.b,h'.c,h'.d,h'.e,h'.f,sg⟩) (by kernel_rfl) (by kernel_rfl) ((hx10.no hm1013).mod ht14.mod (by omega)) rfl fun w15 ht15 hx15=>?_
 refine ⟨h'.a,h'.b,h'.c,h'.d,h'.e,h'.f,sg,rdH hx15,?_⟩
 have hm1315:Mod (fun z=>z=p∨z=x) w13 w15:=(ht14.mod.mono fun _ _ e=>.inl e).tr (ht15.mod.mono fun _ _ e=>.inr e)
 have hnew : ∀ z,h'.d.blk=some z∨h'.f.blk=some z∨h'.g.blk=some z→w7.heap.size≤z:=hn'
 have hsg : ∀ z,sg.blk=some z→w12.heap.size≤z:=hfg
 have s12:=hm1012.size; have s10:w10.heap.size=w9.heap.size:=ht10.size; have s9:=hm49.size
 have H13:=H10.no hm1013
 refine ⟨⟨h'.a,h'.b,h'.c,h'.d,h'.e,h'.f,sg⟩,lg,rfl,⟨H'.key,H'.cl,H'.sq,H'.gone,H13.ctx.mod hm1315 fun z hz e=>?_,H13.val.mod hm1315 fun z hz e=>?_,hog.rd.mod hm1315 fun z hz e=>?_,⟨sm1,sm2,sm3,by show lg.length≤1000000; omega⟩,?_⟩,hlg,?_,hM13.fresh hm1315 fun z e=>?_⟩
 ·have:=hnew z (.inl hz); omega
 ·have:=hnew z (.inr (.inl hz)); omega
 ·have:=hsg z hz; omega
 ·rintro z (hz | hz | hz)
  ·exact Nat.lt_of_lt_of_le (H13.lt z (.inl hz)) hm1315.size
  ·exact Nat.lt_of_lt_of_le (H13.lt z (.inr (.inl hz))) hm1315.size
  ·exact Nat.lt_of_lt_of_le (hog.lt hz) hm1315.size
 ·have s7':=hM7.size
  rintro z (hz | hz | hz)
  ·exact Nat.le_trans s7' (hnew z (.inl hz))
  ·exact Nat.le_trans s7' (hnew z (.inr (.inl hz)))
  ·have:=hsg z hz; have:=hM12.size; omega
 ·omega
end
def sh7 (w:World) (R:RW):Prop:=
 aD prog 8 [] w (aG R) fun v w1=>∃ x:Option Addr,v=(.pointer x)∧aD prog 10 [.string ⟨([107]).toArray⟩,.int .i64 (1:Int),.int .i64 (1:Int),.slice none 0 0] w1 (aG R) fun v1 w2=>∃ xa:List UInt8,∃ xb xc:Int,∃ xd:Slc,∃ xe:Bool,∃ xf xg:Slc,v1=(zR xa xb xc xd xe xf xg)∧aI prog (Instr.alloc 30 true (.tuple #[])) w2 fun v2 w3=>∃ a:Option Addr,v2=(.pointer a)∧aA a fun a1=>aJ prog (storeVar 30 a1 (zR xa xb xc xd xe xf xg)) w3 fun w4=>aI prog (Instr.buildSlice 27 1 #[(0,(.agg #[.int .i64 (1:Int),.int .i64 (1:Int)]))]) w4 fun v3 w5=>∃ x1:Slc,v3=(zS x1)∧aD prog 10 [.string ⟨([107]).toArray⟩,.int .i64 (2:Int),.int .i64 (1:Int),zS x1] w5 (aG R) fun v4 w6=>∃ xa1:List UInt8,∃ xb1 xc1:Int,∃ xd1:Slc,∃ xe1:Bool,∃ xf1 xg1:Slc,v4=(zR xa1 xb1 xc1 xd1 xe1 xf1 xg1)∧aI prog (Instr.alloc 30 true (.tuple #[])) w6 fun v5 w7=>∃ b:Option Addr,v5=(.pointer b)∧aA b fun a2=>aJ prog (storeVar 30 a2 (zR xa1 xb1 xc1 xd1 xe1 xf1 xg1)) w7 fun w8=>aA a fun a3=>∃ xa2:List UInt8,∃ xb2 xc2:Int,∃ xd2:Slc,∃ xe2:Bool,∃ xf2 xg2:Slc,Rd w8 a3 (yR xa2 xb2 xc2 xd2 xe2 xf2 xg2)∧aA b fun a4=>∃ xa3:List UInt8,∃ xb3 xc3:Int,∃ xd3:Slc,∃ xe3:Bool,∃ xf3 xg3:Slc,Rd w8 a4 (yR xa3 xb3 xc3 xd3 xe3 xf3 xg3)∧aI prog (Instr.buildSlice 32 2 #[(0,(zR xa2 xb2 xc2 xd2 xe2 xf2 xg2)),(1,(zR xa3 xb3 xc3 xd3 xe3 xf3 xg3))]) w8 fun v6 w9=>∃ x2:Slc,v6=(zS x2)∧aD prog 9 [.pointer x,zS x2] w9 (aG R) fun v7 w10=>∃ x3:Int,v7=(.int .i64 x3)∧∃ sx:World→Prop,sx w10.drew∧aH (x3==(0:Int)) (aA b fun a5=>∃ xa4:List UInt8,∃ xb4 xc4:Int,∃ xd4:Slc,∃ xe4:Bool,∃ xf4 xg4:Slc,(∀ w',sx w'→Rd w' a5 (yR xa4 xb4 xc4 xd4 xe4 xf4 xg4))∧((aD prog 11 [.pointer x,.string ⟨([107]).toArray⟩] w10.drew (aG R) fun v8 w11=>∃ x4:Slc,v8=(zS x4)∧(sx w11∧((aI prog (Instr.buildSlice 32 1 #[(0,(zR xa4 xb4 xc4 xd4 xe4 xf4 xg4))]) w11 fun v9 w12=>∃ x5:Slc,v9=(zS x5)∧((aD prog 12 [zS x4,zS x5] w12 (aG R) fun v10 w13=>∃ x6:Bool,v10=(.bool x6)∧(sx w13∧aH x6 (((aD prog 18 [.pointer x] w13 (aG R) fun v11 w14=>∃ x7:Slc,v11=(zS x7)∧(sx w14∧aH ((x7.len:Int)==(1:Int)) (((aD prog 21 [.pointer x,.int .i64 (4:Int)] w14 (aG R) fun v12 w15=>∃ x8:Option Addr,v12=(.pointer x8)∧(sx w15∧aS prog (do eqGuard .eql 47 (.tmp 32) (.const (.pointer none)) (.pointer x8) (.pointer none); binOp .eql 47 (.pointer x8) (.pointer none)) fun v13=>∃ x9:Bool,v13=(.bool x9)∧R (.returned (.bool x9)) w15))∧True)) ((((sx w14∧R (.returned (.bool false)) w14))∧True))))∧True)) ((((sx w13∧(((sx w13∧R (.returned (.bool false)) w13))∧True)))∧True))))∧True))∧True)))∧(aI prog (Instr.buildSlice 32 1 #[(0,(zR xa4 xb4 xc4 xd4 xe4 xf4 xg4))]) w10.drew fun v14 w16=>∃ x10:Slc,v14=(zS x10)∧((aD prog 11 [.pointer x,.string ⟨([107]).toArray⟩] w16 (aG R) fun v15 w17=>∃ x11:Slc,v15=(zS x11)∧(sx w17∧((aD prog 12 [zS x11,zS x10] w17 (aG R) fun v16 w18=>∃ x12:Bool,v16=(.bool x12)∧(sx w18∧aH x12 (((aD prog 18 [.pointer x] w18 (aG R) fun v17 w19=>∃ x13:Slc,v17=(zS x13)∧(sx w19∧aH ((x13.len:Int)==(1:Int)) (((aD prog 21 [.pointer x,.int .i64 (4:Int)] w19 (aG R) fun v18 w20=>∃ x14:Option Addr,v18=(.pointer x14)∧(sx w20∧aS prog (do eqGuard .eql 47 (.tmp 32) (.const (.pointer none)) (.pointer x14) (.pointer none); binOp .eql 47 (.pointer x14) (.pointer none)) fun v19=>∃ x15:Bool,v19=(.bool x15)∧R (.returned (.bool x15)) w20))∧True)) ((((sx w19∧R (.returned (.bool false)) w19))∧True))))∧True)) ((((sx w18∧(((sx w18∧R (.returned (.bool false)) w18))∧True)))∧True))))∧True)))∧True))∧True)) ((((sx w10.drew∧(((((sx w10.drew∧(((sx w10.drew∧(((sx w10.drew∧R (.returned (.bool false)) w10.drew))∧True)))∧True)))∧True))∧True)))∧((((sx w10.drew∧(((sx w10.drew∧(((sx w10.drew∧(((sx w10.drew∧R (.returned (.bool false)) w10.drew))∧True)))∧True)))∧True)))∧True))∧True))
theorem qZV {w:World} {R:RW} (hden:sh7 w R):Calls prog 7 #[] w R:=
 aB (q0 .z (q0 .z (q0 .z (q0 .z (q0 .z (q0 (.draw 1 (.take 0 (.take 1 (.take 2 (.take 3 (.take 5 (.all [(4,(.all [(6,(.all [(7,(.take 8 (.take 9 (.take 10 (.all [(11,(.take 12 (.take 13 (.take 14 (.take 15 (.take 16 (.all [(17,(.take 18 (.take 19 (.take 20 .done))))])))))))])))))]))])),(6,(.all [(4,(.all [(7,(.take 8 (.take 9 (.take 10 (.all [(11,(.take 12 (.take 13 (.take 14 (.take 15 (.take 16 (.all [(17,(.take 18 (.take 19 (.take 20 .done))))])))))))])))))]))]))]))))))) .z)))))) func7 (by kernel_rfl) [] (by kernel_rfl) (by kernel_rfl) hden
def qZX (key:List UInt8) (client seq:Int) (context:Slc) (w:World) (R:RW):Prop:=
 aI prog (Instr.alloc 30 true (.tuple #[])) w fun v w1=>∃ x:Option Addr,v=(.pointer x)∧aD prog 28 [.int .i64 client] w1 (aG R) fun v1 w2=>∃ x1:Slc,v1=(zS x1)∧aD prog 27 [zS x1,.agg #[.string ⟨key.toArray⟩,.int .i64 client,.int .i64 seq,zS context,.bool false,.slice none 0 0,.slice none 0 0]] w2 (aG R) fun v2 w3=>∃ xaa:List UInt8,∃ xab xac:Int,∃ xad:Slc,∃ xae:Bool,∃ xaf xag:Slc,∃ xb:Int,v2=(.tuple #[zR xaa xab xac xad xae xaf xag,.int .i64 xb])∧aI prog (Instr.alloc 30 true (.tuple #[])) w3 fun v3 w4=>∃ r:Option Addr,v3=(.pointer r)∧aA r fun a=>aJ prog (storeVar 30 a (zR xaa xab xac xad xae xaf xag)) w4 fun w5=>aA r fun a1=>∃ xa:List UInt8,∃ xb1 xc:Int,∃ xd:Slc,∃ xe:Bool,∃ xf xg:Slc,Rd w5 a1 (yR xa xb1 xc xd xe xf xg)∧aA x fun a2=>aJ prog (storeVar 30 a2 (zR xa xb1 xc xd xe xf xg)) w5 fun w6=>aA x fun a3=>∃ xa1:List UInt8,∃ xb2 xc1:Int,∃ xd1:Slc,∃ xe1:Bool,∃ xf1 xg1:Slc,Rd w6 a3 (yR xa1 xb2 xc1 xd1 xe1 xf1 xg1)∧R (.returned (zR xa1 xb2 xc1 xd1 xe1 xf1 xg1)) w6
theorem qUT (key:List UInt8) (client seq:Int) (context:Slc) {w:World} {R:RW} (hden:qZX key client seq context w R):Calls prog 10 #[.string ⟨key.toArray⟩,.int .i64 client,.int .i64 seq,zS context] w R:=
 aB (q0 .z (q0 .z (q0 .z .z))) func10 (by kernel_rfl) [.s key,.i .i64 client,.i .i64 seq,.sl context] (by kernel_rfl) (by kernel_rfl) hden
def jDP (client:Int) (w:World) (R:RW):Prop:=
 aI prog (Instr.makeSlice 28 (.int .i64 (32:Int)) (.int .i64 (32:Int))) w fun v w1=>∃ x:Slc,v=(zS x)∧∃ (inv:List TV→World→Prop) (mu:List TV→World→Nat),inv [.i .i64 (0:Int)] w1∧(∀ i:Int,∀ w2:World,inv [.i .i64 i] w2→aH (decide (i<(32:Int))) (((0≤i∧i<(x.len:Nat))∧aA x.a fun a=>aJ prog (storeVar 5 (a.add (i.toNat*1)) (.int .u8 ((pG (IntKind.i64.wrap ((IntKind.i64.wrap (client*(7:Int)))+i)))).toNat)) w2 fun w3=>(inv [.i .i64 (IntKind.i64.wrap (i+(1:Int)))] w3∧mu [.i .i64 (IntKind.i64.wrap (i+(1:Int)))] w3<mu [.i .i64 i] w2))) (R (.returned (zS x)) w2))
theorem qWX (client:Int) {w:World} {R:RW} (hden:jDP client w R):Calls prog 28 #[.int .i64 client] w R:=
 aB (q0 .z (q0 .z (q0 (q0 .z (.block none (.loop [(4,(.i .i64))] (q0 (q0 .z (.cond .z .z)) (q0 (.block none .z) .z))))) (q0 .z .z)))) func28 (by kernel_rfl) [.i .i64 client] (by kernel_rfl) (by kernel_rfl) hden
end Go.Proofs.YtahjmeegfkfokaaGreatDoor
end
section
namespace Go.Proofs.YtahjmeegfkfokaaGreatDoor
open Go Go.Sh Go.MapKept
open Go.Proofs.Tryz
section
variable {w:World}
theorem qUD {client:Int} : Calls prog 28 #[.int .i64 client] w (Ret (RN 32 w)):=by
 refine qWX _ ?_
 unfold jDP
 obtain ⟨i5',h51,h52,h53,h54⟩:=i5
 refine cG (l:=32) (c:=32) u26 h51 h52 h53 rfl h54 rfl rfl (by omega) (by omega) (by omega) fun e w1 hN1 hb1 ho1=>⟨⟨some ⟨e,0,none⟩,32,32⟩,rfl,?_⟩
 rw [jJ] at ho1
 have hat:=hN1.at_
 refine ⟨fun l' w'=>match l' with | [.i _ x]=>∃ (k:Nat) (l:List UInt8),x=k∧l.length=32∧Sh.Own w' ⟨some ⟨e,0,none⟩,32,32⟩ 1 (bys l)∧Mod NoB w w' | _=>False,fun l' _=>match l' with | [.i _ x]=>(32 - x).toNat | _=>0,
  ⟨0,List.replicate 32 0,rfl,by simp,ho1,hN1.mod⟩,?_⟩
 rintro x w2 ⟨k,l,rfl,hl,ho2,hm2⟩
 refine aE (fun hlt=>?_) fun hge=>?_
 ·have hk:k<32:=by have:=of_decide_eq_true hlt; omega
  refine ⟨⟨by omega,by show (k:Int)<((32:Nat):Int); omega⟩,?_⟩
  simp only [Int.toNat_natCast]
  refine iU (by kernel_rfl) (by kernel_rfl) rfl ho2 rfl hk fun w3 ho3 hm3 hs3=>⟨⟨k+1,_,aT (by omega),?_,by rw [fN] at ho3; exact ho3,hm2.fresh hm3 fun z hz=>?_⟩,?_⟩
  ·simp [hl]
  ·rw [Slc.blk_mk,if_neg (by omega)] at hz; cases hz; omega
  ·rw [aT (by omega)]; (try simp only []); omega
 ·exact ⟨⟨some ⟨e,0,none⟩,32,32⟩,l,rfl,ho2,hl,FB.new (by omega),hm2⟩
theorem nQ {key:List UInt8} {cl sq:Int} {ctx:Slc} {cx:List (Int×Int)} (hg:iJ w) (hc:aL w ctx 2 (dts cx)) (hcl : ∀ z,ctx.blk=some z→z<w.heap.size)
 (hk:key.length≤1000000) (hcx:cx.length≤1000000) (hsh:Rc.shaped ⟨key,cl,sq,cx,false,[],[]⟩=true) :
 Calls prog 10 #[.string ⟨key.toArray⟩,.int .i64 cl,.int .i64 sq,.slice ctx.a ctx.len ctx.cap] w (Ret fun v w'=>∃ (h':Hd) (sg:List UInt8),v=h'.val∧dA w' h' ⟨key,cl,sq,cx,false,[],sg⟩∧sg.length=64∧qAT w h'∧Mod NoB w w'):=by
 refine qUT _ _ _ _ ?_
 unfold qZX
 obtain ⟨ir,hr1,hr2,hr3,hr4⟩:=pC
 refine aO (l:=Hd.cells ⟨[],0,0,⟨none,0,0⟩,false,⟨none,0,0⟩,⟨none,0,0⟩⟩) hr1 hr2 rfl fun x w1 hN1 hb1=>⟨_,rfl,?_⟩
 refine uQ qUD fun s l w2 hos hl hfs hm2=>?_
 have hM2:=hN1.mod.tr hm2
 have H:dA w2 ⟨key,cl,sq,ctx,false,⟨none,0,0⟩,⟨none,0,0⟩⟩ ⟨key,cl,sq,cx,false,[],[]⟩:=
  ⟨rfl,rfl,rfl,rfl,hc.no hM2,tC _ _,tC _ _,⟨hk,hcx,by simp,by simp⟩,fun z hz=>by
   rcases hz with hz | hz | hz
   ·exact Nat.lt_of_lt_of_le (hcl z hz) hM2.size
   ·simp at hz
   ·simp at hz⟩
 refine aC (qXC (h:=⟨key,cl,sq,ctx,false,⟨none,0,0⟩,⟨none,0,0⟩⟩) (hg.no hM2) hos.rd (fun z hz=>hos.lt hz) hl H hsh) ?_
 rintro v w3 ⟨h',sg,rfl,H',hsg,hnew,hm3⟩
 refine ⟨h'.a,h'.b,h'.c,h'.d,h'.e,h'.f,h'.g,0,rfl,?_⟩
 refine aO (l:=Hd.cells ⟨[],0,0,⟨none,0,0⟩,false,⟨none,0,0⟩,⟨none,0,0⟩⟩) hr1 hr2 rfl fun r w4 hN4 hb4=>⟨_,rfl,?_⟩
 have hM3:=hM2.tr hm3
 have s1:=hN1.size; have a1:=hN1.at_; have a4:=hN4.at_; have s3:=hM3.size; have s23:=(hm2.tr hm3).size; have s4:=hN4.size
 refine cS (h:=h') (by kernel_rfl) (by kernel_rfl) hb4 rfl fun w5 ht5 hb5=>?_
 have hm5:Mod NoB w3 w5:=hN4.mod.fresh ht5.mod fun z e=>by omega
 refine ⟨h'.a,h'.b,h'.c,h'.d,h'.e,h'.f,h'.g,rdH hb5,?_⟩
 have hx5:=(hb1.no (hm2.tr (hm3.tr hm5)))
 refine cS (h:=h') (by kernel_rfl) (by kernel_rfl) hx5 rfl fun w6 ht6 hb6=>?_
 refine ⟨h'.a,h'.b,h'.c,h'.d,h'.e,h'.f,h'.g,rdH hb6,h',sg,rfl,(H'.no hm5).mod ht6.mod fun z hz e=>?_,hsg,fun z hz=>?_,(hM3.tr hm5).fresh ht6.mod fun z e=>by omega⟩
 ·have:=hnew z hz; have:=hM2.size; have:=hm2.size; omega
 ·have:=hnew z hz; have:=hM2.size; omega
end
theorem bV.r {B:Nat} {w:World} {s:Slc} {ls:List Rc} (h:bV B w s ls):lP w s ls:=by
 obtain ⟨hs,h1,h2,h3,h4⟩:=h
 exact ⟨hs,h1,h3,fun i a b=>(h4 i a b).1⟩
theorem tM.len {w:World} {o:Slc} {L:Lv} (h:tM w o L):L.length=o.len:=by
 obtain ⟨es,g1,g2,_⟩:=h
 have:=bP bH (by omega) g1; omega
section
variable {w:World}
theorem qIR (hg:iJ w):Calls prog 7 #[] w (Ret fun v w'=>v = .bool true∧Mod NoB w w'):=by
 refine qZV ?_
 unfold sh7
 obtain ⟨ir,hr1,hr2,hr3,hr4⟩:=pC
 obtain ⟨id,hd1,hd2,hd3,hd4⟩:=vN
 refine aC qIH ?_
 rintro v w1 ⟨p,ts0,Bs0,rfl,hp1,hF1,hpW,hpB,hpl,hm1⟩
 refine ⟨_,rfl,?_⟩
 refine aC (nQ (key:=[107]) (cl:=1) (sq:=1) (ctx:=⟨none,0,0⟩) (cx:=[]) (hg.no hm1) (tC _ _) (by simp) (by simp) (by simp) (by rfl)) ?_
 rintro v w2 ⟨ha,sa,rfl,Ha,la,na,hm2⟩
 refine ⟨ha.a,ha.b,ha.c,ha.d,ha.e,ha.f,ha.g,rfl,?_⟩
 refine aO (l:=Hd.cells ⟨[],0,0,⟨none,0,0⟩,false,⟨none,0,0⟩,⟨none,0,0⟩⟩) hr1 hr2 rfl fun q w3 hN3 hq3=>⟨_,rfl,?_⟩
 have e3:=hN3.at_; have s3:=hN3.size
 refine cS (h:=ha) (by kernel_rfl) (by kernel_rfl) hq3 rfl fun w4 ht4 hq4=>?_
 have hm24:Mod NoB w2 w4:=hN3.mod.fresh ht4.mod fun z e=>by omega
 refine bY [.agg #[.int .i64 1,.int .i64 1]] (l:=dts [(1,1)]) mY hd1 hd2 hd3 (by omega) rfl (by omega) (by omega) rfl (by intro v hv; simp at hv; subst hv; rfl) rfl fun d w5 hN5 hd5=>⟨⟨some ⟨d,0,none⟩,1,1⟩,rfl,?_⟩
 have hm15:=(hm2.tr hm24).tr hN5.mod
 refine aC (nQ (key:=[107]) (cl:=2) (sq:=1) (ctx:=⟨some ⟨d,0,none⟩,1,1⟩) (cx:=[(1,1)]) (hg.no (hm1.tr hm15)) (aW (n:=1) (k:=2) hd5 (by simp [dts])).rd (fun z hz=>by rw [Slc.blk_mk,if_neg (by omega)] at hz; cases hz; exact hd5.lt) (by simp) (by simp) (by rfl)) ?_
 rintro v w6 ⟨hb,sb,rfl,Hb,lb,nb,hm6⟩
 refine ⟨hb.a,hb.b,hb.c,hb.d,hb.e,hb.f,hb.g,rfl,?_⟩
 refine aO (l:=Hd.cells ⟨[],0,0,⟨none,0,0⟩,false,⟨none,0,0⟩,⟨none,0,0⟩⟩) hr1 hr2 rfl fun r w7 hN7 hr7=>⟨_,rfl,?_⟩
 have e7:=hN7.at_; have s7:=hN7.size
 refine cS (h:=hb) (by kernel_rfl) (by kernel_rfl) hr7 rfl fun w8 ht8 hr8=>?_
 have hm68:Mod NoB w6 w8:=hN7.mod.fresh ht8.mod fun z e=>by omega
 have hm48:Mod NoB w4 w8:=(hN5.mod.tr hm6).tr hm68
 have hm18:=(hm15.tr hm6).tr hm68
 have hq8:=hq4.no hm48
 refine ⟨ha.a,ha.b,ha.c,ha.d,ha.e,ha.f,ha.g,rdH hq8,hb.a,hb.b,hb.c,hb.d,hb.e,hb.f,hb.g,rdH hr8,?_⟩
 have HA:dA w8 ha (exA sa):=Ha.no (hm24.tr hm48)
 have HB:dA w8 hb (exD sb):=Hb.no hm68
 refine qCT (h1:=ha) (h2:=hb) HA HB fun x2 w9 hm9 hR9=>⟨x2,rfl,?_⟩
 have hm19:=hm18.tr hm9
 have hgl:dP w9:=(hg.no (hm1.tr hm19)).sha
 obtain ⟨ex1,ex2,ex3⟩:=yZ la lb
 have exr : ∀ r∈[exA sa,exD sb],r.right=true:=fun r hr=>(ex1 r hr).1
 refine aC (qOX (X:=[]) (rs:=[exA sa,exD sb]) hgl (fun z hz=>hg.sha.lt hz) ((⟨hp1,hF1,hpl,hpW,hpB⟩:ShAt w1 p ts0 (fun _=>[]) Bs0 w.heap.size).no hm19) oW (by simp) hR9 holds_none exr (by rw [List.nil_append,dK exr]; exact ex2) fun Y k out hY hM=>qIO (B:=[exA sa,exD sb]) (by simp) (fun y hy=>by simpa using hY y hy) hM) ?_
 rintro v w10 ⟨rfl,ts',Ls',Bs',hH,hS10,hO10,_,hm10⟩
 refine ⟨0,rfl,?_⟩
 have hpn : ∀ z,z=p→w.heap.size≤z:=fun z e=>by omega
 have hm010:Mod NoB w w10:=(hm1.tr hm19).fresh hm10 hpn
 have hp1lt:=hp1.lt
 have hpw8:p<w6.heap.size:=by have:=(hm15.tr hm6).size; omega
 have hr10:Blk w10 r hb.cells _:=(hr8.no hm9).mod hm10 fun e=>by have e:r=p:=e; omega
 have HB10:dA w10 hb (exD sb):=(HB.no hm9).mod hm10 fun z hz e=>by
  have e:z=p:=e
  have:=nb z hz
  have h5:=hm15.size
  omega
 have hM : ∀ {w'},Mod NoB w10.drew w'→Mod NoB w10 w':=fun h=>(Mod.drew NoB w10).tr h
 refine ⟨Mod NoB w10.drew,Mod.refl _ _,aE (fun _=>?_) (fun h=>by cases h)⟩
 have hg10:dP w10:=hg.sha.no hm010
 have hfg:eH Ls' [107]=[exD sb]:=qBG (Y:=[exA sa,exD sb]) exr ex2 hH ex3
 have hgt : ∀ {w1:World} {pan:List PanicEntry→World→Prop} {K:Value→World→Prop},Mod NoB w10.drew w1→(∀ (x:Slc) w2,Mod NoB w1 w2→bV w2.heap.size w2 x [exD sb]→K (.slice x.a x.len x.cap) w2)→aD prog 11 [.pointer (some ⟨p,0,none⟩),.string ⟨([107]:List UInt8).toArray⟩] w1 pan K:=fun h hK=>
  aC (xY (hg10.no (hM h)) (hS10.no (hM h)) hO10 (by simp) (by simp)) fun v w' ⟨x,hv,hx,hm⟩=>by
   subst hv
   rw [hfg] at hx
   exact hK x w' hm hx.recs
 have tail : ∀ {w1:World} {x y:Slc} {R:RW},Mod NoB w10.drew w1→bV w1.heap.size w1 x [exD sb]→bV w1.heap.size w1 y [exD sb]→(∀ w',Mod NoB w w'→R (.returned (.bool true)) w')→
  aD prog 12 [.slice x.a x.len x.cap,.slice y.a y.len y.cap] w1 (aG R) fun v10 w13=>∃ x6:Bool,v10=(.bool x6)∧(Mod NoB w10.drew w13∧aH x6 (((aD prog 18 [.pointer (some ⟨p,0,none⟩)] w13 (aG R) fun v11 w14=>∃ x7:Slc,v11=(.slice x7.a x7.len x7.cap)∧(Mod NoB w10.drew w14∧aH ((x7.len:Int)==(1:Int)) (((aD prog 21 [.pointer (some ⟨p,0,none⟩),.int .i64 (4:Int)] w14 (aG R) fun v12 w15=>∃ x8:Option Addr,v12=(.pointer x8)∧(Mod NoB w10.drew w15∧aS prog (do eqGuard .eql 47 (.tmp 32) (.const (.pointer none)) (.pointer x8) (.pointer none); binOp .eql 47 (.pointer x8) (.pointer none)) fun v13=>∃ x9:Bool,v13=(.bool x9)∧R (.returned (.bool x9)) w15))∧True)) ((((Mod NoB w10.drew w14∧R (.returned (.bool false)) w14))∧True))))∧True)) ((((Mod NoB w10.drew w13∧(((Mod NoB w10.drew w13∧R (.returned (.bool false)) w13))∧True)))∧True))):=fun {w1 x y R} h hx hy hR=>by
  refine aC (lU hx.r hy.r (by simp)) ?_
  rintro v w2 ⟨rfl,hm2⟩
  have h2:=h.tr hm2
  refine ⟨_,rfl,h2,aE (fun _=>?_) fun h=>by simp at h⟩
  refine ⟨aC (qBY (hS10.no (hM h2)) hO10 (by simp)) ?_,trivial⟩
  rintro v w3 ⟨o,L,rfl,hQ,hs,hmL,hm3⟩
  have h3:=h2.tr hm3
  have hl:o.len=1:=by rw [← hQ.r.len]; exact qNQ la lb hO10 hH hs hmL
  refine ⟨o,rfl,h3,aE (fun _=>?_) fun h=>by rw [hl] at h; simp at h⟩
  refine ⟨aC (qOY (k:=4) (hS10.no (hM h3)) hO10 (by simp)) ?_,trivial⟩
  rintro v w4 ⟨t,rfl,ht,hm4⟩
  have h4:=h3.tr hm4
  refine ⟨t,rfl,h4,gV (e:=79) (by kernel_rfl) ⟨_,rfl,?_⟩⟩
  have ht:t=none:=by cases t with | none=>rfl | some _=>cases ht
  subst ht
  exact hR _ ((hm010.tr (Mod.drew NoB w10)).tr h4)
 refine ⟨hb.a,hb.b,hb.c,hb.d,hb.e,hb.f,hb.g,fun w' hm=>rdH (hr10.no (hM hm)),?_,?_,trivial⟩
 ·refine hgt (Mod.refl _ _) fun x w11 hm11 hx=>⟨x,rfl,hm11,?_,trivial⟩
  refine fI (h1:=hb) (HB10.no (hM hm11)) fun y w12 hm12 hy=>⟨y,rfl,?_,trivial⟩
  exact tail (hm11.tr hm12) ((hx.mod (hm12.mono fun _ _ h=>h.elim)).le hm12.size) hy fun w' hm=>⟨rfl,hm⟩
 ·refine fI (h1:=hb) (HB10.no (Mod.drew NoB w10)) fun y w12 hm12 hy=>⟨y,rfl,?_,trivial⟩
  refine hgt hm12 fun x w11 hm11 hx=>⟨x,rfl,hm12.tr hm11,?_,trivial⟩
  exact tail (hm12.tr hm11) hx ((hy.mod (hm11.mono fun _ _ h=>h.elim)).le hm11.size) fun w' hm=>⟨rfl,hm⟩
end
end Go.Proofs.YtahjmeegfkfokaaGreatDoor
end
section
namespace Go.Proofs.YtahjmeegfkfokaaGreatDoor
open Go Go.Sh
open Go.Proofs.Tryz
def sh3 (w:World) (R:RW):Prop:=
 aD prog 7 [] w (aG R) fun v w1=>∃ x:Bool,v=(.bool x)∧aH (!x) (R (.returned (.bool false)) w1) (aD prog 8 [] w1 (aG R) fun v1 w2=>∃ x1:Option Addr,v1=(.pointer x1)∧∃ (inv:List TV→World→Prop) (mu:List TV→World→Nat),inv [.i .i64 (0:Int)] w2∧(∀ i:Int,∀ w3:World,inv [.i .i64 i] w3→aH (decide (i<(17:Int))) (((8:Int)≠0∧((8:Int)≠0∧aD prog 10 [.string ⟨([107]).toArray⟩,.int .i64 (IntKind.i64.wrap ((1:Int)+(Int.tmod i (8:Int)))),.int .i64 (IntKind.i64.wrap ((1:Int)+(IntKind.i64.wrap (Int.tdiv i (8:Int))))),.slice none 0 0] w3 (aG R) fun v2 w4=>∃ xa:List UInt8,∃ xb xc:Int,∃ xd:Slc,∃ xe:Bool,∃ xf xg:Slc,v2=(zR xa xb xc xd xe xf xg)∧aI prog (Instr.buildSlice 32 1 #[(0,(zR xa xb xc xd xe xf xg))]) w4 fun v3 w5=>∃ x2:Slc,v3=(zS x2)∧aD prog 9 [.pointer x1,zS x2] w5 (aG R) fun v4 w6=>∃ x3:Int,v4=(.int .i64 x3)∧aH (decide (i<(16:Int))) (aH (x3 != (0:Int)) (R (.returned (.bool false)) w6) (aH (i==(16:Int)) (aH (x3 != (8:Int)) (R (.returned (.bool false)) w6) (aD prog 11 [.pointer x1,.string ⟨([107]).toArray⟩] w6 (aG R) fun v5 w7=>∃ x4:Slc,v5=(zS x4)∧aH ((x4.len:Int) != (if (16:Int)<(IntKind.i64.wrap (i+(1:Int))) then (16:Int) else (IntKind.i64.wrap (i+(1:Int))))) (R (.returned (.bool false)) w7) ((inv [.i .i64 (IntKind.i64.wrap (i+(1:Int)))] w7∧mu [.i .i64 (IntKind.i64.wrap (i+(1:Int)))] w7<mu [.i .i64 i] w3)))) (aD prog 11 [.pointer x1,.string ⟨([107]).toArray⟩] w6 (aG R) fun v6 w8=>∃ x5:Slc,v6=(zS x5)∧aH ((x5.len:Int) != (if (16:Int)<(IntKind.i64.wrap (i+(1:Int))) then (16:Int) else (IntKind.i64.wrap (i+(1:Int))))) (R (.returned (.bool false)) w8) ((inv [.i .i64 (IntKind.i64.wrap (i+(1:Int)))] w8∧mu [.i .i64 (IntKind.i64.wrap (i+(1:Int)))] w8<mu [.i .i64 i] w3))))) (aH (i==(16:Int)) (aH (x3 != (8:Int)) (R (.returned (.bool false)) w6) (aD prog 11 [.pointer x1,.string ⟨([107]).toArray⟩] w6 (aG R) fun v7 w9=>∃ x6:Slc,v7=(zS x6)∧aH ((x6.len:Int) != (if (16:Int)<(IntKind.i64.wrap (i+(1:Int))) then (16:Int) else (IntKind.i64.wrap (i+(1:Int))))) (R (.returned (.bool false)) w9) ((inv [.i .i64 (IntKind.i64.wrap (i+(1:Int)))] w9∧mu [.i .i64 (IntKind.i64.wrap (i+(1:Int)))] w9<mu [.i .i64 i] w3)))) (aD prog 11 [.pointer x1,.string ⟨([107]).toArray⟩] w6 (aG R) fun v8 w10=>∃ x7:Slc,v8=(zS x7)∧aH ((x7.len:Int) != (if (16:Int)<(IntKind.i64.wrap (i+(1:Int))) then (16:Int) else (IntKind.i64.wrap (i+(1:Int))))) (R (.returned (.bool false)) w10) ((inv [.i .i64 (IntKind.i64.wrap (i+(1:Int)))] w10∧mu [.i .i64 (IntKind.i64.wrap (i+(1:Int)))] w10<mu [.i .i64 i] w3))))))) (∃ (inv1:List TV→World→Prop) (mu1:List TV→World→Nat),inv1 [.sl ⟨none,0,0⟩,.i .i64 (1:Int)] w3∧(∀ all:Slc,∀ c:Int,∀ w11:World,inv1 [.sl all,.i .i64 c] w11→aH (decide (c≤(8:Int))) (aI prog (Instr.buildSlice 27 1 #[(0,(.agg #[.int .i64 c,.int .i64 (2:Int)]))]) w11 fun v9 w12=>∃ x8:Slc,v9=(zS x8)∧aI prog (Builtin.append_ #[27,27] 27 #[zS all,zS x8]) w12 fun v10 w13=>∃ x9:Slc,v10=(zS x9)∧(inv1 [.sl x9,.i .i64 (IntKind.i64.wrap (c+(1:Int)))] w13∧mu1 [.sl x9,.i .i64 (IntKind.i64.wrap (c+(1:Int)))] w13<mu1 [.sl all,.i .i64 c] w11)) (aD prog 10 [.string ⟨([107]).toArray⟩,.int .i64 (8:Int),.int .i64 (3:Int),zS all] w11 (aG R) fun v11 w14=>∃ xa1:List UInt8,∃ xb1 xc1:Int,∃ xd1:Slc,∃ xe1:Bool,∃ xf1 xg1:Slc,v11=(zR xa1 xb1 xc1 xd1 xe1 xf1 xg1)∧aI prog (Instr.alloc 30 true (.tuple #[])) w14 fun v12 w15=>∃ last:Option Addr,v12=(.pointer last)∧aA last fun a=>aJ prog (storeVar 30 a (zR xa1 xb1 xc1 xd1 xe1 xf1 xg1)) w15 fun w16=>∃ sx:World→Prop,sx w16.drew∧aA last fun a1=>∃ xa2:List UInt8,∃ xb2 xc2:Int,∃ xd2:Slc,∃ xe2:Bool,∃ xf2 xg2:Slc,(∀ w',sx w'→Rd w' a1 (yR xa2 xb2 xc2 xd2 xe2 xf2 xg2))∧((aI prog (Instr.buildSlice 32 1 #[(0,(zR xa2 xb2 xc2 xd2 xe2 xf2 xg2))]) w16.drew fun v13 w17=>∃ x10:Slc,v13=(zS x10)∧(sx w17∧((aD prog 9 [.pointer x1,zS x10] w17 (aG R) fun v14 w18=>∃ x11:Int,v14=(.int .i64 x11)∧(sx w18∧aH (x11==(0:Int)) (aA last fun a2=>∃ xa3:List UInt8,∃ xb3 xc3:Int,∃ xd3:Slc,∃ xe3:Bool,∃ xf3 xg3:Slc,(∀ w',sx w'→Rd w' a2 (yR xa3 xb3 xc3 xd3 xe3 xf3 xg3))∧((aD prog 11 [.pointer x1,.string ⟨([107]).toArray⟩] w18 (aG R) fun v15 w19=>∃ x12:Slc,v15=(zS x12)∧(sx w19∧((aI prog (Instr.buildSlice 32 1 #[(0,(zR xa3 xb3 xc3 xd3 xe3 xf3 xg3))]) w19 fun v16 w20=>∃ x13:Slc,v16=(zS x13)∧(sx w20∧((aD prog 12 [zS x12,zS x13] w20 (aG R) fun v17 w21=>∃ x14:Bool,v17=(.bool x14)∧(sx w21∧R (.returned (.bool x14)) w21))∧True)))∧True)))∧(aI prog (Instr.buildSlice 32 1 #[(0,(zR xa3 xb3 xc3 xd3 xe3 xf3 xg3))]) w18 fun v18 w22=>∃ x15:Slc,v18=(zS x15)∧(sx w22∧((aD prog 11 [.pointer x1,.string ⟨([107]).toArray⟩] w22 (aG R) fun v19 w23=>∃ x16:Slc,v19=(zS x16)∧(sx w23∧((aD prog 12 [zS x16,zS x15] w23 (aG R) fun v20 w24=>∃ x17:Bool,v20=(.bool x17)∧(sx w24∧R (.returned (.bool x17)) w24))∧True)))∧True)))∧True)) ((((sx w18∧(((sx w18∧(((sx w18∧R (.returned (.bool false)) w18))∧True)))∧True)))∧((sx w18∧(((sx w18∧(((sx w18∧R (.returned (.bool false)) w18))∧True)))∧True)))∧True))))∧True)))∧True))))))
theorem jDE {w:World} {R:RW} (hden:sh3 w R):Calls prog 3 #[] w R:=
 aB (q0 .z (q0 (q0 .z (.cond (q0 .z .z) .z)) (q0 .z (q0 (q0 .z (.block none (.loop [(2,(.i .i64))] (q0 (q0 .z (.cond .z .z)) (q0 (.block none (q0 .z (q0 .z (.cond (q0 .z .z) .z)))) .z))))) (q0 .z (q0 (q0 .z (.block none (.loop [(4,.sl),(5,(.i .i64))] (q0 (q0 .z (.cond .z .z)) (q0 (.block none .z) .z))))) (q0 .z (q0 (.draw 1 (.take 0 (.take 1 (.all [(2,(.all [(3,(.take 4 (.take 5 (.take 6 (.take 8 (.all [(7,(.all [(9,(.all [(10,(.take 11 (.take 12 .done)))]))])),(9,(.all [(7,(.all [(10,(.take 11 (.take 12 .done)))]))]))]))))))]))])))) .z)))))))) func3 (by kernel_rfl) [] (by kernel_rfl) (by kernel_rfl) hden
end Go.Proofs.YtahjmeegfkfokaaGreatDoor
end
section
namespace Go.Proofs.YtahjmeegfkfokaaGreatDoor
open Go Go.Sh Go.MapKept
open Go.Proofs.Tryz
theorem qGI {s s':Nat→List UInt8} {k:Nat} (h : ∀ i,i<k→s i=s' i):sX s k=sX s' k:=by
 unfold sX
 apply List.map_congr_left
 intro i hi
 simp only [sw,h i (List.mem_range.1 hi)]
theorem jCB (k:Nat):Int.tdiv (k:Int) 8=((k / 8:Nat):Int):=rfl
theorem qZJ (k:Nat):Int.tmod (k:Int) 8=((k % 8:Nat):Int):=rfl
def lwc (m:Nat):List (Int×Int):=(List.range m).map fun j=>((j+1:Nat),2)
section
variable {w:World}
theorem vO (hg:iJ w):Calls prog 3 #[] w (Ret fun v w'=>v = .bool true∧Mod NoB w w'):=by
 refine jDE ?_
 unfold sh3
 obtain ⟨ir,hr1,hr2,hr3,hr4⟩:=pC
 obtain ⟨id,hd1,hd2,hd3,hd4⟩:=vN
 refine aC (qIR hg) ?_
 rintro v w1 ⟨rfl,hm1⟩
 refine ⟨_,rfl,aE (fun h=>by cases h) fun _=>?_⟩
 refine aC qIH ?_
 rintro v w2 ⟨p,ts0,Bs0,rfl,hp2,hF2,hpW,hpB,hpl,hm2⟩
 refine ⟨_,rfl,?_⟩
 have hlo : ∀ z,isG z→z<w1.heap.size:=fun z hz=>(hg.sha.no hm1).lt hz
 have hup : ∀ {w'},Mod (fun z=>z=p) w2 w'→Mod NoB w w':=fun hm=>(hm1.tr hm2).fresh hm fun z e=>by
  have e:z=p:=e
  have:=hm1.size; omega
 refine ⟨fun l' w'=>match l' with | [.i _ x]=>∃ (k:Nat) (s:Nat→List UInt8) (ts:Nat→Tr) (Ls:Nat→Lv) (Bs:Nat→Nat→Prop),x=(k:Int)∧k≤17∧(∀ i,i<k→(s i).length=64)∧ShAt w' p ts Ls Bs w1.heap.size∧Holds Ls (sX s (min k 16))∧bW Ls k∧Mod (fun z=>z=p) w2 w' | _=>False,fun l' _=>match l' with | [.i _ x]=>(17 - x).toNat | _=>0,
  ⟨0,fun _=>[],ts0,fun _=>[],Bs0,rfl,by omega,(fun i h=>by omega),⟨hp2,hF2,hpl,hpW,hpB⟩,holds_none,oW,Mod.refl _ _⟩,?_⟩
 rintro x w3 ⟨k,s,ts,Ls,Bs,rfl,hk,hs,hS3,hH3,hO3,hm3⟩
 have hm03:=hup hm3
 refine aE (fun h=>?_) fun h=>?_
 ·have hk17:k<17:=by have:=of_decide_eq_true h; omega
  refine ⟨by decide,by decide,?_⟩
  rw [jCB,qZJ,wrap_i64 (e:=(1:Int)+((k % 8:Nat):Int)) (by omega),wrap_i64 (e:=((k / 8:Nat):Int)) (by omega),wrap_i64 (e:=(1:Int)+((k / 8:Nat):Int)) (by omega)]
  refine aC (nQ (key:=[107]) (cl:=1+((k % 8:Nat):Int)) (sq:=1+((k / 8:Nat):Int)) (ctx:=⟨none,0,0⟩) (cx:=[]) (hg.no hm03) (tC _ _) (by simp) (by simp) (by simp) (rY (s:=fun _=>[]) hk17)) ?_
  rintro v w4 ⟨h',sg,rfl,H4,lsg,nsg,hm4⟩
  refine ⟨h'.a,h'.b,h'.c,h'.d,h'.e,h'.f,h'.g,rfl,?_⟩
  let s':Nat→List UInt8:=fun i=>if i=k then sg else s i
  have hs' : ∀ i,i<k+1→(s' i).length=64:=fun i hi=>by
   show (if i=k then sg else s i).length=64
   split
   ·exact lsg
   ·exact hs i (by omega)
  have er:(⟨[107],1+((k % 8:Nat):Int),1+((k / 8:Nat):Int),[],false,[],sg⟩:Rc)=sw s' k:=by
   show _=(⟨_,_,_,_,_,_,if k=k then sg else s k⟩:Rc)
   rw [if_pos rfl]
  rw [er] at H4
  have esX : ∀ m,m≤k→sX s m=sX s' m:=fun m hm=>qGI fun i hi=>by
   show s i=if i=k then sg else s i
   rw [if_neg (by omega)]
  refine fI (h1:=h') H4 fun x2 w5 hm5 hR5=>⟨x2,rfl,?_⟩
  have hm35:=hm4.tr hm5
  have hmin:min k 16=k:=by omega
  rw [hmin,esX k (Nat.le_refl _)] at hH3
  refine aC (yH (n:=k) (hg.no (hm03.tr hm35)).sha hlo (hS3.no hm35) hO3 (by simp; omega) hR5) ?_
  have hget : ∀ {w6:World} {ts':Nat→Tr} {Ls':Nat→Lv} {Bs':Nat→Nat→Prop} {m:Nat} {pan:List PanicEntry→World→Prop} {K:Value→World→Prop},ShAt w6 p ts' Ls' Bs' w1.heap.size→bW Ls' (k+1)→Holds Ls' (sX s' m)→m≤16→m≤k+1→Mod (fun z=>z=p) w2 w6→(∀ (x:Slc) w7,x.len=m→Mod (fun z=>z=p) w2 w7→ShAt w7 p ts' Ls' Bs' w1.heap.size→K (.slice x.a x.len x.cap) w7)→
   aD prog 11 [.pointer (some ⟨p,0,none⟩),.string ⟨([107]:List UInt8).toArray⟩] w6 pan K:=fun hS hO hH hm hmk hmm hK=>
   aC (xY (hg.no (hup hmm)).sha hS hO (by omega) (by simp)) fun v w' ⟨x,hv,hx,hm'⟩=>by
    subst hv
    refine hK x w' ?_ (hmm.no' hm') (hS.no hm')
    rw [← hx.len]
    exact qGX (by omega) (fun i hi=>hs' i (by omega)) hH
  rintro v w6 ⟨e,rfl,⟨rfl,ts',Ls',Bs',hPu,hS6,_,hO6,hm6⟩ | ⟨he,j,hj,L1,L2,hPu,hTk,hm6⟩⟩
  ·have hst:=sH hO3 (by omega) (by omega) hs' hH3 (wE hPu)
   have hk16:k<16:=by
    rcases Nat.lt_or_ge k 16 with h | h
    ·exact h
    ·have:=hst.2 (by omega); cases this
   have hm26:Mod (fun z=>z=p) w2 w6:=(hm3.no' hm35).tr hm6
   refine ⟨0,rfl,aE (fun _=>?_) fun h=>by have:=of_decide_eq_false h; omega⟩
   refine aE (fun h=>by cases h) fun _=>aE (fun h=>by have:(k:Int)=16:=by simpa using h
                                                      omega) fun _=>?_
   refine hget hS6 hO6 (hst.1 hk16).2 (by omega) (by omega) hm26 fun x w7 hx hm27 hS7=>⟨x,rfl,?_⟩
   rw [aT (by omega),if_neg (by omega),hx]
   refine aE (fun h=>by simp at h) fun _=>⟨⟨k+1,s',ts',Ls',Bs',rfl,by omega,hs',hS7,?_,hO6,hm27⟩,by (try simp only []); omega⟩
   rw [show min (k+1) 16=k+1 by omega]; exact (hst.1 hk16).2
  ·have hj0:j=0:=by simp at hj; omega
   subst hj0
   rw [mT hPu] at hTk
   have hst:=sH hO3 (by omega) (by omega) hs' hH3 hTk
   have hk16:k=16:=by
    rcases Nat.lt_or_ge k 16 with h | h
    ·exact absurd (hst.1 h).1 he
    ·omega
   have e8:=hst.2 hk16
   subst e8
   have hm26:Mod (fun z=>z=p) w2 w6:=(hm3.no' hm35).no' hm6
   refine ⟨8,rfl,aE (fun h=>by have:=of_decide_eq_true h; omega) fun _=>aE (fun _=>?_) fun h=>?_⟩
   ·refine aE (fun h=>by cases h) fun _=>?_
    refine hget (m:=k) ((hS3.no hm35).no hm6) (hO3.le (by omega)) hH3 (by omega) (by omega) hm26 fun x w7 hx hm27 hS7=>⟨x,rfl,?_⟩
    rw [aT (by omega),if_pos (by omega),hx]
    refine aE (fun h=>by subst hk16; simp at h) fun _=>⟨⟨k+1,s',ts,Ls,Bs,rfl,by omega,hs',hS7,?_,hO3.le (by omega),hm27⟩,by (try simp only []); omega⟩
    rw [show min (k+1) 16=k by omega]; exact hH3
   ·exfalso
    subst hk16; simp at h
 ·have hk17:k=17:=by have:=of_decide_eq_false h; omega
  subst hk17
  rw [show min 17 16=16 by rfl] at hH3
  have hs16 : ∀ i,i<16→(s i).length=64:=fun i hi=>hs i (by omega)
  refine ⟨fun l' w'=>match l' with | [.sl o,.i _ x]=>∃ m:Nat,x=((m+1:Nat):Int)∧m≤8∧Sh.Own w' o 2 (dts (lwc m))∧FB w3 o∧Mod NoB w3 w' | _=>False,fun l' _=>match l' with | [.sl _,.i _ x]=>(9 - x).toNat | _=>0,⟨0,rfl,by omega,bS _ _,FB.nil _,Mod.refl _ _⟩,?_⟩
  rintro o x w11 ⟨m,rfl,hm,ho,hfo,hm11⟩
  refine aE (fun h=>?_) fun h=>?_
  ·have hm8:m<8:=by have:=of_decide_eq_true h; omega
   have hol:o.len=m:=by have:=ho.1; simp [lwc] at this; omega
   refine bY [.agg #[.int .i64 ((m+1:Nat):Int),.int .i64 2]] (l:=dts [(((m+1:Nat):Int),2)]) mY hd1 hd2 hd3 (by omega) rfl (by omega) (by omega) rfl (by intro v hv; simp at hv; subst hv; rfl) rfl fun d w12 hN12 hd12=>⟨⟨some ⟨d,0,none⟩,1,1⟩,rfl,?_⟩
   refine bI mY hd1 hd2 hd3 rfl hd4 (ho.no hN12.mod) (aW (n:=1) (k:=2) hd12 (by simp [dts])).rd (by intro u hu; simp [dts] at hu; rcases hu with rfl | rfl <;> rfl) (by rw [hol]; simp only []; omega) (by rw [hol]; simp only []; omega) fun o' w13 ho' hlen hblk hm13=>⟨o',rfl,⟨m+1,?_,by omega,?_,?_,?_⟩,?_⟩
   ·exact wrap_i64 (e:=((m+1:Nat):Int)+1) (by omega)
   ·have:lwc (m+1)=lwc m++[(((m+1:Nat):Int),2)]:=by simp [lwc,List.range_succ]
    rw [this]
    simpa [dts] using ho'
   ·intro z hz
    rcases hblk with h | h
    ·exact hfo z (by rw [← h]; exact hz)
    ·rw [h] at hz; cases hz; exact Nat.le_trans hm11.size hN12.mod.size
   ·exact (hm11.tr hN12.mod).fresh hm13 fun z hz=>hfo z hz
   ·rw [wrap_i64 (e:=((m+1:Nat):Int)+1) (by omega)]; (try simp only []); omega
  ·have hm8:m=8:=by have:=of_decide_eq_false h; omega
   subst hm8
   have hm011:=hm03.tr hm11
   refine aC (nQ (key:=[107]) (cl:=8) (sq:=3) (ctx:=o) (cx:=lwc 8) (hg.no hm011) ho.rd (fun z hz=>ho.lt hz) (by simp) (by simp [lwc]) (by rfl)) ?_
   rintro v w14 ⟨h',sg,rfl,H14,lsg,nsg,hm14⟩
   have H14:dA w14 h' (lw sg):=H14
   refine ⟨h'.a,h'.b,h'.c,h'.d,h'.e,h'.f,h'.g,rfl,?_⟩
   refine aO (l:=Hd.cells ⟨[],0,0,⟨none,0,0⟩,false,⟨none,0,0⟩,⟨none,0,0⟩⟩) hr1 hr2 rfl fun q w15 hN15 hq15=>⟨_,rfl,?_⟩
   have e15:=hN15.at_; have s15:=hN15.size
   refine cS (h:=h') (by kernel_rfl) (by kernel_rfl) hq15 rfl fun w16 ht16 hq16=>?_
   have hm1416:Mod NoB w14 w16:=hN15.mod.fresh ht16.mod fun z e=>by omega
   have hm316:Mod NoB w3 w16:=(hm11.tr hm14).tr hm1416
   have hpw:p<w3.heap.size:=hS3.blk.lt
   have hqp : ¬ q=p:=fun e=>by have:=(hm11.tr hm14).size; omega
   have hm3d:=hm316.tr (Mod.drew NoB w16)
   let S:Nat→Prop:=fun z=>z=p
   have hrq : ∀ w',Mod S w16.drew w'→Rd w' ⟨q,0,none⟩ h'.cells:=fun w' hm=>rdH (hq16.drew.mod hm hqp)
   have Hn : ∀ w',Mod S w16.drew w'→dA w' h' (lw sg):=fun w' hm=>(H14.no (hm1416.tr (Mod.drew NoB w16))).mod hm fun z hz e=>by
    have e:z=p:=e
    have:=nsg z hz
    have h5:=hm11.size
    omega
   refine ⟨Mod S w16.drew,Mod.refl _ _,h'.a,h'.b,h'.c,h'.d,h'.e,h'.f,h'.g,hrq,?_,trivial⟩
   refine fI (h1:=h') (Hn _ (Mod.refl _ _)) fun x10 w17 hm17 hR17=>⟨x10,rfl,hm17.mono (fun _ _ h=>h.elim),?_,trivial⟩
   obtain ⟨la1,la2,la3⟩:=qDQ hs16 lsg
   have lar : ∀ r∈sX s 16++[lw sg],r.right=true:=fun r hr=>(la1 r hr).1
   have hm317:=hm3d.tr hm17
   have hta:eY (dB (sX s 16++[lw sg])):=by rw [dK lar]; exact la2
   have hmx : ∀ rs,fA (bD (sX s 16++[lw sg]) [107]) rs→rs.length≤16:=fun rs hM=>by
    rw [hM.uniq la3 fun r=>Iff.rfl]; simp
   refine aC (yH (n:=17) (hg.no (hm03.tr hm317)).sha hlo (hS3.no hm317) hO3 (by simp) hR17) ?_
   rintro v w18 ⟨e,rfl,⟨rfl,ts',Ls',Bs',hPu,hS18,_,hO18,hm18⟩ | ⟨he,j,hj,L1,L2,hPu,hTk,hm18⟩⟩
   ·have hH18:Holds Ls' (sX s 16++[lw sg]):=(gL hO3 (by omega) hmx (pX lsg) hta hH3 (wE hPu)).2
    have hm1618:Mod S w16.drew w18:=(hm17.mono fun _ _ h=>h.elim:Mod S w16.drew w17).tr hm18
    have hfg:eH Ls' [107]=[lw sg]:=qBG lar la2 hH18 la3
    have hM18:Mod (fun z=>z=p) w2 w18:=(hm3.no' hm3d).tr hm1618
    have hget : ∀ {w1':World} {pan:List PanicEntry→World→Prop} {K:Value→World→Prop},Mod NoB w18 w1'→(∀ (x:Slc) w2',Mod NoB w1' w2'→bV w2'.heap.size w2' x [lw sg]→K (.slice x.a x.len x.cap) w2')→aD prog 11 [.pointer (some ⟨p,0,none⟩),.string ⟨([107]:List UInt8).toArray⟩] w1' pan K:=fun h hK=>
     aC (xY (hg.no ((hup hM18).tr h)).sha (hS18.no h) hO18 (by simp) (by simp)) fun v w' ⟨x,hv,hx,hm⟩=>by
      subst hv
      rw [hfg] at hx
      exact hK x w' hm hx.recs
    have hSx : ∀ {w'},Mod NoB w18 w'→Mod S w16.drew w':=fun h=>hm1618.no' h
    refine ⟨0,rfl,hm1618,aE (fun _=>?_) fun h=>by cases h⟩
    refine ⟨h'.a,h'.b,h'.c,h'.d,h'.e,h'.f,h'.g,hrq,?_,?_,trivial⟩
    ·refine hget (Mod.refl _ _) fun x w19 hm19 hx=>⟨x,rfl,hSx hm19,?_,trivial⟩
     refine fI (h1:=h') (Hn _ (hSx hm19)) fun y w20 hm20 hy=>⟨y,rfl,hSx (hm19.tr hm20),?_,trivial⟩
     refine aC (lU (((hx.mod (hm20.mono fun _ _ h=>h.elim)).le hm20.size).r) hy.r (by simp)) ?_
     rintro v w21 ⟨rfl,hm21⟩
     have h21:=(hm19.tr hm20).tr hm21
     exact ⟨_,rfl,hSx h21,by simp,(hup hM18).tr h21⟩
    ·refine fI (h1:=h') (Hn _ hm1618) fun y w20 hm20 hy=>⟨y,rfl,hSx hm20,?_,trivial⟩
     refine hget hm20 fun x w19 hm19 hx=>⟨x,rfl,hSx (hm20.tr hm19),?_,trivial⟩
     refine aC (lU hx.r (((hy.mod (hm19.mono fun _ _ h=>h.elim)).le hm19.size).r) (by simp)) ?_
     rintro v w21 ⟨rfl,hm21⟩
     have h21:=(hm20.tr hm19).tr hm21
     exact ⟨_,rfl,hSx h21,by simp,(hup hM18).tr h21⟩
   ·exfalso
    have hj0:j=0:=by simp at hj; omega
    subst hj0
    rw [mT hPu] at hTk
    exact he (gL hO3 (by omega) hmx (pX lsg) hta hH3 hTk).1
end
end Go.Proofs.YtahjmeegfkfokaaGreatDoor
end
