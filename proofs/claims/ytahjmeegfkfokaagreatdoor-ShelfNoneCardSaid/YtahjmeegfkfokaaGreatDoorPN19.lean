/- The forms of the translated functions,their contracts and the plain laws behind them,put together by a program. -/
import Derived.Test.YtahjmeegfkfokaaGreatDoorPN18
import Derived.Shelf.SlSortCmp.NoneTotal
import Derived.KernelRfl
import Derived.Test.YtahjmeegfkfokaaGreatDoorProg
set_option linter.unusedSimpArgs false
set_option linter.unusedVariables false
set_option maxRecDepth 100000
set_option maxHeartbeats 4000000
section
namespace Go.Proofs.YtahjmeegfkfokaaGreatDoor
open Go Go.Sh Go.MapKept
open Go.Proofs.Tryz
theorem qDO {α β:Type} {f:α→β} {l1 l2:List β} (h:l1.Perm l2) : ∀ zs:List α,zs.map f=l2→∃ zs':List α,zs'.Perm zs∧zs'.map f=l1:=by
 induction h with
 | nil=>intro zs h; exact ⟨zs,.refl _,h⟩
 | cons x _ ih=>
   intro zs h
   match zs,h with
   | z :: t,h=>
     simp only [List.map_cons,List.cons.injEq] at h
     obtain ⟨t',h1,h2⟩:=ih t h.2
     exact ⟨z :: t',h1.cons z,by simp [h.1,h2]⟩
 | swap x y l=>
   intro zs h
   match zs,h with
   | z1 :: z2 :: t,h=>
     simp only [List.map_cons,List.cons.injEq] at h
     exact ⟨z2 :: z1 :: t,.swap _ _ _,by simp [h.1,h.2.1,h.2.2]⟩
 | trans _ _ ih1 ih2=>
   intro zs h
   obtain ⟨z1,a1,a2⟩:=ih2 zs h
   obtain ⟨z2,b1,b2⟩:=ih1 z1 a2
   exact ⟨z2,b1.trans a1,b2⟩
def gF (Ls:Nat→Lv):Nat→Lv
 | 0=>[]
 | k+1=>gF Ls k++Ls k
theorem vW {Ls:Nat→Lv} {n:Nat} (h:cF Ls n) (k:Nat):(gF Ls k).length≤k*n:=by
 induction k with
 | zero=>simp [gF]
 | succ k ih=>
   have:=h.n k
   rw [gF,List.length_append,Nat.succ_mul]; omega
theorem oW {Ls:Nat→Lv} {k:Nat} {e:List UInt8×List Rc} : e∈gF Ls k↔∃ i,i<k∧e∈Ls i:=by
 induction k with
 | zero=>simp [gF]
 | succ k ih=>
   rw [gF,List.mem_append,ih]
   constructor
   ·rintro (⟨i,h1,h2⟩ | h)
    ·exact ⟨i,by omega,h2⟩
    ·exact ⟨k,by omega,h⟩
   ·rintro ⟨i,h1,h2⟩
    rcases Nat.lt_or_ge i k with h | h
    ·exact .inl ⟨i,h,h2⟩
    ·have:i=k:=by omega
     subst this; exact .inr h2
theorem qHW {Ls:Nat→Lv} {n:Nat} (h:cF Ls n) (k:Nat):(gF Ls k).Pairwise fun a b=>a.1≠b.1:=by
 induction k with
 | zero=>exact List.Pairwise.nil
 | succ k ih=>
   refine List.pairwise_append.2 ⟨ih,(h.so k).imp fun {a b} hab e=>by rw [e] at hab; exact List.lt_irrefl _ hab,fun a ha b hb e=>?_⟩
   obtain ⟨i,hi,ha⟩:=oW.1 ha
   have h1:=h.sh i a ha
   have h2:=h.sh k b hb
   rw [e] at h1; omega
section
variable {w:World}
theorem qU {B:Nat} {o x:Slc} {L M:Lv} {K:Value→World→Prop} (hQ:dD (fun z=>B≤z) w o L) (hX:dD (fun z=>B≤z∧o.blk≠some z) w x M) (hn:L.length≤1000000) (hm:M.length≤1000000) (hB:B≤w.heap.size)
 (hK : ∀ x' w',dD (fun z=>B≤z) w' x' (L++M)→Mod (fun z=>o.blk=some z) w w'→K x'.val w') :
 aI prog (Builtin.append_ #[42,42] 42 #[.slice o.a o.len o.cap,.slice x.a x.len x.cap]) w K:=by
 obtain ⟨il,hl1,hl2,hl3,hl4⟩:=qO
 obtain ⟨es,ho,hob,hel,hes⟩:=hQ
 obtain ⟨fs,hx,hxb,hfl,hfs⟩:=hX
 have hol:=bO bI (by omega) ho.rd
 have hxl:=bO bI (by omega) hx.rd
 refine bJ (s:=o) (x:=x) eF hl1 hl2 hl3 rfl hl4 ho hx.rd (gD fE _) (by omega) (by omega) fun x' w12 ho12 hlen hblk hm12=>hK x' w12 ?_ hm12
 have hx' : ∀ z,x'.blk=some z→o.blk=some z∨z=w.heap.size:=fun z hz=>by
  rcases hblk with e | e
  ·exact .inl (by rw [← e]; exact hz)
  ·rw [e] at hz; cases hz; exact .inr rfl
 have hfr : ∀ {Q:Nat→Prop} {t:Slc} {l:List Rc},fR Q w t l→(∀ z,Q z→B≤z∧o.blk≠some z)→fR (fun z=>B≤z∧x'.blk≠some z) w12 t l:=fun {Q t l} hq hQ=>hq.mod hm12 fun z hz hl=>⟨(hQ z hz).2,(hQ z hz).1,fun e=>by
  rcases hx' z e with h | h
  ·exact (hQ z hz).2 h
  ·omega⟩
 refine ⟨es++fs,by rw [dR]; exact ho12,fun z hz=>?_,by simp [hel,hfl],fun j a d=>?_⟩
 ·rcases hx' z hz with h | h
  ·exact hob z h
  ·omega
 ·rcases Nat.lt_or_ge j es.length with hj | hj
  ·have e1:(es++fs)[j]=es[j]:=List.getElem_append_left hj
   have e2:(L++M)[j]=L[j]'(by omega):=List.getElem_append_left (by omega)
   rw [e1,e2]
   obtain ⟨g1,g2⟩:=hes j hj (by omega)
   exact ⟨g1,hfr g2 fun z hz=>hz⟩
  ·have hl2:j - es.length<fs.length:=by rw [List.length_append] at a; omega
   have e1:(es++fs)[j]=fs[j - es.length]'hl2:=List.getElem_append_right hj
   have e2:(L++M)[j]=M[j - es.length]'(by omega):=by
    rw [List.getElem_append_right (by omega)]
    simp only [hel]
   rw [e1,e2]
   obtain ⟨g1,g2⟩:=hfs (j - es.length) hl2 (by omega)
   exact ⟨g1,hfr g2 fun z hz=>hz.1⟩
theorem xI {v:Slc} (h:v.len=0):Calls prog 34 #[.slice v.a v.len v.cap,.func (.func 35) #[] #[]] w (Ret fun u w'=>u = .tuple #[]∧w'=w):=by
 rw [h]
 refine (AnyF.slices_SortFunc_none Tryz.sortLeaf v.a v.cap (.func (.func 35) #[] #[]) w).mono ?_
 rintro e w' ⟨rfl,rfl⟩
 exact ⟨rfl,rfl⟩
theorem qBT {p:Nat} {ts:Nat→Tr} {Ls:Nat→Lv} {Bs:Nat→Nat→Prop} {lo n:Nat} (hS:ShAt w p ts Ls Bs lo) (hO:cF Ls n) (hn:n≤100000) :
 Calls prog 18 #[.pointer (some ⟨p,0,none⟩)] w (Ret fun v w'=>∃ o L,v=o.val∧dD (fun z=>w.heap.size≤z) w' o L∧eE L∧(∀ e,e∈L↔∃ i,i<4∧e∈Ls i)∧Mod NoB w w'):=by
 refine qFC _ ?_
 unfold qQI
 refine aC (lY hS.blk) ?_
 rintro v w1 ⟨rfl,rfl⟩
 refine ⟨_,rfl,aE (fun h=>by cases h) fun _=>?_⟩
 refine ⟨some ⟨(ts 0).p,0,none⟩,some ⟨(ts 1).p,0,none⟩,some ⟨(ts 2).p,0,none⟩,some ⟨(ts 3).p,0,none⟩,hS.blk.rd fun j v hj=>?_,?_⟩
 ·rw [Nat.zero_add]
  rw [List.getElem?_append_left]
  ·exact hj
  ·rcases Nat.lt_or_ge j (gN ts).length with h | h
   ·exact h
   ·rw [List.getElem?_eq_none (by exact h)] at hj; cases hj
 refine ⟨fun l' w'=>match l' with | [.sl out,.i _ y]=>∃ k:Nat,y=(k:Int)∧k≤4∧dD (fun z=>w1.heap.size≤z) w' out (gF Ls k)∧Mod NoB w1 w' | _=>False,fun l' _=>match l' with | [.sl _,.i _ y]=>(4 - y).toNat | _=>0,⟨0,rfl,by omega,⟨[],bW _ 2,fun z hz=>by simp at hz,rfl,fun i h=>absurd h (by simp)⟩,Mod.refl _ _⟩,?_⟩
 rintro out y w2 ⟨k,rfl,hk,hQ2,hm2⟩
 refine aE (fun h=>?_) fun h=>?_
 ·have hk4:k<4:=by have:=of_decide_eq_true h; omega
  refine ⟨⟨by omega,by show (k:Int)<((4:Nat):Int); omega⟩,by intro z hz; simp at hz; rcases hz with rfl | rfl | rfl | rfl <;> rfl,some ⟨(ts k).p,0,none⟩,?_,?_⟩
  ·rw [Int.toNat_natCast]
   match k,hk4 with
   | 0,_=>rfl
   | 1,_=>rfl
   | 2,_=>rfl
   | 3,_=>rfl
  ·have hLn:=hO.n k
   refine aC (nX ((hS.four.no hm2).tr k hk4) (hO.ok k) (by omega)) ?_
   rintro v w3 ⟨x3,rfl,hQ3,hm3⟩
   refine ⟨x3,rfl,?_⟩
   have hs12:=hm2.size
   have hob : ∀ z,out.blk=some z→z<w2.heap.size:=fun z hz=>by obtain ⟨es,ho,_⟩:=hQ2; exact ho.lt hz
   have hX:dD (fun z=>w1.heap.size≤z∧out.blk≠some z) w3 x3 (Ls k):=hQ3.mod (Mod.refl NoB _) fun z hz _=>⟨fun h=>h,by omega,fun e=>by have:=hob z e; omega⟩
   have hO3:dD (fun z=>w1.heap.size≤z) w3 out (gF Ls k):=hQ2.mod hm3 fun z hz _=>⟨fun h=>h,hz⟩
   have hkn:=vW hO k
   have hk3:k*n≤3*n:=Nat.mul_le_mul_right n (by omega)
   refine qU hO3 hX (by omega) (by omega) (by have:=(hm2.tr hm3).size; omega) fun x' w4 hQ4 hm4=>⟨x',rfl,?_⟩
   rw [wrap_i64 (e:=(k:Int)+1) (by omega)]
   refine ⟨⟨k+1,by omega,by omega,hQ4,(hm2.tr hm3).fresh hm4 fun z hz=>?_⟩,by (try simp only []); omega⟩
   obtain ⟨es,ho,hb,_⟩:=hQ2
   exact hb z hz
 ·have hk4:k=4:=by have:=of_decide_eq_false h; omega
  subst hk4
  obtain ⟨es,ho,hob,hel,hes⟩:=hQ2
  have hol:=bO bI (by omega) ho.rd
  have hkn:=vW hO 4
  rcases Nat.eq_zero_or_pos es.length with h0 | h0
  ·refine aC (xI (v:=out) (by omega)) ?_
   rintro v w3 ⟨rfl,rfl⟩
   have hnil:gF Ls 4=[]:=List.eq_nil_of_length_eq_zero (by omega)
   refine ⟨rfl,out,gF Ls 4,rfl,⟨es,ho,hob,hel,hes⟩,?_,fun e=>oW,hm2⟩
   rw [hnil]; exact List.Pairwise.nil
  ·refine aC (qHA es ho h0 (by omega)) ?_
   rintro v w3 ⟨rfl,ps,hpm,hps,ho3,hm3⟩
   have hzl:(es.zip (gF Ls 4)).map Prod.fst=es:=List.map_fst_zip (by omega)
   obtain ⟨zs,hz1,hz2⟩:=qDO hpm _ hzl
   have hz3:(zs.map Prod.snd).Perm (gF Ls 4):=by
    have:=hz1.map Prod.snd
    rwa [List.map_snd_zip (by omega)] at this
   have hzlen:zs.length=ps.length:=by rw [← hz2,List.length_map]
   have hrel : ∀ z∈zs,z.1.1=z.2.1∧fR (fun y=>w1.heap.size≤y∧out.blk≠some y) w2 z.1.2 z.2.2:=fun z hz=>by
    have hz':=hz1.mem_iff.1 hz
    obtain ⟨i,hi,rfl⟩:=List.getElem_of_mem hz'
    rw [List.getElem_zip]
    rw [List.length_zip] at hi
    exact hes i (by omega) (by omega)
   refine ⟨rfl,out,zs.map Prod.snd,rfl,⟨ps,ho3,hob,by simp [hzlen],fun i a d=>?_⟩,?_,fun e=>?_,hm2.fresh hm3 fun z hz=>hob z hz⟩
   ·have hi:i<zs.length:=by omega
    have e1:ps[i]=zs[i].1:=by simp only [← hz2,List.getElem_map]
    have e2:(zs.map Prod.snd)[i]=zs[i].2:=by simp
    rw [e1,e2]
    obtain ⟨g1,g2⟩:=hrel zs[i] (List.getElem_mem hi)
    exact ⟨g1,g2.mod hm3 fun z hz _=>⟨hz.2,hz⟩⟩
   ·have hne:(zs.map Prod.snd).Pairwise fun a b=>a.1≠b.1:=(hz3.symm.pairwise_iff fun h e=>h e.symm).1 (qHW hO 4)
    refine List.pairwise_iff_getElem.2 fun i j hi hj hij=>?_
    have h1:=List.pairwise_iff_getElem.1 hne i j hi hj hij
    have hi':i<zs.length:=by simpa using hi
    have hj':j<zs.length:=by simpa using hj
    simp only [List.getElem_map] at h1 ⊢
    have h2:=List.pairwise_iff_getElem.1 hps i j (by omega) (by omega) hij
    have e1:ps[i]=zs[i].1:=by simp only [← hz2,List.getElem_map]
    have e2:ps[j]=zs[j].1:=by simp only [← hz2,List.getElem_map]
    rw [e1,e2,(hrel zs[i] (List.getElem_mem hi')).1,(hrel zs[j] (List.getElem_mem hj')).1] at h2
    exact rR h2 (fun e=>h1 e.symm)
   ·rw [hz3.mem_iff]; exact oW
end
end Go.Proofs.YtahjmeegfkfokaaGreatDoor
end
section
namespace Go.Proofs.YtahjmeegfkfokaaGreatDoor
open Go Go.Sh
open Go.Proofs.Tryz
theorem qET {L L':Lv} {key:List UInt8} {rs:List Rc} (hs:eE L) (h:xE L key rs L'):kX L' key=rs∧∀ k,k≠key→kX L' k=kX L k:=by
 refine ⟨iN h.pw ((h.mem _).2 (.inl rfl)),fun k hk=>?_⟩
 rcases Classical.em (∃ s,(k,s)∈L) with ⟨s,hm⟩ | hn
 ·rw [iN hs hm,iN h.pw ((h.mem _).2 (.inr ⟨hk,hm⟩))]
 ·have h1 : ∀ e∈L,e.1≠k:=fun e he e'=>hn ⟨e.2,by rw [← e']; exact he⟩
  rw [nE h1,nE fun e he e'=>?_]
  rcases (h.mem e).1 he with rfl | ⟨_,he⟩
  ·exact hk e'.symm
  ·exact h1 e he e'
def Holds (Ls:Nat→Lv) (X:List Rc):Prop:=∀ key,bT (bF X key) (d7 Ls key)
theorem holds_none:Holds (fun _=>[]) []:=fun key=>⟨[],⟨List.Pairwise.nil,fun r=>by simp [bF]⟩,rfl⟩
theorem pG {Ls:Nat→Lv} {X:List Rc} (ht:fD (dA X)) (hH:Holds Ls X) (key:List UInt8):fT (bF X key) (d7 Ls key):=
 (jB (kU ht key) gW fI).1 (hH key)
theorem j6 {X:List Rc} {r:Rc} (hr:r.right=true):dA (X++[r])=dA X++[r]:=by simp [dA,hr]
theorem dS {X:List Rc} {r x:Rc} {key:List UInt8} (hr:r.right=true):x∈bF (X++[r]) key↔x∈bF X key∨(x=r∧r.key=key):=by
 simp only [dX,j6 hr,List.mem_append,List.mem_singleton]
 constructor
 ·rintro ⟨h | rfl,h2⟩
  ·exact .inl ⟨h,h2⟩
  ·exact .inr ⟨rfl,h2⟩
 ·rintro (⟨h,h2⟩ | ⟨rfl,h2⟩)
  ·exact ⟨.inl h,h2⟩
  ·exact ⟨.inr rfl,h2⟩
section
variable {Ls Ls':Nat→Lv} {X:List Rc} {r:Rc}
theorem qI2 (hr:r.right=true) (ht:fD (dA (X++[r]))) (hH:Holds Ls X) : ∀ x∈d7 Ls r.key++[r],x∈bF (X++[r]) r.key:=fun x hx=>by
 have ht0:fD (dA X):=ht.sub fun y hy=>by rw [j6 hr]; exact List.mem_append_left _ hy
 rw [dS hr]
 rcases List.mem_append.1 hx with h | h
 ·exact .inl (((pG ht0 hH r.key).mem x).1 h).1
 ·exact .inr ⟨by simpa using h,rfl⟩
theorem vT (hr:r.right=true) (ht:fD (dA (X++[r]))) (hH:Holds Ls X) {rs:List Rc} (hJ:bT (d7 Ls r.key++[r]) rs):fT (bF (X++[r]) r.key) rs:=by
 have ht0:fD (dA X):=ht.sub fun y hy=>by rw [j6 hr]; exact List.mem_append_left _ hy
 have hF:=pG ht0 hH r.key
 have hin:=qI2 hr ht hH
 have htk:=kU ht r.key
 have hM:=(jB (htk.sub hin) (fun a ha b hb=>gW a (hin a ha) b (hin b hb)) fun a ha=>fI a (hin a ha)).1 hJ
 refine ⟨hM.pw,fun x=>?_⟩
 rw [hM.mem]
 constructor
 ·rintro ⟨h1,h2⟩
  refine ⟨hin x h1,fun y hy=>?_⟩
  cases e:y.over x with
  | false=>rfl
  | true=>
    rcases (dS hr).1 hy with h3 | ⟨rfl,_⟩
    ·obtain ⟨z,z1,z2,z3⟩:=(kU ht0 r.key).max' h3
     have hz:z∈d7 Ls r.key:=(hF.mem z).2 ⟨z1,z3⟩
     have hzx:z.over x=true:=by
      rcases z2 with rfl | z2
      ·exact e
      ·exact htk.trans z ((dS hr).2 (.inl z1)) y hy x (hin x h1) z2 e
     have:=h2 z (List.mem_append_left _ hz)
     rw [hzx] at this; cases this
    ·have:=h2 y (List.mem_append_right _ (List.mem_singleton.2 rfl))
     rw [e] at this; cases this
 ·rintro ⟨h1,h2⟩
  refine ⟨?_,fun y hy=>h2 y (hin y hy)⟩
  rcases (dS hr).1 h1 with h3 | ⟨rfl,_⟩
  ·exact List.mem_append_left _ ((hF.mem x).2 ⟨h3,fun y hy=>h2 y ((dS hr).2 (.inl hy))⟩)
  ·exact List.mem_append_right _ (List.mem_singleton.2 rfl)
theorem yD (hr:r.right=true) (ht:fD (dA (X++[r]))) (hH:Holds Ls X) {rs:List Rc} (hJ:bT (d7 Ls r.key++[r]) rs):rs≠[]:=by
 have hM:=vT hr ht hH hJ
 obtain ⟨z,z1,z2,z3⟩:=(kU ht r.key).max' ((dS hr).2 (.inr ⟨rfl,rfl⟩))
 intro e
 have:=(hM.mem z).2 ⟨z1,z3⟩
 rw [e] at this; cases this
theorem qHX {B Y rs:List Rc} {k:List UInt8} (hB:B.length≤16) (hY : ∀ x∈Y,x∈B) (hM:fT (bF Y k) rs):rs.length≤16:=
 Nat.le_trans (xG iW hM.pw fun x hx=>hY x (List.mem_filter.1 ((hM.mem x).1 hx).1).1) hB
theorem qE {n:Nat} {e:Int} (hO:cF Ls n) (hn:n≤255) (hX : ∀ rs,fT (bF (X++[r]) r.key) rs→rs.length≤16) (hr:r.right=true) (ht:fD (dA (X++[r]))) (hH:Holds Ls X) (hT:qB Ls r e Ls'):e=0∧Holds Ls' (X++[r]):=by
 rcases hT with ⟨h,_,_⟩ | ⟨_,rs,hJ,hc⟩
 ·rw [hr] at h; cases h
 have hM:=vT hr ht hH hJ
 have hlen:=hX rs hM
 rcases hc with ⟨hf,_,_⟩ | ⟨_,he,hP,_,hel⟩
 ·rcases hf with h | h
  ·omega
  ·have:=hO.n (tOf r.key); omega
 ·refine ⟨he,fun key=>?_⟩
  have hg:=qET (hO.so _) hP
  rcases Classical.em (key=r.key) with e | e
  ·subst e
   have:d7 Ls' r.key=rs:=hg.1
   rw [this]
   exact (jB (kU ht r.key) gW fI).2 hM
  ·have e1:d7 Ls' key=d7 Ls key:=by
    unfold d7
    rcases Classical.em (tOf key=tOf r.key) with h | h
    ·rw [h]; exact hg.2 key e
    ·rw [hel _ h]
   have e2:bF (X++[r]) key=bF X key:=by
    have : ¬ r.key=key:=fun h=>e h.symm
    simp [bF,List.filter_append,this]
   rw [e1,e2]; exact hH key
end
theorem qFI {Ls Ls':Nat→Lv} (h:nI Ls [] Ls'):Ls'=Ls:=by
 generalize hl:([]:List Rc)=l at h
 cases h with
 | nil=>rfl
 | snoc _ _=>simp at hl
theorem qAR {Ls Ls':Nat→Lv} {X:List Rc} {r:Rc} (h:nI Ls (X++[r]) Ls') : ∃ L1,nI Ls X L1∧qB L1 r 0 Ls':=by
 generalize hl:X++[r]=l at h
 cases h with
 | nil=>simp at hl
 | snoc h1 h2=>
   obtain ⟨rfl,h3⟩:=List.append_inj' hl rfl
   obtain rfl:r=_:=by simpa using h3
   exact ⟨_,h1,h2⟩
theorem sQ {Ls:Nat→Lv} {n:Nat} {l:List Rc} {L:Lv} (hO:cF Ls n) (hH:Holds Ls (dA l)) (hs:eE L) (hm : ∀ e,e∈L↔∃ i,i<4∧e∈Ls i):uO l L:=by
 have e0 : ∀ k,bF (dA l) k=bF l k:=fun k=>by
  simp only [bF,dA,List.filter_filter]
  apply List.filter_congr
  intro x _
  cases x.right <;> simp
 refine ⟨hs,fun k s=>?_⟩
 have hJ:=hH k
 rw [e0] at hJ
 rw [hm]
 constructor
 ·rintro ⟨i,hi,he⟩
  have h1:tOf k=i:=hO.sh i (k,s) he
  have h2:d7 Ls k=s:=by
   unfold d7
   rw [h1]; exact iN (hO.so i) he
  have h3:0<s.length:=(hO.ok i (k,s) he).2.2.1
  rw [h2] at hJ
  exact ⟨List.length_pos_iff.1 h3,hJ⟩
 ·rintro ⟨h1,h2⟩
  have h3:d7 Ls k=s:=hJ.uniq h2 fun _=>Iff.rfl
  refine ⟨tOf k,sW k,?_⟩
  have e:kX (Ls (tOf k)) k=s:=h3
  have:=vC (L:=Ls (tOf k)) (key:=k) (by rw [e]; exact h1)
  rw [e] at this; exact this
end Go.Proofs.YtahjmeegfkfokaaGreatDoor
end
section
namespace Go.Sh
def exA (s:List UInt8):Rc:=⟨[107],1,1,[],false,[],s⟩
theorem qSN {s:List UInt8} (h:s.length=64):(exA s).right=true:=by simp only [Rc.right,exA,h]; rfl
end Go.Sh
end
section
namespace Go.Proofs.YtahjmeegfkfokaaGreatDoor
open Go Go.Sh
open Go.Proofs.Tryz
theorem fF {X:List Rc} (h : ∀ r∈X,r.right=true):dA X=X:=List.filter_eq_self.2 h
section
variable {Ls:Nat→Lv} {X rs:List Rc} {n:Nat}
theorem mD (hO:cF Ls n) (hn:n+rs.length≤255) (hH:Holds Ls X) (hr : ∀ r∈rs,r.right=true) (ht:fD (dA (X++rs))) (h16 : ∀ Y k out,(∀ y∈Y,y∈X++rs)→fT (bF Y k) out→out.length≤16) :
 ∀ k,k≤rs.length→∀ L1,nI Ls (rs.take k) L1→Holds L1 (X++rs.take k)∧cF L1 (n+k)
 | 0,_,L1,hP=>by
   have hP:nI Ls [] L1:=hP
   rw [qFI hP]
   exact ⟨by simpa using hH,hO⟩
 | k+1,hk,L1,hP=>by
   have e1:rs.take (k+1)=rs.take k++[rs[k]]:=aV hk
   rw [e1] at hP
   obtain ⟨L0,h0,hT⟩:=qAR hP
   obtain ⟨hH0,hO0⟩:=mD hO hn hH hr ht h16 k (by omega) L0 h0
   have hsub : ∀ y∈X++rs.take k++[rs[k]],y∈X++rs:=fun y hy=>by
    rw [List.append_assoc,← e1] at hy
    rcases List.mem_append.1 hy with h | h
    ·exact List.mem_append_left _ h
    ·exact List.mem_append_right _ (List.mem_of_mem_take h)
   have hrk:=hr rs[k] (List.getElem_mem _)
   have htk:fD (dA (X++rs.take k++[rs[k]])):=ht.sub fun y hy=>List.mem_filter.2 ⟨hsub y (List.mem_filter.1 hy).1,(List.mem_filter.1 hy).2⟩
   have h1:=qE hO0 (by omega) (fun out hM=>h16 _ _ _ hsub hM) hrk htk hH0 hT
   rw [e1,← List.append_assoc]
   exact ⟨h1.2,tK hO0 hT fun _ out hJ=>yD hrk htk hH0 hJ⟩
theorem qB9 (hO:cF Ls n) (hn:n+rs.length≤255) (hH:Holds Ls X) (hr : ∀ r∈rs,r.right=true) (ht:fD (dA (X++rs))) (h16 : ∀ Y k out,(∀ y∈Y,y∈X++rs)→fT (bF Y k) out→out.length≤16):Full Ls rs:=fun k h L1 hP hrk out hJ=>by
 obtain ⟨hH0,hO0⟩:=mD hO hn hH hr ht h16 k (by omega) L1 hP
 refine yD hrk (ht.sub fun y hy=>?_) hH0 hJ
 obtain ⟨h1,h2⟩:=List.mem_filter.1 hy
 refine List.mem_filter.2 ⟨?_,h2⟩
 rw [List.append_assoc,← aV h] at h1
 rcases List.mem_append.1 h1 with h | h
 ·exact List.mem_append_left _ h
 ·exact List.mem_append_right _ (List.mem_of_mem_take h)
theorem qNT (hO:cF Ls n) (hn:n+rs.length≤255) (hH:Holds Ls X) (hr : ∀ r∈rs,r.right=true) (ht:fD (dA (X++rs))) (h16 : ∀ Y k out,(∀ y∈Y,y∈X++rs)→fT (bF Y k) out→out.length≤16) {k:Nat} (h:k<rs.length) {L1 L2:Nat→Lv} {e:Int} (hP:nI Ls (rs.take k) L1) (hT:qB L1 rs[k] e L2):e=0:=by
 obtain ⟨hH0,hO0⟩:=mD hO hn hH hr ht h16 k (by omega) L1 hP
 have hsub : ∀ y∈X++rs.take k++[rs[k]],y∈X++rs:=fun y hy=>by
  rw [List.append_assoc,← aV h] at hy
  rcases List.mem_append.1 hy with h | h
  ·exact List.mem_append_left _ h
  ·exact List.mem_append_right _ (List.mem_of_mem_take h)
 exact (qE hO0 (by omega) (fun out hM=>h16 _ _ _ hsub hM) (hr _ (List.getElem_mem _)) (ht.sub fun y hy=>List.mem_filter.2 ⟨hsub y (List.mem_filter.1 hy).1,(List.mem_filter.1 hy).2⟩) hH0 hT).1
end
section
variable {X:List Rc} {r:Rc} {k:List UInt8}
theorem qCM (h0 : ∀ x∈X,∀ y,x.over y=false) (hd : ∀ a∈X++[r],∀ b∈X++[r],a.cl=b.cl→a.sq=b.sq→a=b) (hs:r.over r=false):fD (X++[r]):=by
 have hr : ∀ a∈X++[r],∀ y,a.over y=true→a=r:=fun a ha y e=>by
  rcases List.mem_append.1 ha with h | h
  ·rw [h0 a h y] at e; cases e
  ·simpa using h
 refine ⟨fun a ha b hb _=>hd a ha b hb,fun a ha b hb e=>?_,fun a ha b hb c hc e e'=>?_⟩
 ·cases e':b.over a with
  | false=>rfl
  | true=>
    have h1:=hr a ha b e
    have h2:=hr b hb a e'
    subst h1; subst h2
    rw [hs] at e; cases e
 ·have h1:=hr a ha b e
  have h2:=hr b hb c e'
  subst h1; subst h2
  exact e'
theorem qIT (hk : ∀ x∈X++[r],x.right=true∧x.key=k) (ho : ∀ x∈X,r.over x=true) (h0 : ∀ x∈X,∀ y,x.over y=false) (hs:r.over r=false):fT (bF (X++[r]) k) [r]:=by
 have hm : ∀ x,x∈bF (X++[r]) k↔x∈X++[r]:=fun x=>by
  rw [dX,fF fun x hx=>(hk x hx).1]
  exact ⟨fun h=>h.1,fun h=>⟨h,(hk x h).2⟩⟩
 refine ⟨List.pairwise_singleton _ _,fun x=>?_⟩
 simp only [hm]
 constructor
 ·intro h
  have h:x=r:=by simpa using h
  subst h
  refine ⟨by simp,fun y hy=>?_⟩
  rcases List.mem_append.1 hy with h | h
  ·exact h0 y h x
  ·have:y=x:=by simpa using h
   subst this; exact hs
 ·rintro ⟨h1,h2⟩
  rcases List.mem_append.1 h1 with h | h
  ·have:=h2 r (by simp)
   rw [ho x h] at this; cases this
  ·exact h
end
theorem qHL {Ls:Nat→Lv} {Y:List Rc} {k:List UInt8} {out:List Rc} (hr : ∀ r∈Y,r.right=true) (ht:fD Y) (hH:Holds Ls Y) (hM:fT (bF Y k) out):d7 Ls k=out:=
 (pG (by rw [fF hr]; exact ht) hH k).uniq hM fun r=>Iff.rfl
def exD (s:List UInt8):Rc:=⟨[107],2,1,[(1,1)],false,[],s⟩
theorem qUI {s:List UInt8} (h:s.length=64):(exD s).right=true:=by simp only [Rc.right,exD,h]; rfl
theorem zN {sa sb:List UInt8} (ha:sa.length=64) (hb:sb.length=64):(∀ x∈[exA sa]++[exD sb],x.right=true∧x.key=[107])∧fD ([exA sa]++[exD sb])∧fT (bF ([exA sa]++[exD sb]) [107]) [exD sb]:=by
 have h1 : ∀ x∈[exA sa]++[exD sb],x.right=true∧x.key=[107]:=fun x hx=>by
  have hx:x=exA sa∨x=exD sb:=by simpa using hx
  rcases hx with rfl | rfl
  ·exact ⟨qSN ha,rfl⟩
  ·exact ⟨qUI hb,rfl⟩
 have h2 : ∀ x∈[exA sa],∀ y,x.over y=false:=fun x hx y=>by
  have:x=exA sa:=by simpa using hx
  subst this; simp [Rc.over,exA,kH]
 refine ⟨h1,qCM h2 (fun a ha b hb e1 e2=>?_) rfl,qIT h1 (fun x hx=>?_) h2 rfl⟩
 ·have ha:a=exA sa∨a=exD sb:=by simpa using ha
  have hb:b=exA sa∨b=exD sb:=by simpa using hb
  rcases ha with rfl | rfl <;> rcases hb with rfl | rfl <;> first | rfl | exact absurd e1 (by simp [exA,exD])
 ·have:x=exA sa:=by simpa using hx
  subst this; rfl
theorem qIR {sa sb:List UInt8} (ha:sa.length=64) (hb:sb.length=64) {Ls:Nat→Lv} {n:Nat} {L:Lv} (hO:cF Ls n) (hH:Holds Ls ([exA sa]++[exD sb])) (hs:eE L) (hm : ∀ e,e∈L↔∃ i,i<4∧e∈Ls i):L.length=1:=by
 obtain ⟨g1,g2,g3⟩:=zN ha hb
 have hr : ∀ r∈[exA sa]++[exD sb],r.right=true:=fun r hr=>(g1 r hr).1
 have hL:uO ([exA sa]++[exD sb]) L:=sQ hO (by rw [fF hr]; exact hH) hs hm
 have hj:bT (bF ([exA sa]++[exD sb]) [107]) [exD sb]:=(jB (kU (by rw [fF hr]; exact g2) _) gW fI).2 g3
 have h1:([107],[exD sb])∈L:=(hL.mem _ _).2 ⟨by simp,hj⟩
 have h2 : ∀ e∈L,e=([107],[exD sb]):=fun e he=>by
  obtain ⟨k,s⟩:=e
  obtain ⟨q1,q2⟩:=(hL.mem k s).1 he
  rcases Classical.em (k=[107]) with rfl | hk
  ·rw [q2.uniq hj fun r=>Iff.rfl]
  ·exfalso
   have e0:bF ([exA sa]++[exD sb]) k=[]:=List.eq_nil_iff_forall_not_mem.2 fun r hr'=>hk (by
    obtain ⟨a,b⟩:=dX.1 hr'
    rw [← b,(g1 r (by rw [fF hr] at a; exact a)).2])
   rw [e0] at q2
   exact q1 (List.eq_nil_iff_forall_not_mem.2 fun r hr'=>by have:=jJ q2 r hr'; cases this)
 match L,h1,h2,hs with
 | [a],_,_,_=>rfl
 | a :: b :: L,_,h2,hs=>
   have e1:=h2 a (by simp)
   have e2:=h2 b (by simp)
   have:=(List.pairwise_cons.1 hs).1 b (by simp)
   rw [e1,e2] at this
   exact absurd this (List.lt_irrefl _)
end Go.Proofs.YtahjmeegfkfokaaGreatDoor
end
section
namespace Go.Proofs.YtahjmeegfkfokaaGreatDoor
open Go Go.Sh Go.MapKept
open Go.Proofs.Tryz
section
variable {w:World}
theorem qHV {p:Nat} {ts:Nat→Tr} {Ls:Nat→Lv} {Bs:Nat→Nat→Prop} {lo n:Nat} {s:Slc} {X rs:List Rc} (hg:dL w) (hlo : ∀ z,isG z→z<lo) (hS:ShAt w p ts Ls Bs lo) (hO:cF Ls n) (hn:n+rs.length≤255) (hR:bV w.heap.size w s rs)
 (hH:Holds Ls X) (hr : ∀ r∈rs,r.right=true) (ht:fD (dA (X++rs))) (h16 : ∀ Y k out,(∀ y∈Y,y∈X++rs)→fT (bF Y k) out→out.length≤16) :
 Calls prog 9 #[.pointer (some ⟨p,0,none⟩),.slice s.a s.len s.cap] w (Ret fun v w'=>v = .int .i64 0∧∃ ts' Ls' Bs',Holds Ls' (X++rs)∧ShAt w' p ts' Ls' Bs' lo∧cF Ls' (n+rs.length)∧(∀ i,i<4→∀ z,((ts' i).W z∨Bs' i z)→w.heap.size≤z)∧Mod (fun z=>z=p) w w'):=by
 refine Calls.mono (qN6 hg hlo hS hO (by omega) hR (qB9 hO hn hH hr ht h16)) fun e w' h=>?_
 cases e with
 | returned v=>
   obtain ⟨e,rfl,⟨rfl,ts',Ls',Bs',hP,hS',hz,hO',hm⟩ | ⟨he,k,hk,L1,L2,hP,hT,hm⟩⟩:=h
   ·refine ⟨rfl,ts',Ls',Bs',?_,hS',hO',hz,hm⟩
    have:=(mD hO hn hH hr ht h16 rs.length (Nat.le_refl _) Ls' (by rw [List.take_length]; exact hP)).1
    rwa [List.take_length] at this
   ·exact absurd (qNT hO hn hH hr ht h16 hk hP hT) he
 | _=>exact h.elim
theorem qPV {p:Nat} {ts:Nat→Tr} {Ls:Nat→Lv} {Bs:Nat→Nat→Prop} {lo n:Nat} {key:List UInt8} (hg:dL w) (hS:ShAt w p ts Ls Bs lo) (hO:cF Ls n) (hn:n≤100000) (hk:key.length≤100000000) :
 Calls prog 11 #[.pointer (some ⟨p,0,none⟩),.string ⟨key.toArray⟩] w (Ret fun v w'=>∃ x:Slc,v=x.val∧gT w.heap.size w' x (d7 Ls key)∧Mod NoB w w'):=by
 refine qDY _ _ ?_
 unfold qNV
 refine aC (lY hS.blk) ?_
 rintro v w1 ⟨rfl,rfl⟩
 refine ⟨_,rfl,aE (fun h=>by cases h) fun _=>?_⟩
 refine aC (qMQ (c:=p) (l:=[.bool true]) hg hS.blk hk) ?_
 rintro v w2 ⟨rfl,hm2⟩
 refine ⟨_,rfl,?_⟩
 have h4:=sW key
 refine aC (qB8 (key:=key) ((hS.four.no hm2).tr _ h4) (hO.so _) (hO.ok _) (by have:=hO.n (tOf key); omega)) ?_
 rintro v w3 ⟨x,rfl,hN,hm3⟩
 exact ⟨x,rfl,x,rfl,hN.le hm2.size,hm2.tr hm3⟩
theorem xT {p:Nat} {ts:Nat→Tr} {Ls:Nat→Lv} {Bs:Nat→Nat→Prop} {lo n:Nat} {k:Int} (hS:ShAt w p ts Ls Bs lo) (hO:cF Ls n) (hn:n≤100000) :
 Calls prog 21 #[.pointer (some ⟨p,0,none⟩),.int .i64 k] w (Ret fun v w'=>∃ x:Option Addr,v = .pointer x∧x.isSome=decide (0≤k∧k≤3)∧Mod NoB w w'):=by
 refine qCQ _ _ ?_
 unfold qQY
 refine ⟨fun l' w'=>match l' with | [.b t]=>t = !decide (0≤k∧k≤3)∧w'=w | _=>False,?_,?_⟩
 ·refine aC (lY hS.blk) ?_
  rintro v w1 ⟨rfl,rfl⟩
  refine ⟨_,rfl,aE (fun h=>by cases h) fun _=>aE (fun h=>⟨?_,rfl⟩) fun h=>⟨?_,rfl⟩⟩
  ·have:=of_decide_eq_true h
   rw [decide_eq_false (by omega)]; rfl
  ·have:=of_decide_eq_false h
   by_cases h4:k≥4
   ·rw [decide_eq_true h4,decide_eq_false (by omega)]; rfl
   ·rw [decide_eq_false h4,decide_eq_true (by omega)]; rfl
 rintro t w1 ⟨rfl,rfl⟩
 refine aE (fun h=>?_) fun h=>?_
 ·have h:decide (0≤k∧k≤3)=false:=by rwa [Bool.not_eq_true'] at h
  exact ⟨none,rfl,by rw [h]; rfl,Mod.refl _ _⟩
 ·have h:decide (0≤k∧k≤3)=true:=by rwa [Bool.not_eq_false'] at h
  have h':=of_decide_eq_true h
  obtain ⟨m,rfl⟩ : ∃ m:Nat,k=m:=⟨k.toNat,by omega⟩
  have hm4:m<4:=by omega
  refine ⟨⟨by omega,by omega⟩,some ⟨(ts m).p,0,none⟩,?_,?_⟩
  ·rw [aL,aL]
   refine hS.blk.rd1 ?_
   rw [show 0+0+(m:Int).toNat*1=m by omega,List.getElem?_append_left (by show m<4; exact hm4)]
   exact sC ts hm4
  refine aC (xR (hS.four.tr m hm4) ⟨by omega,by omega⟩ (hO.ok m) (by have:=hO.n m; omega)) ?_
  rintro v w2 ⟨t',B',rfl,_,_,_,hm2⟩
  exact ⟨_,rfl,_,rfl,by rw [h]; rfl,hm2⟩
def xN (w:World) (x:Option Addr):Prop:=x=none∨∃ p T,x=some ⟨p,0,none⟩∧Blk w p [.pointer none,.pointer none,.pointer none,.pointer none,.bool false] T
theorem iV {x:Option Addr} (h:xN w x):Calls prog 24 #[.pointer x] w (Ret fun v w'=>v = .bool false∧w'=w):=by
 refine qEA _ ?_
 unfold qOR
 rcases h with rfl | ⟨p,T,rfl,hb⟩
 ·exact dP (e:=51) (by kernel_rfl) ⟨_,rfl,aE (fun h=>by cases h) fun _=>⟨rfl,rfl⟩⟩
 ·refine dP (e:=51) (by kernel_rfl) ⟨_,rfl,aE (fun _=>?_) fun h=>by cases h⟩
  exact ⟨false,by rw [aL]; exact hb.rd1 rfl,rfl,rfl⟩
theorem qIL {x:Option Addr} {s:Slc} (h:xN w x):Calls prog 9 #[.pointer x,.slice s.a s.len s.cap] w (Ret fun v w'=>v = .int .i64 1∧w'=w):=by
 refine qK9 _ _ ?_
 unfold sh9
 refine aC (iV h) ?_
 rintro v w1 ⟨rfl,rfl⟩
 exact ⟨_,rfl,aE (fun _=>⟨rfl,rfl⟩) fun h=>by cases h⟩
theorem qHT {x:Option Addr} {key:List UInt8} (h:xN w x):Calls prog 11 #[.pointer x,.string ⟨key.toArray⟩] w (Ret fun v w'=>v = .slice none 0 0∧w'=w):=by
 refine qDY _ _ ?_
 unfold qNV
 refine aC (iV h) ?_
 rintro v w1 ⟨rfl,rfl⟩
 exact ⟨_,rfl,aE (fun _=>⟨rfl,rfl⟩) fun h=>by cases h⟩
theorem wJ {x:Option Addr} (h:xN w x):Calls prog 18 #[.pointer x] w (Ret fun v w'=>v = .slice none 0 0∧w'=w):=by
 refine qFC _ ?_
 unfold qQI
 refine aC (iV h) ?_
 rintro v w1 ⟨rfl,rfl⟩
 exact ⟨_,rfl,aE (fun _=>⟨rfl,rfl⟩) fun h=>by cases h⟩
theorem qEH {x:Option Addr} (h:xN w x):Calls prog 22 #[.pointer x] w (Ret fun v w'=>v = .pointer none∧w'=w):=by
 refine qPI _ ?_
 unfold qT2
 refine aC (iV h) ?_
 rintro v w1 ⟨rfl,rfl⟩
 exact ⟨_,rfl,aE (fun _=>⟨rfl,rfl⟩) fun h=>by cases h⟩
theorem qCG {x:Option Addr} {k:Int} (h:xN w x):Calls prog 21 #[.pointer x,.int .i64 k] w (Ret fun v w'=>v = .pointer none∧w'=w):=by
 refine qCQ _ _ ?_
 unfold qQY
 refine ⟨fun l' w'=>match l' with | [.b t]=>t=true∧w'=w | _=>False,?_,?_⟩
 ·refine aC (iV h) ?_
  rintro v w1 ⟨rfl,rfl⟩
  exact ⟨_,rfl,aE (fun _=>⟨rfl,rfl⟩) fun h=>by cases h⟩
 ·rintro t w1 ⟨rfl,rfl⟩
  exact aE (fun _=>⟨rfl,rfl⟩) fun h=>by cases h
end
end Go.Proofs.YtahjmeegfkfokaaGreatDoor
end
section
namespace Go.Proofs.YtahjmeegfkfokaaGreatDoor
open Go Go.Sh
open Go.Proofs.Tryz
section
variable {w:World}
theorem qQG {seed:Slc} {sl:List UInt8} {h:Hd} {r:Rc} (hg:iC w) (hs:aK w seed 1 (bys sl)) (hsl : ∀ z,seed.blk=some z→z<w.heap.size) (hl:sl.length=32) (H:dH w h r) (hsh:r.shaped=true) :
 Calls prog 27 #[.slice seed.a seed.len seed.cap,h.val] w (Ret fun v w'=>∃ (h':Hd) (sg:List UInt8),v = .tuple #[h'.val,.int .i64 0]∧dH w' h' {r with sig:=sg}∧sg.length=64∧yH w h'∧Mod NoB w w'):=by
 refine qPE _ h.a h.b h.c h.d h.e h.f h.g ?_
 unfold qRR
 obtain ⟨ir,hr1,hr2,hr3,hr4⟩:=pT
 obtain ⟨iw,hw1,hw2,hw3,hw4⟩:=qCL
 obtain ⟨sm1,sm2,sm3,sm4⟩:=H.sm
 refine aT (l:=h.cells) rfl fun p w1 hN hb=>⟨_,rfl,?_⟩
 refine aO (l:=Hd.cells ⟨[],0,0,⟨none,0,0⟩,false,⟨none,0,0⟩,⟨none,0,0⟩⟩) hr1 hr2 rfl fun x w2 hN2 hb2=>⟨_,rfl,?_⟩
 refine ⟨h.a,h.b,h.c,h.d,h.e,h.f,h.g,rdH (hb.no hN2.mod),?_⟩
 refine aO (l:=Hd.cells ⟨[],0,0,⟨none,0,0⟩,false,⟨none,0,0⟩,⟨none,0,0⟩⟩) hw1 hw2 rfl fun q w3 hN3 hb3=>⟨_,rfl,?_⟩
 refine cX (h:=h) (by kernel_rfl) (by kernel_rfl) hb3 rfl fun w4 ht4 hq4=>?_
 have e1:=hN.at_; have e2:=hN2.at_; have e3:=hN3.at_; have e4:=hN.size; have e5:=hN2.size; have e6:=hN3.size
 have hM4:Mod NoB w w4:=((hN.mod.tr hN2.mod).tr hN3.mod).fresh ht4.mod fun z e=>by omega
 have hp4:=(hb.no (hN2.mod.tr hN3.mod)).mod ht4.mod (by omega)
 have hx4:=(hb2.no hN3.mod).mod ht4.mod (by omega)
 refine aC (qD1 (hg.no hM4) (hs.no hM4) (fun z hz=>Nat.lt_of_lt_of_le (hsl z hz) hM4.size) hl) ?_
 rintro v w5 ⟨b,lb,rfl,hlb,hbb,hsb,hm5⟩
 refine ⟨⟨some ⟨b,0,none⟩,32,32⟩,rfl,?_⟩
 refine gJ (e:=5) u26 ⟨_,rfl,aE (fun h=>by simp at h) fun _=>?_⟩
 have hM5:=hM4.tr hm5
 refine ⟨h.a,h.b,h.c,h.d,h.e,h.f,h.g,rdH (hq4.no hm5),?_⟩
 refine aC (jT (h:=h) (H.no hM5)) ?_
 rintro u w7 ⟨rfl,hm7⟩
 rw [hsh]
 refine ⟨_,rfl,aE (fun h=>by cases h) fun _=>?_⟩
 have hm47:=hm5.tr hm7
 have hM7:=hM4.tr hm47
 refine ⟨h.a,h.b,h.c,h.d,h.e,h.f,h.g,rdH (hp4.no hm47),?_⟩
 refine aC (qSY (h:=h) (H.no hM7)) ?_
 rintro u w9 ⟨h',rfl,H',hn',hm9⟩
 refine ⟨h'.a,h'.b,h'.c,h'.d,h'.e,h'.f,h'.g,rfl,?_⟩
 have hm49:=hm47.tr hm9
 have hM9:=hM4.tr hm49
 have s4:w4.heap.size=w3.heap.size:=ht4.size
 have s7:=hm47.size
 refine cX (h:=h') (by kernel_rfl) (by kernel_rfl) (hp4.no hm49) rfl fun w10 ht10 hp10=>?_
 have hM10:Mod NoB w w10:=hM9.fresh ht10.mod fun z e=>by omega
 have H10:dH w10 h' r:=H'.mod ht10.mod fun z hz e=>by have:=hn' z hz; omega
 have hq10:=(hq4.no hm49).mod ht10.mod (by omega)
 have hx10:=(hx4.no hm49).mod ht10.mod (by omega)
 refine ⟨h.a,h.b,h.c,h.d,h.e,h.f,h.g,rdH hq10,?_⟩
 refine iA (zE (h:=h) (H.no hM10)) fun tx w11 hot hft hm11=>?_
 refine kC (wb:=w11) [tx] [r.text] rfl rfl (by omega) (by omega) (Mod.refl _ _) rfl (qNG hot.rd fun z hz=>hot.lt hz) fun ty w12 hR hm12 _=>⟨ty,rfl,?_⟩
 have hm1012:=hm11.tr hm12
 have hM12:=hM10.tr hm1012
 obtain ⟨ss,o1,f1,l1,c1⟩:=hR
 refine uZ (qQE (hg.no hM12) (hs.no hM12) (fun z hz=>Nat.lt_of_lt_of_le (hsl z hz) hM12.size) hl o1.rd (fun z hz=>o1.lt hz) l1 (fun i a b=>⟨(c1 i a b).1,fun z hz=>((c1 i a b).2 z hz).1⟩) (by have:=pS (r:=r); simp; omega) (by simp)) fun sg lg w13 hog hlg hfg hm13=>?_
 have hm1013:=hm1012.tr hm13
 have hM13:=hM10.tr hm1013
 refine dQ (i:=6) (by kernel_rfl) (by kernel_rfl) rfl (hp10.no hm1013) (by rw [Hd.len]; omega) fun w14 ht14 hp14=>?_
 have hp14':Blk w14 p (Hd.cells ⟨h'.a,h'.b,h'.c,h'.d,h'.e,h'.f,sg⟩) 30:=hp14
 refine ⟨h'.a,h'.b,h'.c,h'.d,h'.e,h'.f,sg,rdH hp14',?_⟩
 refine cX (h:=⟨h'.a,h'.b,h'.c,h'.d,h'.e,h'.f,sg⟩) (by kernel_rfl) (by kernel_rfl) ((hx10.no hm1013).mod ht14.mod (by omega)) rfl fun w15 ht15 hx15=>?_
 refine ⟨h'.a,h'.b,h'.c,h'.d,h'.e,h'.f,sg,rdH hx15,?_⟩
 have hm1315:Mod (fun z=>z=p∨z=x) w13 w15:=(ht14.mod.mono fun _ _ e=>.inl e).tr (ht15.mod.mono fun _ _ e=>.inr e)
 have hnew : ∀ z,h'.d.blk=some z∨h'.f.blk=some z∨h'.g.blk=some z→w7.heap.size≤z:=hn'
 have hsg : ∀ z,sg.blk=some z→w12.heap.size≤z:=hfg
 have s12:=hm1012.size; have s10:w10.heap.size=w9.heap.size:=ht10.size; have s9:=hm49.size
 have H13:=H10.no hm1013
 refine ⟨⟨h'.a,h'.b,h'.c,h'.d,h'.e,h'.f,sg⟩,lg,rfl,⟨H'.key,H'.cl,H'.sq,H'.gone,H13.ctx.mod hm1315 fun z hz e=>?_,H13.val.mod hm1315 fun z hz e=>?_,hog.rd.mod hm1315 fun z hz e=>?_,⟨sm1,sm2,sm3,by show lg.length≤1000000; omega⟩,?_⟩,hlg,?_,hM13.fresh hm1315 fun z e=>?_⟩
 ·have:=hnew z (.inl hz); omega
 ·have:=hnew z (.inr (.inl hz)); omega
 ·have:=hsg z hz; omega
 ·rintro z (hz | hz | hz)
  ·exact Nat.lt_of_lt_of_le (H13.lt z (.inl hz)) hm1315.size
  ·exact Nat.lt_of_lt_of_le (H13.lt z (.inr (.inl hz))) hm1315.size
  ·exact Nat.lt_of_lt_of_le (hog.lt hz) hm1315.size
 ·have s7':=hM7.size
  rintro z (hz | hz | hz)
  ·exact Nat.le_trans s7' (hnew z (.inl hz))
  ·exact Nat.le_trans s7' (hnew z (.inr (.inl hz)))
  ·have:=hsg z hz; have:=hM12.size; omega
 ·omega
end
def sh7 (w:World) (R:RW):Prop:=
 aD prog 8 [] w (aF R) fun v w1=>∃ x:Option Addr,v=(.pointer x)∧aD prog 10 [.string ⟨([107]).toArray⟩,.int .i64 (1:Int),.int .i64 (1:Int),.slice none 0 0] w1 (aF R) fun v1 w2=>∃ xa:List UInt8,∃ xb xc:Int,∃ xd:Slc,∃ xe:Bool,∃ xf xg:Slc,v1=(zR xa xb xc xd xe xf xg)∧aI prog (Instr.alloc 30 true (.tuple #[])) w2 fun v2 w3=>∃ a:Option Addr,v2=(.pointer a)∧aA a fun a1=>aJ prog (storeVar 30 a1 (zR xa xb xc xd xe xf xg)) w3 fun w4=>aI prog (Instr.buildSlice 27 1 #[(0,(.agg #[.int .i64 (1:Int),.int .i64 (1:Int)]))]) w4 fun v3 w5=>∃ x1:Slc,v3=(zS x1)∧aD prog 10 [.string ⟨([107]).toArray⟩,.int .i64 (2:Int),.int .i64 (1:Int),zS x1] w5 (aF R) fun v4 w6=>∃ xa1:List UInt8,∃ xb1 xc1:Int,∃ xd1:Slc,∃ xe1:Bool,∃ xf1 xg1:Slc,v4=(zR xa1 xb1 xc1 xd1 xe1 xf1 xg1)∧aI prog (Instr.alloc 30 true (.tuple #[])) w6 fun v5 w7=>∃ b:Option Addr,v5=(.pointer b)∧aA b fun a2=>aJ prog (storeVar 30 a2 (zR xa1 xb1 xc1 xd1 xe1 xf1 xg1)) w7 fun w8=>aA a fun a3=>∃ xa2:List UInt8,∃ xb2 xc2:Int,∃ xd2:Slc,∃ xe2:Bool,∃ xf2 xg2:Slc,Rd w8 a3 (yR xa2 xb2 xc2 xd2 xe2 xf2 xg2)∧aA b fun a4=>∃ xa3:List UInt8,∃ xb3 xc3:Int,∃ xd3:Slc,∃ xe3:Bool,∃ xf3 xg3:Slc,Rd w8 a4 (yR xa3 xb3 xc3 xd3 xe3 xf3 xg3)∧aI prog (Instr.buildSlice 32 2 #[(0,(zR xa2 xb2 xc2 xd2 xe2 xf2 xg2)),(1,(zR xa3 xb3 xc3 xd3 xe3 xf3 xg3))]) w8 fun v6 w9=>∃ x2:Slc,v6=(zS x2)∧aD prog 9 [.pointer x,zS x2] w9 (aF R) fun v7 w10=>∃ x3:Int,v7=(.int .i64 x3)∧∃ sx:World→Prop,sx w10.drew∧aH (x3==(0:Int)) (aA b fun a5=>∃ xa4:List UInt8,∃ xb4 xc4:Int,∃ xd4:Slc,∃ xe4:Bool,∃ xf4 xg4:Slc,(∀ w',sx w'→Rd w' a5 (yR xa4 xb4 xc4 xd4 xe4 xf4 xg4))∧((aD prog 11 [.pointer x,.string ⟨([107]).toArray⟩] w10.drew (aF R) fun v8 w11=>∃ x4:Slc,v8=(zS x4)∧(sx w11∧((aI prog (Instr.buildSlice 32 1 #[(0,(zR xa4 xb4 xc4 xd4 xe4 xf4 xg4))]) w11 fun v9 w12=>∃ x5:Slc,v9=(zS x5)∧((aD prog 12 [zS x4,zS x5] w12 (aF R) fun v10 w13=>∃ x6:Bool,v10=(.bool x6)∧(sx w13∧aH x6 (((aD prog 18 [.pointer x] w13 (aF R) fun v11 w14=>∃ x7:Slc,v11=(zS x7)∧(sx w14∧aH ((x7.len:Int)==(1:Int)) (((aD prog 21 [.pointer x,.int .i64 (4:Int)] w14 (aF R) fun v12 w15=>∃ x8:Option Addr,v12=(.pointer x8)∧(sx w15∧aP prog (do eqGuard .eql 47 (.tmp 32) (.const (.pointer none)) (.pointer x8) (.pointer none); binOp .eql 47 (.pointer x8) (.pointer none)) fun v13=>∃ x9:Bool,v13=(.bool x9)∧R (.returned (.bool x9)) w15))∧True)) ((((sx w14∧R (.returned (.bool false)) w14))∧True))))∧True)) ((((sx w13∧(((sx w13∧R (.returned (.bool false)) w13))∧True)))∧True))))∧True))∧True)))∧(aI prog (Instr.buildSlice 32 1 #[(0,(zR xa4 xb4 xc4 xd4 xe4 xf4 xg4))]) w10.drew fun v14 w16=>∃ x10:Slc,v14=(zS x10)∧((aD prog 11 [.pointer x,.string ⟨([107]).toArray⟩] w16 (aF R) fun v15 w17=>∃ x11:Slc,v15=(zS x11)∧(sx w17∧((aD prog 12 [zS x11,zS x10] w17 (aF R) fun v16 w18=>∃ x12:Bool,v16=(.bool x12)∧(sx w18∧aH x12 (((aD prog 18 [.pointer x] w18 (aF R) fun v17 w19=>∃ x13:Slc,v17=(zS x13)∧(sx w19∧aH ((x13.len:Int)==(1:Int)) (((aD prog 21 [.pointer x,.int .i64 (4:Int)] w19 (aF R) fun v18 w20=>∃ x14:Option Addr,v18=(.pointer x14)∧(sx w20∧aP prog (do eqGuard .eql 47 (.tmp 32) (.const (.pointer none)) (.pointer x14) (.pointer none); binOp .eql 47 (.pointer x14) (.pointer none)) fun v19=>∃ x15:Bool,v19=(.bool x15)∧R (.returned (.bool x15)) w20))∧True)) ((((sx w19∧R (.returned (.bool false)) w19))∧True))))∧True)) ((((sx w18∧(((sx w18∧R (.returned (.bool false)) w18))∧True)))∧True))))∧True)))∧True))∧True)) ((((sx w10.drew∧(((((sx w10.drew∧(((sx w10.drew∧(((sx w10.drew∧R (.returned (.bool false)) w10.drew))∧True)))∧True)))∧True))∧True)))∧((((sx w10.drew∧(((sx w10.drew∧(((sx w10.drew∧(((sx w10.drew∧R (.returned (.bool false)) w10.drew))∧True)))∧True)))∧True)))∧True))∧True))
theorem qU2 {w:World} {R:RW} (hden:sh7 w R):Calls prog 7 #[] w R:=
 aB (q0 .z (q0 .z (q0 .z (q0 .z (q0 .z (q0 (.draw 1 (.take 0 (.take 1 (.take 2 (.take 3 (.take 5 (.all [(4,(.all [(6,(.all [(7,(.take 8 (.take 9 (.take 10 (.all [(11,(.take 12 (.take 13 (.take 14 (.take 15 (.take 16 (.all [(17,(.take 18 (.take 19 (.take 20 .done))))])))))))])))))]))])),(6,(.all [(4,(.all [(7,(.take 8 (.take 9 (.take 10 (.all [(11,(.take 12 (.take 13 (.take 14 (.take 15 (.take 16 (.all [(17,(.take 18 (.take 19 (.take 20 .done))))])))))))])))))]))]))]))))))) .z)))))) func7 (by kernel_rfl) [] (by kernel_rfl) (by kernel_rfl) hden
def qUC (l:Slc) (w:World) (R:RW):Prop:=
 ∃ (inv:List TV→World→Prop) (mu:List TV→World→Nat),inv [.i .i64 (0:Int)] w∧(∀ i:Int,∀ w1:World,inv [.i .i64 i] w1→∃ j:List TV→World→Prop,(aH (decide (i<(l.len:Int))) (j [.b (decide (i<(15:Int)))] w1) (j [.b false] w1))∧(∀ x:Bool,∀ w2:World,j [.b x] w2→aH x (((0≤i∧i<(l.len:Nat))∧aA l.a fun a=>∃ x1:List UInt8,Rd w2 ((a.add (i.toNat*7)).add 0) [.string ⟨x1.toArray⟩]∧aH (decide ((x1.length:Int) > (200:Int))) (R (.returned (.bool false)) w2) (((0≤i∧i<(l.len:Nat))∧aA l.a fun a1=>∃ x2:Slc,Rd w2 ((a1.add (i.toNat*7)).add 5) [zS x2]∧aH (decide ((x2.len:Int) > (2000:Int))) (R (.returned (.bool false)) w2) (((0≤i∧i<(l.len:Nat))∧aA l.a fun a2=>∃ x3:Slc,Rd w2 ((a2.add (i.toNat*7)).add 3) [zS x3]∧aH (decide ((x3.len:Int) > (50:Int))) (R (.returned (.bool false)) w2) (((0≤i∧i<(l.len:Nat))∧aA l.a fun a3=>∃ x4:Slc,Rd w2 ((a3.add (i.toNat*7)).add 6) [zS x4]∧aH (decide ((x4.len:Int) > (200:Int))) (R (.returned (.bool false)) w2) ((inv [.i .i64 (IntKind.i64.wrap (i+(1:Int)))] w2∧mu [.i .i64 (IntKind.i64.wrap (i+(1:Int)))] w2<mu [.i .i64 i] w1)))))))))) (R (.returned (.bool (decide ((l.len:Int)≤(14:Int))))) w2)))
theorem qQM (l:Slc) {w:World} {R:RW} (hden:qUC l w R):Calls prog 13 #[zS l] w R:=
 aB (q0 .z (q0 (q0 .z (.block none (.loop [(3,(.i .i64))] (q0 (.seq (some [(11,.b)]) .z (.cond .z .z)) (q0 (.block none (q0 .z (.cond (q0 .z .z) .z))) .z))))) (q0 .z .z))) func13 (by kernel_rfl) [.sl l] (by kernel_rfl) (by kernel_rfl) hden
def qSB (key:List UInt8) (client seq:Int) (context:Slc) (w:World) (R:RW):Prop:=
 aI prog (Instr.alloc 30 true (.tuple #[])) w fun v w1=>∃ x:Option Addr,v=(.pointer x)∧aD prog 28 [.int .i64 client] w1 (aF R) fun v1 w2=>∃ x1:Slc,v1=(zS x1)∧aD prog 27 [zS x1,.agg #[.string ⟨key.toArray⟩,.int .i64 client,.int .i64 seq,zS context,.bool false,.slice none 0 0,.slice none 0 0]] w2 (aF R) fun v2 w3=>∃ xaa:List UInt8,∃ xab xac:Int,∃ xad:Slc,∃ xae:Bool,∃ xaf xag:Slc,∃ xb:Int,v2=(.tuple #[zR xaa xab xac xad xae xaf xag,.int .i64 xb])∧aI prog (Instr.alloc 30 true (.tuple #[])) w3 fun v3 w4=>∃ r:Option Addr,v3=(.pointer r)∧aA r fun a=>aJ prog (storeVar 30 a (zR xaa xab xac xad xae xaf xag)) w4 fun w5=>aA r fun a1=>∃ xa:List UInt8,∃ xb1 xc:Int,∃ xd:Slc,∃ xe:Bool,∃ xf xg:Slc,Rd w5 a1 (yR xa xb1 xc xd xe xf xg)∧aA x fun a2=>aJ prog (storeVar 30 a2 (zR xa xb1 xc xd xe xf xg)) w5 fun w6=>aA x fun a3=>∃ xa1:List UInt8,∃ xb2 xc1:Int,∃ xd1:Slc,∃ xe1:Bool,∃ xf1 xg1:Slc,Rd w6 a3 (yR xa1 xb2 xc1 xd1 xe1 xf1 xg1)∧R (.returned (zR xa1 xb2 xc1 xd1 xe1 xf1 xg1)) w6
theorem qQF (key:List UInt8) (client seq:Int) (context:Slc) {w:World} {R:RW} (hden:qSB key client seq context w R):Calls prog 10 #[.string ⟨key.toArray⟩,.int .i64 client,.int .i64 seq,zS context] w R:=
 aB (q0 .z (q0 .z (q0 .z .z))) func10 (by kernel_rfl) [.s key,.i .i64 client,.i .i64 seq,.sl context] (by kernel_rfl) (by kernel_rfl) hden
def qUQ (client:Int) (w:World) (R:RW):Prop:=
 aI prog (Instr.makeSlice 28 (.int .i64 (32:Int)) (.int .i64 (32:Int))) w fun v w1=>∃ x:Slc,v=(zS x)∧∃ (inv:List TV→World→Prop) (mu:List TV→World→Nat),inv [.i .i64 (0:Int)] w1∧(∀ i:Int,∀ w2:World,inv [.i .i64 i] w2→aH (decide (i<(32:Int))) (((0≤i∧i<(x.len:Nat))∧aA x.a fun a=>aJ prog (storeVar 5 (a.add (i.toNat*1)) (.int .u8 ((oO (IntKind.i64.wrap ((IntKind.i64.wrap (client*(7:Int)))+i)))).toNat)) w2 fun w3=>(inv [.i .i64 (IntKind.i64.wrap (i+(1:Int)))] w3∧mu [.i .i64 (IntKind.i64.wrap (i+(1:Int)))] w3<mu [.i .i64 i] w2))) (R (.returned (zS x)) w2))
theorem qOD (client:Int) {w:World} {R:RW} (hden:qUQ client w R):Calls prog 28 #[.int .i64 client] w R:=
 aB (q0 .z (q0 .z (q0 (q0 .z (.block none (.loop [(4,(.i .i64))] (q0 (q0 .z (.cond .z .z)) (q0 (.block none .z) .z))))) (q0 .z .z)))) func28 (by kernel_rfl) [.i .i64 client] (by kernel_rfl) (by kernel_rfl) hden
end Go.Proofs.YtahjmeegfkfokaaGreatDoor
end
section
namespace Go.Proofs.YtahjmeegfkfokaaGreatDoor
open Go Go.Sh Go.MapKept
open Go.Proofs.Tryz
section
variable {w:World}
theorem qRB {client:Int} : Calls prog 28 #[.int .i64 client] w (Ret (RN 32 w)):=by
 refine qOD _ ?_
 unfold qUQ
 obtain ⟨i5',h51,h52,h53,h54⟩:=i5
 refine cB (l:=32) (c:=32) u26 h51 h52 h53 rfl h54 rfl rfl (by omega) (by omega) (by omega) fun e w1 hN1 hb1 ho1=>⟨⟨some ⟨e,0,none⟩,32,32⟩,rfl,?_⟩
 rw [jH] at ho1
 have hat:=hN1.at_
 refine ⟨fun l' w'=>match l' with | [.i _ x]=>∃ (k:Nat) (l:List UInt8),x=k∧l.length=32∧Sh.Own w' ⟨some ⟨e,0,none⟩,32,32⟩ 1 (bys l)∧Mod NoB w w' | _=>False,fun l' _=>match l' with | [.i _ x]=>(32 - x).toNat | _=>0,
  ⟨0,List.replicate 32 0,rfl,by simp,ho1,hN1.mod⟩,?_⟩
 rintro x w2 ⟨k,l,rfl,hl,ho2,hm2⟩
 refine aE (fun hlt=>?_) fun hge=>?_
 ·have hk:k<32:=by have:=of_decide_eq_true hlt; omega
  refine ⟨⟨by omega,by show (k:Int)<((32:Nat):Int); omega⟩,?_⟩
  simp only [Int.toNat_natCast]
  refine iX (by kernel_rfl) (by kernel_rfl) rfl ho2 rfl hk fun w3 ho3 hm3 hs3=>⟨⟨k+1,_,aS (by omega),?_,by rw [fG] at ho3; exact ho3,hm2.fresh hm3 fun z hz=>?_⟩,?_⟩
  ·simp [hl]
  ·rw [Slc.blk_mk,if_neg (by omega)] at hz; cases hz; omega
  ·rw [aS (by omega)]; (try simp only []); omega
 ·exact ⟨⟨some ⟨e,0,none⟩,32,32⟩,l,rfl,ho2,hl,FB.new (by omega),hm2⟩
theorem u7 {key:List UInt8} {cl sq:Int} {ctx:Slc} {cx:List (Int×Int)} (hg:iC w) (hc:aK w ctx 2 (dts cx)) (hcl : ∀ z,ctx.blk=some z→z<w.heap.size)
 (hk:key.length≤1000000) (hcx:cx.length≤1000000) (hsh:Rc.shaped ⟨key,cl,sq,cx,false,[],[]⟩=true) :
 Calls prog 10 #[.string ⟨key.toArray⟩,.int .i64 cl,.int .i64 sq,.slice ctx.a ctx.len ctx.cap] w (Ret fun v w'=>∃ (h':Hd) (sg:List UInt8),v=h'.val∧dH w' h' ⟨key,cl,sq,cx,false,[],sg⟩∧sg.length=64∧yH w h'∧Mod NoB w w'):=by
 refine qQF _ _ _ _ ?_
 unfold qSB
 obtain ⟨ir,hr1,hr2,hr3,hr4⟩:=pT
 refine aO (l:=Hd.cells ⟨[],0,0,⟨none,0,0⟩,false,⟨none,0,0⟩,⟨none,0,0⟩⟩) hr1 hr2 rfl fun x w1 hN1 hb1=>⟨_,rfl,?_⟩
 refine uZ qRB fun s l w2 hos hl hfs hm2=>?_
 have hM2:=hN1.mod.tr hm2
 have H:dH w2 ⟨key,cl,sq,ctx,false,⟨none,0,0⟩,⟨none,0,0⟩⟩ ⟨key,cl,sq,cx,false,[],[]⟩:=
  ⟨rfl,rfl,rfl,rfl,hc.no hM2,sT _ _,sT _ _,⟨hk,hcx,by simp,by simp⟩,fun z hz=>by
   rcases hz with hz | hz | hz
   ·exact Nat.lt_of_lt_of_le (hcl z hz) hM2.size
   ·simp at hz
   ·simp at hz⟩
 refine aC (qQG (h:=⟨key,cl,sq,ctx,false,⟨none,0,0⟩,⟨none,0,0⟩⟩) (hg.no hM2) hos.rd (fun z hz=>hos.lt hz) hl H hsh) ?_
 rintro v w3 ⟨h',sg,rfl,H',hsg,hnew,hm3⟩
 refine ⟨h'.a,h'.b,h'.c,h'.d,h'.e,h'.f,h'.g,0,rfl,?_⟩
 refine aO (l:=Hd.cells ⟨[],0,0,⟨none,0,0⟩,false,⟨none,0,0⟩,⟨none,0,0⟩⟩) hr1 hr2 rfl fun r w4 hN4 hb4=>⟨_,rfl,?_⟩
 have hM3:=hM2.tr hm3
 have s1:=hN1.size; have a1:=hN1.at_; have a4:=hN4.at_; have s3:=hM3.size; have s23:=(hm2.tr hm3).size; have s4:=hN4.size
 refine cX (h:=h') (by kernel_rfl) (by kernel_rfl) hb4 rfl fun w5 ht5 hb5=>?_
 have hm5:Mod NoB w3 w5:=hN4.mod.fresh ht5.mod fun z e=>by omega
 refine ⟨h'.a,h'.b,h'.c,h'.d,h'.e,h'.f,h'.g,rdH hb5,?_⟩
 have hx5:=(hb1.no (hm2.tr (hm3.tr hm5)))
 refine cX (h:=h') (by kernel_rfl) (by kernel_rfl) hx5 rfl fun w6 ht6 hb6=>?_
 refine ⟨h'.a,h'.b,h'.c,h'.d,h'.e,h'.f,h'.g,rdH hb6,h',sg,rfl,(H'.no hm5).mod ht6.mod fun z hz e=>?_,hsg,fun z hz=>?_,(hM3.tr hm5).fresh ht6.mod fun z e=>by omega⟩
 ·have:=hnew z hz; have:=hM2.size; have:=hm2.size; omega
 ·have:=hnew z hz; have:=hM2.size; omega
end
def lim (r:Rc):Prop:=r.key.length≤200∧r.val.length≤2000∧r.ctx.length≤50∧r.sig.length≤200
def qQ6 (l:List Rc):Prop:=l.length≤16∧∀ r∈l,lim r
theorem tF {w:World} {a:Addr} {vs:List Value} {j:Nat} {v:Value} (h:Rd w a vs) (hj:vs[j]? = some v):Rd w (a.add j) [v]:=kV.2 (h j v hj)
theorem qFK {w:World} {s:Slc} {ls:List Rc} (hl:jW w s ls) (hn:s.len≤9000000000000000000) :
 Calls prog 13 #[.slice s.a s.len s.cap] w (Ret fun v w'=>∃ b,v = .bool b∧(b=true→qQ6 ls)∧w'=w):=by
 refine qQM _ ?_
 unfold qUC
 have hlen:=hl.len
 obtain ⟨hs,g1,g2,g3,g4⟩:=hl
 refine ⟨fun l' w'=>match l' with | [.i _ x]=>∃ k:Nat,x=k∧k≤15∧k≤ls.length∧(∀ r∈ls.take k,lim r)∧w'=w | _=>False,fun l' _=>match l' with | [.i _ x]=>(15 - x).toNat | _=>0,⟨0,rfl,by omega,by omega,by simp,rfl⟩,?_⟩
 rintro x w1 ⟨k,rfl,hk,hkl,hk2,rfl⟩
 refine ⟨fun l' w'=>match l' with | [.b t]=>t=decide (k<ls.length∧k<15)∧w'=w1 | _=>False,aE (fun h=>⟨?_,rfl⟩) (fun h=>⟨?_,rfl⟩),?_⟩
 ·have:=of_decide_eq_true h
  exact decide_eq_decide.2 ⟨fun _=>⟨by omega,by omega⟩,fun _=>by omega⟩
 ·have:=of_decide_eq_false h
  exact (decide_eq_false (by omega)).symm
 ·rintro x w2 ⟨rfl,rfl⟩
  refine aE (fun h=>?_) fun h=>?_
  ·have h:=of_decide_eq_true h
   have hk':k<hs.length:=by omega
   obtain ⟨A,ea,hrd⟩:=cJ Hd.len (by omega) g1 hk'
   have H:=g4 k hk' (by omega)
   have hc:=iF H.ctx
   have hv:=aU H.val
   have hg:=aU H.sig
   rw [ea]
   refine ⟨⟨by omega,by omega⟩,hs[k].a,tF (j:=0) hrd rfl,aE (fun h1=>⟨false,rfl,(fun h=>by cases h),rfl⟩) fun h1=>?_⟩
   have h1:=of_decide_eq_false h1
   refine ⟨⟨by omega,by omega⟩,hs[k].f,tF (j:=5) hrd rfl,aE (fun h2=>⟨false,rfl,(fun h=>by cases h),rfl⟩) fun h2=>?_⟩
   have h2:=of_decide_eq_false h2
   refine ⟨⟨by omega,by omega⟩,hs[k].d,tF (j:=3) hrd rfl,aE (fun h3=>⟨false,rfl,(fun h=>by cases h),rfl⟩) fun h3=>?_⟩
   have h3:=of_decide_eq_false h3
   refine ⟨⟨by omega,by omega⟩,hs[k].g,tF (j:=6) hrd rfl,aE (fun h4=>⟨false,rfl,(fun h=>by cases h),rfl⟩) fun h4=>?_⟩
   have h4:=of_decide_eq_false h4
   refine ⟨⟨k+1,aS (by omega),by omega,by omega,fun r hr=>?_,rfl⟩,?_⟩
   ·rw [aV (show k<ls.length by omega)] at hr
    rcases List.mem_append.1 hr with hr | hr
    ·exact hk2 r hr
    ·simp at hr; subst hr
     rw [H.key] at h1
     exact ⟨by omega,by omega,by omega,by omega⟩
   ·rw [aS (by omega)]; (try simp only []); omega
  ·have h:=of_decide_eq_false h
   refine ⟨_,rfl,fun hb=>?_,rfl⟩
   have hb:=of_decide_eq_true hb
   rw [List.take_of_length_le (by omega)] at hk2
   exact ⟨by omega,hk2⟩
theorem bV.r {B:Nat} {w:World} {s:Slc} {ls:List Rc} (h:bV B w s ls):lF w s ls:=by
 obtain ⟨hs,h1,h2,h3,h4⟩:=h
 exact ⟨hs,h1,h3,fun i a b=>(h4 i a b).1⟩
theorem sV.len {w:World} {o:Slc} {L:Lv} (h:sV w o L):L.length=o.len:=by
 obtain ⟨es,g1,g2,_⟩:=h
 have:=bO bI (by omega) g1; omega
section
variable {w:World}
theorem qGV (hg:iC w):Calls prog 7 #[] w (Ret fun v w'=>v = .bool true∧Mod NoB w w'):=by
 refine qU2 ?_
 unfold sh7
 obtain ⟨ir,hr1,hr2,hr3,hr4⟩:=pT
 obtain ⟨id,hd1,hd2,hd3,hd4⟩:=xD
 refine aC qEN ?_
 rintro v w1 ⟨p,ts0,Bs0,rfl,hp1,hF1,hpW,hpB,hpl,hm1⟩
 refine ⟨_,rfl,?_⟩
 refine aC (u7 (key:=[107]) (cl:=1) (sq:=1) (ctx:=⟨none,0,0⟩) (cx:=[]) (hg.no hm1) (sT _ _) (by simp) (by simp) (by simp) (by rfl)) ?_
 rintro v w2 ⟨ha,sa,rfl,Ha,la,na,hm2⟩
 refine ⟨ha.a,ha.b,ha.c,ha.d,ha.e,ha.f,ha.g,rfl,?_⟩
 refine aO (l:=Hd.cells ⟨[],0,0,⟨none,0,0⟩,false,⟨none,0,0⟩,⟨none,0,0⟩⟩) hr1 hr2 rfl fun q w3 hN3 hq3=>⟨_,rfl,?_⟩
 have e3:=hN3.at_; have s3:=hN3.size
 refine cX (h:=ha) (by kernel_rfl) (by kernel_rfl) hq3 rfl fun w4 ht4 hq4=>?_
 have hm24:Mod NoB w2 w4:=hN3.mod.fresh ht4.mod fun z e=>by omega
 refine bX [.agg #[.int .i64 1,.int .i64 1]] (l:=dts [(1,1)]) p9 hd1 hd2 hd3 (by omega) rfl (by omega) (by omega) rfl (by intro v hv; simp at hv; subst hv; rfl) rfl fun d w5 hN5 hd5=>⟨⟨some ⟨d,0,none⟩,1,1⟩,rfl,?_⟩
 have hm15:=(hm2.tr hm24).tr hN5.mod
 refine aC (u7 (key:=[107]) (cl:=2) (sq:=1) (ctx:=⟨some ⟨d,0,none⟩,1,1⟩) (cx:=[(1,1)]) (hg.no (hm1.tr hm15)) (aY (n:=1) (k:=2) hd5 (by simp [dts])).rd (fun z hz=>by rw [Slc.blk_mk,if_neg (by omega)] at hz; cases hz; exact hd5.lt) (by simp) (by simp) (by rfl)) ?_
 rintro v w6 ⟨hb,sb,rfl,Hb,lb,nb,hm6⟩
 refine ⟨hb.a,hb.b,hb.c,hb.d,hb.e,hb.f,hb.g,rfl,?_⟩
 refine aO (l:=Hd.cells ⟨[],0,0,⟨none,0,0⟩,false,⟨none,0,0⟩,⟨none,0,0⟩⟩) hr1 hr2 rfl fun r w7 hN7 hr7=>⟨_,rfl,?_⟩
 have e7:=hN7.at_; have s7:=hN7.size
 refine cX (h:=hb) (by kernel_rfl) (by kernel_rfl) hr7 rfl fun w8 ht8 hr8=>?_
 have hm68:Mod NoB w6 w8:=hN7.mod.fresh ht8.mod fun z e=>by omega
 have hm48:Mod NoB w4 w8:=(hN5.mod.tr hm6).tr hm68
 have hm18:=(hm15.tr hm6).tr hm68
 have hq8:=hq4.no hm48
 refine ⟨ha.a,ha.b,ha.c,ha.d,ha.e,ha.f,ha.g,rdH hq8,hb.a,hb.b,hb.c,hb.d,hb.e,hb.f,hb.g,rdH hr8,?_⟩
 have HA:dH w8 ha (exA sa):=Ha.no (hm24.tr hm48)
 have HB:dH w8 hb (exD sb):=Hb.no hm68
 refine qA5 (h1:=ha) (h2:=hb) HA HB fun x2 w9 hm9 hR9=>⟨x2,rfl,?_⟩
 have hm19:=hm18.tr hm9
 have hgl:dL w9:=(hg.no (hm1.tr hm19)).sha
 obtain ⟨ex1,ex2,ex3⟩:=zN la lb
 have exr : ∀ r∈[exA sa,exD sb],r.right=true:=fun r hr=>(ex1 r hr).1
 refine aC (qHV (X:=[]) (rs:=[exA sa,exD sb]) hgl (fun z hz=>hg.sha.lt hz) ((⟨hp1,hF1,hpl,hpW,hpB⟩:ShAt w1 p ts0 (fun _=>[]) Bs0 w.heap.size).no hm19) oH (by simp) hR9 holds_none exr (by rw [List.nil_append,fF exr]; exact ex2) fun Y k out hY hM=>qHX (B:=[exA sa,exD sb]) (by simp) (fun y hy=>by simpa using hY y hy) hM) ?_
 rintro v w10 ⟨rfl,ts',Ls',Bs',hH,hS10,hO10,_,hm10⟩
 refine ⟨0,rfl,?_⟩
 have hpn : ∀ z,z=p→w.heap.size≤z:=fun z e=>by omega
 have hm010:Mod NoB w w10:=(hm1.tr hm19).fresh hm10 hpn
 have hp1lt:=hp1.lt
 have hpw8:p<w6.heap.size:=by have:=(hm15.tr hm6).size; omega
 have hr10:Blk w10 r hb.cells _:=(hr8.no hm9).mod hm10 fun e=>by have e:r=p:=e; omega
 have HB10:dH w10 hb (exD sb):=(HB.no hm9).mod hm10 fun z hz e=>by
  have e:z=p:=e
  have:=nb z hz
  have h5:=hm15.size
  omega
 have hM : ∀ {w'},Mod NoB w10.drew w'→Mod NoB w10 w':=fun h=>(Mod.drew NoB w10).tr h
 refine ⟨Mod NoB w10.drew,Mod.refl _ _,aE (fun _=>?_) (fun h=>by cases h)⟩
 have hg10:dL w10:=hg.sha.no hm010
 have hfg:d7 Ls' [107]=[exD sb]:=qHL (Y:=[exA sa,exD sb]) exr ex2 hH ex3
 have hgt : ∀ {w1:World} {pan:List PanicEntry→World→Prop} {K:Value→World→Prop},Mod NoB w10.drew w1→(∀ (x:Slc) w2,Mod NoB w1 w2→bV w2.heap.size w2 x [exD sb]→K (.slice x.a x.len x.cap) w2)→aD prog 11 [.pointer (some ⟨p,0,none⟩),.string ⟨([107]:List UInt8).toArray⟩] w1 pan K:=fun h hK=>
  aC (qPV (hg10.no (hM h)) (hS10.no (hM h)) hO10 (by simp) (by simp)) fun v w' ⟨x,hv,hx,hm⟩=>by
   subst hv
   rw [hfg] at hx
   exact hK x w' hm hx.recs
 have tail : ∀ {w1:World} {x y:Slc} {R:RW},Mod NoB w10.drew w1→bV w1.heap.size w1 x [exD sb]→bV w1.heap.size w1 y [exD sb]→(∀ w',Mod NoB w w'→R (.returned (.bool true)) w')→
  aD prog 12 [.slice x.a x.len x.cap,.slice y.a y.len y.cap] w1 (aF R) fun v10 w13=>∃ x6:Bool,v10=(.bool x6)∧(Mod NoB w10.drew w13∧aH x6 (((aD prog 18 [.pointer (some ⟨p,0,none⟩)] w13 (aF R) fun v11 w14=>∃ x7:Slc,v11=(.slice x7.a x7.len x7.cap)∧(Mod NoB w10.drew w14∧aH ((x7.len:Int)==(1:Int)) (((aD prog 21 [.pointer (some ⟨p,0,none⟩),.int .i64 (4:Int)] w14 (aF R) fun v12 w15=>∃ x8:Option Addr,v12=(.pointer x8)∧(Mod NoB w10.drew w15∧aP prog (do eqGuard .eql 47 (.tmp 32) (.const (.pointer none)) (.pointer x8) (.pointer none); binOp .eql 47 (.pointer x8) (.pointer none)) fun v13=>∃ x9:Bool,v13=(.bool x9)∧R (.returned (.bool x9)) w15))∧True)) ((((Mod NoB w10.drew w14∧R (.returned (.bool false)) w14))∧True))))∧True)) ((((Mod NoB w10.drew w13∧(((Mod NoB w10.drew w13∧R (.returned (.bool false)) w13))∧True)))∧True))):=fun {w1 x y R} h hx hy hR=>by
  refine aC (vZ hx.r hy.r (by simp)) ?_
  rintro v w2 ⟨rfl,hm2⟩
  have h2:=h.tr hm2
  refine ⟨_,rfl,h2,aE (fun _=>?_) fun h=>by simp at h⟩
  refine ⟨aC (qBT (hS10.no (hM h2)) hO10 (by simp)) ?_,trivial⟩
  rintro v w3 ⟨o,L,rfl,hQ,hs,hmL,hm3⟩
  have h3:=h2.tr hm3
  have hl:o.len=1:=by rw [← hQ.r.len]; exact qIR la lb hO10 hH hs hmL
  refine ⟨o,rfl,h3,aE (fun _=>?_) fun h=>by rw [hl] at h; simp at h⟩
  refine ⟨aC (xT (k:=4) (hS10.no (hM h3)) hO10 (by simp)) ?_,trivial⟩
  rintro v w4 ⟨t,rfl,ht,hm4⟩
  have h4:=h3.tr hm4
  refine ⟨t,rfl,h4,gP (e:=79) (by kernel_rfl) ⟨_,rfl,?_⟩⟩
  have ht:t=none:=by cases t with | none=>rfl | some _=>cases ht
  subst ht
  exact hR _ ((hm010.tr (Mod.drew NoB w10)).tr h4)
 refine ⟨hb.a,hb.b,hb.c,hb.d,hb.e,hb.f,hb.g,fun w' hm=>rdH (hr10.no (hM hm)),?_,?_,trivial⟩
 ·refine hgt (Mod.refl _ _) fun x w11 hm11 hx=>⟨x,rfl,hm11,?_,trivial⟩
  refine nD (h1:=hb) (HB10.no (hM hm11)) fun y w12 hm12 hy=>⟨y,rfl,?_,trivial⟩
  exact tail (hm11.tr hm12) ((hx.mod (hm12.mono fun _ _ h=>h.elim)).le hm12.size) hy fun w' hm=>⟨rfl,hm⟩
 ·refine nD (h1:=hb) (HB10.no (Mod.drew NoB w10)) fun y w12 hm12 hy=>⟨y,rfl,?_,trivial⟩
  refine hgt hm12 fun x w11 hm11 hx=>⟨x,rfl,hm12.tr hm11,?_,trivial⟩
  exact tail (hm12.tr hm11) hx ((hy.mod (hm11.mono fun _ _ h=>h.elim)).le hm11.size) fun w' hm=>⟨rfl,hm⟩
end
end Go.Proofs.YtahjmeegfkfokaaGreatDoor
end
section
namespace Go.Proofs.YtahjmeegfkfokaaGreatDoor
open Go Go.Sh
open Go.Proofs.Tryz
def sh6 (l:Slc) (shard:Int) (w:World) (R:RW):Prop:=
 aD prog 7 [] w (aF R) fun v w1=>∃ x:Bool,v=(.bool x)∧aH (!x) (R (.returned (.bool false)) w1) (aD prog 13 [zS l] w1 (aF R) fun v1 w2=>∃ x1:Bool,v1=(.bool x1)∧aH (!x1) (R (.returned (.bool true)) w2) (aI prog (Instr.box 51 (.agg #[.pointer none,.pointer none,.pointer none,.pointer none,.bool false])) w2 fun v2 w3=>∃ x2:Option Addr,v2=(.pointer x2)∧aI prog (Instr.buildSlice 52 2 #[(0,(.pointer none)),(1,(.pointer x2))]) w3 fun v3 w4=>∃ x3:Slc,v3=(zS x3)∧∃ (inv:List TV→World→Prop) (mu:List TV→World→Nat),inv [.i .i64 (0:Int)] w4∧(∀ i:Int,∀ w5:World,inv [.i .i64 i] w5→aH (decide (i<(2:Int))) (((0≤i∧i<(x3.len:Nat))∧aA x3.a fun a=>∃ x4:Option Addr,Rd w5 (a.add (i.toNat*1)) [.pointer x4]∧aD prog 9 [.pointer x4,zS l] w5 (aF R) fun v4 w6=>∃ x5:Int,v4=(.int .i64 x5)∧aH (x5 != (1:Int)) (R (.returned (.bool false)) w6) (aD prog 11 [.pointer x4,.string ⟨([97]).toArray⟩] w6 (aF R) fun v5 w7=>∃ x6:Slc,v5=(zS x6)∧aH ((x6.len:Int) != (0:Int)) (R (.returned (.bool false)) w7) (aD prog 21 [.pointer x4,.int .i64 shard] w7 (aF R) fun v6 w8=>∃ x7:Option Addr,v6=(.pointer x7)∧aP prog (do eqGuard .neq 47 (.tmp 37) (.const (.pointer none)) (.pointer x7) (.pointer none); binOp .neq 47 (.pointer x7) (.pointer none)) fun v7=>∃ x8:Bool,v7=(.bool x8)∧aH x8 (R (.returned (.bool false)) w8) (aD prog 18 [.pointer x4] w8 (aF R) fun v8 w9=>∃ x9:Slc,v8=(zS x9)∧aH ((x9.len:Int) != (0:Int)) (R (.returned (.bool false)) w9) (aD prog 22 [.pointer x4] w9 (aF R) fun v9 w10=>∃ x10:Option Addr,v9=(.pointer x10)∧aP prog (do eqGuard .neq 23 (.tmp 48) (.const (.pointer none)) (.pointer x10) (.pointer none); binOp .neq 23 (.pointer x10) (.pointer none)) fun v10=>∃ x11:Bool,v10=(.bool x11)∧aH x11 (R (.returned (.bool false)) w10) ((inv [.i .i64 (IntKind.i64.wrap (i+(1:Int)))] w10∧mu [.i .i64 (IntKind.i64.wrap (i+(1:Int)))] w10<mu [.i .i64 i] w5)))))))) (aD prog 8 [] w5 (aF R) fun v11 w11=>∃ x12:Option Addr,v11=(.pointer x12)∧aD prog 21 [.pointer x12,.int .i64 shard] w11 (aF R) fun v12 w12=>∃ x13:Option Addr,v12=(.pointer x13)∧aP prog (do eqGuard .neq 47 (.tmp 53) (.const (.pointer none)) (.pointer x13) (.pointer none); binOp .neq 47 (.pointer x13) (.pointer none)) fun v13=>∃ x14:Bool,v13=(.bool x14)∧aH (decide (shard≥(0:Int))) (aP prog (do eqGuard .eql 4 (.tmp 54) (.tmp 60) (.bool x14) (.bool (decide (shard≤(3:Int)))); binOp .eql 4 (.bool x14) (.bool (decide (shard≤(3:Int))))) fun v14=>∃ x15:Bool,v14=(.bool x15)∧R (.returned (.bool x15)) w12) (aP prog (do eqGuard .eql 4 (.tmp 54) (.tmp 60) (.bool x14) (.bool false); binOp .eql 4 (.bool x14) (.bool false)) fun v15=>∃ x16:Bool,v15=(.bool x16)∧R (.returned (.bool x16)) w12)))))
theorem qTN (l:Slc) (shard:Int) {w:World} {R:RW} (hden:sh6 l shard w R):Calls prog 6 #[zS l,.int .i64 shard] w R:=
 aB (q0 .z (q0 (q0 .z (.cond (q0 .z .z) .z)) (q0 (q0 .z (.cond (q0 .z .z) .z)) (q0 .z (q0 (q0 .z (.block none (.loop [(6,(.i .i64))] (q0 (q0 .z (.cond .z .z)) (q0 (.block none (q0 .z (q0 .z (.cond (q0 .z .z) .z)))) .z))))) (q0 .z .z)))))) func6 (by kernel_rfl) [.sl l,.i .i64 shard] (by kernel_rfl) (by kernel_rfl) hden
end Go.Proofs.YtahjmeegfkfokaaGreatDoor
end
section
namespace Go.Proofs.YtahjmeegfkfokaaGreatDoor
open Go Go.Sh Go.MapKept
open Go.Proofs.Tryz
theorem uShs:prog.underlying 52=some (.slice 23):=by kernel_rfl
theorem iShs : ∃ i,prog.info? 23=some i∧i.zero=some (.pointer none)∧i.size=1∧i.bytes=8:=bL (by kernel_rfl) (by kernel_rfl) (by kernel_rfl)
section
variable {w:World}
theorem tY {s:Slc} {ls:List Rc} {k:Int} (hg:iC w) (hl:jW w s ls) (hn:s.len≤9000000000000000000) :
 Calls prog 6 #[.slice s.a s.len s.cap,.int .i64 k] w (Ret fun v w'=>v = .bool true∧Mod NoB w w'):=by
 refine qTN _ _ ?_
 unfold sh6
 refine aC (qGV hg) ?_
 rintro v w1 ⟨rfl,hm1⟩
 refine ⟨_,rfl,aE (fun h=>by cases h) fun _=>?_⟩
 refine aC (qFK (hl.no hm1) (by omega)) ?_
 rintro v w2 ⟨b,rfl,hb,rfl⟩
 refine ⟨b,rfl,aE (fun h=>⟨rfl,hm1⟩) fun h=>?_⟩
 refine aT (l:=[.pointer none,.pointer none,.pointer none,.pointer none,.bool false]) rfl fun p w3 hN3 hp3=>⟨_,rfl,?_⟩
 obtain ⟨is,hs1,hs2,hs3,hs4⟩:=iShs
 refine bX [.pointer none,.pointer (some ⟨p,0,none⟩)] (l:=[.pointer none,.pointer (some ⟨p,0,none⟩)]) uShs hs1 hs2 hs3 (by omega) rfl (by omega) (by omega) rfl (by intro v hv; simp at hv; rcases hv with rfl | rfl <;> rfl) (by simp [Value.cells]) fun d w4 hN4 hd4=>⟨⟨some ⟨d,0,none⟩,2,2⟩,rfl,?_⟩
 have hm4:=(hm1.tr hN3.mod).tr hN4.mod
 refine ⟨fun l' w'=>match l' with | [.i _ x]=>∃ j:Nat,x=j∧j≤2∧w'=w4 | _=>False,fun l' _=>match l' with | [.i _ x]=>(2 - x).toNat | _=>0,⟨0,rfl,by omega,rfl⟩,?_⟩
 rintro x w5 ⟨j,rfl,hj,rfl⟩
 refine aE (fun h=>?_) fun h=>?_
 ·have hj2:j<2:=by have:=of_decide_eq_true h; omega
  have hx : ∃ x:Option Addr,Rd w5 ((⟨d,0,none⟩:Addr).add ((j:Int).toNat*1)) [.pointer x]∧xN w5 x:=by
   match j,hj2 with
   | 0,_=>exact ⟨none,hd4.rd1 rfl,.inl rfl⟩
   | 1,_=>exact ⟨some ⟨p,0,none⟩,hd4.rd1 rfl,.inr ⟨p,_,rfl,hp3.no hN4.mod⟩⟩
  obtain ⟨x,hrd,hx⟩:=hx
  refine ⟨⟨by omega,by show (j:Int)<((2:Nat):Int); omega⟩,x,hrd,?_⟩
  refine aC (qIL hx) ?_
  rintro v w6 ⟨rfl,rfl⟩
  refine ⟨1,rfl,aE (fun h=>by cases h) fun _=>?_⟩
  refine aC (qHT hx) ?_
  rintro v w7 ⟨rfl,rfl⟩
  refine ⟨⟨none,0,0⟩,rfl,aE (fun h=>by cases h) fun _=>?_⟩
  refine aC (qCG hx) ?_
  rintro v w8 ⟨rfl,rfl⟩
  refine ⟨none,rfl,dP (e:=79) (by kernel_rfl) ⟨_,rfl,aE (fun h=>by cases h) fun _=>?_⟩⟩
  refine aC (wJ hx) ?_
  rintro v w9 ⟨rfl,rfl⟩
  refine ⟨⟨none,0,0⟩,rfl,aE (fun h=>by cases h) fun _=>?_⟩
  refine aC (qEH hx) ?_
  rintro v w10 ⟨rfl,rfl⟩
  refine ⟨none,rfl,dP (e:=51) (by kernel_rfl) ⟨_,rfl,aE (fun h=>by cases h) fun _=>?_⟩⟩
  refine ⟨⟨j+1,aS (by omega),by omega,rfl⟩,?_⟩
  rw [aS (by omega)]; (try simp only []); omega
 ·refine aC qEN ?_
  rintro v w6 ⟨q,ts0,Bs0,rfl,hq6,hF6,hqW,hqB,hql,hm6⟩
  refine ⟨_,rfl,?_⟩
  refine aC (xT (k:=k) (⟨hq6,hF6,hql,hqW,hqB⟩:ShAt w6 q ts0 (fun _=>[]) Bs0 _) oH (by simp)) ?_
  rintro v w7 ⟨t,rfl,ht,hm7⟩
  have hM:=(hm4.tr hm6).tr hm7
  refine ⟨t,rfl,dP (e:=79) (by kernel_rfl) ⟨_,rfl,?_⟩⟩
  rw [ht]
  refine aE (fun h=>?_) fun h=>?_
  ·have h:=of_decide_eq_true h
   refine kG (by kernel_rfl) ⟨_,rfl,?_,hM⟩
   have:decide (0≤k∧k≤3)=decide (k≤3):=decide_eq_decide.2 ⟨fun h=>h.2,fun h'=>⟨h,h'⟩⟩
   rw [this]; simp
  ·have h:=of_decide_eq_false h
   refine kG (by kernel_rfl) ⟨_,rfl,?_,hM⟩
   rw [decide_eq_false (fun h'=>h h'.1)]; rfl
end
end Go.Proofs.YtahjmeegfkfokaaGreatDoor
end
