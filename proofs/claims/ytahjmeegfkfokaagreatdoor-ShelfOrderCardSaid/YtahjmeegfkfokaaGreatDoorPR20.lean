/- The forms of the translated functions,their contracts and the plain laws behind them,put together by a program. -/
import Derived.Test.YtahjmeegfkfokaaGreatDoorPR19
import Derived.Shelf.SlSortCmp.NoneTotal
import Derived.KernelRfl
import Derived.Test.YtahjmeegfkfokaaGreatDoorProg
set_option linter.unusedSimpArgs false
set_option linter.unusedVariables false
set_option maxRecDepth 100000
set_option maxHeartbeats 4000000
section
namespace Go.Proofs.YtahjmeegfkfokaaGreatDoor
open Go Go.Sh Go.MapKept
open Go.Proofs.Tryz
theorem qEC {α β:Type} {f:α→β} {l1 l2:List β} (h:l1.Perm l2) : ∀ zs:List α,zs.map f=l2→∃ zs':List α,zs'.Perm zs∧zs'.map f=l1:=by
 induction h with
 | nil=>intro zs h; exact ⟨zs,.refl _,h⟩
 | cons x _ ih=>
   intro zs h
   match zs,h with
   | z :: t,h=>
     simp only [List.map_cons,List.cons.injEq] at h
     obtain ⟨t',h1,h2⟩:=ih t h.2
     exact ⟨z :: t',h1.cons z,by simp [h.1,h2]⟩
 | swap x y l=>
   intro zs h
   match zs,h with
   | z1 :: z2 :: t,h=>
     simp only [List.map_cons,List.cons.injEq] at h
     exact ⟨z2 :: z1 :: t,.swap _ _ _,by simp [h.1,h.2.1,h.2.2]⟩
 | trans _ _ ih1 ih2=>
   intro zs h
   obtain ⟨z1,a1,a2⟩:=ih2 zs h
   obtain ⟨z2,b1,b2⟩:=ih1 z1 a2
   exact ⟨z2,b1.trans a1,b2⟩
def gQ (Ls:Nat→Lv):Nat→Lv
 | 0=>[]
 | k+1=>gQ Ls k++Ls k
theorem vW {Ls:Nat→Lv} {n:Nat} (h:bU Ls n) (k:Nat):(gQ Ls k).length≤k*n:=by
 induction k with
 | zero=>simp [gQ]
 | succ k ih=>
   have:=h.n k
   rw [gQ,List.length_append,Nat.succ_mul]; omega
theorem rO {Ls:Nat→Lv} {k:Nat} {e:List UInt8×List Rc} : e∈gQ Ls k↔∃ i,i<k∧e∈Ls i:=by
 induction k with
 | zero=>simp [gQ]
 | succ k ih=>
   rw [gQ,List.mem_append,ih]
   constructor
   ·rintro (⟨i,h1,h2⟩ | h)
    ·exact ⟨i,by omega,h2⟩
    ·exact ⟨k,by omega,h⟩
   ·rintro ⟨i,h1,h2⟩
    rcases Nat.lt_or_ge i k with h | h
    ·exact .inl ⟨i,h,h2⟩
    ·have:i=k:=by omega
     subst this; exact .inr h2
theorem qLT {Ls:Nat→Lv} {n:Nat} (h:bU Ls n) (k:Nat):(gQ Ls k).Pairwise fun a b=>a.1≠b.1:=by
 induction k with
 | zero=>exact List.Pairwise.nil
 | succ k ih=>
   refine List.pairwise_append.2 ⟨ih,(h.so k).imp fun {a b} hab e=>by rw [e] at hab; exact List.lt_irrefl _ hab,fun a ha b hb e=>?_⟩
   obtain ⟨i,hi,ha⟩:=rO.1 ha
   have h1:=h.sh i a ha
   have h2:=h.sh k b hb
   rw [e] at h1; omega
section
variable {w:World}
theorem rU {B:Nat} {o x:Slc} {L M:Lv} {K:Value→World→Prop} (hQ:dI (fun z=>B≤z) w o L) (hX:dI (fun z=>B≤z∧o.blk≠some z) w x M) (hn:L.length≤1000000) (hm:M.length≤1000000) (hB:B≤w.heap.size)
 (hK : ∀ x' w',dI (fun z=>B≤z) w' x' (L++M)→Mod (fun z=>o.blk=some z) w w'→K x'.val w') :
 aI prog (Builtin.append_ #[42,42] 42 #[.slice o.a o.len o.cap,.slice x.a x.len x.cap]) w K:=by
 obtain ⟨il,hl1,hl2,hl3,hl4⟩:=oV
 obtain ⟨es,ho,hob,hel,hes⟩:=hQ
 obtain ⟨fs,hx,hxb,hfl,hfs⟩:=hX
 have hol:=bM aZ (by omega) ho.rd
 have hxl:=bM aZ (by omega) hx.rd
 refine bK (s:=o) (x:=x) dV hl1 hl2 hl3 rfl hl4 ho hx.rd (fK eX _) (by omega) (by omega) fun x' w12 ho12 hlen hblk hm12=>hK x' w12 ?_ hm12
 have hx' : ∀ z,x'.blk=some z→o.blk=some z∨z=w.heap.size:=fun z hz=>by
  rcases hblk with e | e
  ·exact .inl (by rw [← e]; exact hz)
  ·rw [e] at hz; cases hz; exact .inr rfl
 have hfr : ∀ {Q:Nat→Prop} {t:Slc} {l:List Rc},fL Q w t l→(∀ z,Q z→B≤z∧o.blk≠some z)→fL (fun z=>B≤z∧x'.blk≠some z) w12 t l:=fun {Q t l} hq hQ=>hq.mod hm12 fun z hz hl=>⟨(hQ z hz).2,(hQ z hz).1,fun e=>by
  rcases hx' z e with h | h
  ·exact (hQ z hz).2 h
  ·omega⟩
 refine ⟨es++fs,by rw [dC]; exact ho12,fun z hz=>?_,by simp [hel,hfl],fun j a d=>?_⟩
 ·rcases hx' z hz with h | h
  ·exact hob z h
  ·omega
 ·rcases Nat.lt_or_ge j es.length with hj | hj
  ·have e1:(es++fs)[j]=es[j]:=List.getElem_append_left hj
   have e2:(L++M)[j]=L[j]'(by omega):=List.getElem_append_left (by omega)
   rw [e1,e2]
   obtain ⟨g1,g2⟩:=hes j hj (by omega)
   exact ⟨g1,hfr g2 fun z hz=>hz⟩
  ·have hl2:j - es.length<fs.length:=by rw [List.length_append] at a; omega
   have e1:(es++fs)[j]=fs[j - es.length]'hl2:=List.getElem_append_right hj
   have e2:(L++M)[j]=M[j - es.length]'(by omega):=by
    rw [List.getElem_append_right (by omega)]
    simp only [hel]
   rw [e1,e2]
   obtain ⟨g1,g2⟩:=hfs (j - es.length) hl2 (by omega)
   exact ⟨g1,hfr g2 fun z hz=>hz.1⟩
theorem zH {v:Slc} (h:v.len=0):Calls prog 34 #[.slice v.a v.len v.cap,.func (.func 35) #[] #[]] w (Ret fun u w'=>u = .tuple #[]∧w'=w):=by
 rw [h]
 refine (AnyF.slices_SortFunc_none Tryz.sortLeaf v.a v.cap (.func (.func 35) #[] #[]) w).mono ?_
 rintro e w' ⟨rfl,rfl⟩
 exact ⟨rfl,rfl⟩
theorem oD {p:Nat} {ts:Nat→Tr} {Ls:Nat→Lv} {Bs:Nat→Nat→Prop} {lo n:Nat} (hS:ShAt w p ts Ls Bs lo) (hO:bU Ls n) (hn:n≤100000) :
 Calls prog 18 #[.pointer (some ⟨p,0,none⟩)] w (Ret fun v w'=>∃ o L,v=o.val∧dI (fun z=>w.heap.size≤z) w' o L∧dO L∧(∀ e,e∈L↔∃ i,i<4∧e∈Ls i)∧Mod NoB w w'):=by
 refine qVZ _ ?_
 unfold jEC
 refine aC (nU hS.blk) ?_
 rintro v w1 ⟨rfl,rfl⟩
 refine ⟨_,rfl,aD (fun h=>by cases h) fun _=>?_⟩
 refine ⟨some ⟨(ts 0).p,0,none⟩,some ⟨(ts 1).p,0,none⟩,some ⟨(ts 2).p,0,none⟩,some ⟨(ts 3).p,0,none⟩,hS.blk.rd fun j v hj=>?_,?_⟩
 ·rw [Nat.zero_add]
  rw [List.getElem?_append_left]
  ·exact hj
  ·rcases Nat.lt_or_ge j (gY ts).length with h | h
   ·exact h
   ·rw [List.getElem?_eq_none (by exact h)] at hj; cases hj
 refine ⟨fun l' w'=>match l' with | [.sl out,.i _ y]=>∃ k:Nat,y=(k:Int)∧k≤4∧dI (fun z=>w1.heap.size≤z) w' out (gQ Ls k)∧Mod NoB w1 w' | _=>False,fun l' _=>match l' with | [.sl _,.i _ y]=>(4 - y).toNat | _=>0,⟨0,rfl,by omega,⟨[],bW _ 2,fun z hz=>by simp at hz,rfl,fun i h=>absurd h (by simp)⟩,Mod.refl _ _⟩,?_⟩
 rintro out y w2 ⟨k,rfl,hk,hQ2,hm2⟩
 refine aD (fun h=>?_) fun h=>?_
 ·have hk4:k<4:=by have:=of_decide_eq_true h; omega
  refine ⟨⟨by omega,by show (k:Int)<((4:Nat):Int); omega⟩,by intro z hz; simp at hz; rcases hz with rfl | rfl | rfl | rfl <;> rfl,some ⟨(ts k).p,0,none⟩,?_,?_⟩
  ·rw [Int.toNat_natCast]
   match k,hk4 with
   | 0,_=>rfl
   | 1,_=>rfl
   | 2,_=>rfl
   | 3,_=>rfl
  ·have hLn:=hO.n k
   refine aC (oP ((hS.four.no hm2).tr k hk4) (hO.ok k) (by omega)) ?_
   rintro v w3 ⟨x3,rfl,hQ3,hm3⟩
   refine ⟨x3,rfl,?_⟩
   have hs12:=hm2.size
   have hob : ∀ z,out.blk=some z→z<w2.heap.size:=fun z hz=>by obtain ⟨es,ho,_⟩:=hQ2; exact ho.lt hz
   have hX:dI (fun z=>w1.heap.size≤z∧out.blk≠some z) w3 x3 (Ls k):=hQ3.mod (Mod.refl NoB _) fun z hz _=>⟨fun h=>h,by omega,fun e=>by have:=hob z e; omega⟩
   have hO3:dI (fun z=>w1.heap.size≤z) w3 out (gQ Ls k):=hQ2.mod hm3 fun z hz _=>⟨fun h=>h,hz⟩
   have hkn:=vW hO k
   have hk3:k*n≤3*n:=Nat.mul_le_mul_right n (by omega)
   refine rU hO3 hX (by omega) (by omega) (by have:=(hm2.tr hm3).size; omega) fun x' w4 hQ4 hm4=>⟨x',rfl,?_⟩
   rw [wrap_i64 (e:=(k:Int)+1) (by omega)]
   refine ⟨⟨k+1,by omega,by omega,hQ4,(hm2.tr hm3).fresh hm4 fun z hz=>?_⟩,by (try simp only []); omega⟩
   obtain ⟨es,ho,hb,_⟩:=hQ2
   exact hb z hz
 ·have hk4:k=4:=by have:=of_decide_eq_false h; omega
  subst hk4
  obtain ⟨es,ho,hob,hel,hes⟩:=hQ2
  have hol:=bM aZ (by omega) ho.rd
  have hkn:=vW hO 4
  rcases Nat.eq_zero_or_pos es.length with h0 | h0
  ·refine aC (zH (v:=out) (by omega)) ?_
   rintro v w3 ⟨rfl,rfl⟩
   have hnil:gQ Ls 4=[]:=List.eq_nil_of_length_eq_zero (by omega)
   refine ⟨rfl,out,gQ Ls 4,rfl,⟨es,ho,hob,hel,hes⟩,?_,fun e=>rO,hm2⟩
   rw [hnil]; exact List.Pairwise.nil
  ·refine aC (qOT es ho h0 (by omega)) ?_
   rintro v w3 ⟨rfl,ps,hpm,hps,ho3,hm3⟩
   have hzl:(es.zip (gQ Ls 4)).map Prod.fst=es:=List.map_fst_zip (by omega)
   obtain ⟨zs,hz1,hz2⟩:=qEC hpm _ hzl
   have hz3:(zs.map Prod.snd).Perm (gQ Ls 4):=by
    have:=hz1.map Prod.snd
    rwa [List.map_snd_zip (by omega)] at this
   have hzlen:zs.length=ps.length:=by rw [← hz2,List.length_map]
   have hrel : ∀ z∈zs,z.1.1=z.2.1∧fL (fun y=>w1.heap.size≤y∧out.blk≠some y) w2 z.1.2 z.2.2:=fun z hz=>by
    have hz':=hz1.mem_iff.1 hz
    obtain ⟨i,hi,rfl⟩:=List.getElem_of_mem hz'
    rw [List.getElem_zip]
    rw [List.length_zip] at hi
    exact hes i (by omega) (by omega)
   refine ⟨rfl,out,zs.map Prod.snd,rfl,⟨ps,ho3,hob,by simp [hzlen],fun i a d=>?_⟩,?_,fun e=>?_,hm2.fresh hm3 fun z hz=>hob z hz⟩
   ·have hi:i<zs.length:=by omega
    have e1:ps[i]=zs[i].1:=by simp only [← hz2,List.getElem_map]
    have e2:(zs.map Prod.snd)[i]=zs[i].2:=by simp
    rw [e1,e2]
    obtain ⟨g1,g2⟩:=hrel zs[i] (List.getElem_mem hi)
    exact ⟨g1,g2.mod hm3 fun z hz _=>⟨hz.2,hz⟩⟩
   ·have hne:(zs.map Prod.snd).Pairwise fun a b=>a.1≠b.1:=(hz3.symm.pairwise_iff fun h e=>h e.symm).1 (qLT hO 4)
    refine List.pairwise_iff_getElem.2 fun i j hi hj hij=>?_
    have h1:=List.pairwise_iff_getElem.1 hne i j hi hj hij
    have hi':i<zs.length:=by simpa using hi
    have hj':j<zs.length:=by simpa using hj
    simp only [List.getElem_map] at h1 ⊢
    have h2:=List.pairwise_iff_getElem.1 hps i j (by omega) (by omega) hij
    have e1:ps[i]=zs[i].1:=by simp only [← hz2,List.getElem_map]
    have e2:ps[j]=zs[j].1:=by simp only [← hz2,List.getElem_map]
    rw [e1,e2,(hrel zs[i] (List.getElem_mem hi')).1,(hrel zs[j] (List.getElem_mem hj')).1] at h2
    exact tG h2 (fun e=>h1 e.symm)
   ·rw [hz3.mem_iff]; exact rO
end
end Go.Proofs.YtahjmeegfkfokaaGreatDoor
end
section
namespace Go.Proofs.YtahjmeegfkfokaaGreatDoor
open Go Go.Sh
open Go.Proofs.Tryz
theorem qIQ {L L':Lv} {key:List UInt8} {rs:List Rc} (hs:dO L) (h:tL L key rs L'):lV L' key=rs∧∀ k,k≠key→lV L' k=lV L k:=by
 refine ⟨?_,fun k hk=>?_⟩
 ·rcases Classical.em (rs=[]) with e | e
  ·rw [lG fun x hx=>?_,e]
   rcases (h.mem x).1 hx with ⟨h1,_⟩ | ⟨h1,_⟩
   ·exact absurd e h1
   ·exact h1
  ·exact jF h.pw ((h.mem _).2 (.inl ⟨e,rfl⟩))
 rcases Classical.em (∃ s,(k,s)∈L) with ⟨s,hm⟩ | hn
 ·rw [jF hs hm,jF h.pw ((h.mem _).2 (.inr ⟨hk,hm⟩))]
 ·have h1 : ∀ e∈L,e.1≠k:=fun e he e'=>hn ⟨e.2,by rw [← e']; exact he⟩
  rw [lG h1,lG fun e he e'=>?_]
  rcases (h.mem e).1 he with ⟨_,rfl⟩ | ⟨_,he⟩
  ·exact hk e'.symm
  ·exact h1 e he e'
def Holds (Ls:Nat→Lv) (X:List Rc):Prop:=∀ key,bX (bB X key) (eP Ls key)
theorem holds_none:Holds (fun _=>[]) []:=fun key=>⟨[],⟨List.Pairwise.nil,fun r=>by simp [bB]⟩,rfl⟩
theorem nH {Ls:Nat→Lv} {X:List Rc} (ht:eQ (cZ X)) (hH:Holds Ls X) (key:List UInt8):gP (bB X key) (eP Ls key):=
 (kF (mQ ht key) iM fO).1 (hH key)
theorem kS {X:List Rc} {r:Rc} (hr:r.right=true):cZ (X++[r])=cZ X++[r]:=by simp [cZ,hr]
theorem eT {X:List Rc} {r x:Rc} {key:List UInt8} (hr:r.right=true):x∈bB (X++[r]) key↔x∈bB X key∨(x=r∧r.key=key):=by
 simp only [dS,kS hr,List.mem_append,List.mem_singleton]
 constructor
 ·rintro ⟨h | rfl,h2⟩
  ·exact .inl ⟨h,h2⟩
  ·exact .inr ⟨rfl,h2⟩
 ·rintro (⟨h,h2⟩ | ⟨rfl,h2⟩)
  ·exact ⟨.inl h,h2⟩
  ·exact ⟨.inr rfl,h2⟩
section
variable {Ls Ls':Nat→Lv} {X:List Rc} {r:Rc}
theorem qLZ (hr:r.right=true) (ht:eQ (cZ (X++[r]))) (hH:Holds Ls X) : ∀ x∈eP Ls r.key++[r],x∈bB (X++[r]) r.key:=fun x hx=>by
 have ht0:eQ (cZ X):=ht.sub fun y hy=>by rw [kS hr]; exact List.mem_append_left _ hy
 rw [eT hr]
 rcases List.mem_append.1 hx with h | h
 ·exact .inl (((nH ht0 hH r.key).mem x).1 h).1
 ·exact .inr ⟨by simpa using h,rfl⟩
theorem qFI (hr:r.right=true) (ht:eQ (cZ (X++[r]))) (hH:Holds Ls X) {rs:List Rc} (hJ:bX (eP Ls r.key++[r]) rs):gP (bB (X++[r]) r.key) rs:=by
 have ht0:eQ (cZ X):=ht.sub fun y hy=>by rw [kS hr]; exact List.mem_append_left _ hy
 have hF:=nH ht0 hH r.key
 have hin:=qLZ hr ht hH
 have htk:=mQ ht r.key
 have hM:=(kF (htk.sub hin) (fun a ha b hb=>iM a (hin a ha) b (hin b hb)) fun a ha=>fO a (hin a ha)).1 hJ
 refine ⟨hM.pw,fun x=>?_⟩
 rw [hM.mem]
 constructor
 ·rintro ⟨h1,h2⟩
  refine ⟨hin x h1,fun y hy=>?_⟩
  cases e:y.over x with
  | false=>rfl
  | true=>
    rcases (eT hr).1 hy with h3 | ⟨rfl,_⟩
    ·obtain ⟨z,z1,z2,z3⟩:=(mQ ht0 r.key).max' h3
     have hz:z∈eP Ls r.key:=(hF.mem z).2 ⟨z1,z3⟩
     have hzx:z.over x=true:=by
      rcases z2 with rfl | z2
      ·exact e
      ·exact htk.trans z ((eT hr).2 (.inl z1)) y hy x (hin x h1) z2 e
     have:=h2 z (List.mem_append_left _ hz)
     rw [hzx] at this; cases this
    ·have:=h2 y (List.mem_append_right _ (List.mem_singleton.2 rfl))
     rw [e] at this; cases this
 ·rintro ⟨h1,h2⟩
  refine ⟨?_,fun y hy=>h2 y (hin y hy)⟩
  rcases (eT hr).1 h1 with h3 | ⟨rfl,_⟩
  ·exact List.mem_append_left _ ((hF.mem x).2 ⟨h3,fun y hy=>h2 y ((eT hr).2 (.inl hy))⟩)
  ·exact List.mem_append_right _ (List.mem_singleton.2 rfl)
theorem tX {B Y rs:List Rc} {k:List UInt8} (hB:B.length≤16) (hY : ∀ x∈Y,x∈B) (hM:gP (bB Y k) rs):rs.length≤16:=
 Nat.le_trans (qJ gJ hM.pw fun x hx=>hY x (List.mem_filter.1 ((hM.mem x).1 hx).1).1) hB
theorem pX {n:Nat} {e:Int} (hO:bU Ls n) (hn:n≤255) (hX : ∀ rs,gP (bB (X++[r]) r.key) rs→rs.length≤16) (hr:r.right=true) (ht:eQ (cZ (X++[r]))) (hH:Holds Ls X) (hT:qD Ls r e Ls'):e=0∧Holds Ls' (X++[r]):=by
 rcases hT with ⟨h,_,_⟩ | ⟨_,rs,hJ,hc⟩
 ·rw [hr] at h; cases h
 have hM:=qFI hr ht hH hJ
 have hlen:=hX rs hM
 rcases hc with ⟨hf,_,_⟩ | ⟨_,he,hP,_,hel⟩
 ·rcases hf with h | h
  ·omega
  ·have:=hO.n (tOf r.key); omega
 ·refine ⟨he,fun key=>?_⟩
  have hg:=qIQ (hO.so _) hP
  rcases Classical.em (key=r.key) with e | e
  ·subst e
   have:eP Ls' r.key=rs:=hg.1
   rw [this]
   exact (kF (mQ ht r.key) iM fO).2 hM
  ·have e1:eP Ls' key=eP Ls key:=by
    unfold eP
    rcases Classical.em (tOf key=tOf r.key) with h | h
    ·rw [h]; exact hg.2 key e
    ·rw [hel _ h]
   have e2:bB (X++[r]) key=bB X key:=by
    have : ¬ r.key=key:=fun h=>e h.symm
    simp [bB,List.filter_append,this]
   rw [e1,e2]; exact hH key
end
theorem qEG {Ls Ls':Nat→Lv} (h:pH Ls [] Ls'):Ls'=Ls:=by
 generalize hl:([]:List Rc)=l at h
 cases h with
 | nil=>rfl
 | snoc _ _=>simp at hl
theorem qDI {Ls Ls':Nat→Lv} {X:List Rc} {r:Rc} (h:pH Ls (X++[r]) Ls') : ∃ L1,pH Ls X L1∧qD L1 r 0 Ls':=by
 generalize hl:X++[r]=l at h
 cases h with
 | nil=>simp at hl
 | snoc h1 h2=>
   obtain ⟨rfl,h3⟩:=List.append_inj' hl rfl
   obtain rfl:r=_:=by simpa using h3
   exact ⟨_,h1,h2⟩
theorem fZ {Ls:Nat→Lv} {n:Nat} {l:List Rc} {L:Lv} (hO:bU Ls n) (hH:Holds Ls (cZ l)) (hs:dO L) (hm : ∀ e,e∈L↔∃ i,i<4∧e∈Ls i):gV l L:=by
 have e0 : ∀ k,bB (cZ l) k=bB l k:=fun k=>by
  simp only [bB,cZ,List.filter_filter]
  apply List.filter_congr
  intro x _
  cases x.right <;> simp
 refine ⟨hs,fun k s=>?_⟩
 have hJ:=hH k
 rw [e0] at hJ
 rw [hm]
 constructor
 ·rintro ⟨i,hi,he⟩
  have h1:tOf k=i:=hO.sh i (k,s) he
  have h2:eP Ls k=s:=by
   unfold eP
   rw [h1]; exact jF (hO.so i) he
  have h3:0<s.length:=(hO.ok i (k,s) he).2.2.1
  rw [h2] at hJ
  exact ⟨List.length_pos_iff.1 h3,hJ⟩
 ·rintro ⟨h1,h2⟩
  have h3:eP Ls k=s:=hJ.uniq h2 fun _=>Iff.rfl
  refine ⟨tOf k,uK k,?_⟩
  have e:lV (Ls (tOf k)) k=s:=h3
  have:=wH (L:=Ls (tOf k)) (key:=k) (by rw [e]; exact h1)
  rw [e] at this; exact this
end Go.Proofs.YtahjmeegfkfokaaGreatDoor
end
section
namespace Go.Sh
def exA (s:List UInt8):Rc:=⟨[107],1,1,[],false,[],s⟩
theorem jAY {s:List UInt8} (h:s.length=64):(exA s).right=true:=by simp only [Rc.right,exA,h]; rfl
end Go.Sh
end
section
namespace Go.Proofs.YtahjmeegfkfokaaGreatDoor
open Go Go.Sh
open Go.Proofs.Tryz
theorem dJ {X:List Rc} (h : ∀ r∈X,r.right=true):cZ X=X:=List.filter_eq_self.2 h
section
variable {Ls:Nat→Lv} {X rs:List Rc} {n:Nat}
theorem pV (hO:bU Ls n) (hn:n+rs.length≤255) (hH:Holds Ls X) (hr : ∀ r∈rs,r.right=true) (ht:eQ (cZ (X++rs))) (h16 : ∀ Y k out,(∀ y∈Y,y∈X++rs)→gP (bB Y k) out→out.length≤16) :
 ∀ k,k≤rs.length→∀ L1,pH Ls (rs.take k) L1→Holds L1 (X++rs.take k)∧bU L1 (n+k)
 | 0,_,L1,hP=>by
   have hP:pH Ls [] L1:=hP
   rw [qEG hP]
   exact ⟨by simpa using hH,hO⟩
 | k+1,hk,L1,hP=>by
   have e1:rs.take (k+1)=rs.take k++[rs[k]]:=aT hk
   rw [e1] at hP
   obtain ⟨L0,h0,hT⟩:=qDI hP
   obtain ⟨hH0,hO0⟩:=pV hO hn hH hr ht h16 k (by omega) L0 h0
   have hsub : ∀ y∈X++rs.take k++[rs[k]],y∈X++rs:=fun y hy=>by
    rw [List.append_assoc,← e1] at hy
    rcases List.mem_append.1 hy with h | h
    ·exact List.mem_append_left _ h
    ·exact List.mem_append_right _ (List.mem_of_mem_take h)
   have hrk:=hr rs[k] (List.getElem_mem _)
   have htk:eQ (cZ (X++rs.take k++[rs[k]])):=ht.sub fun y hy=>List.mem_filter.2 ⟨hsub y (List.mem_filter.1 hy).1,(List.mem_filter.1 hy).2⟩
   have h1:=pX hO0 (by omega) (fun out hM=>h16 _ _ _ hsub hM) hrk htk hH0 hT
   rw [e1,← List.append_assoc]
   exact ⟨h1.2,vV hO0 hT⟩
theorem qYK (hO:bU Ls n) (hn:n+rs.length≤255) (hH:Holds Ls X) (hr : ∀ r∈rs,r.right=true) (ht:eQ (cZ (X++rs))) (h16 : ∀ Y k out,(∀ y∈Y,y∈X++rs)→gP (bB Y k) out→out.length≤16) {k:Nat} (h:k<rs.length) {L1 L2:Nat→Lv} {e:Int} (hP:pH Ls (rs.take k) L1) (hT:qD L1 rs[k] e L2):e=0:=by
 obtain ⟨hH0,hO0⟩:=pV hO hn hH hr ht h16 k (by omega) L1 hP
 have hsub : ∀ y∈X++rs.take k++[rs[k]],y∈X++rs:=fun y hy=>by
  rw [List.append_assoc,← aT h] at hy
  rcases List.mem_append.1 hy with h | h
  ·exact List.mem_append_left _ h
  ·exact List.mem_append_right _ (List.mem_of_mem_take h)
 exact (pX hO0 (by omega) (fun out hM=>h16 _ _ _ hsub hM) (hr _ (List.getElem_mem _)) (ht.sub fun y hy=>List.mem_filter.2 ⟨hsub y (List.mem_filter.1 hy).1,(List.mem_filter.1 hy).2⟩) hH0 hT).1
end
theorem qDG {Ls:Nat→Lv} {X:List Rc} (hr : ∀ r∈X,r.right=true) (ht:eQ (cZ X)) (hH:Holds Ls X) {x:Rc} (hx:x∈X):x∈eP Ls x.key↔∀ y∈X,y.over x=false:=by
 rw [(nH ht hH x.key).mem]
 have hm : ∀ y,y∈bB X x.key↔y∈X∧y.key=x.key:=fun y=>by rw [dS,dJ hr]
 constructor
 ·rintro ⟨_,h⟩ y hy
  cases e:y.over x with
  | false=>rfl
  | true=>have:=h y ((hm y).2 ⟨hy,qEI e⟩); rw [e] at this; cases this
 ·intro h
  exact ⟨(hm x).2 ⟨hx,rfl⟩,fun y hy=>h y ((hm y).1 hy).1⟩
theorem xL {La Lb:Nat→Lv} {n m:Nat} {X Y:List Rc} {L L':Lv} (hX : ∀ r∈X,r.right=true) (hs : ∀ r,r∈X↔r∈Y) (ha:bU La n) (hb:bU Lb m) (hA:Holds La X) (hB:Holds Lb Y) (s1:dO L) (m1 : ∀ e,e∈L↔∃ i,i<4∧e∈La i) (s2:dO L') (m2 : ∀ e,e∈L'↔∃ i,i<4∧e∈Lb i):L=L':=
 (fZ (l:=X) ha (by rw [dJ hX]; exact hA) s1 m1).uniq (fZ (l:=Y) hb (by rw [dJ fun r hr=>hX r ((hs r).2 hr)]; exact hB) s2 m2) hs
section
variable {X:List Rc} {r:Rc} {k:List UInt8}
theorem qHB (h0 : ∀ x∈X,∀ y,x.over y=false) (hd : ∀ a∈X++[r],∀ b∈X++[r],a.cl=b.cl→a.sq=b.sq→a=b) (hs:r.over r=false):eQ (X++[r]):=by
 have hr : ∀ a∈X++[r],∀ y,a.over y=true→a=r:=fun a ha y e=>by
  rcases List.mem_append.1 ha with h | h
  ·rw [h0 a h y] at e; cases e
  ·simpa using h
 refine ⟨fun a ha b hb _=>hd a ha b hb,fun a ha b hb e=>?_,fun a ha b hb c hc e e'=>?_⟩
 ·cases e':b.over a with
  | false=>rfl
  | true=>
    have h1:=hr a ha b e
    have h2:=hr b hb a e'
    subst h1; subst h2
    rw [hs] at e; cases e
 ·have h1:=hr a ha b e
  have h2:=hr b hb c e'
  subst h1; subst h2
  exact e'
theorem qNQ (hk : ∀ x∈X++[r],x.right=true∧x.key=k) (ho : ∀ x∈X,r.over x=true) (h0 : ∀ x∈X,∀ y,x.over y=false) (hs:r.over r=false):gP (bB (X++[r]) k) [r]:=by
 have hm : ∀ x,x∈bB (X++[r]) k↔x∈X++[r]:=fun x=>by
  rw [dS,dJ fun x hx=>(hk x hx).1]
  exact ⟨fun h=>h.1,fun h=>⟨h,(hk x h).2⟩⟩
 refine ⟨List.pairwise_singleton _ _,fun x=>?_⟩
 simp only [hm]
 constructor
 ·intro h
  have h:x=r:=by simpa using h
  subst h
  refine ⟨by simp,fun y hy=>?_⟩
  rcases List.mem_append.1 hy with h | h
  ·exact h0 y h x
  ·have:y=x:=by simpa using h
   subst this; exact hs
 ·rintro ⟨h1,h2⟩
  rcases List.mem_append.1 h1 with h | h
  ·have:=h2 r (by simp)
   rw [ho x h] at this; cases this
  ·exact h
end
theorem qLX {Ls:Nat→Lv} {Y:List Rc} {k:List UInt8} {out:List Rc} (hr : ∀ r∈Y,r.right=true) (ht:eQ Y) (hH:Holds Ls Y) (hM:gP (bB Y k) out):eP Ls k=out:=
 (nH (by rw [dJ hr]; exact ht) hH k).uniq hM fun r=>Iff.rfl
def exD (s:List UInt8):Rc:=⟨[107],2,1,[(1,1)],false,[],s⟩
theorem jBG {s:List UInt8} (h:s.length=64):(exD s).right=true:=by simp only [Rc.right,exD,h]; rfl
theorem qAD {sa sb:List UInt8} (ha:sa.length=64) (hb:sb.length=64):(∀ x∈[exA sa]++[exD sb],x.right=true∧x.key=[107])∧eQ ([exA sa]++[exD sb])∧gP (bB ([exA sa]++[exD sb]) [107]) [exD sb]:=by
 have h1 : ∀ x∈[exA sa]++[exD sb],x.right=true∧x.key=[107]:=fun x hx=>by
  have hx:x=exA sa∨x=exD sb:=by simpa using hx
  rcases hx with rfl | rfl
  ·exact ⟨jAY ha,rfl⟩
  ·exact ⟨jBG hb,rfl⟩
 have h2 : ∀ x∈[exA sa],∀ y,x.over y=false:=fun x hx y=>by
  have:x=exA sa:=by simpa using hx
  subst this; simp [Rc.over,exA,kU]
 refine ⟨h1,qHB h2 (fun a ha b hb e1 e2=>?_) rfl,qNQ h1 (fun x hx=>?_) h2 rfl⟩
 ·have ha:a=exA sa∨a=exD sb:=by simpa using ha
  have hb:b=exA sa∨b=exD sb:=by simpa using hb
  rcases ha with rfl | rfl <;> rcases hb with rfl | rfl <;> first | rfl | exact absurd e1 (by simp [exA,exD])
 ·have:x=exA sa:=by simpa using hx
  subst this; rfl
theorem qNY {sa sb:List UInt8} (ha:sa.length=64) (hb:sb.length=64) {Ls:Nat→Lv} {n:Nat} {L:Lv} (hO:bU Ls n) (hH:Holds Ls ([exA sa]++[exD sb])) (hs:dO L) (hm : ∀ e,e∈L↔∃ i,i<4∧e∈Ls i):L.length=1:=by
 obtain ⟨g1,g2,g3⟩:=qAD ha hb
 have hr : ∀ r∈[exA sa]++[exD sb],r.right=true:=fun r hr=>(g1 r hr).1
 have hL:gV ([exA sa]++[exD sb]) L:=fZ hO (by rw [dJ hr]; exact hH) hs hm
 have hj:bX (bB ([exA sa]++[exD sb]) [107]) [exD sb]:=(kF (mQ (by rw [dJ hr]; exact g2) _) iM fO).2 g3
 have h1:([107],[exD sb])∈L:=(hL.mem _ _).2 ⟨by simp,hj⟩
 have h2 : ∀ e∈L,e=([107],[exD sb]):=fun e he=>by
  obtain ⟨k,s⟩:=e
  obtain ⟨q1,q2⟩:=(hL.mem k s).1 he
  rcases Classical.em (k=[107]) with rfl | hk
  ·rw [q2.uniq hj fun r=>Iff.rfl]
  ·exfalso
   have e0:bB ([exA sa]++[exD sb]) k=[]:=List.eq_nil_iff_forall_not_mem.2 fun r hr'=>hk (by
    obtain ⟨a,b⟩:=dS.1 hr'
    rw [← b,(g1 r (by rw [dJ hr] at a; exact a)).2])
   rw [e0] at q2
   exact q1 (List.eq_nil_iff_forall_not_mem.2 fun r hr'=>by have:=gM q2 r hr'; cases this)
 match L,h1,h2,hs with
 | [a],_,_,_=>rfl
 | a :: b :: L,_,h2,hs=>
   have e1:=h2 a (by simp)
   have e2:=h2 b (by simp)
   have:=(List.pairwise_cons.1 hs).1 b (by simp)
   rw [e1,e2] at this
   exact absurd this (List.lt_irrefl _)
end Go.Proofs.YtahjmeegfkfokaaGreatDoor
end
section
namespace Go.Proofs.YtahjmeegfkfokaaGreatDoor
open Go Go.Sh Go.MapKept
open Go.Proofs.Tryz
section
variable {w:World}
theorem tY {p:Nat} {ts:Nat→Tr} {Ls:Nat→Lv} {Bs:Nat→Nat→Prop} {lo n:Nat} {s:Slc} {X rs:List Rc} (hg:dN w) (hlo : ∀ z,isG z→z<lo) (hS:ShAt w p ts Ls Bs lo) (hO:bU Ls n) (hn:n+rs.length≤255) (hR:bQ w.heap.size w s rs)
 (hH:Holds Ls X) (hr : ∀ r∈rs,r.right=true) (ht:eQ (cZ (X++rs))) (h16 : ∀ Y k out,(∀ y∈Y,y∈X++rs)→gP (bB Y k) out→out.length≤16) :
 Calls prog 9 #[.pointer (some ⟨p,0,none⟩),.slice s.a s.len s.cap] w (Ret fun v w'=>v = .int .i64 0∧∃ ts' Ls' Bs',Holds Ls' (X++rs)∧ShAt w' p ts' Ls' Bs' lo∧bU Ls' (n+rs.length)∧(∀ i,i<4→∀ z,((ts' i).W z∨Bs' i z)→w.heap.size≤z)∧Mod (fun z=>z=p) w w'):=by
 refine Calls.mono (qUN hg hlo hS hO (by omega) hR) fun e w' h=>?_
 cases e with
 | returned v=>
   obtain ⟨e,rfl,⟨rfl,ts',Ls',Bs',hP,hS',hz,hO',hm⟩ | ⟨he,k,hk,L1,L2,hP,hT,hm⟩⟩:=h
   ·refine ⟨rfl,ts',Ls',Bs',?_,hS',hO',hz,hm⟩
    have:=(pV hO hn hH hr ht h16 rs.length (Nat.le_refl _) Ls' (by rw [List.take_length]; exact hP)).1
    rwa [List.take_length] at this
   ·exact absurd (qYK hO hn hH hr ht h16 hk hP hT) he
 | _=>exact h.elim
theorem qEX {p:Nat} {ts:Nat→Tr} {Ls:Nat→Lv} {Bs:Nat→Nat→Prop} {lo n:Nat} {key:List UInt8} (hg:dN w) (hS:ShAt w p ts Ls Bs lo) (hO:bU Ls n) (hn:n≤100000) (hk:key.length≤100000000) :
 Calls prog 11 #[.pointer (some ⟨p,0,none⟩),.string ⟨key.toArray⟩] w (Ret fun v w'=>∃ x:Slc,v=x.val∧iE w.heap.size w' x (eP Ls key)∧Mod NoB w w'):=by
 refine qUL _ _ ?_
 unfold jFB
 refine aC (nU hS.blk) ?_
 rintro v w1 ⟨rfl,rfl⟩
 refine ⟨_,rfl,aD (fun h=>by cases h) fun _=>?_⟩
 refine aC (qRV (c:=p) (l:=[.bool true]) hg hS.blk hk) ?_
 rintro v w2 ⟨rfl,hm2⟩
 refine ⟨_,rfl,?_⟩
 have h4:=uK key
 refine aC (qIR (key:=key) ((hS.four.no hm2).tr _ h4) (hO.so _) (hO.ok _) (by have:=hO.n (tOf key); omega)) ?_
 rintro v w3 ⟨x,rfl,hN,hm3⟩
 exact ⟨x,rfl,x,rfl,hN.le hm2.size,hm2.tr hm3⟩
theorem qMK {p:Nat} {ts:Nat→Tr} {Ls:Nat→Lv} {Bs:Nat→Nat→Prop} {lo n:Nat} {k:Int} (hS:ShAt w p ts Ls Bs lo) (hO:bU Ls n) (hn:n≤100000) :
 Calls prog 21 #[.pointer (some ⟨p,0,none⟩),.int .i64 k] w (Ret fun v w'=>∃ x:Option Addr,v = .pointer x∧x.isSome=decide (0≤k∧k≤3)∧Mod NoB w w'):=by
 refine qVD _ _ ?_
 unfold jAI
 refine ⟨fun l' w'=>match l' with | [.b t]=>t = !decide (0≤k∧k≤3)∧w'=w | _=>False,?_,?_⟩
 ·refine aC (nU hS.blk) ?_
  rintro v w1 ⟨rfl,rfl⟩
  refine ⟨_,rfl,aD (fun h=>by cases h) fun _=>aD (fun h=>⟨?_,rfl⟩) fun h=>⟨?_,rfl⟩⟩
  ·have:=of_decide_eq_true h
   rw [decide_eq_false (by omega)]; rfl
  ·have:=of_decide_eq_false h
   by_cases h4:k≥4
   ·rw [decide_eq_true h4,decide_eq_false (by omega)]; rfl
   ·rw [decide_eq_false h4,decide_eq_true (by omega)]; rfl
 rintro t w1 ⟨rfl,rfl⟩
 refine aD (fun h=>?_) fun h=>?_
 ·have h:decide (0≤k∧k≤3)=false:=by rwa [Bool.not_eq_true'] at h
  exact ⟨none,rfl,by rw [h]; rfl,Mod.refl _ _⟩
 ·have h:decide (0≤k∧k≤3)=true:=by rwa [Bool.not_eq_false'] at h
  have h':=of_decide_eq_true h
  obtain ⟨m,rfl⟩ : ∃ m:Nat,k=m:=⟨k.toNat,by omega⟩
  have hm4:m<4:=by omega
  refine ⟨⟨by omega,by omega⟩,some ⟨(ts m).p,0,none⟩,?_,?_⟩
  ·rw [aK,aK]
   refine hS.blk.rd1 ?_
   rw [show 0+0+(m:Int).toNat*1=m by omega,List.getElem?_append_left (by show m<4; exact hm4)]
   exact tT ts hm4
  refine aC (qAJ (hS.four.tr m hm4) ⟨by omega,by omega⟩ (hO.ok m) (by have:=hO.n m; omega)) ?_
  rintro v w2 ⟨t',B',rfl,_,_,_,hm2⟩
  exact ⟨_,rfl,_,rfl,by rw [h]; rfl,hm2⟩
end
end Go.Proofs.YtahjmeegfkfokaaGreatDoor
end
section
namespace Go.Proofs.YtahjmeegfkfokaaGreatDoor
open Go Go.Sh
open Go.Proofs.Tryz
section
variable {w:World}
theorem qXQ {seed:Slc} {sl:List UInt8} {h:Hd} {r:Rc} (hg:iG w) (hs:aL w seed 1 (bys sl)) (hsl : ∀ z,seed.blk=some z→z<w.heap.size) (hl:sl.length=32) (H:dH w h r) (hsh:r.shaped=true) :
 Calls prog 27 #[.slice seed.a seed.len seed.cap,h.val] w (Ret fun v w'=>∃ (h':Hd) (sg:List UInt8),v = .tuple #[h'.val,.int .i64 0]∧dH w' h' {r with sig:=sg}∧sg.length=64∧qBT w h'∧Mod NoB w w'):=by
 refine qZK _ h.a h.b h.c h.d h.e h.f h.g ?_
 unfold jAU
 obtain ⟨ir,hr1,hr2,hr3,hr4⟩:=pG
 obtain ⟨iw,hw1,hw2,hw3,hw4⟩:=qHN
 obtain ⟨sm1,sm2,sm3,sm4⟩:=H.sm
 refine aV (l:=h.cells) rfl fun p w1 hN hb=>⟨_,rfl,?_⟩
 refine aP (l:=Hd.cells ⟨[],0,0,⟨none,0,0⟩,false,⟨none,0,0⟩,⟨none,0,0⟩⟩) hr1 hr2 rfl fun x w2 hN2 hb2=>⟨_,rfl,?_⟩
 refine ⟨h.a,h.b,h.c,h.d,h.e,h.f,h.g,rdH (hb.no hN2.mod),?_⟩
 refine aP (l:=Hd.cells ⟨[],0,0,⟨none,0,0⟩,false,⟨none,0,0⟩,⟨none,0,0⟩⟩) hw1 hw2 rfl fun q w3 hN3 hb3=>⟨_,rfl,?_⟩
 refine bZ (h:=h) (by kernel_rfl) (by kernel_rfl) hb3 rfl fun w4 ht4 hq4=>?_
 have e1:=hN.at_; have e2:=hN2.at_; have e3:=hN3.at_; have e4:=hN.size; have e5:=hN2.size; have e6:=hN3.size
 have hM4:Mod NoB w w4:=((hN.mod.tr hN2.mod).tr hN3.mod).fresh ht4.mod fun z e=>by omega
 have hp4:=(hb.no (hN2.mod.tr hN3.mod)).mod ht4.mod (by omega)
 have hx4:=(hb2.no hN3.mod).mod ht4.mod (by omega)
 refine aC (qFP (hg.no hM4) (hs.no hM4) (fun z hz=>Nat.lt_of_lt_of_le (hsl z hz) hM4.size) hl) ?_
 rintro v w5 ⟨b,lb,rfl,hlb,hbb,hsb,hm5⟩
 refine ⟨⟨some ⟨b,0,none⟩,32,32⟩,rfl,?_⟩
 refine iC (e:=5) u26 ⟨_,rfl,aD (fun h=>by simp at h) fun _=>?_⟩
 have hM5:=hM4.tr hm5
 refine ⟨h.a,h.b,h.c,h.d,h.e,h.f,h.g,rdH (hq4.no hm5),?_⟩
 refine aC (kY (h:=h) (H.no hM5)) ?_
 rintro u w7 ⟨rfl,hm7⟩
 rw [hsh]
 refine ⟨_,rfl,aD (fun h=>by cases h) fun _=>?_⟩
 have hm47:=hm5.tr hm7
 have hM7:=hM4.tr hm47
 refine ⟨h.a,h.b,h.c,h.d,h.e,h.f,h.g,rdH (hp4.no hm47),?_⟩
 refine aC (jCS (h:=h) (H.no hM7)) ?_
 rintro u w9 ⟨h',rfl,H',hn',hm9⟩
 refine ⟨h'.a,h'.b,h'.c,h'.d,h'.e,h'.f,h'.g,rfl,?_⟩
 have hm49:=hm47.tr hm9
 have hM9:=hM4.tr hm49
 have s4:w4.heap.size=w3.heap.size:=ht4.size
 have s7:=hm47.size
 refine bZ (h:=h') (by kernel_rfl) (by kernel_rfl) (hp4.no hm49) rfl fun w10 ht10 hp10=>?_
 have hM10:Mod NoB w w10:=hM9.fresh ht10.mod fun z e=>by omega
 have H10:dH w10 h' r:=H'.mod ht10.mod fun z hz e=>by have:=hn' z hz; omega
 have hq10:=(hq4.no hm49).mod ht10.mod (by omega)
 have hx10:=(hx4.no hm49).mod ht10.mod (by omega)
 refine ⟨h.a,h.b,h.c,h.d,h.e,h.f,h.g,rdH hq10,?_⟩
 refine iQ (qAU (h:=h) (H.no hM10)) fun tx w11 hot hft hm11=>?_
 refine lD (wb:=w11) [tx] [r.text] rfl rfl (by omega) (by omega) (Mod.refl _ _) rfl (qPV hot.rd fun z hz=>hot.lt hz) fun ty w12 hR hm12 _=>⟨ty,rfl,?_⟩
 have hm1012:=hm11.tr hm12
 have hM12:=hM10.tr hm1012
 obtain ⟨ss,o1,f1,l1,c1⟩:=hR
 refine vR (qWS (hg.no hM12) (hs.no hM12) (fun z hz=>Nat.lt_of_lt_of_le (hsl z hz) hM12.size) hl o1.rd (fun z hz=>o1.lt hz) l1 (fun i a b=>⟨(c1 i a b).1,fun z hz=>((c1 i a b).2 z hz).1⟩) (by have:=qP (r:=r); simp; omega) (by simp)) fun sg lg w13 hog hlg hfg hm13=>?_
 have hm1013:=hm1012.tr hm13
 have hM13:=hM10.tr hm1013
 refine dG (i:=6) (by kernel_rfl) (by kernel_rfl) rfl (hp10.no hm1013) (by rw [Hd.len]; omega) fun w14 ht14 hp14=>?_
 have hp14':Blk w14 p (Hd.cells ⟨h'.a,h'.b,h'.c,h'.d,h'.e,h'.f,sg⟩) 30:=hp14
 refine ⟨h'.a,h'.b,h'.c,h'.d,h'.e,h'.f,sg,rdH hp14',?_⟩
 refine bZ (h:=⟨h'.a,h'.b,h'.c,h'.d,h'.e,h'.f,sg⟩) (by kernel_rfl) (by kernel_rfl) ((hx10.no hm1013).mod ht14.mod (by omega)) rfl fun w15 ht15 hx15=>?_
 refine ⟨h'.a,h'.b,h'.c,h'.d,h'.e,h'.f,sg,rdH hx15,?_⟩
 have hm1315:Mod (fun z=>z=p∨z=x) w13 w15:=(ht14.mod.mono fun _ _ e=>.inl e).tr (ht15.mod.mono fun _ _ e=>.inr e)
 have hnew : ∀ z,h'.d.blk=some z∨h'.f.blk=some z∨h'.g.blk=some z→w7.heap.size≤z:=hn'
 have hsg : ∀ z,sg.blk=some z→w12.heap.size≤z:=hfg
 have s12:=hm1012.size; have s10:w10.heap.size=w9.heap.size:=ht10.size; have s9:=hm49.size
 have H13:=H10.no hm1013
 refine ⟨⟨h'.a,h'.b,h'.c,h'.d,h'.e,h'.f,sg⟩,lg,rfl,⟨H'.key,H'.cl,H'.sq,H'.gone,H13.ctx.mod hm1315 fun z hz e=>?_,H13.val.mod hm1315 fun z hz e=>?_,hog.rd.mod hm1315 fun z hz e=>?_,⟨sm1,sm2,sm3,by show lg.length≤1000000; omega⟩,?_⟩,hlg,?_,hM13.fresh hm1315 fun z e=>?_⟩
 ·have:=hnew z (.inl hz); omega
 ·have:=hnew z (.inr (.inl hz)); omega
 ·have:=hsg z hz; omega
 ·rintro z (hz | hz | hz)
  ·exact Nat.lt_of_lt_of_le (H13.lt z (.inl hz)) hm1315.size
  ·exact Nat.lt_of_lt_of_le (H13.lt z (.inr (.inl hz))) hm1315.size
  ·exact Nat.lt_of_lt_of_le (hog.lt hz) hm1315.size
 ·have s7':=hM7.size
  rintro z (hz | hz | hz)
  ·exact Nat.le_trans s7' (hnew z (.inl hz))
  ·exact Nat.le_trans s7' (hnew z (.inr (.inl hz)))
  ·have:=hsg z hz; have:=hM12.size; omega
 ·omega
end
def sh7 (w:World) (R:RW):Prop:=
 aE prog 8 [] w (aH R) fun v w1=>∃ x:Option Addr,v=(.pointer x)∧aE prog 10 [.string ⟨([107]).toArray⟩,.int .i64 (1:Int),.int .i64 (1:Int),.slice none 0 0] w1 (aH R) fun v1 w2=>∃ xa:List UInt8,∃ xb xc:Int,∃ xd:Slc,∃ xe:Bool,∃ xf xg:Slc,v1=(zR xa xb xc xd xe xf xg)∧aI prog (Instr.alloc 30 true (.tuple #[])) w2 fun v2 w3=>∃ a:Option Addr,v2=(.pointer a)∧aA a fun a1=>aJ prog (storeVar 30 a1 (zR xa xb xc xd xe xf xg)) w3 fun w4=>aI prog (Instr.buildSlice 27 1 #[(0,(.agg #[.int .i64 (1:Int),.int .i64 (1:Int)]))]) w4 fun v3 w5=>∃ x1:Slc,v3=(zS x1)∧aE prog 10 [.string ⟨([107]).toArray⟩,.int .i64 (2:Int),.int .i64 (1:Int),zS x1] w5 (aH R) fun v4 w6=>∃ xa1:List UInt8,∃ xb1 xc1:Int,∃ xd1:Slc,∃ xe1:Bool,∃ xf1 xg1:Slc,v4=(zR xa1 xb1 xc1 xd1 xe1 xf1 xg1)∧aI prog (Instr.alloc 30 true (.tuple #[])) w6 fun v5 w7=>∃ b:Option Addr,v5=(.pointer b)∧aA b fun a2=>aJ prog (storeVar 30 a2 (zR xa1 xb1 xc1 xd1 xe1 xf1 xg1)) w7 fun w8=>aA a fun a3=>∃ xa2:List UInt8,∃ xb2 xc2:Int,∃ xd2:Slc,∃ xe2:Bool,∃ xf2 xg2:Slc,Rd w8 a3 (yR xa2 xb2 xc2 xd2 xe2 xf2 xg2)∧aA b fun a4=>∃ xa3:List UInt8,∃ xb3 xc3:Int,∃ xd3:Slc,∃ xe3:Bool,∃ xf3 xg3:Slc,Rd w8 a4 (yR xa3 xb3 xc3 xd3 xe3 xf3 xg3)∧aI prog (Instr.buildSlice 32 2 #[(0,(zR xa2 xb2 xc2 xd2 xe2 xf2 xg2)),(1,(zR xa3 xb3 xc3 xd3 xe3 xf3 xg3))]) w8 fun v6 w9=>∃ x2:Slc,v6=(zS x2)∧aE prog 9 [.pointer x,zS x2] w9 (aH R) fun v7 w10=>∃ x3:Int,v7=(.int .i64 x3)∧∃ sx:World→Prop,sx w10.drew∧aG (x3==(0:Int)) (aA b fun a5=>∃ xa4:List UInt8,∃ xb4 xc4:Int,∃ xd4:Slc,∃ xe4:Bool,∃ xf4 xg4:Slc,(∀ w',sx w'→Rd w' a5 (yR xa4 xb4 xc4 xd4 xe4 xf4 xg4))∧((aE prog 11 [.pointer x,.string ⟨([107]).toArray⟩] w10.drew (aH R) fun v8 w11=>∃ x4:Slc,v8=(zS x4)∧(sx w11∧((aI prog (Instr.buildSlice 32 1 #[(0,(zR xa4 xb4 xc4 xd4 xe4 xf4 xg4))]) w11 fun v9 w12=>∃ x5:Slc,v9=(zS x5)∧((aE prog 12 [zS x4,zS x5] w12 (aH R) fun v10 w13=>∃ x6:Bool,v10=(.bool x6)∧(sx w13∧aG x6 (((aE prog 18 [.pointer x] w13 (aH R) fun v11 w14=>∃ x7:Slc,v11=(zS x7)∧(sx w14∧aG ((x7.len:Int)==(1:Int)) (((aE prog 21 [.pointer x,.int .i64 (4:Int)] w14 (aH R) fun v12 w15=>∃ x8:Option Addr,v12=(.pointer x8)∧(sx w15∧aU prog (do eqGuard .eql 47 (.tmp 32) (.const (.pointer none)) (.pointer x8) (.pointer none); binOp .eql 47 (.pointer x8) (.pointer none)) fun v13=>∃ x9:Bool,v13=(.bool x9)∧R (.returned (.bool x9)) w15))∧True)) ((((sx w14∧R (.returned (.bool false)) w14))∧True))))∧True)) ((((sx w13∧(((sx w13∧R (.returned (.bool false)) w13))∧True)))∧True))))∧True))∧True)))∧(aI prog (Instr.buildSlice 32 1 #[(0,(zR xa4 xb4 xc4 xd4 xe4 xf4 xg4))]) w10.drew fun v14 w16=>∃ x10:Slc,v14=(zS x10)∧((aE prog 11 [.pointer x,.string ⟨([107]).toArray⟩] w16 (aH R) fun v15 w17=>∃ x11:Slc,v15=(zS x11)∧(sx w17∧((aE prog 12 [zS x11,zS x10] w17 (aH R) fun v16 w18=>∃ x12:Bool,v16=(.bool x12)∧(sx w18∧aG x12 (((aE prog 18 [.pointer x] w18 (aH R) fun v17 w19=>∃ x13:Slc,v17=(zS x13)∧(sx w19∧aG ((x13.len:Int)==(1:Int)) (((aE prog 21 [.pointer x,.int .i64 (4:Int)] w19 (aH R) fun v18 w20=>∃ x14:Option Addr,v18=(.pointer x14)∧(sx w20∧aU prog (do eqGuard .eql 47 (.tmp 32) (.const (.pointer none)) (.pointer x14) (.pointer none); binOp .eql 47 (.pointer x14) (.pointer none)) fun v19=>∃ x15:Bool,v19=(.bool x15)∧R (.returned (.bool x15)) w20))∧True)) ((((sx w19∧R (.returned (.bool false)) w19))∧True))))∧True)) ((((sx w18∧(((sx w18∧R (.returned (.bool false)) w18))∧True)))∧True))))∧True)))∧True))∧True)) ((((sx w10.drew∧(((((sx w10.drew∧(((sx w10.drew∧(((sx w10.drew∧R (.returned (.bool false)) w10.drew))∧True)))∧True)))∧True))∧True)))∧((((sx w10.drew∧(((sx w10.drew∧(((sx w10.drew∧(((sx w10.drew∧R (.returned (.bool false)) w10.drew))∧True)))∧True)))∧True)))∧True))∧True))
theorem jEY {w:World} {R:RW} (hden:sh7 w R):Calls prog 7 #[] w R:=
 aB (q0 .z (q0 .z (q0 .z (q0 .z (q0 .z (q0 (.draw 1 (.take 0 (.take 1 (.take 2 (.take 3 (.take 5 (.all [(4,(.all [(6,(.all [(7,(.take 8 (.take 9 (.take 10 (.all [(11,(.take 12 (.take 13 (.take 14 (.take 15 (.take 16 (.all [(17,(.take 18 (.take 19 (.take 20 .done))))])))))))])))))]))])),(6,(.all [(4,(.all [(7,(.take 8 (.take 9 (.take 10 (.all [(11,(.take 12 (.take 13 (.take 14 (.take 15 (.take 16 (.all [(17,(.take 18 (.take 19 (.take 20 .done))))])))))))])))))]))]))]))))))) .z)))))) func7 (by kernel_rfl) [] (by kernel_rfl) (by kernel_rfl) hden
def jBF (l:Slc) (w:World) (R:RW):Prop:=
 ∃ (inv:List TV→World→Prop) (mu:List TV→World→Nat),inv [.i .i64 (0:Int)] w∧(∀ i:Int,∀ w1:World,inv [.i .i64 i] w1→∃ j:List TV→World→Prop,(aG (decide (i<(l.len:Int))) (j [.b (decide (i<(15:Int)))] w1) (j [.b false] w1))∧(∀ x:Bool,∀ w2:World,j [.b x] w2→aG x (((0≤i∧i<(l.len:Nat))∧aA l.a fun a=>∃ x1:List UInt8,Rd w2 ((a.add (i.toNat*7)).add 0) [.string ⟨x1.toArray⟩]∧aG (decide ((x1.length:Int) > (200:Int))) (R (.returned (.bool false)) w2) (((0≤i∧i<(l.len:Nat))∧aA l.a fun a1=>∃ x2:Slc,Rd w2 ((a1.add (i.toNat*7)).add 5) [zS x2]∧aG (decide ((x2.len:Int) > (2000:Int))) (R (.returned (.bool false)) w2) (((0≤i∧i<(l.len:Nat))∧aA l.a fun a2=>∃ x3:Slc,Rd w2 ((a2.add (i.toNat*7)).add 3) [zS x3]∧aG (decide ((x3.len:Int) > (50:Int))) (R (.returned (.bool false)) w2) (((0≤i∧i<(l.len:Nat))∧aA l.a fun a3=>∃ x4:Slc,Rd w2 ((a3.add (i.toNat*7)).add 6) [zS x4]∧aG (decide ((x4.len:Int) > (200:Int))) (R (.returned (.bool false)) w2) ((inv [.i .i64 (IntKind.i64.wrap (i+(1:Int)))] w2∧mu [.i .i64 (IntKind.i64.wrap (i+(1:Int)))] w2<mu [.i .i64 i] w1)))))))))) (R (.returned (.bool (decide ((l.len:Int)≤(14:Int))))) w2)))
theorem qWL (l:Slc) {w:World} {R:RW} (hden:jBF l w R):Calls prog 13 #[zS l] w R:=
 aB (q0 .z (q0 (q0 .z (.block none (.loop [(3,(.i .i64))] (q0 (.seq (some [(11,.b)]) .z (.cond .z .z)) (q0 (.block none (q0 .z (.cond (q0 .z .z) .z))) .z))))) (q0 .z .z))) func13 (by kernel_rfl) [.sl l] (by kernel_rfl) (by kernel_rfl) hden
def jBD (key:List UInt8) (client seq:Int) (context:Slc) (w:World) (R:RW):Prop:=
 aI prog (Instr.alloc 30 true (.tuple #[])) w fun v w1=>∃ x:Option Addr,v=(.pointer x)∧aE prog 28 [.int .i64 client] w1 (aH R) fun v1 w2=>∃ x1:Slc,v1=(zS x1)∧aE prog 27 [zS x1,.agg #[.string ⟨key.toArray⟩,.int .i64 client,.int .i64 seq,zS context,.bool false,.slice none 0 0,.slice none 0 0]] w2 (aH R) fun v2 w3=>∃ xaa:List UInt8,∃ xab xac:Int,∃ xad:Slc,∃ xae:Bool,∃ xaf xag:Slc,∃ xb:Int,v2=(.tuple #[zR xaa xab xac xad xae xaf xag,.int .i64 xb])∧aI prog (Instr.alloc 30 true (.tuple #[])) w3 fun v3 w4=>∃ r:Option Addr,v3=(.pointer r)∧aA r fun a=>aJ prog (storeVar 30 a (zR xaa xab xac xad xae xaf xag)) w4 fun w5=>aA r fun a1=>∃ xa:List UInt8,∃ xb1 xc:Int,∃ xd:Slc,∃ xe:Bool,∃ xf xg:Slc,Rd w5 a1 (yR xa xb1 xc xd xe xf xg)∧aA x fun a2=>aJ prog (storeVar 30 a2 (zR xa xb1 xc xd xe xf xg)) w5 fun w6=>aA x fun a3=>∃ xa1:List UInt8,∃ xb2 xc1:Int,∃ xd1:Slc,∃ xe1:Bool,∃ xf1 xg1:Slc,Rd w6 a3 (yR xa1 xb2 xc1 xd1 xe1 xf1 xg1)∧R (.returned (zR xa1 xb2 xc1 xd1 xe1 xf1 xg1)) w6
theorem qYZ (key:List UInt8) (client seq:Int) (context:Slc) {w:World} {R:RW} (hden:jBD key client seq context w R):Calls prog 10 #[.string ⟨key.toArray⟩,.int .i64 client,.int .i64 seq,zS context] w R:=
 aB (q0 .z (q0 .z (q0 .z .z))) func10 (by kernel_rfl) [.s key,.i .i64 client,.i .i64 seq,.sl context] (by kernel_rfl) (by kernel_rfl) hden
def jEE (client:Int) (w:World) (R:RW):Prop:=
 aI prog (Instr.makeSlice 28 (.int .i64 (32:Int)) (.int .i64 (32:Int))) w fun v w1=>∃ x:Slc,v=(zS x)∧∃ (inv:List TV→World→Prop) (mu:List TV→World→Nat),inv [.i .i64 (0:Int)] w1∧(∀ i:Int,∀ w2:World,inv [.i .i64 i] w2→aG (decide (i<(32:Int))) (((0≤i∧i<(x.len:Nat))∧aA x.a fun a=>aJ prog (storeVar 5 (a.add (i.toNat*1)) (.int .u8 ((pO (IntKind.i64.wrap ((IntKind.i64.wrap (client*(7:Int)))+i)))).toNat)) w2 fun w3=>(inv [.i .i64 (IntKind.i64.wrap (i+(1:Int)))] w3∧mu [.i .i64 (IntKind.i64.wrap (i+(1:Int)))] w3<mu [.i .i64 i] w2))) (R (.returned (zS x)) w2))
theorem qUG (client:Int) {w:World} {R:RW} (hden:jEE client w R):Calls prog 28 #[.int .i64 client] w R:=
 aB (q0 .z (q0 .z (q0 (q0 .z (.block none (.loop [(4,(.i .i64))] (q0 (q0 .z (.cond .z .z)) (q0 (.block none .z) .z))))) (q0 .z .z)))) func28 (by kernel_rfl) [.i .i64 client] (by kernel_rfl) (by kernel_rfl) hden
end Go.Proofs.YtahjmeegfkfokaaGreatDoor
end
section
namespace Go.Proofs.YtahjmeegfkfokaaGreatDoor
open Go Go.Sh Go.MapKept
open Go.Proofs.Tryz
section
variable {w:World}
theorem qYB {client:Int} : Calls prog 28 #[.int .i64 client] w (Ret (RN 32 w)):=by
 refine qUG _ ?_
 unfold jEE
 obtain ⟨i5',h51,h52,h53,h54⟩:=i5
 refine cJ (l:=32) (c:=32) u26 h51 h52 h53 rfl h54 rfl rfl (by omega) (by omega) (by omega) fun e w1 hN1 hb1 ho1=>⟨⟨some ⟨e,0,none⟩,32,32⟩,rfl,?_⟩
 rw [kC] at ho1
 have hat:=hN1.at_
 refine ⟨fun l' w'=>match l' with | [.i _ x]=>∃ (k:Nat) (l:List UInt8),x=k∧l.length=32∧Sh.Own w' ⟨some ⟨e,0,none⟩,32,32⟩ 1 (bys l)∧Mod NoB w w' | _=>False,fun l' _=>match l' with | [.i _ x]=>(32 - x).toNat | _=>0,
  ⟨0,List.replicate 32 0,rfl,by simp,ho1,hN1.mod⟩,?_⟩
 rintro x w2 ⟨k,l,rfl,hl,ho2,hm2⟩
 refine aD (fun hlt=>?_) fun hge=>?_
 ·have hk:k<32:=by have:=of_decide_eq_true hlt; omega
  refine ⟨⟨by omega,by show (k:Int)<((32:Nat):Int); omega⟩,?_⟩
  simp only [Int.toNat_natCast]
  refine jI (by kernel_rfl) (by kernel_rfl) rfl ho2 rfl hk fun w3 ho3 hm3 hs3=>⟨⟨k+1,_,aM (by omega),?_,by rw [fP] at ho3; exact ho3,hm2.fresh hm3 fun z hz=>?_⟩,?_⟩
  ·simp [hl]
  ·rw [Slc.blk_mk,if_neg (by omega)] at hz; cases hz; omega
  ·rw [aM (by omega)]; (try simp only []); omega
 ·exact ⟨⟨some ⟨e,0,none⟩,32,32⟩,l,rfl,ho2,hl,FB.new (by omega),hm2⟩
theorem vO {key:List UInt8} {cl sq:Int} {ctx:Slc} {cx:List (Int×Int)} (hg:iG w) (hc:aL w ctx 2 (dts cx)) (hcl : ∀ z,ctx.blk=some z→z<w.heap.size)
 (hk:key.length≤1000000) (hcx:cx.length≤1000000) (hsh:Rc.shaped ⟨key,cl,sq,cx,false,[],[]⟩=true) :
 Calls prog 10 #[.string ⟨key.toArray⟩,.int .i64 cl,.int .i64 sq,.slice ctx.a ctx.len ctx.cap] w (Ret fun v w'=>∃ (h':Hd) (sg:List UInt8),v=h'.val∧dH w' h' ⟨key,cl,sq,cx,false,[],sg⟩∧sg.length=64∧qBT w h'∧Mod NoB w w'):=by
 refine qYZ _ _ _ _ ?_
 unfold jBD
 obtain ⟨ir,hr1,hr2,hr3,hr4⟩:=pG
 refine aP (l:=Hd.cells ⟨[],0,0,⟨none,0,0⟩,false,⟨none,0,0⟩,⟨none,0,0⟩⟩) hr1 hr2 rfl fun x w1 hN1 hb1=>⟨_,rfl,?_⟩
 refine vR qYB fun s l w2 hos hl hfs hm2=>?_
 have hM2:=hN1.mod.tr hm2
 have H:dH w2 ⟨key,cl,sq,ctx,false,⟨none,0,0⟩,⟨none,0,0⟩⟩ ⟨key,cl,sq,cx,false,[],[]⟩:=
  ⟨rfl,rfl,rfl,rfl,hc.no hM2,uI _ _,uI _ _,⟨hk,hcx,by simp,by simp⟩,fun z hz=>by
   rcases hz with hz | hz | hz
   ·exact Nat.lt_of_lt_of_le (hcl z hz) hM2.size
   ·simp at hz
   ·simp at hz⟩
 refine aC (qXQ (h:=⟨key,cl,sq,ctx,false,⟨none,0,0⟩,⟨none,0,0⟩⟩) (hg.no hM2) hos.rd (fun z hz=>hos.lt hz) hl H hsh) ?_
 rintro v w3 ⟨h',sg,rfl,H',hsg,hnew,hm3⟩
 refine ⟨h'.a,h'.b,h'.c,h'.d,h'.e,h'.f,h'.g,0,rfl,?_⟩
 refine aP (l:=Hd.cells ⟨[],0,0,⟨none,0,0⟩,false,⟨none,0,0⟩,⟨none,0,0⟩⟩) hr1 hr2 rfl fun r w4 hN4 hb4=>⟨_,rfl,?_⟩
 have hM3:=hM2.tr hm3
 have s1:=hN1.size; have a1:=hN1.at_; have a4:=hN4.at_; have s3:=hM3.size; have s23:=(hm2.tr hm3).size; have s4:=hN4.size
 refine bZ (h:=h') (by kernel_rfl) (by kernel_rfl) hb4 rfl fun w5 ht5 hb5=>?_
 have hm5:Mod NoB w3 w5:=hN4.mod.fresh ht5.mod fun z e=>by omega
 refine ⟨h'.a,h'.b,h'.c,h'.d,h'.e,h'.f,h'.g,rdH hb5,?_⟩
 have hx5:=(hb1.no (hm2.tr (hm3.tr hm5)))
 refine bZ (h:=h') (by kernel_rfl) (by kernel_rfl) hx5 rfl fun w6 ht6 hb6=>?_
 refine ⟨h'.a,h'.b,h'.c,h'.d,h'.e,h'.f,h'.g,rdH hb6,h',sg,rfl,(H'.no hm5).mod ht6.mod fun z hz e=>?_,hsg,fun z hz=>?_,(hM3.tr hm5).fresh ht6.mod fun z e=>by omega⟩
 ·have:=hnew z hz; have:=hM2.size; have:=hm2.size; omega
 ·have:=hnew z hz; have:=hM2.size; omega
end
def lim (r:Rc):Prop:=r.key.length≤200∧r.val.length≤2000∧r.ctx.length≤50∧r.sig.length≤200
def yL (l:List Rc):Prop:=l.length≤16∧∀ r∈l,lim r
theorem uO {w:World} {a:Addr} {vs:List Value} {j:Nat} {v:Value} (h:Rd w a vs) (hj:vs[j]? = some v):Rd w (a.add j) [v]:=kG.2 (h j v hj)
theorem qLU {w:World} {s:Slc} {ls:List Rc} (hl:iS w s ls) (hn:s.len≤9000000000000000000) :
 Calls prog 13 #[.slice s.a s.len s.cap] w (Ret fun v w'=>∃ b,v = .bool b∧(b=true→yL ls)∧w'=w):=by
 refine qWL _ ?_
 unfold jBF
 have hlen:=hl.len
 obtain ⟨hs,g1,g2,g3,g4⟩:=hl
 refine ⟨fun l' w'=>match l' with | [.i _ x]=>∃ k:Nat,x=k∧k≤15∧k≤ls.length∧(∀ r∈ls.take k,lim r)∧w'=w | _=>False,fun l' _=>match l' with | [.i _ x]=>(15 - x).toNat | _=>0,⟨0,rfl,by omega,by omega,by simp,rfl⟩,?_⟩
 rintro x w1 ⟨k,rfl,hk,hkl,hk2,rfl⟩
 refine ⟨fun l' w'=>match l' with | [.b t]=>t=decide (k<ls.length∧k<15)∧w'=w1 | _=>False,aD (fun h=>⟨?_,rfl⟩) (fun h=>⟨?_,rfl⟩),?_⟩
 ·have:=of_decide_eq_true h
  exact decide_eq_decide.2 ⟨fun _=>⟨by omega,by omega⟩,fun _=>by omega⟩
 ·have:=of_decide_eq_false h
  exact (decide_eq_false (by omega)).symm
 ·rintro x w2 ⟨rfl,rfl⟩
  refine aD (fun h=>?_) fun h=>?_
  ·have h:=of_decide_eq_true h
   have hk':k<hs.length:=by omega
   obtain ⟨A,ea,hrd⟩:=bH Hd.len (by omega) g1 hk'
   have H:=g4 k hk' (by omega)
   have hc:=iH H.ctx
   have hv:=aW H.val
   have hg:=aW H.sig
   rw [ea]
   refine ⟨⟨by omega,by omega⟩,hs[k].a,uO (j:=0) hrd rfl,aD (fun h1=>⟨false,rfl,(fun h=>by cases h),rfl⟩) fun h1=>?_⟩
   have h1:=of_decide_eq_false h1
   refine ⟨⟨by omega,by omega⟩,hs[k].f,uO (j:=5) hrd rfl,aD (fun h2=>⟨false,rfl,(fun h=>by cases h),rfl⟩) fun h2=>?_⟩
   have h2:=of_decide_eq_false h2
   refine ⟨⟨by omega,by omega⟩,hs[k].d,uO (j:=3) hrd rfl,aD (fun h3=>⟨false,rfl,(fun h=>by cases h),rfl⟩) fun h3=>?_⟩
   have h3:=of_decide_eq_false h3
   refine ⟨⟨by omega,by omega⟩,hs[k].g,uO (j:=6) hrd rfl,aD (fun h4=>⟨false,rfl,(fun h=>by cases h),rfl⟩) fun h4=>?_⟩
   have h4:=of_decide_eq_false h4
   refine ⟨⟨k+1,aM (by omega),by omega,by omega,fun r hr=>?_,rfl⟩,?_⟩
   ·rw [aT (show k<ls.length by omega)] at hr
    rcases List.mem_append.1 hr with hr | hr
    ·exact hk2 r hr
    ·simp at hr; subst hr
     rw [H.key] at h1
     exact ⟨by omega,by omega,by omega,by omega⟩
   ·rw [aM (by omega)]; (try simp only []); omega
  ·have h:=of_decide_eq_false h
   refine ⟨_,rfl,fun hb=>?_,rfl⟩
   have hb:=of_decide_eq_true hb
   rw [List.take_of_length_le (by omega)] at hk2
   exact ⟨by omega,hk2⟩
theorem iS.at {w:World} {s:Slc} {ls:List Rc} (h:iS w s ls) (hq:yL ls):bQ w.heap.size w s ls:=by
 obtain ⟨hs,h1,h2,h3,h4⟩:=h
 refine ⟨hs,h1,h2,h3,fun i a b=>⟨(h4 i a b).at ?_,fun z hz=>(h4 i a b).lt z hz⟩⟩
 have:=hq.2 ls[i] (List.getElem_mem _)
 exact ⟨by have:=this.1; omega,by have:=this.2.2.1; omega,by have:=this.2.1; omega,by have:=this.2.2.2; omega⟩
end Go.Proofs.YtahjmeegfkfokaaGreatDoor
end
section
namespace Go.Proofs.YtahjmeegfkfokaaGreatDoor
open Go Go.Sh
open Go.Proofs.Tryz
def jCI (l:Slc) (w:World) (R:RW):Prop:=
 ∃ (inv:List TV→World→Prop) (mu:List TV→World→Nat),inv [.i .i64 (0:Int)] w∧(∀ i:Int,∀ w1:World,inv [.i .i64 i] w1→aG (decide (i<(l.len:Int))) (∃ (inv1:List TV→World→Prop) (mu1:List TV→World→Nat),inv1 [.i .i64 (0:Int)] w1∧(∀ k:Int,∀ w2:World,inv1 [.i .i64 k] w2→aG (decide (k<(l.len:Int))) (∃ j:List TV→World→Prop,(∃ sx:World→Prop,sx w2.drew∧((0≤i∧i<(l.len:Nat))∧aA l.a fun a=>((0≤k∧k<(l.len:Nat))∧aA l.a fun a1=>∃ xa:List UInt8,∃ xb xc:Int,∃ xd:Slc,∃ xe:Bool,∃ xf xg:Slc,(∀ w',sx w'→Rd w' (a.add (i.toNat*7)) (yR xa xb xc xd xe xf xg))∧∃ xa1:List UInt8,∃ xb1 xc1:Int,∃ xd1:Slc,∃ xe1:Bool,∃ xf1 xg1:Slc,(∀ w',sx w'→Rd w' (a1.add (k.toNat*7)) (yR xa1 xb1 xc1 xd1 xe1 xf1 xg1))∧((aI prog (Instr.alloc 30 true (.tuple #[])) w2.drew fun v w3=>∃ a2:Option Addr,v=(.pointer a2)∧(sx w3∧((aI prog (Instr.alloc 30 true (.tuple #[])) w3 fun v1 w4=>∃ b:Option Addr,v1=(.pointer b)∧(sx w4∧((aA a2 fun a3=>aJ prog (storeVar 30 a3 (zR xa xb xc xd xe xf xg)) w4 fun w5=>(sx w5∧((aA b fun a4=>aJ prog (storeVar 30 a4 (zR xa1 xb1 xc1 xd1 xe1 xf1 xg1)) w5 fun w6=>j [.p a2,.p b] w6)∧True)))∧True)))∧True)))∧(aI prog (Instr.alloc 30 true (.tuple #[])) w2.drew fun v2 w7=>∃ b1:Option Addr,v2=(.pointer b1)∧(sx w7∧((aI prog (Instr.alloc 30 true (.tuple #[])) w7 fun v3 w8=>∃ a5:Option Addr,v3=(.pointer a5)∧(sx w8∧((aA a5 fun a6=>aJ prog (storeVar 30 a6 (zR xa xb xc xd xe xf xg)) w8 fun w9=>(sx w9∧((aA b1 fun a7=>aJ prog (storeVar 30 a7 (zR xa1 xb1 xc1 xd1 xe1 xf1 xg1)) w9 fun w10=>j [.p a5,.p b1] w10)∧True)))∧True)))∧True)))∧True))))∧(∀ a8 b2:Option Addr,∀ w11:World,j [.p a8,.p b2] w11→∃ j1:List TV→World→Prop,(aA a8 fun a9=>∃ x:List UInt8,Rd w11 (a9.add 0) [.string ⟨x.toArray⟩]∧aA b2 fun a10=>∃ x1:List UInt8,Rd w11 (a10.add 0) [.string ⟨x1.toArray⟩]∧aG (x==x1) (aA a8 fun a11=>∃ x2:Int,Rd w11 (a11.add 1) [.int .i64 x2]∧aA b2 fun a12=>∃ x3:Int,Rd w11 (a12.add 1) [.int .i64 x3]∧aG (x2==x3) (aA a8 fun a13=>∃ x4:Int,Rd w11 (a13.add 2) [.int .i64 x4]∧aA b2 fun a14=>∃ x5:Int,Rd w11 (a14.add 2) [.int .i64 x5]∧aG (x4==x5) (aA a8 fun a15=>∃ xa2:List UInt8,∃ xb2 xc2:Int,∃ xd2:Slc,∃ xe2:Bool,∃ xf2 xg2:Slc,Rd w11 a15 (yR xa2 xb2 xc2 xd2 xe2 xf2 xg2)∧aA b2 fun a16=>∃ xa3:List UInt8,∃ xb3 xc3:Int,∃ xd3:Slc,∃ xe3:Bool,∃ xf3 xg3:Slc,Rd w11 a16 (yR xa3 xb3 xc3 xd3 xe3 xf3 xg3)∧aE prog 20 [zR xa2 xb2 xc2 xd2 xe2 xf2 xg2,zR xa3 xb3 xc3 xd3 xe3 xf3 xg3] w11 (aH R) fun v4 w12=>∃ x6:Bool,v4=(.bool x6)∧j1 [.b (!x6)] w12) (j1 [.b false] w11)) (j1 [.b false] w11)) (j1 [.b false] w11))∧(∀ x7:Bool,∀ w13:World,j1 [.b x7] w13→aG x7 (R (.returned (.bool false)) w13) (aA a8 fun a17=>∃ xa4:List UInt8,∃ xb4 xc4:Int,∃ xd4:Slc,∃ xe4:Bool,∃ xf4 xg4:Slc,Rd w13 a17 (yR xa4 xb4 xc4 xd4 xe4 xf4 xg4)∧aA b2 fun a18=>∃ xa5:List UInt8,∃ xb5 xc5:Int,∃ xd5:Slc,∃ xe5:Bool,∃ xf5 xg5:Slc,Rd w13 a18 (yR xa5 xb5 xc5 xd5 xe5 xf5 xg5)∧aE prog 19 [zR xa4 xb4 xc4 xd4 xe4 xf4 xg4,zR xa5 xb5 xc5 xd5 xe5 xf5 xg5] w13 (aH R) fun v5 w14=>∃ x8:Bool,v5=(.bool x8)∧aG (!x8) ((inv1 [.i .i64 (IntKind.i64.wrap (k+(1:Int)))] w14∧mu1 [.i .i64 (IntKind.i64.wrap (k+(1:Int)))] w14<mu1 [.i .i64 k] w2)) (aA b2 fun a19=>∃ xa6:List UInt8,∃ xb6 xc6:Int,∃ xd6:Slc,∃ xe6:Bool,∃ xf6 xg6:Slc,Rd w14 a19 (yR xa6 xb6 xc6 xd6 xe6 xf6 xg6)∧aA a8 fun a20=>∃ xa7:List UInt8,∃ xb7 xc7:Int,∃ xd7:Slc,∃ xe7:Bool,∃ xf7 xg7:Slc,Rd w14 a20 (yR xa7 xb7 xc7 xd7 xe7 xf7 xg7)∧aE prog 19 [zR xa6 xb6 xc6 xd6 xe6 xf6 xg6,zR xa7 xb7 xc7 xd7 xe7 xf7 xg7] w14 (aH R) fun v6 w15=>∃ x9:Bool,v6=(.bool x9)∧aG x9 (R (.returned (.bool false)) w15) (∃ (inv2:List TV→World→Prop) (mu2:List TV→World→Nat),inv2 [.i .i64 (0:Int)] w15∧(∀ j2:Int,∀ w16:World,inv2 [.i .i64 j2] w16→aG (decide (j2<(l.len:Int))) (∃ sx1:World→Prop,sx1 w16.drew∧((0≤j2∧j2<(l.len:Nat))∧aA l.a fun a21=>aA b2 fun a22=>∃ xa8:List UInt8,∃ xb8 xc8:Int,∃ xd8:Slc,∃ xe8:Bool,∃ xf8 xg8:Slc,(∀ w',sx1 w'→Rd w' a22 (yR xa8 xb8 xc8 xd8 xe8 xf8 xg8))∧∃ xa9:List UInt8,∃ xb9 xc9:Int,∃ xd9:Slc,∃ xe9:Bool,∃ xf9 xg9:Slc,(∀ w',sx1 w'→Rd w' (a21.add (j2.toNat*7)) (yR xa9 xb9 xc9 xd9 xe9 xf9 xg9))∧((aE prog 19 [zR xa8 xb8 xc8 xd8 xe8 xf8 xg8,zR xa9 xb9 xc9 xd9 xe9 xf9 xg9] w16.drew (aH R) fun v7 w17=>∃ x10:Bool,v7=(.bool x10)∧(sx1 w17∧aG x10 (((0≤j2∧j2<(l.len:Nat))∧aA l.a fun a23=>aA a8 fun a24=>∃ xa10:List UInt8,∃ xb10 xc10:Int,∃ xd10:Slc,∃ xe10:Bool,∃ xf10 xg10:Slc,(∀ w',sx1 w'→Rd w' a24 (yR xa10 xb10 xc10 xd10 xe10 xf10 xg10))∧∃ xa11:List UInt8,∃ xb11 xc11:Int,∃ xd11:Slc,∃ xe11:Bool,∃ xf11 xg11:Slc,(∀ w',sx1 w'→Rd w' (a23.add (j2.toNat*7)) (yR xa11 xb11 xc11 xd11 xe11 xf11 xg11))∧((aE prog 19 [zR xa10 xb10 xc10 xd10 xe10 xf10 xg10,zR xa11 xb11 xc11 xd11 xe11 xf11 xg11] w17 (aH R) fun v8 w18=>∃ x11:Bool,v8=(.bool x11)∧(sx1 w18∧aG (!x11) (R (.returned (.bool false)) w18) ((inv2 [.i .i64 (IntKind.i64.wrap (j2+(1:Int)))] w18∧mu2 [.i .i64 (IntKind.i64.wrap (j2+(1:Int)))] w18<mu2 [.i .i64 j2] w16))))∧True))) ((((sx1 w17∧(inv2 [.i .i64 (IntKind.i64.wrap (j2+(1:Int)))] w17∧mu2 [.i .i64 (IntKind.i64.wrap (j2+(1:Int)))] w17<mu2 [.i .i64 j2] w16)))∧True))))∧True))) ((inv1 [.i .i64 (IntKind.i64.wrap (k+(1:Int)))] w16∧mu1 [.i .i64 (IntKind.i64.wrap (k+(1:Int)))] w16<mu1 [.i .i64 k] w2))))))))) ((inv [.i .i64 (IntKind.i64.wrap (i+(1:Int)))] w2∧mu [.i .i64 (IntKind.i64.wrap (i+(1:Int)))] w2<mu [.i .i64 i] w1)))) (R (.returned (.bool true)) w1))
theorem qYT (l:Slc) {w:World} {R:RW} (hden:jCI l w R):Calls prog 15 #[zS l] w R:=
 aB (q0 .z (q0 (q0 .z (.block none (.loop [(3,(.i .i64))] (q0 (q0 .z (.cond .z .z)) (q0 (.block none (q0 .z (.block none (.loop [(4,(.i .i64))] (q0 (q0 .z (.cond .z .z)) (q0 (.block none (.seq (some [(5,.p),(6,.p)]) (.draw 1 (.take 0 (.take 1 (.take 2 (.take 4 (.take 5 (.take 6 (.take 3 (.take 7 (.all [(8,(.all [(9,(.all [(10,(.all [(11,.done)]))]))])),(9,(.all [(8,(.all [(10,(.all [(11,.done)]))]))]))])))))))))) (q0 (.seq (some [(52,.b)]) .z (.cond (q0 .z .z) .z)) (q0 (q0 .z (.cond .z .z)) (q0 (q0 .z (.cond (q0 .z .z) .z)) (q0 .z (.block none (.loop [(7,(.i .i64))] (q0 (q0 .z (.cond .z .z)) (q0 (.block none (q0 (.draw 1 (.take 1 (.take 2 (.take 3 (.take 0 (.take 4 (.all [(5,(.take 6 (.take 8 (.take 9 (.take 10 (.take 7 (.take 11 (.all [(12,(.take 13 (.take 14 .done)))]))))))))]))))))) (.cond (q0 .z .z) .z))) .z)))))))))) .z)))))) .z))))) (q0 .z .z))) func15 (by kernel_rfl) [.sl l] (by kernel_rfl) (by kernel_rfl) hden
end Go.Proofs.YtahjmeegfkfokaaGreatDoor
end
section
namespace Go.Proofs.YtahjmeegfkfokaaGreatDoor
open Go Go.Sh Go.MapKept
open Go.Proofs.Tryz
def tq (ls:List Rc) (a b:Rc):Prop:=(a.key=b.key→a.cl=b.cl→a.sq=b.sq→a=b)∧(a.over b=true→b.over a=false∧∀ c∈ls,b.over c=true→a.over c=true)
theorem yW {ls:List Rc} (h : ∀ a∈ls,∀ b∈ls,tq ls a b):eQ ls:=
 ⟨fun a ha b hb=>(h a ha b hb).1,fun a ha b hb e=>((h a ha b hb).2 e).1,fun a ha b hb c hc e e'=>((h a ha b hb).2 e).2 c hc e'⟩
theorem dU {α:Type} {l:List α} {k:Nat} (hk:k<l.length) {P:α→Prop} (h : ∀ a∈l.take k,P a) (h':P l[k]) : ∀ a∈l.take (k+1),P a:=fun a ha=>by
 rw [aT hk] at ha
 rcases List.mem_append.1 ha with ha | ha
 ·exact h a ha
 ·simp at ha; subst ha; exact h'
section
variable {w:World}
theorem qYN {B:Nat} {s:Slc} {ls:List Rc} (hA:bQ B w s ls) (hn:ls.length≤1000) :
 Calls prog 15 #[.slice s.a s.len s.cap] w (Ret fun v w'=>∃ b,v = .bool b∧(b=true→eQ ls)∧Mod NoB w w'):=by
 refine qYT _ ?_
 unfold jCI
 have hlen:=hA.len
 obtain ⟨ir,hr1,hr2,hr3,hr4⟩:=pG
 obtain ⟨hs,g1,g2,g3,g4⟩:=hA
 refine ⟨fun l' w'=>match l' with | [.i _ x]=>∃ i:Nat,x=i∧i≤ls.length∧(∀ a∈ls.take i,∀ b∈ls,tq ls a b)∧Mod NoB w w' | _=>False,fun l' _=>match l' with | [.i _ x]=>(ls.length - x).toNat | _=>0,⟨0,rfl,by omega,by simp,Mod.refl _ _⟩,?_⟩
 rintro x w1 ⟨i,rfl,hi,hI,hm1⟩
 refine aD (fun h=>?_) fun h=>?_
 ·have hil:i<ls.length:=by have:=of_decide_eq_true h; omega
  have hih:i<hs.length:=by omega
  obtain ⟨A,ea,hrA⟩:=bH Hd.len (by omega) g1 hih
  have Hi:=(g4 i hih hil).1
  refine ⟨fun l' w'=>match l' with | [.i _ x]=>∃ k:Nat,x=k∧k≤ls.length∧(∀ b∈ls.take k,tq ls ls[i] b)∧Mod NoB w w' | _=>False,fun l' _=>match l' with | [.i _ x]=>(ls.length - x).toNat | _=>0,⟨0,rfl,by omega,by simp,hm1⟩,?_⟩
  rintro y w2 ⟨k,rfl,hk,hK,hm2⟩
  refine aD (fun h=>?_) fun h=>?_
  ·have hkl:k<ls.length:=by have:=of_decide_eq_true h; omega
   have hkh:k<hs.length:=by omega
   obtain ⟨A',ea',hrA'⟩:=bH Hd.len (by omega) g1 hkh
   rw [ea] at ea'; cases ea'
   have Hk:=(g4 k hkh hkl).1
   rw [ea]
   refine ⟨fun l' w'=>match l' with | [.p pa,.p pb]=>∃ (p q:Nat) (T T':TypeId),pa=some ⟨p,0,none⟩∧pb=some ⟨q,0,none⟩∧Blk w' p hs[i].cells T∧Blk w' q hs[k].cells T'∧Mod NoB w w' | _=>False,?_,?_⟩
   ·have hm2d:=hm2.tr (Mod.drew NoB w2)
    refine ⟨Mod NoB w2.drew,Mod.refl _ _,⟨by omega,by omega⟩,⟨by omega,by omega⟩,hs[i].a,hs[i].b,hs[i].c,hs[i].d,hs[i].e,hs[i].f,hs[i].g,fun w' hm=>hrA.mod (hm2d.tr hm) fun h=>h,hs[k].a,hs[k].b,hs[k].c,hs[k].d,hs[k].e,hs[k].f,hs[k].g,fun w' hm=>hrA'.mod (hm2d.tr hm) fun h=>h,?_,?_,trivial⟩
    ·refine aP (l:=Hd.cells ⟨[],0,0,⟨none,0,0⟩,false,⟨none,0,0⟩,⟨none,0,0⟩⟩) hr1 hr2 rfl fun p w3 hN3 hp3=>⟨_,rfl,hN3.mod,?_,trivial⟩
     refine aP (l:=Hd.cells ⟨[],0,0,⟨none,0,0⟩,false,⟨none,0,0⟩,⟨none,0,0⟩⟩) hr1 hr2 rfl fun q w4 hN4 hq4=>⟨_,rfl,hN3.mod.tr hN4.mod,?_,trivial⟩
     have e3:=hN3.at_; have e4:=hN4.at_; have s3:=hN3.size; have s4:=hN4.size
     refine bZ (h:=hs[i]) (by kernel_rfl) (by kernel_rfl) (hp3.no hN4.mod) rfl fun w5 ht5 hp5=>?_
     have hm5:Mod NoB w2.drew w5:=(hN3.mod.tr hN4.mod).fresh ht5.mod fun z e=>by omega
     refine ⟨hm5,?_,trivial⟩
     refine bZ (h:=hs[k]) (by kernel_rfl) (by kernel_rfl) (hq4.mod ht5.mod (by omega)) rfl fun w6 ht6 hq6=>?_
     exact ⟨p,q,_,_,rfl,rfl,hp5.mod ht6.mod (by omega),hq6,hm2d.tr (hm5.fresh ht6.mod fun z e=>by omega)⟩
    ·refine aP (l:=Hd.cells ⟨[],0,0,⟨none,0,0⟩,false,⟨none,0,0⟩,⟨none,0,0⟩⟩) hr1 hr2 rfl fun q w3 hN3 hq3=>⟨_,rfl,hN3.mod,?_,trivial⟩
     refine aP (l:=Hd.cells ⟨[],0,0,⟨none,0,0⟩,false,⟨none,0,0⟩,⟨none,0,0⟩⟩) hr1 hr2 rfl fun p w4 hN4 hp4=>⟨_,rfl,hN3.mod.tr hN4.mod,?_,trivial⟩
     have e3:=hN3.at_; have e4:=hN4.at_; have s3:=hN3.size; have s4:=hN4.size
     refine bZ (h:=hs[i]) (by kernel_rfl) (by kernel_rfl) hp4 rfl fun w5 ht5 hp5=>?_
     have hm5:Mod NoB w2.drew w5:=(hN3.mod.tr hN4.mod).fresh ht5.mod fun z e=>by omega
     refine ⟨hm5,?_,trivial⟩
     refine bZ (h:=hs[k]) (by kernel_rfl) (by kernel_rfl) ((hq3.no hN4.mod).mod ht5.mod (by omega)) rfl fun w6 ht6 hq6=>?_
     exact ⟨p,q,_,_,rfl,rfl,hp5.mod ht6.mod (by omega),hq6,hm2d.tr (hm5.fresh ht6.mod fun z e=>by omega)⟩
   ·rintro pa pb w3 ⟨p,q,T,T',rfl,rfl,hp,hq,hm3⟩
    refine ⟨fun l' w'=>match l' with | [.b t]=>(t=false→ls[i].key=ls[k].key→ls[i].cl=ls[k].cl→ls[i].sq=ls[k].sq→ls[i]=ls[k])∧Mod NoB w3 w' | _=>False,?_,?_⟩
    ·refine ⟨hs[i].a,eV (i:=0) hp rfl,hs[k].a,eV (i:=0) hq rfl,aD (fun h1=>?_) fun h1=>⟨fun _ e=>?_,Mod.refl _ _⟩⟩
     ·refine ⟨hs[i].b,eV (i:=1) hp rfl,hs[k].b,eV (i:=1) hq rfl,aD (fun h2=>?_) fun h2=>⟨fun _ _ e=>?_,Mod.refl _ _⟩⟩
      ·refine ⟨hs[i].c,eV (i:=2) hp rfl,hs[k].c,eV (i:=2) hq rfl,aD (fun h3=>?_) fun h3=>⟨fun _ _ _ e=>?_,Mod.refl _ _⟩⟩
       ·refine ⟨hs[i].a,hs[i].b,hs[i].c,hs[i].d,hs[i].e,hs[i].f,hs[i].g,rdH hp,hs[k].a,hs[k].b,hs[k].c,hs[k].d,hs[k].e,hs[k].f,hs[k].g,rdH hq,?_⟩
        refine aC (oE (a:=hs[i]) (b:=hs[k]) (Hi.no hm3) (Hk.no hm3)) ?_
        rintro v w4 ⟨rfl,hm4⟩
        exact ⟨_,rfl,fun ht _ _ _=>by simpa using ht,hm4⟩
       ·rw [Hi.sq,Hk.sq,e] at h3; simp at h3
      ·rw [Hi.cl,Hk.cl,e] at h2; simp at h2
     ·rw [Hi.key,Hk.key,e] at h1; simp at h1
    ·rintro t w4 ⟨ht,hm4⟩
     refine aD (fun h=>⟨false,rfl,(fun e=>by cases e),hm3.tr hm4⟩) fun h=>?_
     have hsame:=ht h
     have hp4:=hp.no hm4
     have hq4:=hq.no hm4
     have hM4:=hm3.tr hm4
     refine ⟨hs[i].a,hs[i].b,hs[i].c,hs[i].d,hs[i].e,hs[i].f,hs[i].g,rdH hp4,hs[k].a,hs[k].b,hs[k].c,hs[k].d,hs[k].e,hs[k].f,hs[k].g,rdH hq4,?_⟩
     refine aC (oL (a:=hs[i]) (b:=hs[k]) (Hi.no hM4) (Hk.no hM4)) ?_
     rintro v w5 ⟨rfl,hm5⟩
     have hM5:=hM4.tr hm5
     refine ⟨_,rfl,aD (fun h=>?_) fun h=>?_⟩
     ·have h:ls[i].over ls[k]=false:=by simpa using h
      refine ⟨⟨k+1,aM (by omega),by omega,dU hkl hK ⟨hsame,(fun e=>by rw [h] at e; cases e)⟩,hM5⟩,?_⟩
      rw [aM (by omega)]; (try simp only []); omega
     have hik:ls[i].over ls[k]=true:=by simpa using h
     have hp5:=hp4.no hm5
     have hq5:=hq4.no hm5
     refine ⟨hs[k].a,hs[k].b,hs[k].c,hs[k].d,hs[k].e,hs[k].f,hs[k].g,rdH hq5,hs[i].a,hs[i].b,hs[i].c,hs[i].d,hs[i].e,hs[i].f,hs[i].g,rdH hp5,?_⟩
     refine aC (oL (a:=hs[k]) (b:=hs[i]) (Hk.no hM5) (Hi.no hM5)) ?_
     rintro v w6 ⟨rfl,hm6⟩
     have hM6:=hM5.tr hm6
     refine ⟨_,rfl,aD (fun h=>⟨false,rfl,(fun e=>by cases e),hM6⟩) fun hki=>?_⟩
     have hp6:=hp5.no hm6
     have hq6:=hq5.no hm6
     refine ⟨fun l' w'=>match l' with | [.i _ x]=>∃ j:Nat,x=j∧j≤ls.length∧(∀ c∈ls.take j,ls[k].over c=true→ls[i].over c=true)∧Mod NoB w6 w' | _=>False,fun l' _=>match l' with | [.i _ x]=>(ls.length - x).toNat | _=>0,⟨0,rfl,by omega,by simp,Mod.refl _ _⟩,?_⟩
     rintro z w7 ⟨j,rfl,hj,hJ,hm7⟩
     refine aD (fun h=>?_) fun h=>?_
     ·have hjl:j<ls.length:=by have:=of_decide_eq_true h; omega
      have hjh:j<hs.length:=by omega
      obtain ⟨A',ea',hrJ⟩:=bH Hd.len (by omega) g1 hjh
      rw [ea] at ea'; cases ea'
      have Hj:=(g4 j hjh hjl).1
      have hm7d:=hm7.tr (Mod.drew NoB w7)
      have hM7d:=hM6.tr hm7d
      refine ⟨Mod NoB w7.drew,Mod.refl _ _,⟨by omega,by omega⟩,hs[k].a,hs[k].b,hs[k].c,hs[k].d,hs[k].e,hs[k].f,hs[k].g,fun w' hm=>rdH (hq6.no (hm7d.tr hm)),hs[j].a,hs[j].b,hs[j].c,hs[j].d,hs[j].e,hs[j].f,hs[j].g,fun w' hm=>hrJ.mod (hM7d.tr hm) fun h=>h,?_,trivial⟩
      refine aC (oL (a:=hs[k]) (b:=hs[j]) (Hk.no hM7d) (Hj.no hM7d)) ?_
      rintro v w8 ⟨rfl,hm8⟩
      have hM8:=hM7d.tr hm8
      refine ⟨_,rfl,hm8,aD (fun hkj=>?_) fun hkj=>?_⟩
      ·refine ⟨⟨by omega,by omega⟩,hs[i].a,hs[i].b,hs[i].c,hs[i].d,hs[i].e,hs[i].f,hs[i].g,fun w' hm=>rdH (hp6.no (hm7d.tr hm)),hs[j].a,hs[j].b,hs[j].c,hs[j].d,hs[j].e,hs[j].f,hs[j].g,fun w' hm=>hrJ.mod (hM7d.tr hm) fun h=>h,?_,trivial⟩
       refine aC (oL (a:=hs[i]) (b:=hs[j]) (Hi.no hM8) (Hj.no hM8)) ?_
       rintro v w9 ⟨rfl,hm9⟩
       have hM9:=hM8.tr hm9
       refine ⟨_,rfl,hm8.tr hm9,aD (fun h=>⟨false,rfl,(fun e=>by cases e),hM9⟩) fun h=>?_⟩
       have hij:ls[i].over ls[j]=true:=by simpa using h
       refine ⟨⟨j+1,aM (by omega),by omega,dU hjl hJ fun _=>hij,hm7d.tr (hm8.tr hm9)⟩,?_⟩
       rw [aM (by omega)]; (try simp only []); omega
      ·refine ⟨⟨hm8,⟨j+1,aM (by omega),by omega,dU hjl hJ (fun e=>by rw [hkj] at e; cases e),hm7d.tr hm8⟩,?_⟩,trivial⟩
       rw [aM (by omega)]; (try simp only []); omega
     ·have hjl:j=ls.length:=by have:=of_decide_eq_false h; omega
      subst hjl
      rw [List.take_length] at hJ
      refine ⟨⟨k+1,aM (by omega),by omega,dU hkl hK ⟨hsame,fun _=>⟨hki,hJ⟩⟩,hM6.tr hm7⟩,?_⟩
      rw [aM (by omega)]; (try simp only []); omega
  ·have hkl:k=ls.length:=by have:=of_decide_eq_false h; omega
   subst hkl
   rw [List.take_length] at hK
   refine ⟨⟨i+1,aM (by omega),by omega,dU hil hI hK,hm2⟩,?_⟩
   rw [aM (by omega)]; (try simp only []); omega
 ·have hil:i=ls.length:=by have:=of_decide_eq_false h; omega
  subst hil
  rw [List.take_length] at hI
  exact ⟨true,rfl,fun _=>yW hI,hm1⟩
end
theorem bQ.r {B:Nat} {w:World} {s:Slc} {ls:List Rc} (h:bQ B w s ls):kI w s ls:=by
 obtain ⟨hs,h1,h2,h3,h4⟩:=h
 exact ⟨hs,h1,h3,fun i a b=>(h4 i a b).1⟩
theorem iL.len {w:World} {o:Slc} {L:Lv} (h:iL w o L):L.length=o.len:=by
 obtain ⟨es,g1,g2,_⟩:=h
 have:=bM aZ (by omega) g1; omega
section
variable {w:World}
theorem qKF (hg:iG w):Calls prog 7 #[] w (Ret fun v w'=>v = .bool true∧Mod NoB w w'):=by
 refine jEY ?_
 unfold sh7
 obtain ⟨ir,hr1,hr2,hr3,hr4⟩:=pG
 obtain ⟨id,hd1,hd2,hd3,hd4⟩:=yG
 refine aC zD ?_
 rintro v w1 ⟨p,ts0,Bs0,rfl,hp1,hF1,hpW,hpB,hpl,hm1⟩
 refine ⟨_,rfl,?_⟩
 refine aC (vO (key:=[107]) (cl:=1) (sq:=1) (ctx:=⟨none,0,0⟩) (cx:=[]) (hg.no hm1) (uI _ _) (by simp) (by simp) (by simp) (by rfl)) ?_
 rintro v w2 ⟨ha,sa,rfl,Ha,la,na,hm2⟩
 refine ⟨ha.a,ha.b,ha.c,ha.d,ha.e,ha.f,ha.g,rfl,?_⟩
 refine aP (l:=Hd.cells ⟨[],0,0,⟨none,0,0⟩,false,⟨none,0,0⟩,⟨none,0,0⟩⟩) hr1 hr2 rfl fun q w3 hN3 hq3=>⟨_,rfl,?_⟩
 have e3:=hN3.at_; have s3:=hN3.size
 refine bZ (h:=ha) (by kernel_rfl) (by kernel_rfl) hq3 rfl fun w4 ht4 hq4=>?_
 have hm24:Mod NoB w2 w4:=hN3.mod.fresh ht4.mod fun z e=>by omega
 refine cH [.agg #[.int .i64 1,.int .i64 1]] (l:=dts [(1,1)]) qM hd1 hd2 hd3 (by omega) rfl (by omega) (by omega) rfl (by intro v hv; simp at hv; subst hv; rfl) rfl fun d w5 hN5 hd5=>⟨⟨some ⟨d,0,none⟩,1,1⟩,rfl,?_⟩
 have hm15:=(hm2.tr hm24).tr hN5.mod
 refine aC (vO (key:=[107]) (cl:=2) (sq:=1) (ctx:=⟨some ⟨d,0,none⟩,1,1⟩) (cx:=[(1,1)]) (hg.no (hm1.tr hm15)) (aY (n:=1) (k:=2) hd5 (by simp [dts])).rd (fun z hz=>by rw [Slc.blk_mk,if_neg (by omega)] at hz; cases hz; exact hd5.lt) (by simp) (by simp) (by rfl)) ?_
 rintro v w6 ⟨hb,sb,rfl,Hb,lb,nb,hm6⟩
 refine ⟨hb.a,hb.b,hb.c,hb.d,hb.e,hb.f,hb.g,rfl,?_⟩
 refine aP (l:=Hd.cells ⟨[],0,0,⟨none,0,0⟩,false,⟨none,0,0⟩,⟨none,0,0⟩⟩) hr1 hr2 rfl fun r w7 hN7 hr7=>⟨_,rfl,?_⟩
 have e7:=hN7.at_; have s7:=hN7.size
 refine bZ (h:=hb) (by kernel_rfl) (by kernel_rfl) hr7 rfl fun w8 ht8 hr8=>?_
 have hm68:Mod NoB w6 w8:=hN7.mod.fresh ht8.mod fun z e=>by omega
 have hm48:Mod NoB w4 w8:=(hN5.mod.tr hm6).tr hm68
 have hm18:=(hm15.tr hm6).tr hm68
 have hq8:=hq4.no hm48
 refine ⟨ha.a,ha.b,ha.c,ha.d,ha.e,ha.f,ha.g,rdH hq8,hb.a,hb.b,hb.c,hb.d,hb.e,hb.f,hb.g,rdH hr8,?_⟩
 have HA:dH w8 ha (exA sa):=Ha.no (hm24.tr hm48)
 have HB:dH w8 hb (exD sb):=Hb.no hm68
 refine qDB (h1:=ha) (h2:=hb) HA HB fun x2 w9 hm9 hR9=>⟨x2,rfl,?_⟩
 have hm19:=hm18.tr hm9
 have hgl:dN w9:=(hg.no (hm1.tr hm19)).sha
 obtain ⟨ex1,ex2,ex3⟩:=qAD la lb
 have exr : ∀ r∈[exA sa,exD sb],r.right=true:=fun r hr=>(ex1 r hr).1
 refine aC (tY (X:=[]) (rs:=[exA sa,exD sb]) hgl (fun z hz=>hg.sha.lt hz) ((⟨hp1,hF1,hpl,hpW,hpB⟩:ShAt w1 p ts0 (fun _=>[]) Bs0 w.heap.size).no hm19) kL (by simp) hR9 holds_none exr (by rw [List.nil_append,dJ exr]; exact ex2) fun Y k out hY hM=>tX (B:=[exA sa,exD sb]) (by simp) (fun y hy=>by simpa using hY y hy) hM) ?_
 rintro v w10 ⟨rfl,ts',Ls',Bs',hH,hS10,hO10,_,hm10⟩
 refine ⟨0,rfl,?_⟩
 have hpn : ∀ z,z=p→w.heap.size≤z:=fun z e=>by omega
 have hm010:Mod NoB w w10:=(hm1.tr hm19).fresh hm10 hpn
 have hp1lt:=hp1.lt
 have hpw8:p<w6.heap.size:=by have:=(hm15.tr hm6).size; omega
 have hr10:Blk w10 r hb.cells _:=(hr8.no hm9).mod hm10 fun e=>by have e:r=p:=e; omega
 have HB10:dH w10 hb (exD sb):=(HB.no hm9).mod hm10 fun z hz e=>by
  have e:z=p:=e
  have:=nb z hz
  have h5:=hm15.size
  omega
 have hM : ∀ {w'},Mod NoB w10.drew w'→Mod NoB w10 w':=fun h=>(Mod.drew NoB w10).tr h
 refine ⟨Mod NoB w10.drew,Mod.refl _ _,aD (fun _=>?_) (fun h=>by cases h)⟩
 have hg10:dN w10:=hg.sha.no hm010
 have hfg:eP Ls' [107]=[exD sb]:=qLX (Y:=[exA sa,exD sb]) exr ex2 hH ex3
 have hgt : ∀ {w1:World} {pan:List PanicEntry→World→Prop} {K:Value→World→Prop},Mod NoB w10.drew w1→(∀ (x:Slc) w2,Mod NoB w1 w2→bQ w2.heap.size w2 x [exD sb]→K (.slice x.a x.len x.cap) w2)→aE prog 11 [.pointer (some ⟨p,0,none⟩),.string ⟨([107]:List UInt8).toArray⟩] w1 pan K:=fun h hK=>
  aC (qEX (hg10.no (hM h)) (hS10.no (hM h)) hO10 (by simp) (by simp)) fun v w' ⟨x,hv,hx,hm⟩=>by
   subst hv
   rw [hfg] at hx
   exact hK x w' hm hx.recs
 have tail : ∀ {w1:World} {x y:Slc} {R:RW},Mod NoB w10.drew w1→bQ w1.heap.size w1 x [exD sb]→bQ w1.heap.size w1 y [exD sb]→(∀ w',Mod NoB w w'→R (.returned (.bool true)) w')→
  aE prog 12 [.slice x.a x.len x.cap,.slice y.a y.len y.cap] w1 (aH R) fun v10 w13=>∃ x6:Bool,v10=(.bool x6)∧(Mod NoB w10.drew w13∧aG x6 (((aE prog 18 [.pointer (some ⟨p,0,none⟩)] w13 (aH R) fun v11 w14=>∃ x7:Slc,v11=(.slice x7.a x7.len x7.cap)∧(Mod NoB w10.drew w14∧aG ((x7.len:Int)==(1:Int)) (((aE prog 21 [.pointer (some ⟨p,0,none⟩),.int .i64 (4:Int)] w14 (aH R) fun v12 w15=>∃ x8:Option Addr,v12=(.pointer x8)∧(Mod NoB w10.drew w15∧aU prog (do eqGuard .eql 47 (.tmp 32) (.const (.pointer none)) (.pointer x8) (.pointer none); binOp .eql 47 (.pointer x8) (.pointer none)) fun v13=>∃ x9:Bool,v13=(.bool x9)∧R (.returned (.bool x9)) w15))∧True)) ((((Mod NoB w10.drew w14∧R (.returned (.bool false)) w14))∧True))))∧True)) ((((Mod NoB w10.drew w13∧(((Mod NoB w10.drew w13∧R (.returned (.bool false)) w13))∧True)))∧True))):=fun {w1 x y R} h hx hy hR=>by
  refine aC (rF hx.r hy.r (by simp)) ?_
  rintro v w2 ⟨rfl,hm2⟩
  have h2:=h.tr hm2
  refine ⟨_,rfl,h2,aD (fun _=>?_) fun h=>by simp at h⟩
  refine ⟨aC (oD (hS10.no (hM h2)) hO10 (by simp)) ?_,trivial⟩
  rintro v w3 ⟨o,L,rfl,hQ,hs,hmL,hm3⟩
  have h3:=h2.tr hm3
  have hl:o.len=1:=by rw [← hQ.r.len]; exact qNY la lb hO10 hH hs hmL
  refine ⟨o,rfl,h3,aD (fun _=>?_) fun h=>by rw [hl] at h; simp at h⟩
  refine ⟨aC (qMK (k:=4) (hS10.no (hM h3)) hO10 (by simp)) ?_,trivial⟩
  rintro v w4 ⟨t,rfl,ht,hm4⟩
  have h4:=h3.tr hm4
  refine ⟨t,rfl,h4,iA (e:=79) (by kernel_rfl) ⟨_,rfl,?_⟩⟩
  have ht:t=none:=by cases t with | none=>rfl | some _=>cases ht
  subst ht
  exact hR _ ((hm010.tr (Mod.drew NoB w10)).tr h4)
 refine ⟨hb.a,hb.b,hb.c,hb.d,hb.e,hb.f,hb.g,fun w' hm=>rdH (hr10.no (hM hm)),?_,?_,trivial⟩
 ·refine hgt (Mod.refl _ _) fun x w11 hm11 hx=>⟨x,rfl,hm11,?_,trivial⟩
  refine iZ (h1:=hb) (HB10.no (hM hm11)) fun y w12 hm12 hy=>⟨y,rfl,?_,trivial⟩
  exact tail (hm11.tr hm12) ((hx.mod (hm12.mono fun _ _ h=>h.elim)).le hm12.size) hy fun w' hm=>⟨rfl,hm⟩
 ·refine iZ (h1:=hb) (HB10.no (Mod.drew NoB w10)) fun y w12 hm12 hy=>⟨y,rfl,?_,trivial⟩
  refine hgt hm12 fun x w11 hm11 hx=>⟨x,rfl,hm12.tr hm11,?_,trivial⟩
  exact tail (hm12.tr hm11) hx ((hy.mod (hm11.mono fun _ _ h=>h.elim)).le hm11.size) fun w' hm=>⟨rfl,hm⟩
end
end Go.Proofs.YtahjmeegfkfokaaGreatDoor
end
section
namespace Go.Proofs.YtahjmeegfkfokaaGreatDoor
open Go Go.Sh
open Go.Proofs.Tryz
def sh4 (l order:Slc) (w:World) (R:RW):Prop:=
 aE prog 7 [] w (aH R) fun v w1=>∃ x:Bool,v=(.bool x)∧aG (!x) (R (.returned (.bool false)) w1) (∃ j:List TV→World→Prop,(aE prog 13 [zS l] w1 (aH R) fun v1 w2=>∃ x1:Bool,v1=(.bool x1)∧aG (!x1) (j [.b true] w2) (j [.b (decide ((order.len:Int) > (30:Int)))] w2))∧(∀ x2:Bool,∀ w3:World,j [.b x2] w3→aG x2 (R (.returned (.bool true)) w3) (∃ (inv:List TV→World→Prop) (mu:List TV→World→Nat),inv [.i .i64 (0:Int)] w3∧(∀ i:Int,∀ w4:World,inv [.i .i64 i] w4→aG (decide (i<(l.len:Int))) (((0≤i∧i<(l.len:Nat))∧aA l.a fun a=>∃ xa:List UInt8,∃ xb xc:Int,∃ xd:Slc,∃ xe:Bool,∃ xf xg:Slc,Rd w4 (a.add (i.toNat*7)) (yR xa xb xc xd xe xf xg)∧aE prog 14 [zR xa xb xc xd xe xf xg] w4 (aH R) fun v2 w5=>∃ x3:Bool,v2=(.bool x3)∧aG (!x3) (R (.returned (.bool true)) w5) ((inv [.i .i64 (IntKind.i64.wrap (i+(1:Int)))] w5∧mu [.i .i64 (IntKind.i64.wrap (i+(1:Int)))] w5<mu [.i .i64 i] w4)))) (aE prog 15 [zS l] w4 (aH R) fun v3 w6=>∃ x4:Bool,v3=(.bool x4)∧aG (!x4) (R (.returned (.bool true)) w6) (aE prog 8 [] w6 (aH R) fun v4 w7=>∃ x5:Option Addr,v4=(.pointer x5)∧aE prog 8 [] w7 (aH R) fun v5 w8=>∃ x6:Option Addr,v5=(.pointer x6)∧aE prog 9 [.pointer x5,zS l] w8 (aH R) fun v6 w9=>∃ x7:Int,v6=(.int .i64 x7)∧aG (x7 != (0:Int)) (R (.returned (.bool false)) w9) (∃ (inv1:List TV→World→Prop) (mu1:List TV→World→Nat),inv1 [.i .i64 (0:Int)] w9∧(∀ i1:Int,∀ w10:World,inv1 [.i .i64 i1] w10→∃ j1:List TV→World→Prop,(aG (decide (i1<(order.len:Int))) (j1 [.b (decide ((l.len:Int) > (0:Int)))] w10) (j1 [.b false] w10))∧(∀ x8:Bool,∀ w11:World,j1 [.b x8] w11→aG x8 (((0≤i1∧i1<(order.len:Nat))∧aA order.a fun a1=>∃ x9:Int,Rd w11 (a1.add (i1.toNat*1)) [.int .i64 x9]∧aE prog 16 [.int .i64 x9,.int .i64 (l.len:Int)] w11 (aH R) fun v7 w12=>∃ x10:Int,v7=(.int .i64 x10)∧((0≤x10∧x10<(l.len:Nat))∧aA l.a fun a2=>∃ xa1:List UInt8,∃ xb1 xc1:Int,∃ xd1:Slc,∃ xe1:Bool,∃ xf1 xg1:Slc,Rd w12 (a2.add (x10.toNat*7)) (yR xa1 xb1 xc1 xd1 xe1 xf1 xg1)∧aI prog (Instr.buildSlice 32 1 #[(0,(zR xa1 xb1 xc1 xd1 xe1 xf1 xg1))]) w12 fun v8 w13=>∃ x11:Slc,v8=(zS x11)∧aE prog 9 [.pointer x6,zS x11] w13 (aH R) fun v9 w14=>∃ x12:Int,v9=(.int .i64 x12)∧aG (x12 != (0:Int)) (R (.returned (.bool false)) w14) ((inv1 [.i .i64 (IntKind.i64.wrap (i1+(1:Int)))] w14∧mu1 [.i .i64 (IntKind.i64.wrap (i1+(1:Int)))] w14<mu1 [.i .i64 i1] w10))))) (∃ (inv2:List TV→World→Prop) (mu2:List TV→World→Nat),inv2 [.i .i64 (IntKind.i64.wrap ((l.len:Int) - (1:Int)))] w11∧(∀ i2:Int,∀ w15:World,inv2 [.i .i64 i2] w15→aG (decide (i2≥(0:Int))) (((0≤i2∧i2<(l.len:Nat))∧aA l.a fun a3=>∃ xa2:List UInt8,∃ xb2 xc2:Int,∃ xd2:Slc,∃ xe2:Bool,∃ xf2 xg2:Slc,Rd w15 (a3.add (i2.toNat*7)) (yR xa2 xb2 xc2 xd2 xe2 xf2 xg2)∧aI prog (Instr.buildSlice 32 1 #[(0,(zR xa2 xb2 xc2 xd2 xe2 xf2 xg2))]) w15 fun v10 w16=>∃ x13:Slc,v10=(zS x13)∧aE prog 9 [.pointer x6,zS x13] w16 (aH R) fun v11 w17=>∃ x14:Int,v11=(.int .i64 x14)∧aG (x14 != (0:Int)) (R (.returned (.bool false)) w17) ((inv2 [.i .i64 (IntKind.i64.wrap (i2 - (1:Int)))] w17∧mu2 [.i .i64 (IntKind.i64.wrap (i2 - (1:Int)))] w17<mu2 [.i .i64 i2] w15)))) (aE prog 18 [.pointer x5] w15 (aH R) fun v12 w18=>∃ x15:Slc,v12=(zS x15)∧aE prog 18 [.pointer x6] w18 (aH R) fun v13 w19=>∃ x16:Slc,v13=(zS x16)∧aE prog 17 [zS x15,zS x16] w19 (aH R) fun v14 w20=>∃ x17:Bool,v14=(.bool x17)∧aG (!x17) (R (.returned (.bool false)) w20) (∃ (inv3:List TV→World→Prop) (mu3:List TV→World→Nat),inv3 [.i .i64 (0:Int)] w20∧(∀ i3:Int,∀ w21:World,inv3 [.i .i64 i3] w21→aG (decide (i3<(l.len:Int))) (∃ (inv4:List TV→World→Prop) (mu4:List TV→World→Nat),inv4 [.b false,.i .i64 (0:Int)] w21∧(∀ under:Bool,∀ k:Int,∀ w22:World,inv4 [.b under,.i .i64 k] w22→aG (decide (k<(l.len:Int))) (∃ sx:World→Prop,sx w22.drew∧aG under ((((inv4 [.b true,.i .i64 (IntKind.i64.wrap (k+(1:Int)))] w22.drew∧mu4 [.b true,.i .i64 (IntKind.i64.wrap (k+(1:Int)))] w22.drew<mu4 [.b under,.i .i64 k] w22))∧True)) (((0≤k∧k<(l.len:Nat))∧aA l.a fun a4=>((0≤i3∧i3<(l.len:Nat))∧aA l.a fun a5=>∃ xa3:List UInt8,∃ xb3 xc3:Int,∃ xd3:Slc,∃ xe3:Bool,∃ xf3 xg3:Slc,(∀ w',sx w'→Rd w' (a4.add (k.toNat*7)) (yR xa3 xb3 xc3 xd3 xe3 xf3 xg3))∧∃ xa4:List UInt8,∃ xb4 xc4:Int,∃ xd4:Slc,∃ xe4:Bool,∃ xf4 xg4:Slc,(∀ w',sx w'→Rd w' (a5.add (i3.toNat*7)) (yR xa4 xb4 xc4 xd4 xe4 xf4 xg4))∧((aE prog 19 [zR xa3 xb3 xc3 xd3 xe3 xf3 xg3,zR xa4 xb4 xc4 xd4 xe4 xf4 xg4] w22.drew (aH R) fun v15 w23=>∃ x18:Bool,v15=(.bool x18)∧(inv4 [.b x18,.i .i64 (IntKind.i64.wrap (k+(1:Int)))] w23∧mu4 [.b x18,.i .i64 (IntKind.i64.wrap (k+(1:Int)))] w23<mu4 [.b under,.i .i64 k] w22))∧True))))) (((0≤i3∧i3<(l.len:Nat))∧aA l.a fun a6=>∃ x19:List UInt8,Rd w22 ((a6.add (i3.toNat*7)).add 0) [.string ⟨x19.toArray⟩]∧aE prog 11 [.pointer x5,.string ⟨x19.toArray⟩] w22 (aH R) fun v16 w24=>∃ x20:Slc,v16=(zS x20)∧∃ (inv5:List TV→World→Prop) (mu5:List TV→World→Nat),inv5 [.b false,.i .i64 (0:Int)] w24∧(∀ there:Bool,∀ k1:Int,∀ w25:World,inv5 [.b there,.i .i64 k1] w25→aG (decide (k1<(x20.len:Int))) (∃ sx1:World→Prop,sx1 w25.drew∧aG there ((((inv5 [.b true,.i .i64 (IntKind.i64.wrap (k1+(1:Int)))] w25.drew∧mu5 [.b true,.i .i64 (IntKind.i64.wrap (k1+(1:Int)))] w25.drew<mu5 [.b there,.i .i64 k1] w25))∧True)) (((0≤k1∧k1<(x20.len:Nat))∧aA x20.a fun a7=>((0≤i3∧i3<(l.len:Nat))∧aA l.a fun a8=>∃ xa5:List UInt8,∃ xb5 xc5:Int,∃ xd5:Slc,∃ xe5:Bool,∃ xf5 xg5:Slc,(∀ w',sx1 w'→Rd w' (a7.add (k1.toNat*7)) (yR xa5 xb5 xc5 xd5 xe5 xf5 xg5))∧∃ xa6:List UInt8,∃ xb6 xc6:Int,∃ xd6:Slc,∃ xe6:Bool,∃ xf6 xg6:Slc,(∀ w',sx1 w'→Rd w' (a8.add (i3.toNat*7)) (yR xa6 xb6 xc6 xd6 xe6 xf6 xg6))∧((aE prog 20 [zR xa5 xb5 xc5 xd5 xe5 xf5 xg5,zR xa6 xb6 xc6 xd6 xe6 xf6 xg6] w25.drew (aH R) fun v17 w26=>∃ x21:Bool,v17=(.bool x21)∧(inv5 [.b x21,.i .i64 (IntKind.i64.wrap (k1+(1:Int)))] w26∧mu5 [.b x21,.i .i64 (IntKind.i64.wrap (k1+(1:Int)))] w26<mu5 [.b there,.i .i64 k1] w25))∧True))))) (aU prog (do eqGuard .eql 4 (.tmp 142) (.tmp 143) (.bool there) (.bool under); binOp .eql 4 (.bool there) (.bool under)) fun v18=>∃ x22:Bool,v18=(.bool x22)∧aG x22 (R (.returned (.bool false)) w25) ((inv3 [.i .i64 (IntKind.i64.wrap (i3+(1:Int)))] w25∧mu3 [.i .i64 (IntKind.i64.wrap (i3+(1:Int)))] w25<mu3 [.i .i64 i3] w21)))))))) (R (.returned (.bool true)) w21)))))))))))))))
theorem jBV (l order:Slc) {w:World} {R:RW} (hden:sh4 l order w R):Calls prog 4 #[zS l,zS order] w R:=
 aB (q0 .z (q0 (q0 .z (.cond (q0 .z .z) .z)) (q0 (.seq (some [(25,.b)]) .z (.cond (q0 .z .z) .z)) (q0 (q0 .z (.block none (.loop [(5,(.i .i64))] (q0 (q0 .z (.cond .z .z)) (q0 (.block none (q0 .z (.cond (q0 .z .z) .z))) .z))))) (q0 (q0 .z (.cond (q0 .z .z) .z)) (q0 .z (q0 (q0 .z (.cond (q0 .z .z) .z)) (q0 (q0 .z (.block none (.loop [(8,(.i .i64))] (q0 (.seq (some [(55,.b)]) .z (.cond .z .z)) (q0 (.block none (q0 .z (.cond (q0 .z .z) .z))) .z))))) (q0 (q0 .z (.block none (.loop [(9,(.i .i64))] (q0 (q0 .z (.cond .z .z)) (q0 (.block none (q0 .z (.cond (q0 .z .z) .z))) .z))))) (q0 (q0 .z (.cond (q0 .z .z) .z)) (q0 (q0 .z (.block none (.loop [(10,(.i .i64))] (q0 (q0 .z (.cond .z .z)) (q0 (.block none (q0 .z (q0 (q0 .z (.block none (.loop [(11,.b),(12,(.i .i64))] (q0 (q0 .z (.cond .z .z)) (q0 (.block none (.draw 1 (.take 0 (.take 1 (.take 2 (.take 3 (.take 4 (.take 6 (.take 7 (.take 8 (.take 5 (.take 9 (.all [(10,(.take 11 (.take 12 .done)))]))))))))))))) .z))))) (q0 .z (q0 .z (q0 (q0 .z (.block none (.loop [(14,.b),(15,(.i .i64))] (q0 (q0 .z (.cond .z .z)) (q0 (.block none (.draw 1 (.take 0 (.take 1 (.take 2 (.take 3 (.take 4 (.take 6 (.take 7 (.take 8 (.take 5 (.take 9 (.all [(10,(.take 11 (.take 12 .done)))]))))))))))))) .z))))) (q0 .z (.cond (q0 .z .z) .z)))))))) .z))))) (q0 .z .z)))))))))))) func4 (by kernel_rfl) [.sl l,.sl order] (by kernel_rfl) (by kernel_rfl) hden
end Go.Proofs.YtahjmeegfkfokaaGreatDoor
end
section
namespace Go.Proofs.YtahjmeegfkfokaaGreatDoor
open Go Go.Sh Go.MapKept
open Go.Proofs.Tryz
theorem nS {α:Type} {l:List α} {k:Nat} (hk:k<l.length) (f:α→Bool):(l.take (k+1)).any f=((l.take k).any f || f l[k]):=by
 rw [aT hk,List.any_append]; simp
theorem uR {α:Type} {l:List α} {k:Nat} (hk:k<l.length) {r:α} (h:r∈l.drop k):r=l[k]∨r∈l.drop (k+1):=by
 rw [List.drop_eq_getElem_cons hk] at h
 exact List.mem_cons.1 h
section
variable {w:World}
theorem qBY {p:Nat} {ts:Nat→Tr} {Ls:Nat→Lv} {Bs:Nat→Nat→Prop} {lo n:Nat} {s:Slc} {X ls:List Rc} {r:Rc} (hg:dN w) (hlo : ∀ z,isG z→z<lo) (hS:ShAt w p ts Ls Bs lo) (hO:bU Ls n) (hn:n≤254) (hR:bQ w.heap.size w s [r])
 (hH:Holds Ls X) (hX : ∀ x∈X,x∈ls) (hr:r∈ls) (har : ∀ r∈ls,r.right=true) (ht:eQ ls) (h16:ls.length≤16) :
 Calls prog 9 #[.pointer (some ⟨p,0,none⟩),.slice s.a s.len s.cap] w (Ret fun v w'=>v = .int .i64 0∧∃ ts' Ls' Bs',Holds Ls' (X++[r])∧ShAt w' p ts' Ls' Bs' lo∧bU Ls' (n+1)∧Mod (fun z=>z=p) w w'):=by
 have hsub : ∀ x∈X++[r],x∈ls:=fun x hx=>by
  rcases List.mem_append.1 hx with h | h
  ·exact hX x h
  ·have:x=r:=by simpa using h
   subst this; exact hr
 refine Calls.mono (tY (X:=X) (rs:=[r]) hg hlo hS hO (by simp; omega) hR hH (fun x hx=>har x (hsub x (List.mem_append_right _ hx))) (ht.sub fun x hx=>hsub x (List.mem_filter.1 hx).1) fun Y k out hY hM=>tX h16 (fun y hy=>hsub y (hY y hy)) hM) fun e w' h=>?_
 cases e with
 | returned v=>
   obtain ⟨h1,ts',Ls',Bs',h2,h3,h4,_,h5⟩:=h
   exact ⟨h1,ts',Ls',Bs',h2,h3,h4,h5⟩
 | _=>exact h.elim
theorem uU {s order:Slc} {ls:List Rc} {os:List Int} (hg:iG w) (hl:iS w s ls) (hn:s.len≤9000000000000000000) (ho:aL w order 1 (ints os)) (hon:order.len≤9000000000000000000) :
 Calls prog 4 #[.slice s.a s.len s.cap,.slice order.a order.len order.cap] w (Ret fun v w'=>v = .bool true∧Mod NoB w w'):=by
 refine jBV _ _ ?_
 unfold sh4
 refine aC (qKF hg) ?_
 rintro v w1 ⟨rfl,hm1⟩
 refine ⟨_,rfl,aD (fun h=>by cases h) fun _=>?_⟩
 have hol:os.length=order.len:=by have:=ho.1; simpa [ints] using this
 refine ⟨fun l' w'=>match l' with | [.b t]=>(t=false→yL ls∧order.len≤30)∧w'=w1 | _=>False,?_,?_⟩
 ·refine aC (qLU (hl.no hm1) hn) ?_
  rintro v w2 ⟨b,rfl,hb,rfl⟩
  refine ⟨b,rfl,aD (fun h=>⟨(fun h=>by cases h),rfl⟩) fun h=>⟨fun h2=>?_,rfl⟩⟩
  have h:b=true:=by simpa using h
  have h2:=of_decide_eq_false h2
  exact ⟨hb h,by omega⟩
 rintro t w2 ⟨ht,rfl⟩
 refine aD (fun h=>⟨rfl,hm1⟩) fun h=>?_
 subst h
 obtain ⟨hq,hon'⟩:=ht rfl
 have hlen:=hl.len
 have hA:=(hl.no hm1).at hq
 have hq1:=hq.1
 obtain ⟨hs,g1,g2,g3,g4⟩:=(hl.no hm1).at hq
 refine ⟨fun l' w'=>match l' with | [.i _ x]=>∃ k:Nat,x=k∧k≤ls.length∧(∀ r∈ls.take k,r.right=true)∧Mod NoB w2 w' | _=>False,fun l' _=>match l' with | [.i _ x]=>(ls.length - x).toNat | _=>0,⟨0,rfl,by omega,by simp,Mod.refl _ _⟩,?_⟩
 rintro x w3 ⟨k,rfl,hk,hrk,hm3⟩
 refine aD (fun h=>?_) fun h=>?_
 ·have hkl:k<ls.length:=by have:=of_decide_eq_true h; omega
  have hkh:k<hs.length:=by omega
  obtain ⟨A,ea,hrd⟩:=bH Hd.len (by omega) (g1.no hm3) hkh
  rw [ea]
  refine ⟨⟨by omega,by omega⟩,hs[k].a,hs[k].b,hs[k].c,hs[k].d,hs[k].e,hs[k].f,hs[k].g,hrd,?_⟩
  refine aC (uM (h:=hs[k]) ((g4 k hkh hkl).1.no hm3)) ?_
  rintro v w4 ⟨rfl,hm4⟩
  refine ⟨_,rfl,aD (fun h=>⟨rfl,(hm1.tr hm3).tr hm4⟩) fun h=>⟨⟨k+1,aM (by omega),by omega,dU hkl hrk (by simpa using h),hm3.tr hm4⟩,?_⟩⟩
  rw [aM (by omega)]; (try simp only []); omega
 have hkk:k=ls.length:=by have:=of_decide_eq_false h; omega
 subst hkk
 rw [List.take_length] at hrk
 have har : ∀ r∈ls,r.right=true:=hrk
 have hA3:bQ w3.heap.size w3 s ls:=(hA.mod (hm3.mono fun _ _ h=>h.elim)).le hm3.size
 refine aC (qYN hA3 (by omega)) ?_
 rintro v w4 ⟨b',rfl,hb',hm4⟩
 have hM4:=hm3.tr hm4
 refine ⟨b',rfl,aD (fun h=>⟨rfl,hm1.tr hM4⟩) fun h=>?_⟩
 have hT:eQ ls:=hb' (by simpa using h)
 have hra:cZ ls=ls:=dJ har
 have hg4:=hg.no (hm1.tr hM4)
 refine aC zD ?_
 rintro v w5 ⟨p,ts0,Bs0,rfl,hp5,hF5,hpW,hpB,hpl,hm5⟩
 refine ⟨_,rfl,?_⟩
 refine aC zD ?_
 rintro v w6 ⟨q,tq0,Bq0,rfl,hq6,hF6,hqW,hqB,hql,hm6⟩
 refine ⟨_,rfl,?_⟩
 have hplt:=hp5.lt
 have hqlt:=hq6.lt
 have hpq : ¬ p=q:=by omega
 have hM6:=(hM4.tr hm5).tr hm6
 have hA6:bQ w6.heap.size w6 s ls:=(hA.mod (hM6.mono fun _ _ h=>h.elim)).le hM6.size
 have hlo4 : ∀ z,isG z→z<w4.heap.size:=fun z hz=>hg4.sha.lt hz
 have hs5:=hm5.size
 have hs6:=hm6.size
 have hlo5 : ∀ z,isG z→z<w5.heap.size:=fun z hz=>by have:=hlo4 z hz; omega
 have hta:eQ (cZ ([]++ls)):=by rw [List.nil_append,hra]; exact hT
 refine aC (tY (X:=[]) (rs:=ls) (hg4.no (hm5.tr hm6)).sha hlo4 ((⟨hp5,hF5,hpl,hpW,hpB⟩:ShAt w5 p ts0 (fun _=>[]) Bs0 w4.heap.size).no hm6) kL (by omega) hA6 holds_none har hta fun Y k out hY hM=>tX hq1 (fun y hy=>by simpa using hY y hy) hM) ?_
 rintro v w7 ⟨rfl,ta,La,Ba,hHa,hSa,hOa,hza,hm7⟩
 have hHa:Holds La ls:=hHa
 refine ⟨0,rfl,aD (fun h=>by cases h) fun _=>?_⟩
 have hSq:ShAt w7 q tq0 (fun _=>[]) Bq0 w5.heap.size:=(⟨hq6,hF6,hql,hqW,hqB⟩:ShAt w6 q tq0 (fun _=>[]) Bq0 w5.heap.size).mod hm7 (fun e=>hpq e.symm) fun i hi z hz e=>by
  have e:z=p:=e
  have:=hF6.lo i hi z hz; omega
 have hs7:=hm7.size
 have hlow : ∀ {w'},Mod (fun z=>z=q) w7 w'→Mod NoB w4 w':=fun hm=>((hm5.tr hm6).fresh hm7 fun z e=>by have e:z=p:=e; omega).fresh hm fun z e=>by have e:z=q:=e; omega
 have hSaM : ∀ {w'},Mod (fun z=>z=q) w7 w'→ShAt w' p ta La Ba w4.heap.size:=fun hm=>hSa.mod hm hpq fun i hi z hz e=>by
  have e:z=q:=e
  have:=hza i hi z hz; omega
 have hbase : ∀ {w'},Mod NoB w4 w'→Mod NoB w w':=fun hm=>(hm1.tr hM4).tr hm
 refine ⟨fun l' w'=>match l' with | [.i _ y]=>∃ (k:Nat) (ts:Nat→Tr) (Ls:Nat→Lv) (Bs:Nat→Nat→Prop) (X:List Rc),y=(k:Int)∧k≤order.len∧ShAt w' q ts Ls Bs w5.heap.size∧bU Ls k∧Holds Ls X∧(∀ x∈X,x∈ls)∧Mod (fun z=>z=q) w7 w' | _=>False,fun l' _=>match l' with | [.i _ y]=>(order.len - y).toNat | _=>0,
  ⟨0,tq0,fun _=>[],Bq0,[],rfl,by omega,hSq,kL,holds_none,by simp,Mod.refl _ _⟩,?_⟩
 rintro y w8 ⟨k,ts,Ls,Bs,X,rfl,hk,hS8,hO8,hH8,hX8,hm8⟩
 refine ⟨fun l' w'=>match l' with | [.b t]=>(t=true→k<order.len∧0<ls.length)∧w'=w8 | _=>False,aD (fun h=>⟨fun h2=>?_,rfl⟩) (fun h=>⟨(fun h2=>by cases h2),rfl⟩),?_⟩
 ·have h:=of_decide_eq_true h; have h2:=of_decide_eq_true h2
  exact ⟨by omega,by omega⟩
 rintro t w9 ⟨ht,rfl⟩
 have hM8:=hlow hm8
 refine aD (fun h=>?_) fun h=>?_
 ·obtain ⟨hk',hl0⟩:=ht h
  obtain ⟨a0,ea0,hra0⟩:=qXU (ho.no (hbase hM8)) (i:=k) (by simp [ints]; omega)
  rw [ea0]
  have ei:(ints os)[k]'(by simp [ints]; omega) = .int .i64 (os[k]'(by omega)):=by simp [ints]
  rw [ei] at hra0
  refine ⟨⟨by omega,by omega⟩,os[k]'(by omega),hra0,?_⟩
  refine aC (qXA (n:=s.len) (by omega) (by omega)) ?_
  rintro v w10 ⟨j,rfl,hj,rfl⟩
  have hj':j<hs.length:=by omega
  obtain ⟨A,ea,hrd⟩:=bH Hd.len (by omega) (g1.no (hM4.tr hM8)) hj'
  rw [ea]
  refine ⟨(j:Int),rfl,⟨by omega,by omega⟩,hs[j].a,hs[j].b,hs[j].c,hs[j].d,hs[j].e,hs[j].f,hs[j].g,hrd,?_⟩
  refine iZ (h1:=hs[j]) ((g4 j hj' (by omega)).1.no (hM4.tr hM8)) fun x5 w11 hm11 hR11=>⟨x5,rfl,?_⟩
  refine aC (qBY (ls:=ls) (hg4.no (hM8.tr hm11)).sha hlo5 (hS8.no hm11) hO8 (by omega) hR11 hH8 hX8 (List.getElem_mem _) har hT hq1) ?_
  rintro v w12 ⟨rfl,ts',Ls',Bs',hH',hS',hO',hm12⟩
  refine ⟨0,rfl,aD (fun h=>by cases h) fun _=>⟨⟨k+1,ts',Ls',Bs',_,aM (by omega),by omega,hS',hO',hH',fun x hx=>?_,(hm8.no' hm11).tr hm12⟩,?_⟩⟩
  ·rcases List.mem_append.1 hx with h | h
   ·exact hX8 x h
   ·have:x=ls[j]'(by omega):=by simpa using h
    subst this; exact List.getElem_mem _
  ·rw [aM (by omega)]; (try simp only []); omega
 refine ⟨fun l' w'=>match l' with | [.i _ y]=>∃ (m:Nat) (ts:Nat→Tr) (Ls:Nat→Lv) (Bs:Nat→Nat→Prop) (X:List Rc),y=(m:Int) - 1∧m≤ls.length∧ShAt w' q ts Ls Bs w5.heap.size∧bU Ls (100 - m)∧Holds Ls X∧(∀ x∈X,x∈ls)∧(∀ r∈ls.drop m,r∈X)∧Mod (fun z=>z=q) w7 w' | _=>False,fun l' _=>match l' with | [.i _ y]=>(y+1).toNat | _=>0,
  ⟨ls.length,ts,Ls,Bs,X,by rw [wrap_i64 (e:=(s.len:Int) - 1) (by omega)]; omega,by omega,hS8,hO8.le (by omega),hH8,hX8,by simp,hm8⟩,?_⟩
 rintro y w10 ⟨m,tb,Lb,Bb,Y,rfl,hm,hSb,hOb,hHb,hYb,hdb,hm10⟩
 have hM10:=hlow hm10
 refine aD (fun hge=>?_) fun hlt=>?_
 ·have hk0:1≤m:=by have:=of_decide_eq_true hge; omega
  obtain ⟨j,rfl⟩ : ∃ j,m=j+1:=⟨m - 1,by omega⟩
  have hj':j<hs.length:=by omega
  have ej:((j+1:Nat):Int) - 1=(j:Int):=by omega
  rw [ej]
  obtain ⟨A,ea,hrd⟩:=bH Hd.len (by omega) (g1.no (hM4.tr hM10)) hj'
  rw [ea]
  refine ⟨⟨by omega,by omega⟩,hs[j].a,hs[j].b,hs[j].c,hs[j].d,hs[j].e,hs[j].f,hs[j].g,hrd,?_⟩
  refine iZ (h1:=hs[j]) ((g4 j hj' (by omega)).1.no (hM4.tr hM10)) fun x5 w11 hm11 hR11=>⟨x5,rfl,?_⟩
  refine aC (qBY (ls:=ls) (hg4.no (hM10.tr hm11)).sha hlo5 (hSb.no hm11) hOb (by omega) hR11 hHb hYb (List.getElem_mem _) har hT hq1) ?_
  rintro v w12 ⟨rfl,ts',Ls',Bs',hH',hS',hO',hm12⟩
  refine ⟨0,rfl,aD (fun h=>by cases h) fun _=>⟨⟨j,ts',Ls',Bs',_,wrap_i64 (e:=(j:Int) - 1) (by omega),by omega,hS',hO'.le (by omega),hH',fun x hx=>?_,fun r hr=>?_,(hm10.no' hm11).tr hm12⟩,?_⟩⟩
  ·rcases List.mem_append.1 hx with h | h
   ·exact hYb x h
   ·have:x=ls[j]'(by omega):=by simpa using h
    subst this; exact List.getElem_mem _
  ·rcases uR (show j<ls.length by omega) hr with rfl | h
   ·simp
   ·exact List.mem_append_left _ (hdb r h)
  ·rw [wrap_i64 (e:=(j:Int) - 1) (by omega)]; (try simp only []); omega
 have hm0:m=0:=by have:=of_decide_eq_false hlt; omega
 subst hm0
 have hmm : ∀ r,r∈ls↔r∈Y:=fun r=>⟨fun h=>hdb r (by simpa using h),hYb r⟩
 have hSa10:=hSaM hm10
 refine aC (oD hSa10 hOa (by omega)) ?_
 rintro v w11 ⟨o1,L1,rfl,hQ1,hs1,hme1,hm11⟩
 refine ⟨o1,rfl,?_⟩
 refine aC (oD (hSb.no hm11) hOb (by omega)) ?_
 rintro v w12 ⟨o2,L2,rfl,hQ2,hs2,hme2,hm12⟩
 refine ⟨o2,rfl,?_⟩
 obtain rfl:L1=L2:=xL har hmm hOa hOb hHa hHb hs1 hme1 hs2 hme2
 have hLs:gV ls L1:=fZ hOa (by rw [hra]; exact hHa) hs1 hme1
 obtain ⟨n1,n2⟩:=tM hLs
 refine aC (uF (hQ1.r.no hm12) hQ2.r (by omega) fun e he=>by have:=n2 e he; omega) ?_
 rintro v w13 ⟨rfl,hm13⟩
 refine ⟨_,rfl,aD (fun h=>by simp at h) fun _=>?_⟩
 have hm1013:=(hm11.tr hm12).tr hm13
 have hSa13:=hSa10.no hm1013
 have hM13:=hM10.tr hm1013
 refine ⟨fun l' w'=>match l' with | [.i _ x]=>∃ k:Nat,x=k∧k≤ls.length∧Mod NoB w13 w' | _=>False,fun l' _=>match l' with | [.i _ x]=>(ls.length - x).toNat | _=>0,⟨0,rfl,by omega,Mod.refl _ _⟩,?_⟩
 rintro x w14 ⟨i,rfl,hi,hm14⟩
 refine aD (fun h=>?_) fun h=>⟨rfl,hbase (hM13.tr hm14)⟩
 have hil:i<ls.length:=by have:=of_decide_eq_true h; omega
 have hih:i<hs.length:=by omega
 have hS : ∀ {w'},Mod NoB w13 w'→Mod NoB w2 w':=fun h=>(hM4.tr hM13).tr h
 refine ⟨fun l' w'=>match l' with | [.b t,.i _ x]=>∃ k:Nat,x=k∧k≤ls.length∧t=(ls.take k).any (fun y=>y.over ls[i])∧Mod NoB w13 w' | _=>False,fun l' _=>match l' with | [.b _,.i _ x]=>(ls.length - x).toNat | _=>0,⟨0,rfl,by omega,by simp,hm14⟩,?_⟩
 rintro under x w15 ⟨k,rfl,hk,hu,hm15⟩
 refine aD (fun h=>?_) fun h=>?_
 ·have hkl:k<ls.length:=by have:=of_decide_eq_true h; omega
  have hkh:k<hs.length:=by omega
  have hm15d:=hm15.tr (Mod.drew NoB w15)
  refine ⟨Mod NoB w15.drew,Mod.refl _ _,aD (fun hut=>⟨⟨⟨k+1,aM (by omega),by omega,?_,hm15d⟩,?_⟩,trivial⟩) fun huf=>?_⟩
  ·rw [nS hkl,← hu,hut]; rfl
  ·rw [aM (by omega)]; (try simp only []); omega
  ·obtain ⟨A,ea,hrd⟩:=bH Hd.len (by omega) (g1.no (hS hm15d)) hkh
   obtain ⟨A',ea',hrd'⟩:=bH Hd.len (by omega) (g1.no (hS hm15d)) hih
   rw [ea] at ea'; cases ea'
   rw [ea]
   refine ⟨⟨by omega,by omega⟩,⟨by omega,by omega⟩,hs[k].a,hs[k].b,hs[k].c,hs[k].d,hs[k].e,hs[k].f,hs[k].g,fun w' hm=>hrd.mod hm fun h=>h,hs[i].a,hs[i].b,hs[i].c,hs[i].d,hs[i].e,hs[i].f,hs[i].g,fun w' hm=>hrd'.mod hm fun h=>h,?_,trivial⟩
   refine aC (oL (a:=hs[k]) (b:=hs[i]) ((g4 k hkh hkl).1.no (hS hm15d)) ((g4 i hih hil).1.no (hS hm15d))) ?_
   rintro v w16 ⟨rfl,hm16⟩
   refine ⟨_,rfl,⟨k+1,aM (by omega),by omega,?_,hm15d.tr hm16⟩,?_⟩
   ·rw [nS hkl,← hu,huf]; rfl
   ·rw [aM (by omega)]; (try simp only []); omega
 have hkk:k=ls.length:=by have:=of_decide_eq_false h; omega
 subst hkk
 rw [List.take_length] at hu
 obtain ⟨A,ea,hrd⟩:=bH Hd.len (by omega) (g1.no (hS hm15)) hih
 rw [ea]
 have Hi:=(g4 i hih hil).1
 have hka:hs[i].a=ls[i].key:=Hi.key
 refine ⟨⟨by omega,by omega⟩,ls[i].key,kG.2 (hrd 0 _ (by show some (Value.string ⟨hs[i].a.toArray⟩)=_; rw [hka])),?_⟩
 have hkey:=(sZ (har ls[i] (List.getElem_mem hil))).2
 refine aC (qEX (hg4.no (hM13.tr hm15)).sha (hSa13.no hm15) hOa (by omega) (by omega)) ?_
 rintro v w16 ⟨x,rfl,hN16,hm16⟩
 have hxl:=hN16.len
 have hm1316:=hm15.tr hm16
 have hth:=qDG har (by rw [hra]; exact hT) hHa (List.getElem_mem hil)
 have hsl:(eP La ls[i].key).length≤16:=(tO hOa ls[i].key).2
 generalize eP La ls[i].key=set at hN16 hxl hth hsl
 obtain ⟨es,q1,q2,q3,q4⟩:=hN16.recs
 refine ⟨x,rfl,?_⟩
 refine ⟨fun l' w'=>match l' with | [.b t,.i _ y]=>∃ k:Nat,y=k∧k≤set.length∧t=(set.take k).any (fun y=>decide (y=ls[i]))∧Mod NoB w16 w' | _=>False,fun l' _=>match l' with | [.b _,.i _ y]=>(set.length - y).toNat | _=>0,⟨0,rfl,by omega,by simp,Mod.refl _ _⟩,?_⟩
 rintro there y w17 ⟨k,rfl,hk,htt,hm17⟩
 have hm1317:=hm1316.tr hm17
 refine aD (fun h=>?_) fun h=>?_
 ·have hkl:k<set.length:=by have:=of_decide_eq_true h; omega
  have hkh:k<es.length:=by omega
  have hm17d:=hm17.tr (Mod.drew NoB w17)
  refine ⟨Mod NoB w17.drew,Mod.refl _ _,aD (fun hut=>⟨⟨⟨k+1,aM (by omega),by omega,?_,hm17d⟩,?_⟩,trivial⟩) fun huf=>?_⟩
  ·rw [nS hkl,← htt,hut]; rfl
  ·rw [aM (by omega)]; (try simp only []); omega
  ·obtain ⟨A1,ea1,hrd1⟩:=bH Hd.len (by omega) (q1.no hm17d) hkh
   have hm1317d:=hm1317.tr (Mod.drew NoB w17)
   have hrd2:=hrd.mod ((hm16.tr hm17).tr (Mod.drew NoB w17)) fun h=>h
   rw [ea1]
   refine ⟨⟨by omega,by omega⟩,⟨by omega,by omega⟩,es[k].a,es[k].b,es[k].c,es[k].d,es[k].e,es[k].f,es[k].g,fun w' hm=>hrd1.mod hm fun h=>h,hs[i].a,hs[i].b,hs[i].c,hs[i].d,hs[i].e,hs[i].f,hs[i].g,fun w' hm=>hrd2.mod hm fun h=>h,?_,trivial⟩
   refine aC (oE (a:=es[k]) (b:=hs[i]) ((q4 k hkh hkl).1.no hm17d) (Hi.no (hS hm1317d))) ?_
   rintro v w18 ⟨rfl,hm18⟩
   refine ⟨_,rfl,⟨k+1,aM (by omega),by omega,?_,hm17d.tr hm18⟩,?_⟩
   ·rw [nS hkl,← htt,huf]; rfl
   ·rw [aM (by omega)]; (try simp only []); omega
 have hkk:k=set.length:=by have:=of_decide_eq_false h; omega
 subst hkk
 rw [List.take_length] at htt
 refine pA (by kernel_rfl) ⟨_,rfl,aD (fun h=>?_) fun h=>⟨⟨i+1,aM (by omega),by omega,hm1317⟩,?_⟩⟩
 ·exfalso
  have h:there=under:=by simpa using h
  rw [htt,hu] at h
  cases hc:ls.any (fun y=>y.over ls[i]) with
  | false=>
    have h1:=hth.2 fun y hy=>by simpa using List.any_eq_false.1 hc y hy
    rw [hc] at h
    exact absurd (List.any_eq_false.1 h _ h1) (by simp)
  | true=>
    rw [hc] at h
    obtain ⟨y,hy,e⟩:=List.any_eq_true.1 h
    have e:y=ls[i]:=of_decide_eq_true e
    subst e
    obtain ⟨z,hz,ez⟩:=List.any_eq_true.1 hc
    rw [hth.1 hy z hz] at ez; cases ez
 ·rw [aM (by omega)]; (try simp only []); omega
end
end Go.Proofs.YtahjmeegfkfokaaGreatDoor
end
