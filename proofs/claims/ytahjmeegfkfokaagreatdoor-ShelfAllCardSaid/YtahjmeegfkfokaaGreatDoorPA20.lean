/- The forms of the translated functions,their contracts and the plain laws behind them,put together by a program. -/
import Derived.Test.YtahjmeegfkfokaaGreatDoorPA19
import Derived.Shelf.SlSortCmp.NoneTotal
import Derived.KernelRfl
import Derived.Test.YtahjmeegfkfokaaGreatDoorProg
set_option linter.unusedSimpArgs false
set_option linter.unusedVariables false
set_option maxRecDepth 100000
set_option maxHeartbeats 4000000
section
namespace Go.Proofs.YtahjmeegfkfokaaGreatDoor
open Go Go.Sh Go.MapKept
open Go.Proofs.Tryz
theorem qHT {α β:Type} {f:α→β} {l1 l2:List β} (h:l1.Perm l2) : ∀ zs:List α,zs.map f=l2→∃ zs':List α,zs'.Perm zs∧zs'.map f=l1:=by
 induction h with
 | nil=>intro zs h; exact ⟨zs,.refl _,h⟩
 | cons x _ ih=>
   intro zs h
   match zs,h with
   | z :: t,h=>
     simp only [List.map_cons,List.cons.injEq] at h
     obtain ⟨t',h1,h2⟩:=ih t h.2
     exact ⟨z :: t',h1.cons z,by simp [h.1,h2]⟩
 | swap x y l=>
   intro zs h
   match zs,h with
   | z1 :: z2 :: t,h=>
     simp only [List.map_cons,List.cons.injEq] at h
     exact ⟨z2 :: z1 :: t,.swap _ _ _,by simp [h.1,h.2.1,h.2.2]⟩
 | trans _ _ ih1 ih2=>
   intro zs h
   obtain ⟨z1,a1,a2⟩:=ih2 zs h
   obtain ⟨z2,b1,b2⟩:=ih1 z1 a2
   exact ⟨z2,b1.trans a1,b2⟩
def gX (Ls:Nat→Lv):Nat→Lv
 | 0=>[]
 | k+1=>gX Ls k++Ls k
theorem vV {Ls:Nat→Lv} {n:Nat} (h:cF Ls n) (k:Nat):(gX Ls k).length≤k*n:=by
 induction k with
 | zero=>simp [gX]
 | succ k ih=>
   have:=h.n k
   rw [gX,List.length_append,Nat.succ_mul]; omega
theorem pX {Ls:Nat→Lv} {k:Nat} {e:List UInt8×List Rc} : e∈gX Ls k↔∃ i,i<k∧e∈Ls i:=by
 induction k with
 | zero=>simp [gX]
 | succ k ih=>
   rw [gX,List.mem_append,ih]
   constructor
   ·rintro (⟨i,h1,h2⟩ | h)
    ·exact ⟨i,by omega,h2⟩
    ·exact ⟨k,by omega,h⟩
   ·rintro ⟨i,h1,h2⟩
    rcases Nat.lt_or_ge i k with h | h
    ·exact .inl ⟨i,h,h2⟩
    ·have:i=k:=by omega
     subst this; exact .inr h2
theorem qOI {Ls:Nat→Lv} {n:Nat} (h:cF Ls n) (k:Nat):(gX Ls k).Pairwise fun a b=>a.1≠b.1:=by
 induction k with
 | zero=>exact List.Pairwise.nil
 | succ k ih=>
   refine List.pairwise_append.2 ⟨ih,(h.so k).imp fun {a b} hab e=>by rw [e] at hab; exact List.lt_irrefl _ hab,fun a ha b hb e=>?_⟩
   obtain ⟨i,hi,ha⟩:=pX.1 ha
   have h1:=h.sh i a ha
   have h2:=h.sh k b hb
   rw [e] at h1; omega
section
variable {w:World}
theorem sF {B:Nat} {o x:Slc} {L M:Lv} {K:Value→World→Prop} (hQ:dI (fun z=>B≤z) w o L) (hX:dI (fun z=>B≤z∧o.blk≠some z) w x M) (hn:L.length≤1000000) (hm:M.length≤1000000) (hB:B≤w.heap.size)
 (hK : ∀ x' w',dI (fun z=>B≤z) w' x' (L++M)→Mod (fun z=>o.blk=some z) w w'→K x'.val w') :
 aI prog (Builtin.append_ #[42,42] 42 #[.slice o.a o.len o.cap,.slice x.a x.len x.cap]) w K:=by
 obtain ⟨il,hl1,hl2,hl3,hl4⟩:=pB
 obtain ⟨es,ho,hob,hel,hes⟩:=hQ
 obtain ⟨fs,hx,hxb,hfl,hfs⟩:=hX
 have hol:=bK aZ (by omega) ho.rd
 have hxl:=bK aZ (by omega) hx.rd
 refine bG (s:=o) (x:=x) dS hl1 hl2 hl3 rfl hl4 ho hx.rd (eU eY _) (by omega) (by omega) fun x' w12 ho12 hlen hblk hm12=>hK x' w12 ?_ hm12
 have hx' : ∀ z,x'.blk=some z→o.blk=some z∨z=w.heap.size:=fun z hz=>by
  rcases hblk with e | e
  ·exact .inl (by rw [← e]; exact hz)
  ·rw [e] at hz; cases hz; exact .inr rfl
 have hfr : ∀ {Q:Nat→Prop} {t:Slc} {l:List Rc},fK Q w t l→(∀ z,Q z→B≤z∧o.blk≠some z)→fK (fun z=>B≤z∧x'.blk≠some z) w12 t l:=fun {Q t l} hq hQ=>hq.mod hm12 fun z hz hl=>⟨(hQ z hz).2,(hQ z hz).1,fun e=>by
  rcases hx' z e with h | h
  ·exact (hQ z hz).2 h
  ·omega⟩
 refine ⟨es++fs,by rw [cL]; exact ho12,fun z hz=>?_,by simp [hel,hfl],fun j a d=>?_⟩
 ·rcases hx' z hz with h | h
  ·exact hob z h
  ·omega
 ·rcases Nat.lt_or_ge j es.length with hj | hj
  ·have e1:(es++fs)[j]=es[j]:=List.getElem_append_left hj
   have e2:(L++M)[j]=L[j]'(by omega):=List.getElem_append_left (by omega)
   rw [e1,e2]
   obtain ⟨g1,g2⟩:=hes j hj (by omega)
   exact ⟨g1,hfr g2 fun z hz=>hz⟩
  ·have hl2:j - es.length<fs.length:=by rw [List.length_append] at a; omega
   have e1:(es++fs)[j]=fs[j - es.length]'hl2:=List.getElem_append_right hj
   have e2:(L++M)[j]=M[j - es.length]'(by omega):=by
    rw [List.getElem_append_right (by omega)]
    simp only [hel]
   rw [e1,e2]
   obtain ⟨g1,g2⟩:=hfs (j - es.length) hl2 (by omega)
   exact ⟨g1,hfr g2 fun z hz=>hz.1⟩
theorem yX {v:Slc} (h:v.len=0):Calls prog 34 #[.slice v.a v.len v.cap,.func (.func 35) #[] #[]] w (Ret fun u w'=>u = .tuple #[]∧w'=w):=by
 rw [h]
 refine (AnyF.slices_SortFunc_none Tryz.sortLeaf v.a v.cap (.func (.func 35) #[] #[]) w).mono ?_
 rintro e w' ⟨rfl,rfl⟩
 exact ⟨rfl,rfl⟩
theorem iU {p:Nat} {ts:Nat→Tr} {Ls:Nat→Lv} {Bs:Nat→Nat→Prop} {lo n:Nat} (hS:ShAt w p ts Ls Bs lo) (hO:cF Ls n) (hn:n≤100000) :
 Calls prog 18 #[.pointer (some ⟨p,0,none⟩)] w (Ret fun v w'=>∃ o L,v=o.val∧dI (fun z=>w.heap.size≤z) w' o L∧dB L∧(∀ e,e∈L↔∃ i,i<4∧e∈Ls i)∧Mod NoB w w'):=by
 refine qUQ _ ?_
 unfold jBV
 refine aC (oA hS.blk) ?_
 rintro v w1 ⟨rfl,rfl⟩
 refine ⟨_,rfl,aE (fun h=>by cases h) fun _=>?_⟩
 refine ⟨some ⟨(ts 0).p,0,none⟩,some ⟨(ts 1).p,0,none⟩,some ⟨(ts 2).p,0,none⟩,some ⟨(ts 3).p,0,none⟩,hS.blk.rd fun j v hj=>?_,?_⟩
 ·rw [Nat.zero_add]
  rw [List.getElem?_append_left]
  ·exact hj
  ·rcases Nat.lt_or_ge j (gM ts).length with h | h
   ·exact h
   ·rw [List.getElem?_eq_none (by exact h)] at hj; cases hj
 refine ⟨fun l' w'=>match l' with | [.sl out,.i _ y]=>∃ k:Nat,y=(k:Int)∧k≤4∧dI (fun z=>w1.heap.size≤z) w' out (gX Ls k)∧Mod NoB w1 w' | _=>False,fun l' _=>match l' with | [.sl _,.i _ y]=>(4 - y).toNat | _=>0,⟨0,rfl,by omega,⟨[],bW _ 2,fun z hz=>by simp at hz,rfl,fun i h=>absurd h (by simp)⟩,Mod.refl _ _⟩,?_⟩
 rintro out y w2 ⟨k,rfl,hk,hQ2,hm2⟩
 refine aE (fun h=>?_) fun h=>?_
 ·have hk4:k<4:=by have:=of_decide_eq_true h; omega
  refine ⟨⟨by omega,by show (k:Int)<((4:Nat):Int); omega⟩,by intro z hz; simp at hz; rcases hz with rfl | rfl | rfl | rfl <;> rfl,some ⟨(ts k).p,0,none⟩,?_,?_⟩
  ·rw [Int.toNat_natCast]
   match k,hk4 with
   | 0,_=>rfl
   | 1,_=>rfl
   | 2,_=>rfl
   | 3,_=>rfl
  ·have hLn:=hO.n k
   refine aC (oC ((hS.four.no hm2).tr k hk4) (hO.ok k) (by omega)) ?_
   rintro v w3 ⟨x3,rfl,hQ3,hm3⟩
   refine ⟨x3,rfl,?_⟩
   have hs12:=hm2.size
   have hob : ∀ z,out.blk=some z→z<w2.heap.size:=fun z hz=>by obtain ⟨es,ho,_⟩:=hQ2; exact ho.lt hz
   have hX:dI (fun z=>w1.heap.size≤z∧out.blk≠some z) w3 x3 (Ls k):=hQ3.mod (Mod.refl NoB _) fun z hz _=>⟨fun h=>h,by omega,fun e=>by have:=hob z e; omega⟩
   have hO3:dI (fun z=>w1.heap.size≤z) w3 out (gX Ls k):=hQ2.mod hm3 fun z hz _=>⟨fun h=>h,hz⟩
   have hkn:=vV hO k
   have hk3:k*n≤3*n:=Nat.mul_le_mul_right n (by omega)
   refine sF hO3 hX (by omega) (by omega) (by have:=(hm2.tr hm3).size; omega) fun x' w4 hQ4 hm4=>⟨x',rfl,?_⟩
   rw [wrap_i64 (e:=(k:Int)+1) (by omega)]
   refine ⟨⟨k+1,by omega,by omega,hQ4,(hm2.tr hm3).fresh hm4 fun z hz=>?_⟩,by (try simp only []); omega⟩
   obtain ⟨es,ho,hb,_⟩:=hQ2
   exact hb z hz
 ·have hk4:k=4:=by have:=of_decide_eq_false h; omega
  subst hk4
  obtain ⟨es,ho,hob,hel,hes⟩:=hQ2
  have hol:=bK aZ (by omega) ho.rd
  have hkn:=vV hO 4
  rcases Nat.eq_zero_or_pos es.length with h0 | h0
  ·refine aC (yX (v:=out) (by omega)) ?_
   rintro v w3 ⟨rfl,rfl⟩
   have hnil:gX Ls 4=[]:=List.eq_nil_of_length_eq_zero (by omega)
   refine ⟨rfl,out,gX Ls 4,rfl,⟨es,ho,hob,hel,hes⟩,?_,fun e=>pX,hm2⟩
   rw [hnil]; exact List.Pairwise.nil
  ·refine aC (qMS es ho h0 (by omega)) ?_
   rintro v w3 ⟨rfl,ps,hpm,hps,ho3,hm3⟩
   have hzl:(es.zip (gX Ls 4)).map Prod.fst=es:=List.map_fst_zip (by omega)
   obtain ⟨zs,hz1,hz2⟩:=qHT hpm _ hzl
   have hz3:(zs.map Prod.snd).Perm (gX Ls 4):=by
    have:=hz1.map Prod.snd
    rwa [List.map_snd_zip (by omega)] at this
   have hzlen:zs.length=ps.length:=by rw [← hz2,List.length_map]
   have hrel : ∀ z∈zs,z.1.1=z.2.1∧fK (fun y=>w1.heap.size≤y∧out.blk≠some y) w2 z.1.2 z.2.2:=fun z hz=>by
    have hz':=hz1.mem_iff.1 hz
    obtain ⟨i,hi,rfl⟩:=List.getElem_of_mem hz'
    rw [List.getElem_zip]
    rw [List.length_zip] at hi
    exact hes i (by omega) (by omega)
   refine ⟨rfl,out,zs.map Prod.snd,rfl,⟨ps,ho3,hob,by simp [hzlen],fun i a d=>?_⟩,?_,fun e=>?_,hm2.fresh hm3 fun z hz=>hob z hz⟩
   ·have hi:i<zs.length:=by omega
    have e1:ps[i]=zs[i].1:=by simp only [← hz2,List.getElem_map]
    have e2:(zs.map Prod.snd)[i]=zs[i].2:=by simp
    rw [e1,e2]
    obtain ⟨g1,g2⟩:=hrel zs[i] (List.getElem_mem hi)
    exact ⟨g1,g2.mod hm3 fun z hz _=>⟨hz.2,hz⟩⟩
   ·have hne:(zs.map Prod.snd).Pairwise fun a b=>a.1≠b.1:=(hz3.symm.pairwise_iff fun h e=>h e.symm).1 (qOI hO 4)
    refine List.pairwise_iff_getElem.2 fun i j hi hj hij=>?_
    have h1:=List.pairwise_iff_getElem.1 hne i j hi hj hij
    have hi':i<zs.length:=by simpa using hi
    have hj':j<zs.length:=by simpa using hj
    simp only [List.getElem_map] at h1 ⊢
    have h2:=List.pairwise_iff_getElem.1 hps i j (by omega) (by omega) hij
    have e1:ps[i]=zs[i].1:=by simp only [← hz2,List.getElem_map]
    have e2:ps[j]=zs[j].1:=by simp only [← hz2,List.getElem_map]
    rw [e1,e2,(hrel zs[i] (List.getElem_mem hi')).1,(hrel zs[j] (List.getElem_mem hj')).1] at h2
    exact sJ h2 (fun e=>h1 e.symm)
   ·rw [hz3.mem_iff]; exact pX
end
end Go.Proofs.YtahjmeegfkfokaaGreatDoor
end
section
namespace Go.Proofs.YtahjmeegfkfokaaGreatDoor
open Go Go.Sh
open Go.Proofs.Tryz
theorem qGF {L L':Lv} {key:List UInt8} {rs:List Rc} (hs:dB L) (h:qK L key rs L'):lY L' key=rs∧∀ k,k≠key→lY L' k=lY L k:=by
 refine ⟨?_,fun k hk=>?_⟩
 ·rcases Classical.em (rs=[]) with e | e
  ·rw [lV fun x hx=>?_,e]
   rcases (h.mem x).1 hx with ⟨h1,_⟩ | ⟨h1,_⟩
   ·exact absurd e h1
   ·exact h1
  ·exact iS h.pw ((h.mem _).2 (.inl ⟨e,rfl⟩))
 rcases Classical.em (∃ s,(k,s)∈L) with ⟨s,hm⟩ | hn
 ·rw [iS hs hm,iS h.pw ((h.mem _).2 (.inr ⟨hk,hm⟩))]
 ·have h1 : ∀ e∈L,e.1≠k:=fun e he e'=>hn ⟨e.2,by rw [← e']; exact he⟩
  rw [lV h1,lV fun e he e'=>?_]
  rcases (h.mem e).1 he with ⟨_,rfl⟩ | ⟨_,he⟩
  ·exact hk e'.symm
  ·exact h1 e he e'
def Holds (Ls:Nat→Lv) (X:List Rc):Prop:=∀ key,bY (bJ X key) (eZ Ls key)
theorem holds_none:Holds (fun _=>[]) []:=fun key=>⟨[],⟨List.Pairwise.nil,fun r=>by simp [bJ]⟩,rfl⟩
theorem rG {Ls:Nat→Lv} {X:List Rc} (ht:fS (dP X)) (hH:Holds Ls X) (key:List UInt8):gS (bJ X key) (eZ Ls key):=
 (kB (nQ ht key) iC fN).1 (hH key)
theorem lC {X:List Rc} {r:Rc} (hr:r.right=true):dP (X++[r])=dP X++[r]:=by simp [dP,hr]
theorem eH {X:List Rc} {r x:Rc} {key:List UInt8} (hr:r.right=true):x∈bJ (X++[r]) key↔x∈bJ X key∨(x=r∧r.key=key):=by
 simp only [dW,lC hr,List.mem_append,List.mem_singleton]
 constructor
 ·rintro ⟨h | rfl,h2⟩
  ·exact .inl ⟨h,h2⟩
  ·exact .inr ⟨rfl,h2⟩
 ·rintro (⟨h,h2⟩ | ⟨rfl,h2⟩)
  ·exact ⟨.inl h,h2⟩
  ·exact ⟨.inr rfl,h2⟩
section
variable {Ls Ls':Nat→Lv} {X:List Rc} {r:Rc}
theorem qKV (hr:r.right=true) (ht:fS (dP (X++[r]))) (hH:Holds Ls X) : ∀ x∈eZ Ls r.key++[r],x∈bJ (X++[r]) r.key:=fun x hx=>by
 have ht0:fS (dP X):=ht.sub fun y hy=>by rw [lC hr]; exact List.mem_append_left _ hy
 rw [eH hr]
 rcases List.mem_append.1 hx with h | h
 ·exact .inl (((rG ht0 hH r.key).mem x).1 h).1
 ·exact .inr ⟨by simpa using h,rfl⟩
theorem qEC (hr:r.right=true) (ht:fS (dP (X++[r]))) (hH:Holds Ls X) {rs:List Rc} (hJ:bY (eZ Ls r.key++[r]) rs):gS (bJ (X++[r]) r.key) rs:=by
 have ht0:fS (dP X):=ht.sub fun y hy=>by rw [lC hr]; exact List.mem_append_left _ hy
 have hF:=rG ht0 hH r.key
 have hin:=qKV hr ht hH
 have htk:=nQ ht r.key
 have hM:=(kB (htk.sub hin) (fun a ha b hb=>iC a (hin a ha) b (hin b hb)) fun a ha=>fN a (hin a ha)).1 hJ
 refine ⟨hM.pw,fun x=>?_⟩
 rw [hM.mem]
 constructor
 ·rintro ⟨h1,h2⟩
  refine ⟨hin x h1,fun y hy=>?_⟩
  cases e:y.over x with
  | false=>rfl
  | true=>
    rcases (eH hr).1 hy with h3 | ⟨rfl,_⟩
    ·obtain ⟨z,z1,z2,z3⟩:=(nQ ht0 r.key).max' h3
     have hz:z∈eZ Ls r.key:=(hF.mem z).2 ⟨z1,z3⟩
     have hzx:z.over x=true:=by
      rcases z2 with rfl | z2
      ·exact e
      ·exact htk.trans z ((eH hr).2 (.inl z1)) y hy x (hin x h1) z2 e
     have:=h2 z (List.mem_append_left _ hz)
     rw [hzx] at this; cases this
    ·have:=h2 y (List.mem_append_right _ (List.mem_singleton.2 rfl))
     rw [e] at this; cases this
 ·rintro ⟨h1,h2⟩
  refine ⟨?_,fun y hy=>h2 y (hin y hy)⟩
  rcases (eH hr).1 h1 with h3 | ⟨rfl,_⟩
  ·exact List.mem_append_left _ ((hF.mem x).2 ⟨h3,fun y hy=>h2 y ((eH hr).2 (.inl hy))⟩)
  ·exact List.mem_append_right _ (List.mem_singleton.2 rfl)
theorem qOV {B Y rs:List Rc} {k:List UInt8} (hB:B.length≤16) (hY : ∀ x∈Y,x∈B) (hM:gS (bJ Y k) rs):rs.length≤16:=
 Nat.le_trans (uD jI hM.pw fun x hx=>hY x (List.mem_filter.1 ((hM.mem x).1 hx).1).1) hB
theorem pU {n:Nat} {e:Int} (hO:cF Ls n) (hn:n≤255) (hX : ∀ rs,gS (bJ (X++[r]) r.key) rs→rs.length≤16) (hr:r.right=true) (ht:fS (dP (X++[r]))) (hH:Holds Ls X) (hT:fI Ls r e Ls'):e=0∧Holds Ls' (X++[r]):=by
 rcases hT with ⟨h,_,_⟩ | ⟨_,rs,hJ,hc⟩
 ·rw [hr] at h; cases h
 have hM:=qEC hr ht hH hJ
 have hlen:=hX rs hM
 rcases hc with ⟨hf,_,_⟩ | ⟨_,he,hP,_,hel⟩
 ·rcases hf with h | h
  ·omega
  ·have:=hO.n (tOf r.key); omega
 ·refine ⟨he,fun key=>?_⟩
  have hg:=qGF (hO.so _) hP
  rcases Classical.em (key=r.key) with e | e
  ·subst e
   have:eZ Ls' r.key=rs:=hg.1
   rw [this]
   exact (kB (nQ ht r.key) iC fN).2 hM
  ·have e1:eZ Ls' key=eZ Ls key:=by
    unfold eZ
    rcases Classical.em (tOf key=tOf r.key) with h | h
    ·rw [h]; exact hg.2 key e
    ·rw [hel _ h]
   have e2:bJ (X++[r]) key=bJ X key:=by
    have : ¬ r.key=key:=fun h=>e h.symm
    simp [bJ,List.filter_append,this]
   rw [e1,e2]; exact hH key
end
theorem nS {Ls Ls':Nat→Lv} (h:fJ Ls [] Ls'):Ls'=Ls:=by
 generalize hl:([]:List Rc)=l at h
 cases h with
 | nil=>rfl
 | snoc _ _=>simp at hl
theorem oF {Ls Ls':Nat→Lv} {X:List Rc} {r:Rc} (h:fJ Ls (X++[r]) Ls') : ∃ L1,fJ Ls X L1∧fI L1 r 0 Ls':=by
 generalize hl:X++[r]=l at h
 cases h with
 | nil=>simp at hl
 | snoc h1 h2=>
   obtain ⟨rfl,h3⟩:=List.append_inj' hl rfl
   obtain rfl:r=_:=by simpa using h3
   exact ⟨_,h1,h2⟩
theorem qIS {Ls Ls':Nat→Lv} {r:Rc} (h:fJ Ls [r] Ls'):fI Ls r 0 Ls':=by
 obtain ⟨L1,h1,h2⟩:=oF (X:=[]) h
 rw [nS h1] at h2; exact h2
theorem uR {Ls:Nat→Lv} {n:Nat} {l:List Rc} {L:Lv} (hO:cF Ls n) (hH:Holds Ls (dP l)) (hs:dB L) (hm : ∀ e,e∈L↔∃ i,i<4∧e∈Ls i):vW l L:=by
 have e0 : ∀ k,bJ (dP l) k=bJ l k:=fun k=>by
  simp only [bJ,dP,List.filter_filter]
  apply List.filter_congr
  intro x _
  cases x.right <;> simp
 refine ⟨hs,fun k s=>?_⟩
 have hJ:=hH k
 rw [e0] at hJ
 rw [hm]
 constructor
 ·rintro ⟨i,hi,he⟩
  have h1:tOf k=i:=hO.sh i (k,s) he
  have h2:eZ Ls k=s:=by
   unfold eZ
   rw [h1]; exact iS (hO.so i) he
  have h3:0<s.length:=(hO.ok i (k,s) he).2.2.1
  rw [h2] at hJ
  exact ⟨List.length_pos_iff.1 h3,hJ⟩
 ·rintro ⟨h1,h2⟩
  have h3:eZ Ls k=s:=hJ.uniq h2 fun _=>Iff.rfl
  refine ⟨tOf k,uB k,?_⟩
  have e:lY (Ls (tOf k)) k=s:=h3
  have:=vN (L:=Ls (tOf k)) (key:=k) (by rw [e]; exact h1)
  rw [e] at this; exact this
end Go.Proofs.YtahjmeegfkfokaaGreatDoor
end
section
namespace Go.Sh
def exA (s:List UInt8):Rc:=⟨[107],1,1,[],false,[],s⟩
theorem jAM {s:List UInt8} (h:s.length=64):(exA s).right=true:=by simp only [Rc.right,exA,h]; rfl
end Go.Sh
end
section
namespace Go.Proofs.YtahjmeegfkfokaaGreatDoor
open Go Go.Sh
open Go.Proofs.Tryz
theorem fL {X:List Rc} (h : ∀ r∈X,r.right=true):dP X=X:=List.filter_eq_self.2 h
section
variable {Ls:Nat→Lv} {X rs:List Rc} {n:Nat}
theorem qA (hO:cF Ls n) (hn:n+rs.length≤255) (hH:Holds Ls X) (hr : ∀ r∈rs,r.right=true) (ht:fS (dP (X++rs))) (h16 : ∀ Y k out,(∀ y∈Y,y∈X++rs)→gS (bJ Y k) out→out.length≤16) :
 ∀ k,k≤rs.length→∀ L1,fJ Ls (rs.take k) L1→Holds L1 (X++rs.take k)∧cF L1 (n+k)
 | 0,_,L1,hP=>by
   have hP:fJ Ls [] L1:=hP
   rw [nS hP]
   exact ⟨by simpa using hH,hO⟩
 | k+1,hk,L1,hP=>by
   have e1:rs.take (k+1)=rs.take k++[rs[k]]:=aV hk
   rw [e1] at hP
   obtain ⟨L0,h0,hT⟩:=oF hP
   obtain ⟨hH0,hO0⟩:=qA hO hn hH hr ht h16 k (by omega) L0 h0
   have hsub : ∀ y∈X++rs.take k++[rs[k]],y∈X++rs:=fun y hy=>by
    rw [List.append_assoc,← e1] at hy
    rcases List.mem_append.1 hy with h | h
    ·exact List.mem_append_left _ h
    ·exact List.mem_append_right _ (List.mem_of_mem_take h)
   have hrk:=hr rs[k] (List.getElem_mem _)
   have htk:fS (dP (X++rs.take k++[rs[k]])):=ht.sub fun y hy=>List.mem_filter.2 ⟨hsub y (List.mem_filter.1 hy).1,(List.mem_filter.1 hy).2⟩
   have h1:=pU hO0 (by omega) (fun out hM=>h16 _ _ _ hsub hM) hrk htk hH0 hT
   rw [e1,← List.append_assoc]
   exact ⟨h1.2,vS hO0 hT⟩
theorem qXU (hO:cF Ls n) (hn:n+rs.length≤255) (hH:Holds Ls X) (hr : ∀ r∈rs,r.right=true) (ht:fS (dP (X++rs))) (h16 : ∀ Y k out,(∀ y∈Y,y∈X++rs)→gS (bJ Y k) out→out.length≤16) {k:Nat} (h:k<rs.length) {L1 L2:Nat→Lv} {e:Int} (hP:fJ Ls (rs.take k) L1) (hT:fI L1 rs[k] e L2):e=0:=by
 obtain ⟨hH0,hO0⟩:=qA hO hn hH hr ht h16 k (by omega) L1 hP
 have hsub : ∀ y∈X++rs.take k++[rs[k]],y∈X++rs:=fun y hy=>by
  rw [List.append_assoc,← aV h] at hy
  rcases List.mem_append.1 hy with h | h
  ·exact List.mem_append_left _ h
  ·exact List.mem_append_right _ (List.mem_of_mem_take h)
 exact (pU hO0 (by omega) (fun out hM=>h16 _ _ _ hsub hM) (hr _ (List.getElem_mem _)) (ht.sub fun y hy=>List.mem_filter.2 ⟨hsub y (List.mem_filter.1 hy).1,(List.mem_filter.1 hy).2⟩) hH0 hT).1
end
section
variable {X:List Rc} {r:Rc} {k:List UInt8}
theorem qHH (h0 : ∀ x∈X,∀ y,x.over y=false) (hd : ∀ a∈X++[r],∀ b∈X++[r],a.cl=b.cl→a.sq=b.sq→a=b) (hs:r.over r=false):fS (X++[r]):=by
 have hr : ∀ a∈X++[r],∀ y,a.over y=true→a=r:=fun a ha y e=>by
  rcases List.mem_append.1 ha with h | h
  ·rw [h0 a h y] at e; cases e
  ·simpa using h
 refine ⟨fun a ha b hb _=>hd a ha b hb,fun a ha b hb e=>?_,fun a ha b hb c hc e e'=>?_⟩
 ·cases e':b.over a with
  | false=>rfl
  | true=>
    have h1:=hr a ha b e
    have h2:=hr b hb a e'
    subst h1; subst h2
    rw [hs] at e; cases e
 ·have h1:=hr a ha b e
  have h2:=hr b hb c e'
  subst h1; subst h2
  exact e'
theorem qOP (hk : ∀ x∈X++[r],x.right=true∧x.key=k) (ho : ∀ x∈X,r.over x=true) (h0 : ∀ x∈X,∀ y,x.over y=false) (hs:r.over r=false):gS (bJ (X++[r]) k) [r]:=by
 have hm : ∀ x,x∈bJ (X++[r]) k↔x∈X++[r]:=fun x=>by
  rw [dW,fL fun x hx=>(hk x hx).1]
  exact ⟨fun h=>h.1,fun h=>⟨h,(hk x h).2⟩⟩
 refine ⟨List.pairwise_singleton _ _,fun x=>?_⟩
 simp only [hm]
 constructor
 ·intro h
  have h:x=r:=by simpa using h
  subst h
  refine ⟨by simp,fun y hy=>?_⟩
  rcases List.mem_append.1 hy with h | h
  ·exact h0 y h x
  ·have:y=x:=by simpa using h
   subst this; exact hs
 ·rintro ⟨h1,h2⟩
  rcases List.mem_append.1 h1 with h | h
  ·have:=h2 r (by simp)
   rw [ho x h] at this; cases this
  ·exact h
end
theorem qMX {Ls:Nat→Lv} {Y:List Rc} {k:List UInt8} {out:List Rc} (hr : ∀ r∈Y,r.right=true) (ht:fS Y) (hH:Holds Ls Y) (hM:gS (bJ Y k) out):eZ Ls k=out:=
 (rG (by rw [fL hr]; exact ht) hH k).uniq hM fun r=>Iff.rfl
def exD (s:List UInt8):Rc:=⟨[107],2,1,[(1,1)],false,[],s⟩
theorem jCK {s:List UInt8} (h:s.length=64):(exD s).right=true:=by simp only [Rc.right,exD,h]; rfl
theorem qAF {sa sb:List UInt8} (ha:sa.length=64) (hb:sb.length=64):(∀ x∈[exA sa]++[exD sb],x.right=true∧x.key=[107])∧fS ([exA sa]++[exD sb])∧gS (bJ ([exA sa]++[exD sb]) [107]) [exD sb]:=by
 have h1 : ∀ x∈[exA sa]++[exD sb],x.right=true∧x.key=[107]:=fun x hx=>by
  have hx:x=exA sa∨x=exD sb:=by simpa using hx
  rcases hx with rfl | rfl
  ·exact ⟨jAM ha,rfl⟩
  ·exact ⟨jCK hb,rfl⟩
 have h2 : ∀ x∈[exA sa],∀ y,x.over y=false:=fun x hx y=>by
  have:x=exA sa:=by simpa using hx
  subst this; simp [Rc.over,exA,kZ]
 refine ⟨h1,qHH h2 (fun a ha b hb e1 e2=>?_) rfl,qOP h1 (fun x hx=>?_) h2 rfl⟩
 ·have ha:a=exA sa∨a=exD sb:=by simpa using ha
  have hb:b=exA sa∨b=exD sb:=by simpa using hb
  rcases ha with rfl | rfl <;> rcases hb with rfl | rfl <;> first | rfl | exact absurd e1 (by simp [exA,exD])
 ·have:x=exA sa:=by simpa using hx
  subst this; rfl
theorem qOA {sa sb:List UInt8} (ha:sa.length=64) (hb:sb.length=64) {Ls:Nat→Lv} {n:Nat} {L:Lv} (hO:cF Ls n) (hH:Holds Ls ([exA sa]++[exD sb])) (hs:dB L) (hm : ∀ e,e∈L↔∃ i,i<4∧e∈Ls i):L.length=1:=by
 obtain ⟨g1,g2,g3⟩:=qAF ha hb
 have hr : ∀ r∈[exA sa]++[exD sb],r.right=true:=fun r hr=>(g1 r hr).1
 have hL:vW ([exA sa]++[exD sb]) L:=uR hO (by rw [fL hr]; exact hH) hs hm
 have hj:bY (bJ ([exA sa]++[exD sb]) [107]) [exD sb]:=(kB (nQ (by rw [fL hr]; exact g2) _) iC fN).2 g3
 have h1:([107],[exD sb])∈L:=(hL.mem _ _).2 ⟨by simp,hj⟩
 have h2 : ∀ e∈L,e=([107],[exD sb]):=fun e he=>by
  obtain ⟨k,s⟩:=e
  obtain ⟨q1,q2⟩:=(hL.mem k s).1 he
  rcases Classical.em (k=[107]) with rfl | hk
  ·rw [q2.uniq hj fun r=>Iff.rfl]
  ·exfalso
   have e0:bJ ([exA sa]++[exD sb]) k=[]:=List.eq_nil_iff_forall_not_mem.2 fun r hr'=>hk (by
    obtain ⟨a,b⟩:=dW.1 hr'
    rw [← b,(g1 r (by rw [fL hr] at a; exact a)).2])
   rw [e0] at q2
   exact q1 (List.eq_nil_iff_forall_not_mem.2 fun r hr'=>by have:=jN q2 r hr'; cases this)
 match L,h1,h2,hs with
 | [a],_,_,_=>rfl
 | a :: b :: L,_,h2,hs=>
   have e1:=h2 a (by simp)
   have e2:=h2 b (by simp)
   have:=(List.pairwise_cons.1 hs).1 b (by simp)
   rw [e1,e2] at this
   exact absurd this (List.lt_irrefl _)
end Go.Proofs.YtahjmeegfkfokaaGreatDoor
end
section
namespace Go.Proofs.YtahjmeegfkfokaaGreatDoor
open Go Go.Sh Go.MapKept
open Go.Proofs.Tryz
section
variable {w:World}
theorem qMA {p:Nat} {ts:Nat→Tr} {Ls:Nat→Lv} {Bs:Nat→Nat→Prop} {lo n:Nat} {s:Slc} {X rs:List Rc} (hg:dM w) (hlo : ∀ z,isG z→z<lo) (hS:ShAt w p ts Ls Bs lo) (hO:cF Ls n) (hn:n+rs.length≤255) (hR:bT w.heap.size w s rs)
 (hH:Holds Ls X) (hr : ∀ r∈rs,r.right=true) (ht:fS (dP (X++rs))) (h16 : ∀ Y k out,(∀ y∈Y,y∈X++rs)→gS (bJ Y k) out→out.length≤16) :
 Calls prog 9 #[.pointer (some ⟨p,0,none⟩),.slice s.a s.len s.cap] w (Ret fun v w'=>v = .int .i64 0∧∃ ts' Ls' Bs',Holds Ls' (X++rs)∧ShAt w' p ts' Ls' Bs' lo∧cF Ls' (n+rs.length)∧(∀ i,i<4→∀ z,((ts' i).W z∨Bs' i z)→w.heap.size≤z)∧Mod (fun z=>z=p) w w'):=by
 refine Calls.mono (uA hg hlo hS hO (by omega) hR) fun e w' h=>?_
 cases e with
 | returned v=>
   obtain ⟨e,rfl,⟨rfl,ts',Ls',Bs',hP,hS',hz,hO',hm⟩ | ⟨he,k,hk,L1,L2,hP,hT,hm⟩⟩:=h
   ·refine ⟨rfl,ts',Ls',Bs',?_,hS',hO',hz,hm⟩
    have:=(qA hO hn hH hr ht h16 rs.length (Nat.le_refl _) Ls' (by rw [List.take_length]; exact hP)).1
    rwa [List.take_length] at this
   ·exact absurd (qXU hO hn hH hr ht h16 hk hP hT) he
 | _=>exact h.elim
theorem qVC {p:Nat} {ts:Nat→Tr} {Ls:Nat→Lv} {Bs:Nat→Nat→Prop} {lo n:Nat} {key:List UInt8} (hg:dM w) (hS:ShAt w p ts Ls Bs lo) (hO:cF Ls n) (hn:n≤100000) (hk:key.length≤100000000) :
 Calls prog 11 #[.pointer (some ⟨p,0,none⟩),.string ⟨key.toArray⟩] w (Ret fun v w'=>∃ x:Slc,v=x.val∧iA w.heap.size w' x (eZ Ls key)∧Mod NoB w w'):=by
 refine qVF _ _ ?_
 unfold jET
 refine aC (oA hS.blk) ?_
 rintro v w1 ⟨rfl,rfl⟩
 refine ⟨_,rfl,aE (fun h=>by cases h) fun _=>?_⟩
 refine aC (qRB (c:=p) (l:=[.bool true]) hg hS.blk hk) ?_
 rintro v w2 ⟨rfl,hm2⟩
 refine ⟨_,rfl,?_⟩
 have h4:=uB key
 refine aC (qHA (key:=key) ((hS.four.no hm2).tr _ h4) (hO.so _) (hO.ok _) (by have:=hO.n (tOf key); omega)) ?_
 rintro v w3 ⟨x,rfl,hN,hm3⟩
 exact ⟨x,rfl,x,rfl,hN.le hm2.size,hm2.tr hm3⟩
theorem qJH {p:Nat} {ts:Nat→Tr} {Ls:Nat→Lv} {Bs:Nat→Nat→Prop} {lo n:Nat} {k:Int} (hS:ShAt w p ts Ls Bs lo) (hO:cF Ls n) (hn:n≤100000) :
 Calls prog 21 #[.pointer (some ⟨p,0,none⟩),.int .i64 k] w (Ret fun v w'=>∃ x:Option Addr,v = .pointer x∧x.isSome=decide (0≤k∧k≤3)∧Mod NoB w w'):=by
 refine qVN _ _ ?_
 unfold jDG
 refine ⟨fun l' w'=>match l' with | [.b t]=>t = !decide (0≤k∧k≤3)∧w'=w | _=>False,?_,?_⟩
 ·refine aC (oA hS.blk) ?_
  rintro v w1 ⟨rfl,rfl⟩
  refine ⟨_,rfl,aE (fun h=>by cases h) fun _=>aE (fun h=>⟨?_,rfl⟩) fun h=>⟨?_,rfl⟩⟩
  ·have:=of_decide_eq_true h
   rw [decide_eq_false (by omega)]; rfl
  ·have:=of_decide_eq_false h
   by_cases h4:k≥4
   ·rw [decide_eq_true h4,decide_eq_false (by omega)]; rfl
   ·rw [decide_eq_false h4,decide_eq_true (by omega)]; rfl
 rintro t w1 ⟨rfl,rfl⟩
 refine aE (fun h=>?_) fun h=>?_
 ·have h:decide (0≤k∧k≤3)=false:=by rwa [Bool.not_eq_true'] at h
  exact ⟨none,rfl,by rw [h]; rfl,Mod.refl _ _⟩
 ·have h:decide (0≤k∧k≤3)=true:=by rwa [Bool.not_eq_false'] at h
  have h':=of_decide_eq_true h
  obtain ⟨m,rfl⟩ : ∃ m:Nat,k=m:=⟨k.toNat,by omega⟩
  have hm4:m<4:=by omega
  refine ⟨⟨by omega,by omega⟩,some ⟨(ts m).p,0,none⟩,?_,?_⟩
  ·rw [aK,aK]
   refine hS.blk.rd1 ?_
   rw [show 0+0+(m:Int).toNat*1=m by omega,List.getElem?_append_left (by show m<4; exact hm4)]
   exact tK ts hm4
  refine aC (qAQ (hS.four.tr m hm4) ⟨by omega,by omega⟩ (hO.ok m) (by have:=hO.n m; omega)) ?_
  rintro v w2 ⟨t',B',rfl,_,_,_,hm2⟩
  exact ⟨_,rfl,_,rfl,by rw [h]; rfl,hm2⟩
end
end Go.Proofs.YtahjmeegfkfokaaGreatDoor
end
section
namespace Go.Proofs.YtahjmeegfkfokaaGreatDoor
open Go Go.Sh
open Go.Proofs.Tryz
section
variable {w:World}
theorem qXH {seed:Slc} {sl:List UInt8} {h:Hd} {r:Rc} (hg:iM w) (hs:aL w seed 1 (bys sl)) (hsl : ∀ z,seed.blk=some z→z<w.heap.size) (hl:sl.length=32) (H:cK w h r) (hsh:r.shaped=true) :
 Calls prog 27 #[.slice seed.a seed.len seed.cap,h.val] w (Ret fun v w'=>∃ (h':Hd) (sg:List UInt8),v = .tuple #[h'.val,.int .i64 0]∧cK w' h' {r with sig:=sg}∧sg.length=64∧qCB w h'∧Mod NoB w w'):=by
 refine qZC _ h.a h.b h.c h.d h.e h.f h.g ?_
 unfold jDS
 obtain ⟨ir,hr1,hr2,hr3,hr4⟩:=mV
 obtain ⟨iw,hw1,hw2,hw3,hw4⟩:=qEB
 obtain ⟨sm1,sm2,sm3,sm4⟩:=H.sm
 refine aT (l:=h.cells) rfl fun p w1 hN hb=>⟨_,rfl,?_⟩
 refine aO (l:=Hd.cells ⟨[],0,0,⟨none,0,0⟩,false,⟨none,0,0⟩,⟨none,0,0⟩⟩) hr1 hr2 rfl fun x w2 hN2 hb2=>⟨_,rfl,?_⟩
 refine ⟨h.a,h.b,h.c,h.d,h.e,h.f,h.g,rdH (hb.no hN2.mod),?_⟩
 refine aO (l:=Hd.cells ⟨[],0,0,⟨none,0,0⟩,false,⟨none,0,0⟩,⟨none,0,0⟩⟩) hw1 hw2 rfl fun q w3 hN3 hb3=>⟨_,rfl,?_⟩
 refine dA (h:=h) (by kernel_rfl) (by kernel_rfl) hb3 rfl fun w4 ht4 hq4=>?_
 have e1:=hN.at_; have e2:=hN2.at_; have e3:=hN3.at_; have e4:=hN.size; have e5:=hN2.size; have e6:=hN3.size
 have hM4:Mod NoB w w4:=((hN.mod.tr hN2.mod).tr hN3.mod).fresh ht4.mod fun z e=>by omega
 have hp4:=(hb.no (hN2.mod.tr hN3.mod)).mod ht4.mod (by omega)
 have hx4:=(hb2.no hN3.mod).mod ht4.mod (by omega)
 refine aC (qEE (hg.no hM4) (hs.no hM4) (fun z hz=>Nat.lt_of_lt_of_le (hsl z hz) hM4.size) hl) ?_
 rintro v w5 ⟨b,lb,rfl,hlb,hbb,hsb,hm5⟩
 refine ⟨⟨some ⟨b,0,none⟩,32,32⟩,rfl,?_⟩
 refine gQ (e:=5) u26 ⟨_,rfl,aE (fun h=>by simp at h) fun _=>?_⟩
 have hM5:=hM4.tr hm5
 refine ⟨h.a,h.b,h.c,h.d,h.e,h.f,h.g,rdH (hq4.no hm5),?_⟩
 refine aC (lG (h:=h) (H.no hM5)) ?_
 rintro u w7 ⟨rfl,hm7⟩
 rw [hsh]
 refine ⟨_,rfl,aE (fun h=>by cases h) fun _=>?_⟩
 have hm47:=hm5.tr hm7
 have hM7:=hM4.tr hm47
 refine ⟨h.a,h.b,h.c,h.d,h.e,h.f,h.g,rdH (hp4.no hm47),?_⟩
 refine aC (jEW (h:=h) (H.no hM7)) ?_
 rintro u w9 ⟨h',rfl,H',hn',hm9⟩
 refine ⟨h'.a,h'.b,h'.c,h'.d,h'.e,h'.f,h'.g,rfl,?_⟩
 have hm49:=hm47.tr hm9
 have hM9:=hM4.tr hm49
 have s4:w4.heap.size=w3.heap.size:=ht4.size
 have s7:=hm47.size
 refine dA (h:=h') (by kernel_rfl) (by kernel_rfl) (hp4.no hm49) rfl fun w10 ht10 hp10=>?_
 have hM10:Mod NoB w w10:=hM9.fresh ht10.mod fun z e=>by omega
 have H10:cK w10 h' r:=H'.mod ht10.mod fun z hz e=>by have:=hn' z hz; omega
 have hq10:=(hq4.no hm49).mod ht10.mod (by omega)
 have hx10:=(hx4.no hm49).mod ht10.mod (by omega)
 refine ⟨h.a,h.b,h.c,h.d,h.e,h.f,h.g,rdH hq10,?_⟩
 refine iH (qBL (h:=h) (H.no hM10)) fun tx w11 hot hft hm11=>?_
 refine kK (wb:=w11) [tx] [r.text] rfl rfl (by omega) (by omega) (Mod.refl _ _) rfl (qRT hot.rd fun z hz=>hot.lt hz) fun ty w12 hR hm12 _=>⟨ty,rfl,?_⟩
 have hm1012:=hm11.tr hm12
 have hM12:=hM10.tr hm1012
 obtain ⟨ss,o1,f1,l1,c1⟩:=hR
 refine xF (qWG (hg.no hM12) (hs.no hM12) (fun z hz=>Nat.lt_of_lt_of_le (hsl z hz) hM12.size) hl o1.rd (fun z hz=>o1.lt hz) l1 (fun i a b=>⟨(c1 i a b).1,fun z hz=>((c1 i a b).2 z hz).1⟩) (by have:=qZ (r:=r); simp; omega) (by simp)) fun sg lg w13 hog hlg hfg hm13=>?_
 have hm1013:=hm1012.tr hm13
 have hM13:=hM10.tr hm1013
 refine dF (i:=6) (by kernel_rfl) (by kernel_rfl) rfl (hp10.no hm1013) (by rw [Hd.len]; omega) fun w14 ht14 hp14=>?_
 have hp14':Blk w14 p (Hd.cells ⟨h'.a,h'.b,h'.c,h'.d,h'.e,h'.f,sg⟩) 30:=hp14
 refine ⟨h'.a,h'.b,h'.c,h'.d,h'.e,h'.f,sg,rdH hp14',?_⟩
 refine dA (h:=⟨h'.a,h'.b,h'.c,h'.d,h'.e,h'.f,sg⟩) (by kernel_rfl) (by kernel_rfl) ((hx10.no hm1013).mod ht14.mod (by omega)) rfl fun w15 ht15 hx15=>?_
 refine ⟨h'.a,h'.b,h'.c,h'.d,h'.e,h'.f,sg,rdH hx15,?_⟩
 have hm1315:Mod (fun z=>z=p∨z=x) w13 w15:=(ht14.mod.mono fun _ _ e=>.inl e).tr (ht15.mod.mono fun _ _ e=>.inr e)
 have hnew : ∀ z,h'.d.blk=some z∨h'.f.blk=some z∨h'.g.blk=some z→w7.heap.size≤z:=hn'
 have hsg : ∀ z,sg.blk=some z→w12.heap.size≤z:=hfg
 have s12:=hm1012.size; have s10:w10.heap.size=w9.heap.size:=ht10.size; have s9:=hm49.size
 have H13:=H10.no hm1013
 refine ⟨⟨h'.a,h'.b,h'.c,h'.d,h'.e,h'.f,sg⟩,lg,rfl,⟨H'.key,H'.cl,H'.sq,H'.gone,H13.ctx.mod hm1315 fun z hz e=>?_,H13.val.mod hm1315 fun z hz e=>?_,hog.rd.mod hm1315 fun z hz e=>?_,⟨sm1,sm2,sm3,by show lg.length≤1000000; omega⟩,?_⟩,hlg,?_,hM13.fresh hm1315 fun z e=>?_⟩
 ·have:=hnew z (.inl hz); omega
 ·have:=hnew z (.inr (.inl hz)); omega
 ·have:=hsg z hz; omega
 ·rintro z (hz | hz | hz)
  ·exact Nat.lt_of_lt_of_le (H13.lt z (.inl hz)) hm1315.size
  ·exact Nat.lt_of_lt_of_le (H13.lt z (.inr (.inl hz))) hm1315.size
  ·exact Nat.lt_of_lt_of_le (hog.lt hz) hm1315.size
 ·have s7':=hM7.size
  rintro z (hz | hz | hz)
  ·exact Nat.le_trans s7' (hnew z (.inl hz))
  ·exact Nat.le_trans s7' (hnew z (.inr (.inl hz)))
  ·have:=hsg z hz; have:=hM12.size; omega
 ·omega
end
def sh7 (w:World) (R:RW):Prop:=
 aD prog 8 [] w (aG R) fun v w1=>∃ x:Option Addr,v=(.pointer x)∧aD prog 10 [.string ⟨([107]).toArray⟩,.int .i64 (1:Int),.int .i64 (1:Int),.slice none 0 0] w1 (aG R) fun v1 w2=>∃ xa:List UInt8,∃ xb xc:Int,∃ xd:Slc,∃ xe:Bool,∃ xf xg:Slc,v1=(zR xa xb xc xd xe xf xg)∧aI prog (Instr.alloc 30 true (.tuple #[])) w2 fun v2 w3=>∃ a:Option Addr,v2=(.pointer a)∧aA a fun a1=>aJ prog (storeVar 30 a1 (zR xa xb xc xd xe xf xg)) w3 fun w4=>aI prog (Instr.buildSlice 27 1 #[(0,(.agg #[.int .i64 (1:Int),.int .i64 (1:Int)]))]) w4 fun v3 w5=>∃ x1:Slc,v3=(zS x1)∧aD prog 10 [.string ⟨([107]).toArray⟩,.int .i64 (2:Int),.int .i64 (1:Int),zS x1] w5 (aG R) fun v4 w6=>∃ xa1:List UInt8,∃ xb1 xc1:Int,∃ xd1:Slc,∃ xe1:Bool,∃ xf1 xg1:Slc,v4=(zR xa1 xb1 xc1 xd1 xe1 xf1 xg1)∧aI prog (Instr.alloc 30 true (.tuple #[])) w6 fun v5 w7=>∃ b:Option Addr,v5=(.pointer b)∧aA b fun a2=>aJ prog (storeVar 30 a2 (zR xa1 xb1 xc1 xd1 xe1 xf1 xg1)) w7 fun w8=>aA a fun a3=>∃ xa2:List UInt8,∃ xb2 xc2:Int,∃ xd2:Slc,∃ xe2:Bool,∃ xf2 xg2:Slc,Rd w8 a3 (yR xa2 xb2 xc2 xd2 xe2 xf2 xg2)∧aA b fun a4=>∃ xa3:List UInt8,∃ xb3 xc3:Int,∃ xd3:Slc,∃ xe3:Bool,∃ xf3 xg3:Slc,Rd w8 a4 (yR xa3 xb3 xc3 xd3 xe3 xf3 xg3)∧aI prog (Instr.buildSlice 32 2 #[(0,(zR xa2 xb2 xc2 xd2 xe2 xf2 xg2)),(1,(zR xa3 xb3 xc3 xd3 xe3 xf3 xg3))]) w8 fun v6 w9=>∃ x2:Slc,v6=(zS x2)∧aD prog 9 [.pointer x,zS x2] w9 (aG R) fun v7 w10=>∃ x3:Int,v7=(.int .i64 x3)∧∃ sx:World→Prop,sx w10.drew∧aH (x3==(0:Int)) (aA b fun a5=>∃ xa4:List UInt8,∃ xb4 xc4:Int,∃ xd4:Slc,∃ xe4:Bool,∃ xf4 xg4:Slc,(∀ w',sx w'→Rd w' a5 (yR xa4 xb4 xc4 xd4 xe4 xf4 xg4))∧((aD prog 11 [.pointer x,.string ⟨([107]).toArray⟩] w10.drew (aG R) fun v8 w11=>∃ x4:Slc,v8=(zS x4)∧(sx w11∧((aI prog (Instr.buildSlice 32 1 #[(0,(zR xa4 xb4 xc4 xd4 xe4 xf4 xg4))]) w11 fun v9 w12=>∃ x5:Slc,v9=(zS x5)∧((aD prog 12 [zS x4,zS x5] w12 (aG R) fun v10 w13=>∃ x6:Bool,v10=(.bool x6)∧(sx w13∧aH x6 (((aD prog 18 [.pointer x] w13 (aG R) fun v11 w14=>∃ x7:Slc,v11=(zS x7)∧(sx w14∧aH ((x7.len:Int)==(1:Int)) (((aD prog 21 [.pointer x,.int .i64 (4:Int)] w14 (aG R) fun v12 w15=>∃ x8:Option Addr,v12=(.pointer x8)∧(sx w15∧aU prog (do eqGuard .eql 47 (.tmp 32) (.const (.pointer none)) (.pointer x8) (.pointer none); binOp .eql 47 (.pointer x8) (.pointer none)) fun v13=>∃ x9:Bool,v13=(.bool x9)∧R (.returned (.bool x9)) w15))∧True)) ((((sx w14∧R (.returned (.bool false)) w14))∧True))))∧True)) ((((sx w13∧(((sx w13∧R (.returned (.bool false)) w13))∧True)))∧True))))∧True))∧True)))∧(aI prog (Instr.buildSlice 32 1 #[(0,(zR xa4 xb4 xc4 xd4 xe4 xf4 xg4))]) w10.drew fun v14 w16=>∃ x10:Slc,v14=(zS x10)∧((aD prog 11 [.pointer x,.string ⟨([107]).toArray⟩] w16 (aG R) fun v15 w17=>∃ x11:Slc,v15=(zS x11)∧(sx w17∧((aD prog 12 [zS x11,zS x10] w17 (aG R) fun v16 w18=>∃ x12:Bool,v16=(.bool x12)∧(sx w18∧aH x12 (((aD prog 18 [.pointer x] w18 (aG R) fun v17 w19=>∃ x13:Slc,v17=(zS x13)∧(sx w19∧aH ((x13.len:Int)==(1:Int)) (((aD prog 21 [.pointer x,.int .i64 (4:Int)] w19 (aG R) fun v18 w20=>∃ x14:Option Addr,v18=(.pointer x14)∧(sx w20∧aU prog (do eqGuard .eql 47 (.tmp 32) (.const (.pointer none)) (.pointer x14) (.pointer none); binOp .eql 47 (.pointer x14) (.pointer none)) fun v19=>∃ x15:Bool,v19=(.bool x15)∧R (.returned (.bool x15)) w20))∧True)) ((((sx w19∧R (.returned (.bool false)) w19))∧True))))∧True)) ((((sx w18∧(((sx w18∧R (.returned (.bool false)) w18))∧True)))∧True))))∧True)))∧True))∧True)) ((((sx w10.drew∧(((((sx w10.drew∧(((sx w10.drew∧(((sx w10.drew∧R (.returned (.bool false)) w10.drew))∧True)))∧True)))∧True))∧True)))∧((((sx w10.drew∧(((sx w10.drew∧(((sx w10.drew∧(((sx w10.drew∧R (.returned (.bool false)) w10.drew))∧True)))∧True)))∧True)))∧True))∧True))
theorem jCA {w:World} {R:RW} (hden:sh7 w R):Calls prog 7 #[] w R:=
 aB (q0 .z (q0 .z (q0 .z (q0 .z (q0 .z (q0 (.draw 1 (.take 0 (.take 1 (.take 2 (.take 3 (.take 5 (.all [(4,(.all [(6,(.all [(7,(.take 8 (.take 9 (.take 10 (.all [(11,(.take 12 (.take 13 (.take 14 (.take 15 (.take 16 (.all [(17,(.take 18 (.take 19 (.take 20 .done))))])))))))])))))]))])),(6,(.all [(4,(.all [(7,(.take 8 (.take 9 (.take 10 (.all [(11,(.take 12 (.take 13 (.take 14 (.take 15 (.take 16 (.all [(17,(.take 18 (.take 19 (.take 20 .done))))])))))))])))))]))]))]))))))) .z)))))) func7 (by kernel_rfl) [] (by kernel_rfl) (by kernel_rfl) hden
def jDC (l:Slc) (w:World) (R:RW):Prop:=
 ∃ (inv:List TV→World→Prop) (mu:List TV→World→Nat),inv [.i .i64 (0:Int)] w∧(∀ i:Int,∀ w1:World,inv [.i .i64 i] w1→∃ j:List TV→World→Prop,(aH (decide (i<(l.len:Int))) (j [.b (decide (i<(15:Int)))] w1) (j [.b false] w1))∧(∀ x:Bool,∀ w2:World,j [.b x] w2→aH x (((0≤i∧i<(l.len:Nat))∧aA l.a fun a=>∃ x1:List UInt8,Rd w2 ((a.add (i.toNat*7)).add 0) [.string ⟨x1.toArray⟩]∧aH (decide ((x1.length:Int) > (200:Int))) (R (.returned (.bool false)) w2) (((0≤i∧i<(l.len:Nat))∧aA l.a fun a1=>∃ x2:Slc,Rd w2 ((a1.add (i.toNat*7)).add 5) [zS x2]∧aH (decide ((x2.len:Int) > (2000:Int))) (R (.returned (.bool false)) w2) (((0≤i∧i<(l.len:Nat))∧aA l.a fun a2=>∃ x3:Slc,Rd w2 ((a2.add (i.toNat*7)).add 3) [zS x3]∧aH (decide ((x3.len:Int) > (50:Int))) (R (.returned (.bool false)) w2) (((0≤i∧i<(l.len:Nat))∧aA l.a fun a3=>∃ x4:Slc,Rd w2 ((a3.add (i.toNat*7)).add 6) [zS x4]∧aH (decide ((x4.len:Int) > (200:Int))) (R (.returned (.bool false)) w2) ((inv [.i .i64 (IntKind.i64.wrap (i+(1:Int)))] w2∧mu [.i .i64 (IntKind.i64.wrap (i+(1:Int)))] w2<mu [.i .i64 i] w1)))))))))) (R (.returned (.bool (decide ((l.len:Int)≤(14:Int))))) w2)))
theorem qZG (l:Slc) {w:World} {R:RW} (hden:jDC l w R):Calls prog 13 #[zS l] w R:=
 aB (q0 .z (q0 (q0 .z (.block none (.loop [(3,(.i .i64))] (q0 (.seq (some [(11,.b)]) .z (.cond .z .z)) (q0 (.block none (q0 .z (.cond (q0 .z .z) .z))) .z))))) (q0 .z .z))) func13 (by kernel_rfl) [.sl l] (by kernel_rfl) (by kernel_rfl) hden
def jBN (key:List UInt8) (client seq:Int) (context:Slc) (w:World) (R:RW):Prop:=
 aI prog (Instr.alloc 30 true (.tuple #[])) w fun v w1=>∃ x:Option Addr,v=(.pointer x)∧aD prog 28 [.int .i64 client] w1 (aG R) fun v1 w2=>∃ x1:Slc,v1=(zS x1)∧aD prog 27 [zS x1,.agg #[.string ⟨key.toArray⟩,.int .i64 client,.int .i64 seq,zS context,.bool false,.slice none 0 0,.slice none 0 0]] w2 (aG R) fun v2 w3=>∃ xaa:List UInt8,∃ xab xac:Int,∃ xad:Slc,∃ xae:Bool,∃ xaf xag:Slc,∃ xb:Int,v2=(.tuple #[zR xaa xab xac xad xae xaf xag,.int .i64 xb])∧aI prog (Instr.alloc 30 true (.tuple #[])) w3 fun v3 w4=>∃ r:Option Addr,v3=(.pointer r)∧aA r fun a=>aJ prog (storeVar 30 a (zR xaa xab xac xad xae xaf xag)) w4 fun w5=>aA r fun a1=>∃ xa:List UInt8,∃ xb1 xc:Int,∃ xd:Slc,∃ xe:Bool,∃ xf xg:Slc,Rd w5 a1 (yR xa xb1 xc xd xe xf xg)∧aA x fun a2=>aJ prog (storeVar 30 a2 (zR xa xb1 xc xd xe xf xg)) w5 fun w6=>aA x fun a3=>∃ xa1:List UInt8,∃ xb2 xc1:Int,∃ xd1:Slc,∃ xe1:Bool,∃ xf1 xg1:Slc,Rd w6 a3 (yR xa1 xb2 xc1 xd1 xe1 xf1 xg1)∧R (.returned (zR xa1 xb2 xc1 xd1 xe1 xf1 xg1)) w6
theorem qYG (key:List UInt8) (client seq:Int) (context:Slc) {w:World} {R:RW} (hden:jBN key client seq context w R):Calls prog 10 #[.string ⟨key.toArray⟩,.int .i64 client,.int .i64 seq,zS context] w R:=
 aB (q0 .z (q0 .z (q0 .z .z))) func10 (by kernel_rfl) [.s key,.i .i64 client,.i .i64 seq,.sl context] (by kernel_rfl) (by kernel_rfl) hden
def jFC (client:Int) (w:World) (R:RW):Prop:=
 aI prog (Instr.makeSlice 28 (.int .i64 (32:Int)) (.int .i64 (32:Int))) w fun v w1=>∃ x:Slc,v=(zS x)∧∃ (inv:List TV→World→Prop) (mu:List TV→World→Nat),inv [.i .i64 (0:Int)] w1∧(∀ i:Int,∀ w2:World,inv [.i .i64 i] w2→aH (decide (i<(32:Int))) (((0≤i∧i<(x.len:Nat))∧aA x.a fun a=>aJ prog (storeVar 5 (a.add (i.toNat*1)) (.int .u8 ((pL (IntKind.i64.wrap ((IntKind.i64.wrap (client*(7:Int)))+i)))).toNat)) w2 fun w3=>(inv [.i .i64 (IntKind.i64.wrap (i+(1:Int)))] w3∧mu [.i .i64 (IntKind.i64.wrap (i+(1:Int)))] w3<mu [.i .i64 i] w2))) (R (.returned (zS x)) w2))
theorem qXW (client:Int) {w:World} {R:RW} (hden:jFC client w R):Calls prog 28 #[.int .i64 client] w R:=
 aB (q0 .z (q0 .z (q0 (q0 .z (.block none (.loop [(4,(.i .i64))] (q0 (q0 .z (.cond .z .z)) (q0 (.block none .z) .z))))) (q0 .z .z)))) func28 (by kernel_rfl) [.i .i64 client] (by kernel_rfl) (by kernel_rfl) hden
end Go.Proofs.YtahjmeegfkfokaaGreatDoor
end
section
namespace Go.Proofs.YtahjmeegfkfokaaGreatDoor
open Go Go.Sh Go.MapKept
open Go.Proofs.Tryz
section
variable {w:World}
theorem qWV {client:Int} : Calls prog 28 #[.int .i64 client] w (Ret (RN 32 w)):=by
 refine qXW _ ?_
 unfold jFC
 obtain ⟨i5',h51,h52,h53,h54⟩:=i5
 refine cH (l:=32) (c:=32) u26 h51 h52 h53 rfl h54 rfl rfl (by omega) (by omega) (by omega) fun e w1 hN1 hb1 ho1=>⟨⟨some ⟨e,0,none⟩,32,32⟩,rfl,?_⟩
 rw [jW] at ho1
 have hat:=hN1.at_
 refine ⟨fun l' w'=>match l' with | [.i _ x]=>∃ (k:Nat) (l:List UInt8),x=k∧l.length=32∧Sh.Own w' ⟨some ⟨e,0,none⟩,32,32⟩ 1 (bys l)∧Mod NoB w w' | _=>False,fun l' _=>match l' with | [.i _ x]=>(32 - x).toNat | _=>0,
  ⟨0,List.replicate 32 0,rfl,by simp,ho1,hN1.mod⟩,?_⟩
 rintro x w2 ⟨k,l,rfl,hl,ho2,hm2⟩
 refine aE (fun hlt=>?_) fun hge=>?_
 ·have hk:k<32:=by have:=of_decide_eq_true hlt; omega
  refine ⟨⟨by omega,by show (k:Int)<((32:Nat):Int); omega⟩,?_⟩
  simp only [Int.toNat_natCast]
  refine iZ (by kernel_rfl) (by kernel_rfl) rfl ho2 rfl hk fun w3 ho3 hm3 hs3=>⟨⟨k+1,_,aS (by omega),?_,by rw [fP] at ho3; exact ho3,hm2.fresh hm3 fun z hz=>?_⟩,?_⟩
  ·simp [hl]
  ·rw [Slc.blk_mk,if_neg (by omega)] at hz; cases hz; omega
  ·rw [aS (by omega)]; (try simp only []); omega
 ·exact ⟨⟨some ⟨e,0,none⟩,32,32⟩,l,rfl,ho2,hl,FB.new (by omega),hm2⟩
theorem vM {key:List UInt8} {cl sq:Int} {ctx:Slc} {cx:List (Int×Int)} (hg:iM w) (hc:aL w ctx 2 (dts cx)) (hcl : ∀ z,ctx.blk=some z→z<w.heap.size)
 (hk:key.length≤1000000) (hcx:cx.length≤1000000) (hsh:Rc.shaped ⟨key,cl,sq,cx,false,[],[]⟩=true) :
 Calls prog 10 #[.string ⟨key.toArray⟩,.int .i64 cl,.int .i64 sq,.slice ctx.a ctx.len ctx.cap] w (Ret fun v w'=>∃ (h':Hd) (sg:List UInt8),v=h'.val∧cK w' h' ⟨key,cl,sq,cx,false,[],sg⟩∧sg.length=64∧qCB w h'∧Mod NoB w w'):=by
 refine qYG _ _ _ _ ?_
 unfold jBN
 obtain ⟨ir,hr1,hr2,hr3,hr4⟩:=mV
 refine aO (l:=Hd.cells ⟨[],0,0,⟨none,0,0⟩,false,⟨none,0,0⟩,⟨none,0,0⟩⟩) hr1 hr2 rfl fun x w1 hN1 hb1=>⟨_,rfl,?_⟩
 refine xF qWV fun s l w2 hos hl hfs hm2=>?_
 have hM2:=hN1.mod.tr hm2
 have H:cK w2 ⟨key,cl,sq,ctx,false,⟨none,0,0⟩,⟨none,0,0⟩⟩ ⟨key,cl,sq,cx,false,[],[]⟩:=
  ⟨rfl,rfl,rfl,rfl,hc.no hM2,tL _ _,tL _ _,⟨hk,hcx,by simp,by simp⟩,fun z hz=>by
   rcases hz with hz | hz | hz
   ·exact Nat.lt_of_lt_of_le (hcl z hz) hM2.size
   ·simp at hz
   ·simp at hz⟩
 refine aC (qXH (h:=⟨key,cl,sq,ctx,false,⟨none,0,0⟩,⟨none,0,0⟩⟩) (hg.no hM2) hos.rd (fun z hz=>hos.lt hz) hl H hsh) ?_
 rintro v w3 ⟨h',sg,rfl,H',hsg,hnew,hm3⟩
 refine ⟨h'.a,h'.b,h'.c,h'.d,h'.e,h'.f,h'.g,0,rfl,?_⟩
 refine aO (l:=Hd.cells ⟨[],0,0,⟨none,0,0⟩,false,⟨none,0,0⟩,⟨none,0,0⟩⟩) hr1 hr2 rfl fun r w4 hN4 hb4=>⟨_,rfl,?_⟩
 have hM3:=hM2.tr hm3
 have s1:=hN1.size; have a1:=hN1.at_; have a4:=hN4.at_; have s3:=hM3.size; have s23:=(hm2.tr hm3).size; have s4:=hN4.size
 refine dA (h:=h') (by kernel_rfl) (by kernel_rfl) hb4 rfl fun w5 ht5 hb5=>?_
 have hm5:Mod NoB w3 w5:=hN4.mod.fresh ht5.mod fun z e=>by omega
 refine ⟨h'.a,h'.b,h'.c,h'.d,h'.e,h'.f,h'.g,rdH hb5,?_⟩
 have hx5:=(hb1.no (hm2.tr (hm3.tr hm5)))
 refine dA (h:=h') (by kernel_rfl) (by kernel_rfl) hx5 rfl fun w6 ht6 hb6=>?_
 refine ⟨h'.a,h'.b,h'.c,h'.d,h'.e,h'.f,h'.g,rdH hb6,h',sg,rfl,(H'.no hm5).mod ht6.mod fun z hz e=>?_,hsg,fun z hz=>?_,(hM3.tr hm5).fresh ht6.mod fun z e=>by omega⟩
 ·have:=hnew z hz; have:=hM2.size; have:=hm2.size; omega
 ·have:=hnew z hz; have:=hM2.size; omega
end
def lim (r:Rc):Prop:=r.key.length≤200∧r.val.length≤2000∧r.ctx.length≤50∧r.sig.length≤200
def zJ (l:List Rc):Prop:=l.length≤16∧∀ r∈l,lim r
theorem uL {w:World} {a:Addr} {vs:List Value} {j:Nat} {v:Value} (h:Rd w a vs) (hj:vs[j]? = some v):Rd w (a.add j) [v]:=lS.2 (h j v hj)
theorem qBP {w:World} {s:Slc} {ls:List Rc} (hl:iP w s ls) (hn:s.len≤9000000000000000000) :
 Calls prog 13 #[.slice s.a s.len s.cap] w (Ret fun v w'=>∃ b,v = .bool b∧(b=true→zJ ls)∧w'=w):=by
 refine qZG _ ?_
 unfold jDC
 have hlen:=hl.len
 obtain ⟨hs,g1,g2,g3,g4⟩:=hl
 refine ⟨fun l' w'=>match l' with | [.i _ x]=>∃ k:Nat,x=k∧k≤15∧k≤ls.length∧(∀ r∈ls.take k,lim r)∧w'=w | _=>False,fun l' _=>match l' with | [.i _ x]=>(15 - x).toNat | _=>0,⟨0,rfl,by omega,by omega,by simp,rfl⟩,?_⟩
 rintro x w1 ⟨k,rfl,hk,hkl,hk2,rfl⟩
 refine ⟨fun l' w'=>match l' with | [.b t]=>t=decide (k<ls.length∧k<15)∧w'=w1 | _=>False,aE (fun h=>⟨?_,rfl⟩) (fun h=>⟨?_,rfl⟩),?_⟩
 ·have:=of_decide_eq_true h
  exact decide_eq_decide.2 ⟨fun _=>⟨by omega,by omega⟩,fun _=>by omega⟩
 ·have:=of_decide_eq_false h
  exact (decide_eq_false (by omega)).symm
 ·rintro x w2 ⟨rfl,rfl⟩
  refine aE (fun h=>?_) fun h=>?_
  ·have h:=of_decide_eq_true h
   have hk':k<hs.length:=by omega
   obtain ⟨A,ea,hrd⟩:=bX Hd.len (by omega) g1 hk'
   have H:=g4 k hk' (by omega)
   have hc:=iJ H.ctx
   have hv:=aW H.val
   have hg:=aW H.sig
   rw [ea]
   refine ⟨⟨by omega,by omega⟩,hs[k].a,uL (j:=0) hrd rfl,aE (fun h1=>⟨false,rfl,(fun h=>by cases h),rfl⟩) fun h1=>?_⟩
   have h1:=of_decide_eq_false h1
   refine ⟨⟨by omega,by omega⟩,hs[k].f,uL (j:=5) hrd rfl,aE (fun h2=>⟨false,rfl,(fun h=>by cases h),rfl⟩) fun h2=>?_⟩
   have h2:=of_decide_eq_false h2
   refine ⟨⟨by omega,by omega⟩,hs[k].d,uL (j:=3) hrd rfl,aE (fun h3=>⟨false,rfl,(fun h=>by cases h),rfl⟩) fun h3=>?_⟩
   have h3:=of_decide_eq_false h3
   refine ⟨⟨by omega,by omega⟩,hs[k].g,uL (j:=6) hrd rfl,aE (fun h4=>⟨false,rfl,(fun h=>by cases h),rfl⟩) fun h4=>?_⟩
   have h4:=of_decide_eq_false h4
   refine ⟨⟨k+1,aS (by omega),by omega,by omega,fun r hr=>?_,rfl⟩,?_⟩
   ·rw [aV (show k<ls.length by omega)] at hr
    rcases List.mem_append.1 hr with hr | hr
    ·exact hk2 r hr
    ·simp at hr; subst hr
     rw [H.key] at h1
     exact ⟨by omega,by omega,by omega,by omega⟩
   ·rw [aS (by omega)]; (try simp only []); omega
  ·have h:=of_decide_eq_false h
   refine ⟨_,rfl,fun hb=>?_,rfl⟩
   have hb:=of_decide_eq_true hb
   rw [List.take_of_length_le (by omega)] at hk2
   exact ⟨by omega,hk2⟩
theorem iP.at {w:World} {s:Slc} {ls:List Rc} (h:iP w s ls) (hq:zJ ls):bT w.heap.size w s ls:=by
 obtain ⟨hs,h1,h2,h3,h4⟩:=h
 refine ⟨hs,h1,h2,h3,fun i a b=>⟨(h4 i a b).at ?_,fun z hz=>(h4 i a b).lt z hz⟩⟩
 have:=hq.2 ls[i] (List.getElem_mem _)
 exact ⟨by have:=this.1; omega,by have:=this.2.2.1; omega,by have:=this.2.1; omega,by have:=this.2.2.2; omega⟩
def tq (ls:List Rc) (a b:Rc):Prop:=(a.key=b.key→a.cl=b.cl→a.sq=b.sq→a=b)∧(a.over b=true→b.over a=false∧∀ c∈ls,b.over c=true→a.over c=true)
theorem bT.r {B:Nat} {w:World} {s:Slc} {ls:List Rc} (h:bT B w s ls):kH w s ls:=by
 obtain ⟨hs,h1,h2,h3,h4⟩:=h
 exact ⟨hs,h1,h3,fun i a b=>(h4 i a b).1⟩
theorem iE.len {w:World} {o:Slc} {L:Lv} (h:iE w o L):L.length=o.len:=by
 obtain ⟨es,g1,g2,_⟩:=h
 have:=bK aZ (by omega) g1; omega
section
variable {w:World}
theorem qKA (hg:iM w):Calls prog 7 #[] w (Ret fun v w'=>v = .bool true∧Mod NoB w w'):=by
 refine jCA ?_
 unfold sh7
 obtain ⟨ir,hr1,hr2,hr3,hr4⟩:=mV
 obtain ⟨id,hd1,hd2,hd3,hd4⟩:=zG
 refine aC xS ?_
 rintro v w1 ⟨p,ts0,Bs0,rfl,hp1,hF1,hpW,hpB,hpl,hm1⟩
 refine ⟨_,rfl,?_⟩
 refine aC (vM (key:=[107]) (cl:=1) (sq:=1) (ctx:=⟨none,0,0⟩) (cx:=[]) (hg.no hm1) (tL _ _) (by simp) (by simp) (by simp) (by rfl)) ?_
 rintro v w2 ⟨ha,sa,rfl,Ha,la,na,hm2⟩
 refine ⟨ha.a,ha.b,ha.c,ha.d,ha.e,ha.f,ha.g,rfl,?_⟩
 refine aO (l:=Hd.cells ⟨[],0,0,⟨none,0,0⟩,false,⟨none,0,0⟩,⟨none,0,0⟩⟩) hr1 hr2 rfl fun q w3 hN3 hq3=>⟨_,rfl,?_⟩
 have e3:=hN3.at_; have s3:=hN3.size
 refine dA (h:=ha) (by kernel_rfl) (by kernel_rfl) hq3 rfl fun w4 ht4 hq4=>?_
 have hm24:Mod NoB w2 w4:=hN3.mod.fresh ht4.mod fun z e=>by omega
 refine bZ [.agg #[.int .i64 1,.int .i64 1]] (l:=dts [(1,1)]) qN hd1 hd2 hd3 (by omega) rfl (by omega) (by omega) rfl (by intro v hv; simp at hv; subst hv; rfl) rfl fun d w5 hN5 hd5=>⟨⟨some ⟨d,0,none⟩,1,1⟩,rfl,?_⟩
 have hm15:=(hm2.tr hm24).tr hN5.mod
 refine aC (vM (key:=[107]) (cl:=2) (sq:=1) (ctx:=⟨some ⟨d,0,none⟩,1,1⟩) (cx:=[(1,1)]) (hg.no (hm1.tr hm15)) (aX (n:=1) (k:=2) hd5 (by simp [dts])).rd (fun z hz=>by rw [Slc.blk_mk,if_neg (by omega)] at hz; cases hz; exact hd5.lt) (by simp) (by simp) (by rfl)) ?_
 rintro v w6 ⟨hb,sb,rfl,Hb,lb,nb,hm6⟩
 refine ⟨hb.a,hb.b,hb.c,hb.d,hb.e,hb.f,hb.g,rfl,?_⟩
 refine aO (l:=Hd.cells ⟨[],0,0,⟨none,0,0⟩,false,⟨none,0,0⟩,⟨none,0,0⟩⟩) hr1 hr2 rfl fun r w7 hN7 hr7=>⟨_,rfl,?_⟩
 have e7:=hN7.at_; have s7:=hN7.size
 refine dA (h:=hb) (by kernel_rfl) (by kernel_rfl) hr7 rfl fun w8 ht8 hr8=>?_
 have hm68:Mod NoB w6 w8:=hN7.mod.fresh ht8.mod fun z e=>by omega
 have hm48:Mod NoB w4 w8:=(hN5.mod.tr hm6).tr hm68
 have hm18:=(hm15.tr hm6).tr hm68
 have hq8:=hq4.no hm48
 refine ⟨ha.a,ha.b,ha.c,ha.d,ha.e,ha.f,ha.g,rdH hq8,hb.a,hb.b,hb.c,hb.d,hb.e,hb.f,hb.g,rdH hr8,?_⟩
 have HA:cK w8 ha (exA sa):=Ha.no (hm24.tr hm48)
 have HB:cK w8 hb (exD sb):=Hb.no hm68
 refine qCT (h1:=ha) (h2:=hb) HA HB fun x2 w9 hm9 hR9=>⟨x2,rfl,?_⟩
 have hm19:=hm18.tr hm9
 have hgl:dM w9:=(hg.no (hm1.tr hm19)).sha
 obtain ⟨ex1,ex2,ex3⟩:=qAF la lb
 have exr : ∀ r∈[exA sa,exD sb],r.right=true:=fun r hr=>(ex1 r hr).1
 refine aC (qMA (X:=[]) (rs:=[exA sa,exD sb]) hgl (fun z hz=>hg.sha.lt hz) ((⟨hp1,hF1,hpl,hpW,hpB⟩:ShAt w1 p ts0 (fun _=>[]) Bs0 w.heap.size).no hm19) eX (by simp) hR9 holds_none exr (by rw [List.nil_append,fL exr]; exact ex2) fun Y k out hY hM=>qOV (B:=[exA sa,exD sb]) (by simp) (fun y hy=>by simpa using hY y hy) hM) ?_
 rintro v w10 ⟨rfl,ts',Ls',Bs',hH,hS10,hO10,_,hm10⟩
 refine ⟨0,rfl,?_⟩
 have hpn : ∀ z,z=p→w.heap.size≤z:=fun z e=>by omega
 have hm010:Mod NoB w w10:=(hm1.tr hm19).fresh hm10 hpn
 have hp1lt:=hp1.lt
 have hpw8:p<w6.heap.size:=by have:=(hm15.tr hm6).size; omega
 have hr10:Blk w10 r hb.cells _:=(hr8.no hm9).mod hm10 fun e=>by have e:r=p:=e; omega
 have HB10:cK w10 hb (exD sb):=(HB.no hm9).mod hm10 fun z hz e=>by
  have e:z=p:=e
  have:=nb z hz
  have h5:=hm15.size
  omega
 have hM : ∀ {w'},Mod NoB w10.drew w'→Mod NoB w10 w':=fun h=>(Mod.drew NoB w10).tr h
 refine ⟨Mod NoB w10.drew,Mod.refl _ _,aE (fun _=>?_) (fun h=>by cases h)⟩
 have hg10:dM w10:=hg.sha.no hm010
 have hfg:eZ Ls' [107]=[exD sb]:=qMX (Y:=[exA sa,exD sb]) exr ex2 hH ex3
 have hgt : ∀ {w1:World} {pan:List PanicEntry→World→Prop} {K:Value→World→Prop},Mod NoB w10.drew w1→(∀ (x:Slc) w2,Mod NoB w1 w2→bT w2.heap.size w2 x [exD sb]→K (.slice x.a x.len x.cap) w2)→aD prog 11 [.pointer (some ⟨p,0,none⟩),.string ⟨([107]:List UInt8).toArray⟩] w1 pan K:=fun h hK=>
  aC (qVC (hg10.no (hM h)) (hS10.no (hM h)) hO10 (by simp) (by simp)) fun v w' ⟨x,hv,hx,hm⟩=>by
   subst hv
   rw [hfg] at hx
   exact hK x w' hm hx.recs
 have tail : ∀ {w1:World} {x y:Slc} {R:RW},Mod NoB w10.drew w1→bT w1.heap.size w1 x [exD sb]→bT w1.heap.size w1 y [exD sb]→(∀ w',Mod NoB w w'→R (.returned (.bool true)) w')→
  aD prog 12 [.slice x.a x.len x.cap,.slice y.a y.len y.cap] w1 (aG R) fun v10 w13=>∃ x6:Bool,v10=(.bool x6)∧(Mod NoB w10.drew w13∧aH x6 (((aD prog 18 [.pointer (some ⟨p,0,none⟩)] w13 (aG R) fun v11 w14=>∃ x7:Slc,v11=(.slice x7.a x7.len x7.cap)∧(Mod NoB w10.drew w14∧aH ((x7.len:Int)==(1:Int)) (((aD prog 21 [.pointer (some ⟨p,0,none⟩),.int .i64 (4:Int)] w14 (aG R) fun v12 w15=>∃ x8:Option Addr,v12=(.pointer x8)∧(Mod NoB w10.drew w15∧aU prog (do eqGuard .eql 47 (.tmp 32) (.const (.pointer none)) (.pointer x8) (.pointer none); binOp .eql 47 (.pointer x8) (.pointer none)) fun v13=>∃ x9:Bool,v13=(.bool x9)∧R (.returned (.bool x9)) w15))∧True)) ((((Mod NoB w10.drew w14∧R (.returned (.bool false)) w14))∧True))))∧True)) ((((Mod NoB w10.drew w13∧(((Mod NoB w10.drew w13∧R (.returned (.bool false)) w13))∧True)))∧True))):=fun {w1 x y R} h hx hy hR=>by
  refine aC (qW hx.r hy.r (by simp)) ?_
  rintro v w2 ⟨rfl,hm2⟩
  have h2:=h.tr hm2
  refine ⟨_,rfl,h2,aE (fun _=>?_) fun h=>by simp at h⟩
  refine ⟨aC (iU (hS10.no (hM h2)) hO10 (by simp)) ?_,trivial⟩
  rintro v w3 ⟨o,L,rfl,hQ,hs,hmL,hm3⟩
  have h3:=h2.tr hm3
  have hl:o.len=1:=by rw [← hQ.r.len]; exact qOA la lb hO10 hH hs hmL
  refine ⟨o,rfl,h3,aE (fun _=>?_) fun h=>by rw [hl] at h; simp at h⟩
  refine ⟨aC (qJH (k:=4) (hS10.no (hM h3)) hO10 (by simp)) ?_,trivial⟩
  rintro v w4 ⟨t,rfl,ht,hm4⟩
  have h4:=h3.tr hm4
  refine ⟨t,rfl,h4,gK (e:=79) (by kernel_rfl) ⟨_,rfl,?_⟩⟩
  have ht:t=none:=by cases t with | none=>rfl | some _=>cases ht
  subst ht
  exact hR _ ((hm010.tr (Mod.drew NoB w10)).tr h4)
 refine ⟨hb.a,hb.b,hb.c,hb.d,hb.e,hb.f,hb.g,fun w' hm=>rdH (hr10.no (hM hm)),?_,?_,trivial⟩
 ·refine hgt (Mod.refl _ _) fun x w11 hm11 hx=>⟨x,rfl,hm11,?_,trivial⟩
  refine lN (h1:=hb) (HB10.no (hM hm11)) fun y w12 hm12 hy=>⟨y,rfl,?_,trivial⟩
  exact tail (hm11.tr hm12) ((hx.mod (hm12.mono fun _ _ h=>h.elim)).le hm12.size) hy fun w' hm=>⟨rfl,hm⟩
 ·refine lN (h1:=hb) (HB10.no (Mod.drew NoB w10)) fun y w12 hm12 hy=>⟨y,rfl,?_,trivial⟩
  refine hgt hm12 fun x w11 hm11 hx=>⟨x,rfl,hm12.tr hm11,?_,trivial⟩
  exact tail (hm12.tr hm11) hx ((hy.mod (hm11.mono fun _ _ h=>h.elim)).le hm11.size) fun w' hm=>⟨rfl,hm⟩
end
def kI (w0 w:World) (x:Slc) (rs:List Rc):Prop:=
 ∃ hs:List Hd,Sh.Own w x 7 (hcells hs)∧FB w0 x∧hs.length=rs.length∧(∀ i (h:i<hs.length) (h':i<rs.length),cK w0 hs[i] rs[i])∧Mod NoB w0 w
theorem kI.no {w0 w w':World} {x:Slc} {rs:List Rc} (h:kI w0 w x rs) (hm:Mod NoB w w'):kI w0 w' x rs:=by
 obtain ⟨hs,h1,h2,h3,h4,h5⟩:=h
 exact ⟨hs,h1.no hm,h2,h3,h4,h5.tr hm⟩
theorem kI.at {w0 w:World} {x:Slc} {rs:List Rc} (h:kI w0 w x rs):bT w.heap.size w x rs:=by
 obtain ⟨hs,h1,h2,h3,h4,h5⟩:=h
 exact ⟨hs,h1.rd,fun z hz=>h1.lt hz,h3,fun i a b=>⟨(h4 i a b).no h5,fun z hz=>Nat.lt_of_lt_of_le ((h4 i a b).lt z hz) h5.size⟩⟩
theorem kI.m {w0 w:World} {x:Slc} {rs:List Rc} (h:kI w0 w x rs):Mod NoB w0 w:=by
 obtain ⟨hs,h1,h2,h3,h4,h5⟩:=h
 exact h5
end Go.Proofs.YtahjmeegfkfokaaGreatDoor
end
section
namespace Go.Proofs.YtahjmeegfkfokaaGreatDoor
open Go Go.Sh
open Go.Proofs.Tryz
theorem oY {A B:Lv} (hA:dB A) (hB:dB B) (h : ∀ e,e∈A↔e∈B):A=B:=by
 refine jZ (lt:=fun (a b:List UInt8×List Rc)=>a.1<b.1) (fun x hx=>?_) (fun x y z h1 h2=>?_) hA hB h
 ·exact List.lt_irrefl _ hx
 ·exact List.lt_trans h1 h2
theorem qCJ {L A B:Lv} {key:List UInt8} {rs:List Rc} (h:qK L key rs A) (h':qK L key rs B):A=B:=
 oY h.pw h'.pw fun e=>by rw [h.mem,h'.mem]
theorem oK {L A B:Nat→Lv} {r:Rc} {e f:Int} (h:fI L r e A) (h':fI L r f B):e=f∧A=B:=by
 rcases h with ⟨h1,h2,h3⟩ | ⟨h1,rs,hJ,hc⟩ <;> rcases h' with ⟨h1',h2',h3'⟩ | ⟨h1',rs',hJ',hc'⟩
 ·exact ⟨h2.trans h2'.symm,h3.trans h3'.symm⟩
 ·rw [h1] at h1'; cases h1'
 ·rw [h1] at h1'; cases h1'
 ·obtain rfl:rs=rs':=hJ.uniq hJ' fun _=>Iff.rfl
  rcases hc with ⟨hf,h2,h3⟩ | ⟨hf,h2,hP,_,hel⟩ <;> rcases hc' with ⟨hf',h2',h3'⟩ | ⟨hf',h2',hP',_,hel'⟩
  ·exact ⟨h2.trans h2'.symm,h3.trans h3'.symm⟩
  ·exact absurd hf hf'
  ·exact absurd hf' hf
  ·refine ⟨h2.trans h2'.symm,funext fun i=>?_⟩
   rcases Classical.em (i=tOf r.key) with e | e
   ·subst e; exact qCJ hP hP'
   ·rw [hel i e,hel' i e]
theorem qS {L A:Nat→Lv} {rs:List Rc} (h:fJ L rs A) : ∀ {B:Nat→Lv},fJ L rs B→A=B:=by
 induction h with
 | nil=>intro B h'; exact (nS h').symm
 | snoc h1 h2 ih=>
   intro B h'
   obtain ⟨L1',h1',h2'⟩:=oF h'
   obtain rfl:=ih h1'
   exact (oK h2 h2').2
theorem xP {L A:Nat→Lv} {rs:List Rc} (h:fJ L rs A) : ∀ k (hk:k<rs.length),∃ L1 L2,fJ L (rs.take k) L1∧fI L1 rs[k] 0 L2:=by
 induction h with
 | nil=>intro k hk; exact absurd hk (Nat.not_lt_zero k)
 | @snoc rs L1 L2 r h1 h2 ih=>
   intro k hk
   rcases Nat.lt_or_ge k rs.length with h | h
   ·obtain ⟨M1,M2,a,b⟩:=ih k h
    have e:(rs++[r])[k]'hk=rs[k]:=List.getElem_append_left h
    exact ⟨M1,M2,by rw [List.take_append_of_le_length (by omega)]; exact a,by rw [e]; exact b⟩
   ·have:k=rs.length:=by simp at hk; omega
    subst this
    have e:(rs++[r])[rs.length]'hk=r:=by simp
    exact ⟨L1,L2,by rw [List.take_left' rfl]; exact h1,by rw [e]; exact h2⟩
theorem vO {L A:Nat→Lv} {r:Rc} (h:fI L r 0 A):r.right=true:=by
 rcases h with ⟨_,h,_⟩ | ⟨h,_⟩
 ·cases h
 ·exact h
theorem yA {L A:Nat→Lv} {rs:List Rc} (h:fJ L rs A) : ∀ r∈rs,r.right=true:=fun r hr=>by
 obtain ⟨k,hk,rfl⟩:=List.getElem_of_mem hr
 obtain ⟨_,_,_,hT⟩:=xP h k hk
 exact vO hT
theorem uG {L A L1 L2:Nat→Lv} {rs:List Rc} (h:fJ L rs A) {k:Nat} (hk:k<rs.length) {e:Int} (h1:fJ L (rs.take k) L1) (h2:fI L1 rs[k] e L2):e=0:=by
 obtain ⟨M1,M2,a,b⟩:=xP h k hk
 obtain rfl:=qS a h1
 exact (oK b h2).1.symm
theorem qEJ {L L1 L2 M1 M2:Nat→Lv} {rs:List Rc} {j k:Nat} (hj:j<rs.length) (hk:k<rs.length) {e f:Int} (h1:fJ L (rs.take j) L1) (h2:fI L1 rs[j] e L2) (h1':fJ L (rs.take k) M1) (he:e≠0) : ¬ j<k:=fun h=>by
 have hjk:j<(rs.take k).length:=by rw [List.length_take]; omega
 refine he (uG h1' hjk (L1:=L1) (L2:=L2) ?_ ?_)
 ·rw [List.take_take,Nat.min_eq_left (by omega)]; exact h1
 ·have e:(rs.take k)[j]'hjk=rs[j]:=List.getElem_take
  rw [e]; exact h2
theorem qNT {L L1 L2 M1 M2:Nat→Lv} {rs:List Rc} {j k:Nat} (hj:j<rs.length) (hk:k<rs.length) {e f:Int} (h1:fJ L (rs.take j) L1) (h2:fI L1 rs[j] e L2) (h1':fJ L (rs.take k) M1) (h2':fI M1 rs[k] f M2) (he:e≠0) (hf:f≠0):e=f:=by
 have a:=qEJ (f:=f) (M2:=M2) hj hk h1 h2 h1' he
 have b:=qEJ (f:=e) (M2:=L2) hk hj h1' h2' h1 hf
 obtain rfl:j=k:=by omega
 obtain rfl:=qS h1 h1'
 exact (oK h2 h2').1
theorem wH {L:Lv} (h : ∀ e,e∈L↔∃ i,i<4∧e∈(fun _:Nat=>([]:Lv)) i):L=[]:=
 List.eq_nil_iff_forall_not_mem.2 fun e he=>by obtain ⟨i,_,h⟩:=(h e).1 he; cases h
theorem qIL {A:Nat→Lv} {L L':Lv} (s1:dB L) (m1 : ∀ e,e∈L↔∃ i,i<4∧e∈A i) (s2:dB L') (m2 : ∀ e,e∈L'↔∃ i,i<4∧e∈A i):L=L':=
 oY s1 s2 fun e=>by rw [m1,m2]
def sh5 (l:Slc) (bada:List UInt8) (badb badc:Int) (badd:Slc) (bade:Bool) (badf badg:Slc) (at0:Int) (w:World) (R:RW):Prop:=
 aI prog (Instr.box 30 (zR bada badb badc badd bade badf badg)) w fun v w1=>∃ bad:Option Addr,v=(.pointer bad)∧aD prog 7 [] w1 (aG R) fun v1 w2=>∃ x:Bool,v1=(.bool x)∧aH (!x) (R (.returned (.bool false)) w2) (∃ j:List TV→World→Prop,(aD prog 13 [zS l] w2 (aG R) fun v2 w3=>∃ x1:Bool,v2=(.bool x1)∧aH (!x1) (j [.b true] w3) (aA bad fun a=>∃ xa:List UInt8,∃ xb xc:Int,∃ xd:Slc,∃ xe:Bool,∃ xf xg:Slc,Rd w3 a (yR xa xb xc xd xe xf xg)∧aI prog (Instr.buildSlice 32 1 #[(0,(zR xa xb xc xd xe xf xg))]) w3 fun v3 w4=>∃ x2:Slc,v3=(zS x2)∧aD prog 13 [zS x2] w4 (aG R) fun v4 w5=>∃ x3:Bool,v4=(.bool x3)∧aH (!x3) (j [.b true] w5) (aA bad fun a1=>∃ xa1:List UInt8,∃ xb1 xc1:Int,∃ xd1:Slc,∃ xe1:Bool,∃ xf1 xg1:Slc,Rd w5 a1 (yR xa1 xb1 xc1 xd1 xe1 xf1 xg1)∧aD prog 14 [zR xa1 xb1 xc1 xd1 xe1 xf1 xg1] w5 (aG R) fun v5 w6=>∃ x4:Bool,v5=(.bool x4)∧j [.b x4] w6)))∧(∀ x5:Bool,∀ w7:World,j [.b x5] w7→aH x5 (R (.returned (.bool true)) w7) (aD prog 16 [.int .i64 at0,.int .i64 (IntKind.i64.wrap ((l.len:Int)+(1:Int)))] w7 (aG R) fun v6 w8=>∃ x6:Int,v6=(.int .i64 x6)∧∃ j1:List TV→World→Prop,(∃ sx:World→Prop,sx w8.drew∧((0≤x6∧x6≤(l.cap:Nat))∧((0≤x6∧x6≤(l.len:Nat))∧aA bad fun a2=>∃ xa2:List UInt8,∃ xb2 xc2:Int,∃ xd2:Slc,∃ xe2:Bool,∃ xf2 xg2:Slc,(∀ w',sx w'→Rd w' a2 (yR xa2 xb2 xc2 xd2 xe2 xf2 xg2))∧((aI prog (Instr.buildSlice 32 0 #[]) w8.drew fun v7 w9=>∃ x7:Slc,v7=(zS x7)∧(sx w9∧((aI prog (Builtin.append_ #[32,32] 32 #[zS x7,.slice (aF l 7 0 (x6.toNat) l.cap).a (aF l 7 0 (x6.toNat) l.cap).len (aF l 7 0 (x6.toNat) l.cap).cap]) w9 fun v8 w10=>∃ x8:Slc,v8=(zS x8)∧(sx w10∧((aI prog (Instr.buildSlice 32 1 #[(0,(zR xa2 xb2 xc2 xd2 xe2 xf2 xg2))]) w10 fun v9 w11=>∃ x9:Slc,v9=(zS x9)∧((aI prog (Builtin.append_ #[32,32] 32 #[zS x8,zS x9]) w11 fun v10 w12=>∃ x10:Slc,v10=(zS x10)∧(sx w12∧((aI prog (Builtin.append_ #[32,32] 32 #[zS x10,.slice (aF l 7 (x6.toNat) l.len l.cap).a (aF l 7 (x6.toNat) l.len l.cap).len (aF l 7 (x6.toNat) l.len l.cap).cap]) w12 fun v11 w13=>∃ x11:Slc,v11=(zS x11)∧(sx w13∧j1 [.sl x11] w13))∧True)))∧True))∧True)))∧(aI prog (Instr.buildSlice 32 1 #[(0,(zR xa2 xb2 xc2 xd2 xe2 xf2 xg2))]) w9 fun v12 w14=>∃ x12:Slc,v12=(zS x12)∧((aI prog (Builtin.append_ #[32,32] 32 #[zS x7,.slice (aF l 7 0 (x6.toNat) l.cap).a (aF l 7 0 (x6.toNat) l.cap).len (aF l 7 0 (x6.toNat) l.cap).cap]) w14 fun v13 w15=>∃ x13:Slc,v13=(zS x13)∧(sx w15∧((aI prog (Builtin.append_ #[32,32] 32 #[zS x13,zS x12]) w15 fun v14 w16=>∃ x14:Slc,v14=(zS x14)∧(sx w16∧((aI prog (Builtin.append_ #[32,32] 32 #[zS x14,.slice (aF l 7 (x6.toNat) l.len l.cap).a (aF l 7 (x6.toNat) l.len l.cap).len (aF l 7 (x6.toNat) l.len l.cap).cap]) w16 fun v15 w17=>∃ x15:Slc,v15=(zS x15)∧(sx w17∧j1 [.sl x15] w17))∧True)))∧True)))∧True))∧True)))∧(aI prog (Instr.buildSlice 32 1 #[(0,(zR xa2 xb2 xc2 xd2 xe2 xf2 xg2))]) w8.drew fun v16 w18=>∃ x16:Slc,v16=(zS x16)∧((aI prog (Instr.buildSlice 32 0 #[]) w18 fun v17 w19=>∃ x17:Slc,v17=(zS x17)∧(sx w19∧((aI prog (Builtin.append_ #[32,32] 32 #[zS x17,.slice (aF l 7 0 (x6.toNat) l.cap).a (aF l 7 0 (x6.toNat) l.cap).len (aF l 7 0 (x6.toNat) l.cap).cap]) w19 fun v18 w20=>∃ x18:Slc,v18=(zS x18)∧(sx w20∧((aI prog (Builtin.append_ #[32,32] 32 #[zS x18,zS x16]) w20 fun v19 w21=>∃ x19:Slc,v19=(zS x19)∧(sx w21∧((aI prog (Builtin.append_ #[32,32] 32 #[zS x19,.slice (aF l 7 (x6.toNat) l.len l.cap).a (aF l 7 (x6.toNat) l.len l.cap).len (aF l 7 (x6.toNat) l.len l.cap).cap]) w21 fun v20 w22=>∃ x20:Slc,v20=(zS x20)∧(sx w22∧j1 [.sl x20] w22))∧True)))∧True)))∧True)))∧True))∧True))))∧(∀ row:Slc,∀ w23:World,j1 [.sl row] w23→aD prog 8 [] w23 (aG R) fun v21 w24=>∃ x21:Option Addr,v21=(.pointer x21)∧aD prog 8 [] w24 (aG R) fun v22 w25=>∃ x22:Option Addr,v22=(.pointer x22)∧∃ j2:List TV→World→Prop,(aD prog 9 [.pointer x21,zS row] w25 (aG R) fun v23 w26=>∃ x23:Int,v23=(.int .i64 x23)∧aH (x23==(0:Int)) (j2 [.b true] w26) (aD prog 18 [.pointer x21] w26 (aG R) fun v24 w27=>∃ x24:Slc,v24=(zS x24)∧j2 [.b ((x24.len:Int) != (0:Int))] w27))∧(∀ x25:Bool,∀ w28:World,j2 [.b x25] w28→aH x25 (R (.returned (.bool false)) w28) (aD prog 9 [.pointer x21,zS l] w28 (aG R) fun v25 w29=>∃ x26:Int,v25=(.int .i64 x26)∧∃ (inv:List TV→World→Prop) (mu:List TV→World→Nat),inv [.i .i64 (0:Int)] w29∧(∀ i:Int,∀ w30:World,inv [.i .i64 i] w30→aH (decide (i<(l.len:Int))) (((0≤i∧i<(l.len:Nat))∧aA l.a fun a3=>∃ xa3:List UInt8,∃ xb3 xc3:Int,∃ xd3:Slc,∃ xe3:Bool,∃ xf3 xg3:Slc,Rd w30 (a3.add (i.toNat*7)) (yR xa3 xb3 xc3 xd3 xe3 xf3 xg3)∧aI prog (Instr.buildSlice 32 1 #[(0,(zR xa3 xb3 xc3 xd3 xe3 xf3 xg3))]) w30 fun v26 w31=>∃ x27:Slc,v26=(zS x27)∧aD prog 9 [.pointer x22,zS x27] w31 (aG R) fun v27 w32=>∃ x28:Int,v27=(.int .i64 x28)∧aH (x28 != (0:Int)) (aH (x26==x28) (aD prog 18 [.pointer x21] w32 (aG R) fun v28 w33=>∃ x29:Slc,v28=(zS x29)∧R (.returned (.bool ((x29.len:Int)==(0:Int)))) w33) (R (.returned (.bool false)) w32)) ((inv [.i .i64 (IntKind.i64.wrap (i+(1:Int)))] w32∧mu [.i .i64 (IntKind.i64.wrap (i+(1:Int)))] w32<mu [.i .i64 i] w30)))) (aH (x26==(0:Int)) (aD prog 18 [.pointer x21] w30 (aG R) fun v29 w34=>∃ x30:Slc,v29=(zS x30)∧aD prog 18 [.pointer x22] w34 (aG R) fun v30 w35=>∃ x31:Slc,v30=(zS x31)∧aD prog 17 [zS x30,zS x31] w35 (aG R) fun v31 w36=>∃ x32:Bool,v31=(.bool x32)∧R (.returned (.bool x32)) w36) (R (.returned (.bool false)) w30)))))))))
theorem jDM (l:Slc) (bada:List UInt8) (badb badc:Int) (badd:Slc) (bade:Bool) (badf badg:Slc) (at0:Int) {w:World} {R:RW} (hden:sh5 l bada badb badc badd bade badf badg at0 w R):Calls prog 5 #[zS l,zR bada badb badc badd bade badf badg,.int .i64 at0] w R:=
 aB (q0 .z (q0 (q0 .z (.cond (q0 .z .z) .z)) (q0 (.seq (some [(28,.b)]) .z (.cond (q0 .z .z) .z)) (q0 .z (.seq (some [(8,.sl)]) (.draw 1 (.take 1 (.take 2 (.take 3 (.take 8 (.take 9 (.take 10 (.take 5 (.all [(0,(.all [(4,(.all [(6,(.all [(7,(.all [(11,(.take 12 .done))]))]))])),(6,(.all [(4,(.all [(7,(.all [(11,(.take 12 .done))]))]))]))])),(6,(.all [(0,(.all [(4,(.all [(7,(.all [(11,(.take 12 .done))]))]))]))]))]))))))))) (q0 .z (q0 (.seq (some [(57,.b)]) .z (.cond (q0 .z .z) .z)) (q0 .z (q0 (q0 .z (.block none (.loop [(12,(.i .i64))] (q0 (q0 .z (.cond .z .z)) (q0 (.block none (q0 .z (q0 .z (.cond (q0 .z .z) .z)))) .z))))) (q0 .z .z)))))))))) func5 (by kernel_rfl) [.sl l,.agg [.s bada,.i .i64 badb,.i .i64 badc,.sl badd,.b bade,.sl badf,.sl badg],.i .i64 at0] (by kernel_rfl) (by kernel_rfl) hden
end Go.Proofs.YtahjmeegfkfokaaGreatDoor
end
section
namespace Go.Proofs.YtahjmeegfkfokaaGreatDoor
open Go Go.Sh Go.MapKept
open Go.Proofs.Tryz
theorem qJ (l:List Hd) (n:Nat) (hn:n≤l.length):(hcells l).take (n*7)=hcells (l.take n)∧(hcells l).drop (n*7)=hcells (l.drop n):=by
 have e:hcells l=hcells (l.take n)++hcells (l.drop n):=by
  unfold hcells
  rw [← cL,List.take_append_drop]
 have hl:(hcells (l.take n)).length=n*7:=by rw [hcells,bQ Hd.len,List.length_take,Nat.min_eq_left hn]
 rw [e]
 exact ⟨List.take_left' hl,List.drop_left' hl⟩
section
variable {w:World}
theorem nH {K:Value→World→Prop} {h:Hd} (hK : ∀ (x:Slc) w',Mod NoB w w'→aL w' x 7 (hcells [h])→(∀ z,x.blk=some z→z<w'.heap.size)→x.len=1→K (.slice x.a x.len x.cap) w') :
 aI prog (Instr.buildSlice 32 1 #[(0,h.val)]) w K:=by
 obtain ⟨ir,hr1,hr2,hr3,hr4⟩:=mV
 refine bZ [h.val] (l:=hcells [h]) nV hr1 hr2 hr3 (by omega) rfl (by omega) (by omega) rfl (by intro v hv; simp at hv; subst hv; rfl) (by simp [hcells,aR,Value.cells,Hd.val]) fun lb w8 hN8 hb8=>hK ⟨some ⟨lb,0,none⟩,1,1⟩ w8 hN8.mod (aX (n:=1) (k:=7) hb8 (by rw [hcells,bQ Hd.len]; rfl)).rd (fun z hz=>?_) rfl
 rw [Slc.blk_mk,if_neg (by omega)] at hz; cases hz; exact hb8.lt
theorem oS {K:Value→World→Prop} {w0:World} {x y:Slc} {rs ls:List Rc} {gs:List Hd} (hR:kI w0 w x rs) (hy:aL w y 7 (hcells gs)) (hl:gs.length=ls.length) (hg : ∀ i (h:i<gs.length) (h':i<ls.length),cK w0 gs[i] ls[i]) (hn:rs.length+ls.length≤100000) (hK : ∀ x' w',kI w0 w' x' (rs++ls)→Mod (fun b=>x.blk=some b) w w'→K (.slice x'.a x'.len x'.cap) w') :
 aI prog (Builtin.append_ #[32,32] 32 #[.slice x.a x.len x.cap,.slice y.a y.len y.cap]) w K:=by
 obtain ⟨ir,hr1,hr2,hr3,hr4⟩:=mV
 obtain ⟨hs,h1,h2,h3,h4,h5⟩:=hR
 have hxl:=bK Hd.len (by omega) h1.rd
 have hyl:=bK Hd.len (by omega) hy
 refine bG nV hr1 hr2 hr3 rfl hr4 h1 hy (eU Hd.one _) (by omega) (by omega) fun x' w9 ho9 hlen hblk hm9=>hK x' w9 ⟨hs++gs,by rw [hcells,cL]; exact ho9,h2.step h5.size hblk,by simp [h3,hl],fun i a b=>?_,h2.mod h5 hm9⟩ hm9
 rcases Nat.lt_or_ge i hs.length with hi | hi
 ·rw [List.getElem_append_left hi,List.getElem_append_left (by omega)]; exact h4 i hi (by omega)
 ·have a':i - hs.length<gs.length:=by rw [List.length_append] at a; omega
  have e1:(hs++gs)[i]=gs[i - hs.length]'a':=List.getElem_append_right hi
  have e2:(rs++ls)[i]=ls[i - hs.length]'(by omega):=by
   rw [List.getElem_append_right (by omega)]
   simp only [h3]
  rw [e1,e2]; exact hg _ a' (by omega)
theorem yK {s:Slc} {ls:List Rc} {h:Hd} {r:Rc} {at0:Int} (hg:iM w) (hl:iP w s ls) (hn:s.len≤9000000000000000) (hb:rO w h r) :
 Calls prog 5 #[.slice s.a s.len s.cap,h.val,.int .i64 at0] w (Ret fun v w'=>v = .bool true∧Mod NoB w w'):=by
 refine jDM s h.a h.b h.c h.d h.e h.f h.g at0 ?_
 unfold sh5
 obtain ⟨ir,hr1,hr2,hr3,hr4⟩:=mV
 refine aT (v:=h.val) (l:=h.cells) rfl fun b w1 hN1 hb1=>⟨_,rfl,?_⟩
 refine aC (qKA (hg.no hN1.mod)) ?_
 rintro v w2 ⟨rfl,hm2⟩
 have hm02:=hN1.mod.tr hm2
 refine ⟨_,rfl,aE (fun h=>by cases h) fun _=>?_⟩
 have hb2:=hb1.no hm2
 refine ⟨fun l' w'=>match l' with | [.b t]=>(t=false→zJ ls∧lim r∧r.right=false)∧Mod NoB w2 w' | _=>False,?_,?_⟩
 ·refine aC (qBP (hl.no hm02) (by omega)) ?_
  rintro v w3 ⟨t,rfl,ht,rfl⟩
  refine ⟨t,rfl,aE (fun h=>⟨(fun h=>by cases h),Mod.refl _ _⟩) fun htt=>?_⟩
  refine ⟨h.a,h.b,h.c,h.d,h.e,h.f,h.g,rdH hb2,?_⟩
  refine nH (h:=h) fun x2 w4 hm4 hx4 hlt4 hxl=>⟨x2,rfl,?_⟩
  have hb4:rO w4 h r:=hb.no (hm02.tr hm4)
  refine aC (qBP (ls:=[r]) ⟨[h],hx4,hlt4,rfl,fun i a c=>by match i,a with | 0,_=>exact hb4⟩ (by omega)) ?_
  rintro v w5 ⟨t',rfl,ht',rfl⟩
  refine ⟨t',rfl,aE (fun h=>⟨(fun h=>by cases h),hm4⟩) fun htt'=>?_⟩
  have hq:=ht (by simpa using htt)
  have hq':=(ht' (by simpa using htt')).2 r (by simp)
  refine ⟨h.a,h.b,h.c,h.d,h.e,h.f,h.g,rdH (hb2.no hm4),?_⟩
  have hbs:cK w5 h r:=hb4.at ⟨by have:=hq'.1; omega,by have:=hq'.2.2.1; omega,by have:=hq'.2.1; omega,by have:=hq'.2.2.2; omega⟩
  refine aC (uP (h:=h) hbs) ?_
  rintro v w6 ⟨rfl,hm6⟩
  exact ⟨_,rfl,fun e=>⟨hq,hq',e⟩,hm4.tr hm6⟩
 rintro t w7 ⟨ht,hm7⟩
 have hm07:=hm02.tr hm7
 refine aE (fun _=>⟨rfl,hm07⟩) fun htf=>?_
 obtain ⟨hq,hq',hrr⟩:=ht htf
 have hlen:=hl.len
 have hq1:=hq.1
 have hA7:=(hl.no hm07).at hq
 have hb7:cK w7 h r:=(hb.no hm07).at ⟨by have:=hq'.1; omega,by have:=hq'.2.2.1; omega,by have:=hq'.2.1; omega,by have:=hq'.2.2.2; omega⟩
 have hc7:=hb2.no hm7
 rw [aS (n:=s.len) (by omega)]
 refine aC (qVA (n:=s.len+1) (by omega) (by omega)) ?_
 rintro v w8 ⟨k,rfl,hk,rfl⟩
 refine ⟨(k:Int),rfl,?_⟩
 obtain ⟨hs,g1,g2,g3,g4⟩:=hA7
 have hsl:hs.length=s.len:=by omega
 have hcap:=g1.2.1
 let D:World:=w8.drew
 have cut1 : ∀ {w'},Mod NoB D w'→aL w' (aF s 7 0 k s.cap) 7 (hcells (hs.take k)):=fun hm=>by
  have:=(((g1.no (Mod.drew NoB w8)).no hm).cut (l:=0) (n:=k) (m:=s.cap) (by omega) (by omega) (by omega) (Nat.le_refl _))
  rw [Nat.zero_mul,List.drop_zero,Nat.sub_zero,(qJ hs k (by omega)).1] at this
  exact this
 have cut2 : ∀ {w'},Mod NoB D w'→aL w' (aF s 7 k s.len s.cap) 7 (hcells (hs.drop k)):=fun hm=>by
  have:=(((g1.no (Mod.drew NoB w8)).no hm).cut (l:=k) (n:=s.len) (m:=s.cap) (by omega) (Nat.le_refl _) hcap (Nat.le_refl _))
  rw [(qJ hs k (by omega)).2,List.take_of_length_le (by rw [hcells,bQ Hd.len,List.length_drop,hsl]; exact Nat.le_refl _)] at this
  exact this
 have hH : ∀ i (a:i<hs.length) (c:i<ls.length),cK D hs[i] ls[i]:=fun i a c=>(g4 i a c).1.no (Mod.drew NoB w8)
 have hbD:cK D h r:=hb7.no (Mod.drew NoB w8)
 have hH1 : ∀ i (a:i<(hs.take k).length) (c:i<(ls.take k).length),cK D (hs.take k)[i] (ls.take k)[i]:=fun i a c=>by
  rw [List.getElem_take,List.getElem_take]; exact hH _ _ _
 have hH2 : ∀ i (a:i<(hs.drop k).length) (c:i<(ls.drop k).length),cK D (hs.drop k)[i] (ls.drop k)[i]:=fun i a c=>by
  rw [List.getElem_drop,List.getElem_drop]; exact hH _ _ _
 have hHb : ∀ i (a:i<[h].length) (c:i<[r].length),cK D [h][i] [r][i]:=fun i a c=>by
  match i,a with
  | 0,_=>exact hbD
 have hrd : ∀ w',Mod NoB D w'→Rd w' ⟨b,0,none⟩ h.cells:=fun w' hm=>rdH ((hc7.no (Mod.drew NoB w8)).no hm)
 have a1 : ∀ {w1:World} {x:Slc} {K:Value→World→Prop},kI D w1 x []→x.blk=none→(∀ x' w',kI D w' x' (ls.take k)→Mod NoB w1 w'→K (.slice x'.a x'.len x'.cap) w')→aI prog (Builtin.append_ #[32,32] 32 #[.slice x.a x.len x.cap,.slice (aF s 7 0 ((k:Int).toNat) s.cap).a (aF s 7 0 ((k:Int).toNat) s.cap).len (aF s 7 0 ((k:Int).toNat) s.cap).cap]) w1 K:=fun hR hx hK=>
  oS (ls:=ls.take k) (gs:=hs.take k) hR (cut1 hR.m) (by rw [List.length_take,List.length_take,g3]) hH1 (by simp only [List.length_nil,List.length_take]; omega) fun x' w' h hm=>hK x' w' h (hm.mono fun z _ e=>by rw [hx] at e; cases e)
 have a2 : ∀ {w1:World} {x y:Slc} {K:Value→World→Prop},kI D w1 x (ls.take k)→aL w1 y 7 (hcells [h])→(∀ x' w',kI D w' x' (ls.take k++[r])→K (.slice x'.a x'.len x'.cap) w')→aI prog (Builtin.append_ #[32,32] 32 #[.slice x.a x.len x.cap,.slice y.a y.len y.cap]) w1 K:=fun hR hy hK=>
  oS (ls:=[r]) (gs:=[h]) hR hy rfl hHb (by simp only [List.length_cons,List.length_nil,List.length_take]; omega) fun x' w' h _=>hK x' w' h
 have a3 : ∀ {w1:World} {x:Slc} {K:Value→World→Prop},kI D w1 x (ls.take k++[r])→(∀ x' w',kI D w' x' (ls.take k++[r]++ls.drop k)→K (.slice x'.a x'.len x'.cap) w')→aI prog (Builtin.append_ #[32,32] 32 #[.slice x.a x.len x.cap,.slice (aF s 7 ((k:Int).toNat) s.len s.cap).a (aF s 7 ((k:Int).toNat) s.len s.cap).len (aF s 7 ((k:Int).toNat) s.len s.cap).cap]) w1 K:=fun hR hK=>
  oS (ls:=ls.drop k) (gs:=hs.drop k) hR (cut2 hR.m) (by rw [List.length_drop,List.length_drop,g3]) hH2 (by simp only [List.length_append,List.length_cons,List.length_nil,List.length_take,List.length_drop]; omega) fun x' w' h _=>hK x' w' h
 have nil0 : ∀ {w1:World} {K:Value→World→Prop},Mod NoB D w1→(∀ x w',Mod NoB w1 w'→kI D w' x []→x.blk=none→K (.slice x.a x.len x.cap) w')→aI prog (Instr.buildSlice 32 0 #[]) w1 K:=fun hm hK=>
  kT nV hr1 fun b0 w9 hN9=>hK ⟨some ⟨b0,0,none⟩,0,0⟩ w9 hN9.mod ⟨[],kM _ _ 7,(fun z hz=>by rw [Slc.blk_mk,if_pos rfl] at hz; cases hz),rfl,(fun i h=>absurd h (by simp)),hm.tr hN9.mod⟩ (by rw [Slc.blk_mk,if_pos rfl])
 refine ⟨fun l' w'=>match l' with | [.sl x]=>kI D w' x (ls.take k++[r]++ls.drop k) | _=>False,?_,?_⟩
 ·refine ⟨Mod NoB D,Mod.refl _ _,⟨by omega,by omega⟩,⟨by omega,by omega⟩,h.a,h.b,h.c,h.d,h.e,h.f,h.g,hrd,?_,?_,trivial⟩
  ·refine nil0 (Mod.refl _ _) fun x7 w9 hm9 hR9 hx7=>⟨x7,rfl,hm9,?_,?_,trivial⟩
   ·refine a1 hR9 hx7 fun x8 w10 hR10 _=>⟨x8,rfl,hR10.m,?_,trivial⟩
    refine nH (h:=h) fun x9 w11 hm11 hx11 _ _=>⟨x9,rfl,?_,trivial⟩
    refine a2 (hR10.no hm11) hx11 fun x10 w12 hR12=>⟨x10,rfl,hR12.m,?_,trivial⟩
    exact a3 hR12 fun x11 w13 hR13=>⟨x11,rfl,hR13.m,hR13⟩
   ·refine nH (h:=h) fun x9 w11 hm11 hx11 _ _=>⟨x9,rfl,?_,trivial⟩
    refine a1 (hR9.no hm11) hx7 fun x8 w10 hR10 hm10=>⟨x8,rfl,hR10.m,?_,trivial⟩
    refine a2 hR10 (hx11.no hm10) fun x10 w12 hR12=>⟨x10,rfl,hR12.m,?_,trivial⟩
    exact a3 hR12 fun x11 w13 hR13=>⟨x11,rfl,hR13.m,hR13⟩
  ·refine nH (h:=h) fun x9 w11 hm11 hx11 _ _=>⟨x9,rfl,?_,trivial⟩
   refine nil0 hm11 fun x7 w9 hm9 hR9 hx7=>⟨x7,rfl,hm11.tr hm9,?_,trivial⟩
   refine a1 hR9 hx7 fun x8 w10 hR10 hm10=>⟨x8,rfl,hR10.m,?_,trivial⟩
   refine a2 hR10 (hx11.no (hm9.tr hm10)) fun x10 w12 hR12=>⟨x10,rfl,hR12.m,?_,trivial⟩
   exact a3 hR12 fun x11 w13 hR13=>⟨x11,rfl,hR13.m,hR13⟩
 intro row w23 hR23
 replace hR23:kI D w23 row (ls.take k++[r]++ls.drop k):=hR23
 have hrl:(ls.take k++[r]++ls.drop k).length≤17:=by simp only [List.length_append,List.length_cons,List.length_nil,List.length_take,List.length_drop]; omega
 have hrm:r∈ls.take k++[r]++ls.drop k:=by simp
 have hM23:Mod NoB w8 w23:=(Mod.drew NoB w8).tr hR23.m
 have hg23:=hg.no (hm07.tr hM23)
 refine aC xS ?_
 rintro v w24 ⟨p,tp,Bp,rfl,hp24,hF24,hpW,hpB,hpl,hm24⟩
 refine ⟨_,rfl,?_⟩
 refine aC xS ?_
 rintro v w25 ⟨q,tq,Bq,rfl,hq25,hF25,hqW,hqB,hql,hm25⟩
 refine ⟨_,rfl,?_⟩
 have hplt:=hp24.lt
 have hqlt:=hq25.lt
 have hpq : ¬ p=q:=by omega
 have hs24:=hm24.size
 have hs25:=hm25.size
 have hlo23 : ∀ z,isG z→z<w23.heap.size:=fun z hz=>hg23.sha.lt hz
 have hlo24 : ∀ z,isG z→z<w24.heap.size:=fun z hz=>by have:=hlo23 z hz; omega
 have hM25:Mod NoB w23 w25:=hm24.tr hm25
 have hR25:=(hR23.no hM25).at
 have hSp:ShAt w25 p tp (fun _=>[]) Bp w23.heap.size:=(⟨hp24,hF24,hpl,hpW,hpB⟩:ShAt w24 p tp (fun _=>[]) Bp w23.heap.size).no hm25
 have hSq:ShAt w25 q tq (fun _=>[]) Bq w24.heap.size:=⟨hq25,hF25,hql,hqW,hqB⟩
 refine ⟨fun l' w'=>match l' with | [.b t]=>t=false∧Mod NoB w25 w' | _=>False,?_,?_⟩
 ·refine aC (uA (n:=0) (hg23.no hM25).sha hlo23 hSp eX (by omega) hR25) ?_
  rintro v w26 ⟨e,rfl,⟨rfl,ts',Ls',Bs',hP,_⟩ | ⟨he,j,hj,L1,L2,hP,hT,hm26⟩⟩
  ·exfalso
   have:=yA hP r hrm
   rw [hrr] at this; cases this
  ·refine ⟨e,rfl,aE (fun h=>absurd (by simpa using h) he) fun _=>?_⟩
   refine aC (iU (hSp.no hm26) eX (by omega)) ?_
   rintro v w27 ⟨o,L,rfl,hQ,hs',hmL,hm27⟩
   have hL:L=[]:=wH hmL
   have hol:o.len=0:=by rw [← hQ.r.len,hL]; rfl
   exact ⟨o,rfl,by rw [hol]; rfl,hm26.tr hm27⟩
 rintro t w28 ⟨rfl,hm28⟩
 refine aE (fun h=>by cases h) fun _=>?_
 have hSp28:=hSp.no hm28
 have hSq28:=hSq.no hm28
 have hs28:=hm28.size
 have hM28:Mod NoB w8 w28:=(hM23.tr hM25).tr hm28
 have hA28:bT w28.heap.size w28 s ls:=(((hl.no hm07).at hq).mod (hM28.mono fun _ _ h=>h.elim)).le hM28.size
 refine aC (uA (n:=0) (hg23.no (hM25.tr hm28)).sha hlo23 hSp28 eX (by omega) hA28) ?_
 rintro v w29 ⟨e,rfl,hcase⟩
 refine ⟨e,rfl,?_⟩
 have hcase : ∃ (ta:Nat→Tr) (La:Nat→Lv) (Ba:Nat→Nat→Prop),ShAt w29 p ta La Ba w23.heap.size∧cF La 100∧(∀ i,i<4→∀ z,((ta i).W z∨Ba i z)→¬ z=q)∧Mod (fun z=>z=p) w28 w29∧((e=0∧fJ (fun _=>[]) ls La)∨(e≠0∧La=(fun _=>[])∧∃ j,∃ hj:j<ls.length,∃ L1 L2,fJ (fun _=>[]) (ls.take j) L1∧fI L1 ls[j] e L2)):=by
  rcases hcase with ⟨rfl,ts',Ls',Bs',hP,hS',hz',hO',hm⟩ | ⟨he,j,hj,L1,L2,hP,hT,hm⟩
  ·exact ⟨ts',Ls',Bs',hS',hO'.le (by omega),fun i hi z hz e=>by have:=hz' i hi z hz; omega,hm,.inl ⟨rfl,hP⟩⟩
  ·refine ⟨tp,_,Bp,hSp28.no hm,eX.le (by omega),fun i hi z hz e=>?_,hm.mono fun _ _ h=>h.elim,.inr ⟨he,rfl,j,hj,L1,L2,hP,hT⟩⟩
   have:z<w24.heap.size:=hz.elim (fun h=>(hF24.tr i hi).wlt z h) fun h=>(hF24.tr i hi).lt z h
   omega
 obtain ⟨ta,La,Ba,hSa,hOa,hza,hm29,hcase⟩:=hcase
 have hSq29:ShAt w29 q tq (fun _=>[]) Bq w24.heap.size:=hSq28.mod hm29 (fun e=>hpq e.symm) fun i hi z hz e=>by
  have e:z=p:=e
  have:=hF25.lo i hi z hz; omega
 have hlow : ∀ {w'},Mod (fun z=>z=q) w29 w'→Mod NoB w23 w':=fun hm=>((hM25.tr hm28).fresh hm29 fun z e=>by have e:z=p:=e; omega).fresh hm fun z e=>by have e:z=q:=e; omega
 have hSaM : ∀ {w'},Mod (fun z=>z=q) w29 w'→ShAt w' p ta La Ba w23.heap.size:=fun hm=>hSa.mod hm hpq hza
 have hbase : ∀ {w'},Mod NoB w23 w'→Mod NoB w w':=fun hm=>(hm07.tr hM23).tr hm
 refine ⟨fun l' w'=>match l' with | [.i _ y]=>∃ (m:Nat) (ts:Nat→Tr) (Lb:Nat→Lv) (Bs:Nat→Nat→Prop),y=(m:Int)∧m≤ls.length∧ShAt w' q ts Lb Bs w24.heap.size∧fJ (fun _=>[]) (ls.take m) Lb∧cF Lb m∧Mod (fun z=>z=q) w29 w' | _=>False,fun l' _=>match l' with | [.i _ y]=>(ls.length - y).toNat | _=>0,
  ⟨0,tq,fun _=>[],Bq,rfl,by omega,hSq29,.nil,eX,Mod.refl _ _⟩,?_⟩
 rintro y w30 ⟨m,tb,Lb,Bb,rfl,hm,hSb,hPb,hOb,hm30⟩
 have hM30:=hlow hm30
 refine aE (fun hlt=>?_) fun hge=>?_
 ·have hml:m<ls.length:=by have:=of_decide_eq_true hlt; omega
  have hmh:m<hs.length:=by omega
  obtain ⟨A,ea,hrdA⟩:=bX Hd.len (by omega) (g1.no (hM23.tr hM30)) hmh
  rw [ea]
  refine ⟨⟨by omega,by omega⟩,hs[m].a,hs[m].b,hs[m].c,hs[m].d,hs[m].e,hs[m].f,hs[m].g,hrdA,?_⟩
  refine lN (h1:=hs[m]) ((g4 m hmh hml).1.no (hM23.tr hM30)) fun x5 w31 hm31 hR31=>⟨x5,rfl,?_⟩
  refine aC (uA (n:=m) (hg23.no (hM30.tr hm31)).sha hlo24 (hSb.no hm31) hOb (by simp only [List.length_cons,List.length_nil]; omega) hR31) ?_
  rintro v w32 ⟨f,rfl,⟨rfl,ts',Lb',Bs',hP',hS',_,hO',hm32⟩ | ⟨hf,j,hj,M1,M2,hP',hT',hm32⟩⟩
  ·refine ⟨0,rfl,aE (fun h=>by cases h) fun _=>⟨⟨m+1,ts',Lb',Bs',aS (by omega),by omega,hS',?_,hO',(hm30.no' hm31).tr hm32⟩,?_⟩⟩
   ·rw [aV hml]; exact .snoc hPb (qIS hP')
   ·rw [aS (by omega)]; (try simp only []); omega
  ·have hj0:j=0:=by simp at hj; omega
   subst hj0
   obtain rfl:M1=Lb:=nS hP'
   have hT':fI M1 ls[m] f M2:=hT'
   have hef:e=f∧La=fun _=>[]:=by
    rcases hcase with ⟨he,hPa⟩ | ⟨he,hLa,j,hj',L1,L2,hP1,hT1⟩
    ·exact absurd (uG hPa hml hPb hT') hf
    ·exact ⟨qNT hj' hml hP1 hT1 hPb hT' he hf,hLa⟩
   obtain ⟨rfl,rfl⟩:=hef
   have hm32':Mod (fun z=>z=q) w29 w32:=(hm30.no' hm31).no' hm32
   refine ⟨e,rfl,aE (fun _=>aE (fun _=>?_) fun h=>by simp at h) fun h=>absurd (by simpa using h) hf⟩
   refine aC (iU (hSaM hm32') hOa (by omega)) ?_
   rintro v w33 ⟨o,L,rfl,hQ,hs',hmL,hm33⟩
   have hL:L=[]:=wH hmL
   have hol:o.len=0:=by rw [← hQ.r.len,hL]; rfl
   exact ⟨o,rfl,by rw [hol]; rfl,hbase ((hlow hm32').tr hm33)⟩
 ·have hml:m=ls.length:=by have:=of_decide_eq_false hge; omega
  subst hml
  rw [List.take_length] at hPb
  have hee:e=0∧La=Lb:=by
   rcases hcase with ⟨he,hPa⟩ | ⟨he,hLa,j,hj',L1,L2,hP1,hT1⟩
   ·exact ⟨he,qS hPa hPb⟩
   ·exact absurd (uG hPb hj' hP1 hT1) he
  obtain ⟨rfl,rfl⟩:=hee
  refine aE (fun _=>?_) fun h=>by cases h
  refine aC (iU (hSaM hm30) hOa (by omega)) ?_
  rintro v w34 ⟨o1,L1,rfl,hQ1,hs1,hme1,hm34⟩
  refine ⟨o1,rfl,?_⟩
  refine aC (iU (hSb.no hm34) hOb (by omega)) ?_
  rintro v w35 ⟨o2,L2,rfl,hQ2,hs2,hme2,hm35⟩
  refine ⟨o2,rfl,?_⟩
  obtain rfl:L1=L2:=qIL hs1 hme1 hs2 hme2
  have hlen4:L1.length≤(La 0++La 1++La 2++La 3).length:=by
   refine uD (lt:=fun (a b:List UInt8×List Rc)=>a.1<b.1) (fun x hx=>List.lt_irrefl _ hx) hs1 fun x hx=>?_
   obtain ⟨i,hi,hx⟩:=(hme1 x).1 hx
   match i,hi with
   | 0,_=>simp [hx]
   | 1,_=>simp [hx]
   | 2,_=>simp [hx]
   | 3,_=>simp [hx]
  have n0:=hOa.n 0; have n1:=hOa.n 1; have n2:=hOa.n 2; have n3:=hOa.n 3
  simp only [List.length_append] at hlen4
  refine aC (uF (hQ1.r.no hm35) hQ2.r (by omega) fun x hx=>?_) ?_
  ·obtain ⟨i,_,hx⟩:=(hme1 x).1 hx
   have:=hOa.m i x hx; omega
  rintro v w36 ⟨rfl,hm36⟩
  exact ⟨_,rfl,by simp,hbase (((hM30.tr hm34).tr hm35).tr hm36)⟩
end
end Go.Proofs.YtahjmeegfkfokaaGreatDoor
end
