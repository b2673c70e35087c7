/- The forms of the translated functions,their contracts and the plain laws behind them,put together by a program. -/
import Derived.Test.YthaefcgpbccmbaaGreatDoorPV19
import Derived.Shelf.SlSortCmp.NoneTotal
import Derived.Test.YthaefcgpbccmbaaGreatDoorProg
import Derived.KernelRfl
set_option linter.unusedSimpArgs false
set_option linter.unusedVariables false
set_option maxRecDepth 100000
set_option maxHeartbeats 4000000
section
namespace Go.Proofs.YthaefcgpbccmbaaGreatDoor
open Go Go.Sh Go.MapKept
open Go.Proofs.Tryz
theorem qC6 {α β:Type} {f:α→β} {l1 l2:List β} (h:l1.Perm l2) : ∀ zs:List α,zs.map f=l2→∃ zs':List α,zs'.Perm zs∧zs'.map f=l1:=by
 induction h with
 | nil=>intro zs h; exact ⟨zs,.refl _,h⟩
 | cons x _ ih=>
   intro zs h
   match zs,h with
   | z :: t,h=>
     simp only [List.map_cons,List.cons.injEq] at h
     obtain ⟨t',h1,h2⟩:=ih t h.2
     exact ⟨z :: t',h1.cons z,by simp [h.1,h2]⟩
 | swap x y l=>
   intro zs h
   match zs,h with
   | z1 :: z2 :: t,h=>
     simp only [List.map_cons,List.cons.injEq] at h
     exact ⟨z2 :: z1 :: t,.swap _ _ _,by simp [h.1,h.2.1,h.2.2]⟩
 | trans _ _ ih1 ih2=>
   intro zs h
   obtain ⟨z1,a1,a2⟩:=ih2 zs h
   obtain ⟨z2,b1,b2⟩:=ih1 z1 a2
   exact ⟨z2,b1.trans a1,b2⟩
def gS (Ls:Nat→Lv):Nat→Lv
 | 0=>[]
 | k+1=>gS Ls k++Ls k
theorem wU {Ls:Nat→Lv} {n:Nat} (h:dV Ls n) (k:Nat):(gS Ls k).length≤k*n:=by
 induction k with
 | zero=>simp [gS]
 | succ k ih=>
   have:=h.n k
   rw [gS,List.length_append,Nat.succ_mul]; omega
theorem qR {Ls:Nat→Lv} {k:Nat} {e:List UInt8×List Rc} : e∈gS Ls k↔∃ i,i<k∧e∈Ls i:=by
 induction k with
 | zero=>simp [gS]
 | succ k ih=>
   rw [gS,List.mem_append,ih]
   constructor
   ·rintro (⟨i,h1,h2⟩ | h)
    ·exact ⟨i,by omega,h2⟩
    ·exact ⟨k,by omega,h⟩
   ·rintro ⟨i,h1,h2⟩
    rcases Nat.lt_or_ge i k with h | h
    ·exact .inl ⟨i,h,h2⟩
    ·have:i=k:=by omega
     subst this; exact .inr h2
theorem qF5 {Ls:Nat→Lv} {n:Nat} (h:dV Ls n) (k:Nat):(gS Ls k).Pairwise fun a b=>a.1≠b.1:=by
 induction k with
 | zero=>exact List.Pairwise.nil
 | succ k ih=>
   refine List.pairwise_append.2 ⟨ih,(h.so k).imp fun {a b} hab e=>by rw [e] at hab; exact List.lt_irrefl _ hab,fun a ha b hb e=>?_⟩
   obtain ⟨i,hi,ha⟩:=qR.1 ha
   have h1:=h.sh i a ha
   have h2:=h.sh k b hb
   rw [e] at h1; omega
section
variable {w:World}
theorem rR {B:Nat} {o x:Slc} {L M:Lv} {K:Value→World→Prop} (hQ:bZ (fun z=>B≤z) w o L) (hX:bZ (fun z=>B≤z∧o.blk≠some z) w x M) (hn:L.length≤1000000) (hm:M.length≤1000000) (hB:B≤w.heap.size)
 (hK : ∀ x' w',bZ (fun z=>B≤z) w' x' (L++M)→Mod (fun z=>o.blk=some z) w w'→K x'.val w') :
 aF prog (Builtin.append_ #[26,26] 26 #[.slice o.a o.len o.cap,.slice x.a x.len x.cap]) w K:=by
 obtain ⟨il,hl1,hl2,hl3,hl4⟩:=nI
 obtain ⟨es,ho,hob,hel,hes⟩:=hQ
 obtain ⟨fs,hx,hxb,hfl,hfs⟩:=hX
 have hol:=bI bA (by omega) ho.rd
 have hxl:=bI bA (by omega) hx.rd
 refine bC (s:=o) (x:=x) dX hl1 hl2 hl3 rfl hl4 ho hx.rd (d9 eU _) (by omega) (by omega) fun x' w12 ho12 hlen hblk hm12=>hK x' w12 ?_ hm12
 have hx' : ∀ z,x'.blk=some z→o.blk=some z∨z=w.heap.size:=fun z hz=>by
  rcases hblk with e | e
  ·exact .inl (by rw [← e]; exact hz)
  ·rw [e] at hz; cases hz; exact .inr rfl
 have hfr : ∀ {Q:Nat→Prop} {t:Slc} {l:List Rc},eG Q w t l→(∀ z,Q z→B≤z∧o.blk≠some z)→eG (fun z=>B≤z∧x'.blk≠some z) w12 t l:=fun {Q t l} hq hQ=>hq.mod hm12 fun z hz hl=>⟨(hQ z hz).2,(hQ z hz).1,fun e=>by
  rcases hx' z e with h | h
  ·exact (hQ z hz).2 h
  ·omega⟩
 refine ⟨es++fs,by rw [cS]; exact ho12,fun z hz=>?_,by simp [hel,hfl],fun j a d=>?_⟩
 ·rcases hx' z hz with h | h
  ·exact hob z h
  ·omega
 ·rcases Nat.lt_or_ge j es.length with hj | hj
  ·have e1:(es++fs)[j]=es[j]:=List.getElem_append_left hj
   have e2:(L++M)[j]=L[j]'(by omega):=List.getElem_append_left (by omega)
   rw [e1,e2]
   obtain ⟨g1,g2⟩:=hes j hj (by omega)
   exact ⟨g1,hfr g2 fun z hz=>hz⟩
  ·have hl2:j - es.length<fs.length:=by rw [List.length_append] at a; omega
   have e1:(es++fs)[j]=fs[j - es.length]'hl2:=List.getElem_append_right hj
   have e2:(L++M)[j]=M[j - es.length]'(by omega):=by
    rw [List.getElem_append_right (by omega)]
    simp only [hel]
   rw [e1,e2]
   obtain ⟨g1,g2⟩:=hfs (j - es.length) hl2 (by omega)
   exact ⟨g1,hfr g2 fun z hz=>hz.1⟩
theorem xC {v:Slc} (h:v.len=0):Calls prog 52 #[.slice v.a v.len v.cap,.func (.func 53) #[] #[]] w (Ret fun u w'=>u = .tuple #[]∧w'=w):=by
 rw [h]
 refine (AnyF.slices_SortFunc_none Tryz.sortLeaf v.a v.cap (.func (.func 53) #[] #[]) w).mono ?_
 rintro e w' ⟨rfl,rfl⟩
 exact ⟨rfl,rfl⟩
theorem qBU {p:Nat} {ts:Nat→Tr} {Ls:Nat→Lv} {Bs:Nat→Nat→Prop} {lo n:Nat} (hS:ShAt w p ts Ls Bs lo) (hO:dV Ls n) (hn:n≤100000) :
 Calls prog 26 #[.pointer (some ⟨p,0,none⟩)] w (Ret fun v w'=>∃ o L,v=o.val∧bZ (fun z=>w.heap.size≤z) w' o L∧fF L∧(∀ e,e∈L↔∃ i,i<4∧e∈Ls i)∧Mod NoB w w'):=by
 refine qQU _ ?_
 unfold qVC
 refine aC (uV hS.blk) ?_
 rintro v w1 ⟨rfl,rfl⟩
 refine ⟨_,rfl,aE (fun h=>by cases h) fun _=>?_⟩
 refine ⟨some ⟨(ts 0).p,0,none⟩,some ⟨(ts 1).p,0,none⟩,some ⟨(ts 2).p,0,none⟩,some ⟨(ts 3).p,0,none⟩,hS.blk.rd fun j v hj=>?_,?_⟩
 ·rw [Nat.zero_add]
  rw [List.getElem?_append_left]
  ·exact hj
  ·rcases Nat.lt_or_ge j (gP ts).length with h | h
   ·exact h
   ·rw [List.getElem?_eq_none (by exact h)] at hj; cases hj
 refine ⟨fun l' w'=>match l' with | [.sl out,.i _ y]=>∃ k:Nat,y=(k:Int)∧k≤4∧bZ (fun z=>w1.heap.size≤z) w' out (gS Ls k)∧Mod NoB w1 w' | _=>False,fun l' _=>match l' with | [.sl _,.i _ y]=>(4 - y).toNat | _=>0,⟨0,rfl,by omega,⟨[],bU _ 2,fun z hz=>by simp at hz,rfl,fun i h=>absurd h (by simp)⟩,Mod.refl _ _⟩,?_⟩
 rintro out y w2 ⟨k,rfl,hk,hQ2,hm2⟩
 refine aE (fun h=>?_) fun h=>?_
 ·have hk4:k<4:=by have:=of_decide_eq_true h; omega
  refine ⟨⟨by omega,by show (k:Int)<((4:Nat):Int); omega⟩,by intro z hz; simp at hz; rcases hz with rfl | rfl | rfl | rfl <;> rfl,some ⟨(ts k).p,0,none⟩,?_,?_⟩
  ·rw [Int.toNat_natCast]
   match k,hk4 with
   | 0,_=>rfl
   | 1,_=>rfl
   | 2,_=>rfl
   | 3,_=>rfl
  ·have hLn:=hO.n k
   refine aC (oI ((hS.four.no hm2).tr k hk4) (hO.ok k) (by omega)) ?_
   rintro v w3 ⟨x3,rfl,hQ3,hm3⟩
   refine ⟨x3,rfl,?_⟩
   have hs12:=hm2.size
   have hob : ∀ z,out.blk=some z→z<w2.heap.size:=fun z hz=>by obtain ⟨es,ho,_⟩:=hQ2; exact ho.lt hz
   have hX:bZ (fun z=>w1.heap.size≤z∧out.blk≠some z) w3 x3 (Ls k):=hQ3.mod (Mod.refl NoB _) fun z hz _=>⟨fun h=>h,by omega,fun e=>by have:=hob z e; omega⟩
   have hO3:bZ (fun z=>w1.heap.size≤z) w3 out (gS Ls k):=hQ2.mod hm3 fun z hz _=>⟨fun h=>h,hz⟩
   have hkn:=wU hO k
   have hk3:k*n≤3*n:=Nat.mul_le_mul_right n (by omega)
   refine rR hO3 hX (by omega) (by omega) (by have:=(hm2.tr hm3).size; omega) fun x' w4 hQ4 hm4=>⟨x',rfl,?_⟩
   rw [wrap_i64 (e:=(k:Int)+1) (by omega)]
   refine ⟨⟨k+1,by omega,by omega,hQ4,(hm2.tr hm3).fresh hm4 fun z hz=>?_⟩,by (try simp only []); omega⟩
   obtain ⟨es,ho,hb,_⟩:=hQ2
   exact hb z hz
 ·have hk4:k=4:=by have:=of_decide_eq_false h; omega
  subst hk4
  obtain ⟨es,ho,hob,hel,hes⟩:=hQ2
  have hol:=bI bA (by omega) ho.rd
  have hkn:=wU hO 4
  rcases Nat.eq_zero_or_pos es.length with h0 | h0
  ·refine aC (xC (v:=out) (by omega)) ?_
   rintro v w3 ⟨rfl,rfl⟩
   have hnil:gS Ls 4=[]:=List.eq_nil_of_length_eq_zero (by omega)
   refine ⟨rfl,out,gS Ls 4,rfl,⟨es,ho,hob,hel,hes⟩,?_,fun e=>qR,hm2⟩
   rw [hnil]; exact List.Pairwise.nil
  ·refine aC (qKD es ho h0 (by omega)) ?_
   rintro v w3 ⟨rfl,ps,hpm,hps,ho3,hm3⟩
   have hzl:(es.zip (gS Ls 4)).map Prod.fst=es:=List.map_fst_zip (by omega)
   obtain ⟨zs,hz1,hz2⟩:=qC6 hpm _ hzl
   have hz3:(zs.map Prod.snd).Perm (gS Ls 4):=by
    have:=hz1.map Prod.snd
    rwa [List.map_snd_zip (by omega)] at this
   have hzlen:zs.length=ps.length:=by rw [← hz2,List.length_map]
   have hrel : ∀ z∈zs,z.1.1=z.2.1∧eG (fun y=>w1.heap.size≤y∧out.blk≠some y) w2 z.1.2 z.2.2:=fun z hz=>by
    have hz':=hz1.mem_iff.1 hz
    obtain ⟨i,hi,rfl⟩:=List.getElem_of_mem hz'
    rw [List.getElem_zip]
    rw [List.length_zip] at hi
    exact hes i (by omega) (by omega)
   refine ⟨rfl,out,zs.map Prod.snd,rfl,⟨ps,ho3,hob,by simp [hzlen],fun i a d=>?_⟩,?_,fun e=>?_,hm2.fresh hm3 fun z hz=>hob z hz⟩
   ·have hi:i<zs.length:=by omega
    have e1:ps[i]=zs[i].1:=by simp only [← hz2,List.getElem_map]
    have e2:(zs.map Prod.snd)[i]=zs[i].2:=by simp
    rw [e1,e2]
    obtain ⟨g1,g2⟩:=hrel zs[i] (List.getElem_mem hi)
    exact ⟨g1,g2.mod hm3 fun z hz _=>⟨hz.2,hz⟩⟩
   ·have hne:(zs.map Prod.snd).Pairwise fun a b=>a.1≠b.1:=(hz3.symm.pairwise_iff fun h e=>h e.symm).1 (qF5 hO 4)
    refine List.pairwise_iff_getElem.2 fun i j hi hj hij=>?_
    have h1:=List.pairwise_iff_getElem.1 hne i j hi hj hij
    have hi':i<zs.length:=by simpa using hi
    have hj':j<zs.length:=by simpa using hj
    simp only [List.getElem_map] at h1 ⊢
    have h2:=List.pairwise_iff_getElem.1 hps i j (by omega) (by omega) hij
    have e1:ps[i]=zs[i].1:=by simp only [← hz2,List.getElem_map]
    have e2:ps[j]=zs[j].1:=by simp only [← hz2,List.getElem_map]
    rw [e1,e2,(hrel zs[i] (List.getElem_mem hi')).1,(hrel zs[j] (List.getElem_mem hj')).1] at h2
    exact sU h2 (fun e=>h1 e.symm)
   ·rw [hz3.mem_iff]; exact qR
end
end Go.Proofs.YthaefcgpbccmbaaGreatDoor
end
section
namespace Go.Proofs.YthaefcgpbccmbaaGreatDoor
open Go Go.Sh
open Go.Proofs.Tryz
section
variable {w:World}
theorem qQ5 {seed:Slc} {sl:List UInt8} {h:Hd} {r:Rc} (hg:iE w) (hs:aK w seed 1 (bys sl)) (hsl : ∀ z,seed.blk=some z→z<w.heap.size) (hl:sl.length=32) (H:cN w h r) (hsh:r.shaped=true) :
 Calls prog 55 #[.slice seed.a seed.len seed.cap,h.val] w (Ret fun v w'=>∃ (h':Hd) (sg:List UInt8),v = .tuple #[h'.val,.int .i64 0]∧cN w' h' {r with sig:=sg}∧sg.length=64∧z8 w h'∧Mod NoB w w'):=by
 refine qQ2 _ h.a h.b h.c h.d h.e h.f h.g ?_
 unfold qTU
 obtain ⟨ir,hr1,hr2,hr3,hr4⟩:=lM
 obtain ⟨iw,hw1,hw2,hw3,hw4⟩:=qDG
 obtain ⟨sm1,sm2,sm3,sm4⟩:=H.sm
 refine aU (l:=h.cells) rfl fun p w1 hN hb=>⟨_,rfl,?_⟩
 refine aM (l:=Hd.cells ⟨[],0,0,⟨none,0,0⟩,false,⟨none,0,0⟩,⟨none,0,0⟩⟩) hr1 hr2 rfl fun x w2 hN2 hb2=>⟨_,rfl,?_⟩
 refine ⟨h.a,h.b,h.c,h.d,h.e,h.f,h.g,rdH (hb.no hN2.mod),?_⟩
 refine aM (l:=Hd.cells ⟨[],0,0,⟨none,0,0⟩,false,⟨none,0,0⟩,⟨none,0,0⟩⟩) hw1 hw2 rfl fun q w3 hN3 hb3=>⟨_,rfl,?_⟩
 refine bY (h:=h) (by kernel_rfl) (by kernel_rfl) hb3 rfl fun w4 ht4 hq4=>?_
 have e1:=hN.at_; have e2:=hN2.at_; have e3:=hN3.at_; have e4:=hN.size; have e5:=hN2.size; have e6:=hN3.size
 have hM4:Mod NoB w w4:=((hN.mod.tr hN2.mod).tr hN3.mod).fresh ht4.mod fun z e=>by omega
 have hp4:=(hb.no (hN2.mod.tr hN3.mod)).mod ht4.mod (by omega)
 have hx4:=(hb2.no hN3.mod).mod ht4.mod (by omega)
 refine aC (qEK (hg.no hM4) (hs.no hM4) (fun z hz=>Nat.lt_of_lt_of_le (hsl z hz) hM4.size) hl) ?_
 rintro v w5 ⟨b,lb,rfl,hlb,hbb,hsb,hm5⟩
 refine ⟨⟨some ⟨b,0,none⟩,32,32⟩,rfl,?_⟩
 refine gK (e:=5) u26 ⟨_,rfl,aE (fun h=>by simp at h) fun _=>?_⟩
 have hM5:=hM4.tr hm5
 refine ⟨h.a,h.b,h.c,h.d,h.e,h.f,h.g,rdH (hq4.no hm5),?_⟩
 refine aC (kF (h:=h) (H.no hM5)) ?_
 rintro u w7 ⟨rfl,hm7⟩
 rw [hsh]
 refine ⟨_,rfl,aE (fun h=>by cases h) fun _=>?_⟩
 have hm47:=hm5.tr hm7
 have hM7:=hM4.tr hm47
 refine ⟨h.a,h.b,h.c,h.d,h.e,h.f,h.g,rdH (hp4.no hm47),?_⟩
 refine aC (qUH (h:=h) (H.no hM7)) ?_
 rintro u w9 ⟨h',rfl,H',hn',hm9⟩
 refine ⟨h'.a,h'.b,h'.c,h'.d,h'.e,h'.f,h'.g,rfl,?_⟩
 have hm49:=hm47.tr hm9
 have hM9:=hM4.tr hm49
 have s4:w4.heap.size=w3.heap.size:=ht4.size
 have s7:=hm47.size
 refine bY (h:=h') (by kernel_rfl) (by kernel_rfl) (hp4.no hm49) rfl fun w10 ht10 hp10=>?_
 have hM10:Mod NoB w w10:=hM9.fresh ht10.mod fun z e=>by omega
 have H10:cN w10 h' r:=H'.mod ht10.mod fun z hz e=>by have:=hn' z hz; omega
 have hq10:=(hq4.no hm49).mod ht10.mod (by omega)
 have hx10:=(hx4.no hm49).mod ht10.mod (by omega)
 refine ⟨h.a,h.b,h.c,h.d,h.e,h.f,h.g,rdH hq10,?_⟩
 refine iB (z6 (h:=h) (H.no hM10)) fun tx w11 hot hft hm11=>?_
 refine kD (wb:=w11) [tx] [r.text] rfl rfl (by omega) (by omega) (Mod.refl _ _) rfl (qPD hot.rd fun z hz=>hot.lt hz) fun ty w12 hR hm12 _=>⟨ty,rfl,?_⟩
 have hm1012:=hm11.tr hm12
 have hM12:=hM10.tr hm1012
 obtain ⟨ss,o1,f1,l1,c1⟩:=hR
 refine uO (qRB (hg.no hM12) (hs.no hM12) (fun z hz=>Nat.lt_of_lt_of_le (hsl z hz) hM12.size) hl o1.rd (fun z hz=>o1.lt hz) l1 (fun i a b=>⟨(c1 i a b).1,fun z hz=>((c1 i a b).2 z hz).1⟩) (by have:=rC (r:=r); simp; omega) (by simp)) fun sg lg w13 hog hlg hfg hm13=>?_
 have hm1013:=hm1012.tr hm13
 have hM13:=hM10.tr hm1013
 refine dP (i:=6) (by kernel_rfl) (by kernel_rfl) rfl (hp10.no hm1013) (by rw [Hd.len]; omega) fun w14 ht14 hp14=>?_
 have hp14':Blk w14 p (Hd.cells ⟨h'.a,h'.b,h'.c,h'.d,h'.e,h'.f,sg⟩) 40:=hp14
 refine ⟨h'.a,h'.b,h'.c,h'.d,h'.e,h'.f,sg,rdH hp14',?_⟩
 refine bY (h:=⟨h'.a,h'.b,h'.c,h'.d,h'.e,h'.f,sg⟩) (by kernel_rfl) (by kernel_rfl) ((hx10.no hm1013).mod ht14.mod (by omega)) rfl fun w15 ht15 hx15=>?_
 refine ⟨h'.a,h'.b,h'.c,h'.d,h'.e,h'.f,sg,rdH hx15,?_⟩
 have hm1315:Mod (fun z=>z=p∨z=x) w13 w15:=(ht14.mod.mono fun _ _ e=>.inl e).tr (ht15.mod.mono fun _ _ e=>.inr e)
 have hnew : ∀ z,h'.d.blk=some z∨h'.f.blk=some z∨h'.g.blk=some z→w7.heap.size≤z:=hn'
 have hsg : ∀ z,sg.blk=some z→w12.heap.size≤z:=hfg
 have s12:=hm1012.size; have s10:w10.heap.size=w9.heap.size:=ht10.size; have s9:=hm49.size
 have H13:=H10.no hm1013
 refine ⟨⟨h'.a,h'.b,h'.c,h'.d,h'.e,h'.f,sg⟩,lg,rfl,⟨H'.key,H'.cl,H'.sq,H'.gone,H13.ctx.mod hm1315 fun z hz e=>?_,H13.val.mod hm1315 fun z hz e=>?_,hog.rd.mod hm1315 fun z hz e=>?_,⟨sm1,sm2,sm3,by show lg.length≤1000000; omega⟩,?_⟩,hlg,?_,hM13.fresh hm1315 fun z e=>?_⟩
 ·have:=hnew z (.inl hz); omega
 ·have:=hnew z (.inr (.inl hz)); omega
 ·have:=hsg z hz; omega
 ·rintro z (hz | hz | hz)
  ·exact Nat.lt_of_lt_of_le (H13.lt z (.inl hz)) hm1315.size
  ·exact Nat.lt_of_lt_of_le (H13.lt z (.inr (.inl hz))) hm1315.size
  ·exact Nat.lt_of_lt_of_le (hog.lt hz) hm1315.size
 ·have s7':=hM7.size
  rintro z (hz | hz | hz)
  ·exact Nat.le_trans s7' (hnew z (.inl hz))
  ·exact Nat.le_trans s7' (hnew z (.inr (.inl hz)))
  ·have:=hsg z hz; have:=hM12.size; omega
 ·omega
end
def sh7 (w:World) (R:RW):Prop:=
 aD prog 27 [.string ⟨([107]).toArray⟩,.int .i64 (1:Int),.int .i64 (1:Int),.slice none 0 0] w (aH R) fun v w1=>∃ xa:List UInt8,∃ xb xc:Int,∃ xd:Slc,∃ xe:Bool,∃ xf xg:Slc,v=(zR xa xb xc xd xe xf xg)∧aD prog 27 [.string ⟨([107]).toArray⟩,.int .i64 (2:Int),.int .i64 (1:Int),.slice none 0 0] w1 (aH R) fun v1 w2=>∃ xa1:List UInt8,∃ xb1 xc1:Int,∃ xd1:Slc,∃ xe1:Bool,∃ xf1 xg1:Slc,v1=(zR xa1 xb1 xc1 xd1 xe1 xf1 xg1)∧aF prog (Instr.alloc 40 true (.tuple #[])) w2 fun v2 w3=>∃ a:Option Addr,v2=(.pointer a)∧aF prog (Instr.alloc 40 true (.tuple #[])) w3 fun v3 w4=>∃ b:Option Addr,v3=(.pointer b)∧aA a fun a1=>aJ prog (storeVar 40 a1 (zR xa xb xc xd xe xf xg)) w4 fun w5=>aA b fun a2=>aJ prog (storeVar 40 a2 (zR xa1 xb1 xc1 xd1 xe1 xf1 xg1)) w5 fun w6=>aF prog (Instr.buildSlice 37 1 #[(0,(.agg #[.int .i64 (1:Int),.int .i64 (1:Int)]))]) w6 fun v4 w7=>∃ x:Slc,v4=(zS x)∧aD prog 27 [.string ⟨([107]).toArray⟩,.int .i64 (3:Int),.int .i64 (1:Int),zS x] w7 (aH R) fun v5 w8=>∃ xa2:List UInt8,∃ xb2 xc2:Int,∃ xd2:Slc,∃ xe2:Bool,∃ xf2 xg2:Slc,v5=(zR xa2 xb2 xc2 xd2 xe2 xf2 xg2)∧aF prog (Instr.alloc 40 true (.tuple #[])) w8 fun v6 w9=>∃ c:Option Addr,v6=(.pointer c)∧aA c fun a3=>aJ prog (storeVar 40 a3 (zR xa2 xb2 xc2 xd2 xe2 xf2 xg2)) w9 fun w10=>∃ sx:World→Prop,sx w10.drew∧aA c fun a4=>∃ xa3:List UInt8,∃ xb3 xc3:Int,∃ xd3:Slc,∃ xe3:Bool,∃ xf3 xg3:Slc,(∀ w',sx w'→Rd w' a4 (yR xa3 xb3 xc3 xd3 xe3 xf3 xg3))∧aA a fun a5=>∃ xa4:List UInt8,∃ xb4 xc4:Int,∃ xd4:Slc,∃ xe4:Bool,∃ xf4 xg4:Slc,(∀ w',sx w'→Rd w' a5 (yR xa4 xb4 xc4 xd4 xe4 xf4 xg4))∧aA b fun a6=>∃ xa5:List UInt8,∃ xb5 xc5:Int,∃ xd5:Slc,∃ xe5:Bool,∃ xf5 xg5:Slc,(∀ w',sx w'→Rd w' a6 (yR xa5 xb5 xc5 xd5 xe5 xf5 xg5))∧aA b fun a7=>∃ xa6:List UInt8,∃ xb6 xc6:Int,∃ xd6:Slc,∃ xe6:Bool,∃ xf6 xg6:Slc,(∀ w',sx w'→Rd w' a7 (yR xa6 xb6 xc6 xd6 xe6 xf6 xg6))∧aA c fun a8=>∃ xa7:List UInt8,∃ xb7 xc7:Int,∃ xd7:Slc,∃ xe7:Bool,∃ xf7 xg7:Slc,(∀ w',sx w'→Rd w' a8 (yR xa7 xb7 xc7 xd7 xe7 xf7 xg7))∧((aF prog (Instr.buildSlice 22 3 #[(0,(zR xa3 xb3 xc3 xd3 xe3 xf3 xg3)),(1,(zR xa4 xb4 xc4 xd4 xe4 xf4 xg4)),(2,(zR xa5 xb5 xc5 xd5 xe5 xf5 xg5))]) w10.drew fun v7 w11=>∃ x1:Slc,v7=(zS x1)∧(sx w11∧((aD prog 11 [zS x1] w11 (aH R) fun v8 w12=>∃ x2:Slc,v8=(zS x2)∧(sx w12∧((aF prog (Instr.buildSlice 22 2 #[(0,(zR xa6 xb6 xc6 xd6 xe6 xf6 xg6)),(1,(zR xa7 xb7 xc7 xd7 xe7 xf7 xg7))]) w12 fun v9 w13=>∃ x3:Slc,v9=(zS x3)∧(sx w13∧((aD prog 14 [zS x2,zS x3] w13 (aH R) fun v10 w14=>∃ x4:Bool,v10=(.bool x4)∧(sx w14∧aG x4 (aA a fun a9=>∃ xa8:List UInt8,∃ xb8 xc8:Int,∃ xd8:Slc,∃ xe8:Bool,∃ xf8 xg8:Slc,(∀ w',sx w'→Rd w' a9 (yR xa8 xb8 xc8 xd8 xe8 xf8 xg8))∧aA b fun a10=>∃ xa9:List UInt8,∃ xb9 xc9:Int,∃ xd9:Slc,∃ xe9:Bool,∃ xf9 xg9:Slc,(∀ w',sx w'→Rd w' a10 (yR xa9 xb9 xc9 xd9 xe9 xf9 xg9))∧aA c fun a11=>∃ xa10:List UInt8,∃ xb10 xc10:Int,∃ xd10:Slc,∃ xe10:Bool,∃ xf10 xg10:Slc,(∀ w',sx w'→Rd w' a11 (yR xa10 xb10 xc10 xd10 xe10 xf10 xg10))∧((aF prog (Instr.buildSlice 22 3 #[(0,(zR xa8 xb8 xc8 xd8 xe8 xf8 xg8)),(1,(zR xa9 xb9 xc9 xd9 xe9 xf9 xg9)),(2,(zR xa10 xb10 xc10 xd10 xe10 xf10 xg10))]) w14 fun v11 w15=>∃ x5:Slc,v11=(zS x5)∧(sx w15∧((aD prog 10 [zS x5] w15 (aH R) fun v12 w16=>∃ x6:Slc,v12=(zS x6)∧(sx w16∧R (.returned (.bool ((x6.len:Int)==(1:Int)))) w16))∧True)))∧True)) ((((sx w14∧(((sx w14∧R (.returned (.bool false)) w14))∧True)))∧True))))∧True)))∧True)))∧(aF prog (Instr.buildSlice 22 2 #[(0,(zR xa6 xb6 xc6 xd6 xe6 xf6 xg6)),(1,(zR xa7 xb7 xc7 xd7 xe7 xf7 xg7))]) w11 fun v13 w17=>∃ x7:Slc,v13=(zS x7)∧(sx w17∧((aD prog 11 [zS x1] w17 (aH R) fun v14 w18=>∃ x8:Slc,v14=(zS x8)∧(sx w18∧((aD prog 14 [zS x8,zS x7] w18 (aH R) fun v15 w19=>∃ x9:Bool,v15=(.bool x9)∧(sx w19∧aG x9 (aA a fun a12=>∃ xa11:List UInt8,∃ xb11 xc11:Int,∃ xd11:Slc,∃ xe11:Bool,∃ xf11 xg11:Slc,(∀ w',sx w'→Rd w' a12 (yR xa11 xb11 xc11 xd11 xe11 xf11 xg11))∧aA b fun a13=>∃ xa12:List UInt8,∃ xb12 xc12:Int,∃ xd12:Slc,∃ xe12:Bool,∃ xf12 xg12:Slc,(∀ w',sx w'→Rd w' a13 (yR xa12 xb12 xc12 xd12 xe12 xf12 xg12))∧aA c fun a14=>∃ xa13:List UInt8,∃ xb13 xc13:Int,∃ xd13:Slc,∃ xe13:Bool,∃ xf13 xg13:Slc,(∀ w',sx w'→Rd w' a14 (yR xa13 xb13 xc13 xd13 xe13 xf13 xg13))∧((aF prog (Instr.buildSlice 22 3 #[(0,(zR xa11 xb11 xc11 xd11 xe11 xf11 xg11)),(1,(zR xa12 xb12 xc12 xd12 xe12 xf12 xg12)),(2,(zR xa13 xb13 xc13 xd13 xe13 xf13 xg13))]) w19 fun v16 w20=>∃ x10:Slc,v16=(zS x10)∧(sx w20∧((aD prog 10 [zS x10] w20 (aH R) fun v17 w21=>∃ x11:Slc,v17=(zS x11)∧(sx w21∧R (.returned (.bool ((x11.len:Int)==(1:Int)))) w21))∧True)))∧True)) ((((sx w19∧(((sx w19∧R (.returned (.bool false)) w19))∧True)))∧True))))∧True)))∧True)))∧True)))∧(aF prog (Instr.buildSlice 22 2 #[(0,(zR xa6 xb6 xc6 xd6 xe6 xf6 xg6)),(1,(zR xa7 xb7 xc7 xd7 xe7 xf7 xg7))]) w10.drew fun v18 w22=>∃ x12:Slc,v18=(zS x12)∧(sx w22∧((aF prog (Instr.buildSlice 22 3 #[(0,(zR xa3 xb3 xc3 xd3 xe3 xf3 xg3)),(1,(zR xa4 xb4 xc4 xd4 xe4 xf4 xg4)),(2,(zR xa5 xb5 xc5 xd5 xe5 xf5 xg5))]) w22 fun v19 w23=>∃ x13:Slc,v19=(zS x13)∧(sx w23∧((aD prog 11 [zS x13] w23 (aH R) fun v20 w24=>∃ x14:Slc,v20=(zS x14)∧(sx w24∧((aD prog 14 [zS x14,zS x12] w24 (aH R) fun v21 w25=>∃ x15:Bool,v21=(.bool x15)∧(sx w25∧aG x15 (aA a fun a15=>∃ xa14:List UInt8,∃ xb14 xc14:Int,∃ xd14:Slc,∃ xe14:Bool,∃ xf14 xg14:Slc,(∀ w',sx w'→Rd w' a15 (yR xa14 xb14 xc14 xd14 xe14 xf14 xg14))∧aA b fun a16=>∃ xa15:List UInt8,∃ xb15 xc15:Int,∃ xd15:Slc,∃ xe15:Bool,∃ xf15 xg15:Slc,(∀ w',sx w'→Rd w' a16 (yR xa15 xb15 xc15 xd15 xe15 xf15 xg15))∧aA c fun a17=>∃ xa16:List UInt8,∃ xb16 xc16:Int,∃ xd16:Slc,∃ xe16:Bool,∃ xf16 xg16:Slc,(∀ w',sx w'→Rd w' a17 (yR xa16 xb16 xc16 xd16 xe16 xf16 xg16))∧((aF prog (Instr.buildSlice 22 3 #[(0,(zR xa14 xb14 xc14 xd14 xe14 xf14 xg14)),(1,(zR xa15 xb15 xc15 xd15 xe15 xf15 xg15)),(2,(zR xa16 xb16 xc16 xd16 xe16 xf16 xg16))]) w25 fun v22 w26=>∃ x16:Slc,v22=(zS x16)∧(sx w26∧((aD prog 10 [zS x16] w26 (aH R) fun v23 w27=>∃ x17:Slc,v23=(zS x17)∧(sx w27∧R (.returned (.bool ((x17.len:Int)==(1:Int)))) w27))∧True)))∧True)) ((((sx w25∧(((sx w25∧R (.returned (.bool false)) w25))∧True)))∧True))))∧True)))∧True)))∧True)))∧True)
theorem qTR {w:World} {R:RW} (hden:sh7 w R):Calls prog 7 #[] w R:=
 aB (q0 .z (q0 .z (q0 .z (q0 (.draw 1 (.take 0 (.take 1 (.take 2 (.take 5 (.take 6 (.all [(3,(.all [(4,(.all [(7,(.all [(8,(.take 9 (.take 10 (.take 11 (.take 12 (.all [(13,(.all [(14,(.take 15 (.take 16 (.take 17 (.take 18 .done)))))]))]))))))]))])),(7,(.all [(4,(.all [(8,(.take 9 (.take 10 (.take 11 (.take 12 (.all [(13,(.all [(14,(.take 15 (.take 16 (.take 17 (.take 18 .done)))))]))]))))))]))]))])),(7,(.all [(3,(.all [(4,(.all [(8,(.take 9 (.take 10 (.take 11 (.take 12 (.all [(13,(.all [(14,(.take 15 (.take 16 (.take 17 (.take 18 .done)))))]))]))))))]))]))]))]))))))) .z)))) func7 (by kernel_rfl) [] (by kernel_rfl) (by kernel_rfl) hden
def sh8 (l:Slc) (w:World) (R:RW):Prop:=
 ∃ (inv:List TV→World→Prop) (mu:List TV→World→Nat),inv [.i .i64 (0:Int)] w∧(∀ i:Int,∀ w1:World,inv [.i .i64 i] w1→∃ j:List TV→World→Prop,(aG (decide (i<(l.len:Int))) (j [.b (decide (i<(17:Int)))] w1) (j [.b false] w1))∧(∀ x:Bool,∀ w2:World,j [.b x] w2→aG x (((0≤i∧i<(l.len:Nat))∧aA l.a fun a=>∃ x1:List UInt8,Rd w2 ((a.add (i.toNat*7)).add 0) [.string ⟨x1.toArray⟩]∧aG (decide ((x1.length:Int) > (200:Int))) (R (.returned (.bool false)) w2) (((0≤i∧i<(l.len:Nat))∧aA l.a fun a1=>∃ x2:Slc,Rd w2 ((a1.add (i.toNat*7)).add 5) [zS x2]∧aG (decide ((x2.len:Int) > (2000:Int))) (R (.returned (.bool false)) w2) (((0≤i∧i<(l.len:Nat))∧aA l.a fun a2=>∃ x3:Slc,Rd w2 ((a2.add (i.toNat*7)).add 3) [zS x3]∧aG (decide ((x3.len:Int) > (50:Int))) (R (.returned (.bool false)) w2) (((0≤i∧i<(l.len:Nat))∧aA l.a fun a3=>∃ x4:Slc,Rd w2 ((a3.add (i.toNat*7)).add 6) [zS x4]∧aG (decide ((x4.len:Int) > (200:Int))) (R (.returned (.bool false)) w2) ((inv [.i .i64 (IntKind.i64.wrap (i+(1:Int)))] w2∧mu [.i .i64 (IntKind.i64.wrap (i+(1:Int)))] w2<mu [.i .i64 i] w1)))))))))) (R (.returned (.bool (decide ((l.len:Int)≤(16:Int))))) w2)))
theorem qUS (l:Slc) {w:World} {R:RW} (hden:sh8 l w R):Calls prog 8 #[zS l] w R:=
 aB (q0 .z (q0 (q0 .z (.block none (.loop [(3,(.i .i64))] (q0 (.seq (some [(11,.b)]) .z (.cond .z .z)) (q0 (.block none (q0 .z (.cond (q0 .z .z) .z))) .z))))) (q0 .z .z))) func8 (by kernel_rfl) [.sl l] (by kernel_rfl) (by kernel_rfl) hden
def qUF (key:List UInt8) (client seq:Int) (context:Slc) (w:World) (R:RW):Prop:=
 aF prog (Instr.alloc 40 true (.tuple #[])) w fun v w1=>∃ x:Option Addr,v=(.pointer x)∧aD prog 56 [.int .i64 client] w1 (aH R) fun v1 w2=>∃ x1:Slc,v1=(zS x1)∧aD prog 55 [zS x1,.agg #[.string ⟨key.toArray⟩,.int .i64 client,.int .i64 seq,zS context,.bool false,.slice none 0 0,.slice none 0 0]] w2 (aH R) fun v2 w3=>∃ xaa:List UInt8,∃ xab xac:Int,∃ xad:Slc,∃ xae:Bool,∃ xaf xag:Slc,∃ xb:Int,v2=(.tuple #[zR xaa xab xac xad xae xaf xag,.int .i64 xb])∧aF prog (Instr.alloc 40 true (.tuple #[])) w3 fun v3 w4=>∃ r:Option Addr,v3=(.pointer r)∧aA r fun a=>aJ prog (storeVar 40 a (zR xaa xab xac xad xae xaf xag)) w4 fun w5=>aA r fun a1=>∃ xa:List UInt8,∃ xb1 xc:Int,∃ xd:Slc,∃ xe:Bool,∃ xf xg:Slc,Rd w5 a1 (yR xa xb1 xc xd xe xf xg)∧aA x fun a2=>aJ prog (storeVar 40 a2 (zR xa xb1 xc xd xe xf xg)) w5 fun w6=>aA x fun a3=>∃ xa1:List UInt8,∃ xb2 xc1:Int,∃ xd1:Slc,∃ xe1:Bool,∃ xf1 xg1:Slc,Rd w6 a3 (yR xa1 xb2 xc1 xd1 xe1 xf1 xg1)∧R (.returned (zR xa1 xb2 xc1 xd1 xe1 xf1 xg1)) w6
theorem qS2 (key:List UInt8) (client seq:Int) (context:Slc) {w:World} {R:RW} (hden:qUF key client seq context w R):Calls prog 27 #[.string ⟨key.toArray⟩,.int .i64 client,.int .i64 seq,zS context] w R:=
 aB (q0 .z (q0 .z (q0 .z .z))) func27 (by kernel_rfl) [.s key,.i .i64 client,.i .i64 seq,.sl context] (by kernel_rfl) (by kernel_rfl) hden
def qVZ (client:Int) (w:World) (R:RW):Prop:=
 aF prog (Instr.makeSlice 38 (.int .i64 (32:Int)) (.int .i64 (32:Int))) w fun v w1=>∃ x:Slc,v=(zS x)∧∃ (inv:List TV→World→Prop) (mu:List TV→World→Nat),inv [.i .i64 (0:Int)] w1∧(∀ i:Int,∀ w2:World,inv [.i .i64 i] w2→aG (decide (i<(32:Int))) (((0≤i∧i<(x.len:Nat))∧aA x.a fun a=>aJ prog (storeVar 5 (a.add (i.toNat*1)) (.int .u8 ((pE (IntKind.i64.wrap ((IntKind.i64.wrap (client*(7:Int)))+i)))).toNat)) w2 fun w3=>(inv [.i .i64 (IntKind.i64.wrap (i+(1:Int)))] w3∧mu [.i .i64 (IntKind.i64.wrap (i+(1:Int)))] w3<mu [.i .i64 i] w2))) (R (.returned (zS x)) w2))
theorem qS6 (client:Int) {w:World} {R:RW} (hden:qVZ client w R):Calls prog 56 #[.int .i64 client] w R:=
 aB (q0 .z (q0 .z (q0 (q0 .z (.block none (.loop [(4,(.i .i64))] (q0 (q0 .z (.cond .z .z)) (q0 (.block none .z) .z))))) (q0 .z .z)))) func56 (by kernel_rfl) [.i .i64 client] (by kernel_rfl) (by kernel_rfl) hden
end Go.Proofs.YthaefcgpbccmbaaGreatDoor
end
section
namespace Go.Proofs.YthaefcgpbccmbaaGreatDoor
open Go Go.Sh Go.MapKept
open Go.Proofs.Tryz
section
variable {w:World}
theorem qTC {client:Int} : Calls prog 56 #[.int .i64 client] w (Ret (RN 32 w)):=by
 refine qS6 _ ?_
 unfold qVZ
 obtain ⟨i5',h51,h52,h53,h54⟩:=i5
 refine cL (l:=32) (c:=32) u26 h51 h52 h53 rfl h54 rfl rfl (by omega) (by omega) (by omega) fun e w1 hN1 hb1 ho1=>⟨⟨some ⟨e,0,none⟩,32,32⟩,rfl,?_⟩
 rw [jG] at ho1
 have hat:=hN1.at_
 refine ⟨fun l' w'=>match l' with | [.i _ x]=>∃ (k:Nat) (l:List UInt8),x=k∧l.length=32∧Sh.Own w' ⟨some ⟨e,0,none⟩,32,32⟩ 1 (bys l)∧Mod NoB w w' | _=>False,fun l' _=>match l' with | [.i _ x]=>(32 - x).toNat | _=>0,
  ⟨0,List.replicate 32 0,rfl,by simp,ho1,hN1.mod⟩,?_⟩
 rintro x w2 ⟨k,l,rfl,hl,ho2,hm2⟩
 refine aE (fun hlt=>?_) fun hge=>?_
 ·have hk:k<32:=by have:=of_decide_eq_true hlt; omega
  refine ⟨⟨by omega,by show (k:Int)<((32:Nat):Int); omega⟩,?_⟩
  simp only [Int.toNat_natCast]
  refine jA (by kernel_rfl) (by kernel_rfl) rfl ho2 rfl hk fun w3 ho3 hm3 hs3=>⟨⟨k+1,_,aP (by omega),?_,by rw [fL] at ho3; exact ho3,hm2.fresh hm3 fun z hz=>?_⟩,?_⟩
  ·simp [hl]
  ·rw [Slc.blk_mk,if_neg (by omega)] at hz; cases hz; omega
  ·rw [aP (by omega)]; (try simp only []); omega
 ·exact ⟨⟨some ⟨e,0,none⟩,32,32⟩,l,rfl,ho2,hl,FB.new (by omega),hm2⟩
theorem pO {key:List UInt8} {cl sq:Int} {ctx:Slc} {cx:List (Int×Int)} (hg:iE w) (hc:aK w ctx 2 (dts cx)) (hcl : ∀ z,ctx.blk=some z→z<w.heap.size)
 (hk:key.length≤1000000) (hcx:cx.length≤1000000) (hsh:Rc.shaped ⟨key,cl,sq,cx,false,[],[]⟩=true) :
 Calls prog 27 #[.string ⟨key.toArray⟩,.int .i64 cl,.int .i64 sq,.slice ctx.a ctx.len ctx.cap] w (Ret fun v w'=>∃ (h':Hd) (sg:List UInt8),v=h'.val∧cN w' h' ⟨key,cl,sq,cx,false,[],sg⟩∧sg.length=64∧z8 w h'∧Mod NoB w w'):=by
 refine qS2 _ _ _ _ ?_
 unfold qUF
 obtain ⟨ir,hr1,hr2,hr3,hr4⟩:=lM
 refine aM (l:=Hd.cells ⟨[],0,0,⟨none,0,0⟩,false,⟨none,0,0⟩,⟨none,0,0⟩⟩) hr1 hr2 rfl fun x w1 hN1 hb1=>⟨_,rfl,?_⟩
 refine uO qTC fun s l w2 hos hl hfs hm2=>?_
 have hM2:=hN1.mod.tr hm2
 have H:cN w2 ⟨key,cl,sq,ctx,false,⟨none,0,0⟩,⟨none,0,0⟩⟩ ⟨key,cl,sq,cx,false,[],[]⟩:=
  ⟨rfl,rfl,rfl,rfl,hc.no hM2,oD _ _,oD _ _,⟨hk,hcx,by simp,by simp⟩,fun z hz=>by
   rcases hz with hz | hz | hz
   ·exact Nat.lt_of_lt_of_le (hcl z hz) hM2.size
   ·simp at hz
   ·simp at hz⟩
 refine aC (qQ5 (h:=⟨key,cl,sq,ctx,false,⟨none,0,0⟩,⟨none,0,0⟩⟩) (hg.no hM2) hos.rd (fun z hz=>hos.lt hz) hl H hsh) ?_
 rintro v w3 ⟨h',sg,rfl,H',hsg,hnew,hm3⟩
 refine ⟨h'.a,h'.b,h'.c,h'.d,h'.e,h'.f,h'.g,0,rfl,?_⟩
 refine aM (l:=Hd.cells ⟨[],0,0,⟨none,0,0⟩,false,⟨none,0,0⟩,⟨none,0,0⟩⟩) hr1 hr2 rfl fun r w4 hN4 hb4=>⟨_,rfl,?_⟩
 have hM3:=hM2.tr hm3
 have s1:=hN1.size; have a1:=hN1.at_; have a4:=hN4.at_; have s3:=hM3.size; have s23:=(hm2.tr hm3).size; have s4:=hN4.size
 refine bY (h:=h') (by kernel_rfl) (by kernel_rfl) hb4 rfl fun w5 ht5 hb5=>?_
 have hm5:Mod NoB w3 w5:=hN4.mod.fresh ht5.mod fun z e=>by omega
 refine ⟨h'.a,h'.b,h'.c,h'.d,h'.e,h'.f,h'.g,rdH hb5,?_⟩
 have hx5:=(hb1.no (hm2.tr (hm3.tr hm5)))
 refine bY (h:=h') (by kernel_rfl) (by kernel_rfl) hx5 rfl fun w6 ht6 hb6=>?_
 refine ⟨h'.a,h'.b,h'.c,h'.d,h'.e,h'.f,h'.g,rdH hb6,h',sg,rfl,(H'.no hm5).mod ht6.mod fun z hz e=>?_,hsg,fun z hz=>?_,(hM3.tr hm5).fresh ht6.mod fun z e=>by omega⟩
 ·have:=hnew z hz; have:=hM2.size; have:=hm2.size; omega
 ·have:=hnew z hz; have:=hM2.size; omega
end
def lim (r:Rc):Prop:=r.key.length≤200∧r.val.length≤2000∧r.ctx.length≤50∧r.sig.length≤200
def qC2 (l:List Rc):Prop:=l.length≤16∧∀ r∈l,lim r
theorem uG {w:World} {a:Addr} {vs:List Value} {j:Nat} {v:Value} (h:Rd w a vs) (hj:vs[j]? = some v):Rd w (a.add j) [v]:=lH.2 (h j v hj)
theorem qKH {w:World} {s:Slc} {ls:List Rc} (hl:iK w s ls) (hn:s.len≤9000000000000000000) :
 Calls prog 8 #[.slice s.a s.len s.cap] w (Ret fun v w'=>∃ b,v = .bool b∧(b=true→qC2 ls)∧w'=w):=by
 refine qUS _ ?_
 unfold sh8
 have hlen:=hl.len
 obtain ⟨hs,g1,g2,g3,g4⟩:=hl
 refine ⟨fun l' w'=>match l' with | [.i _ x]=>∃ k:Nat,x=k∧k≤17∧k≤ls.length∧(∀ r∈ls.take k,lim r)∧w'=w | _=>False,fun l' _=>match l' with | [.i _ x]=>(17 - x).toNat | _=>0,⟨0,rfl,by omega,by omega,by simp,rfl⟩,?_⟩
 rintro x w1 ⟨k,rfl,hk,hkl,hk2,rfl⟩
 refine ⟨fun l' w'=>match l' with | [.b t]=>t=decide (k<ls.length∧k<17)∧w'=w1 | _=>False,aE (fun h=>⟨?_,rfl⟩) (fun h=>⟨?_,rfl⟩),?_⟩
 ·have:=of_decide_eq_true h
  exact decide_eq_decide.2 ⟨fun _=>⟨by omega,by omega⟩,fun _=>by omega⟩
 ·have:=of_decide_eq_false h
  exact (decide_eq_false (by omega)).symm
 ·rintro x w2 ⟨rfl,rfl⟩
  refine aE (fun h=>?_) fun h=>?_
  ·have h:=of_decide_eq_true h
   have hk':k<hs.length:=by omega
   obtain ⟨A,ea,hrd⟩:=bQ Hd.len (by omega) g1 hk'
   have H:=g4 k hk' (by omega)
   have hc:=iD H.ctx
   have hv:=aY H.val
   have hg:=aY H.sig
   rw [ea]
   refine ⟨⟨by omega,by omega⟩,hs[k].a,uG (j:=0) hrd rfl,aE (fun h1=>⟨false,rfl,(fun h=>by cases h),rfl⟩) fun h1=>?_⟩
   have h1:=of_decide_eq_false h1
   refine ⟨⟨by omega,by omega⟩,hs[k].f,uG (j:=5) hrd rfl,aE (fun h2=>⟨false,rfl,(fun h=>by cases h),rfl⟩) fun h2=>?_⟩
   have h2:=of_decide_eq_false h2
   refine ⟨⟨by omega,by omega⟩,hs[k].d,uG (j:=3) hrd rfl,aE (fun h3=>⟨false,rfl,(fun h=>by cases h),rfl⟩) fun h3=>?_⟩
   have h3:=of_decide_eq_false h3
   refine ⟨⟨by omega,by omega⟩,hs[k].g,uG (j:=6) hrd rfl,aE (fun h4=>⟨false,rfl,(fun h=>by cases h),rfl⟩) fun h4=>?_⟩
   have h4:=of_decide_eq_false h4
   refine ⟨⟨k+1,aP (by omega),by omega,by omega,fun r hr=>?_,rfl⟩,?_⟩
   ·rw [aT (show k<ls.length by omega)] at hr
    rcases List.mem_append.1 hr with hr | hr
    ·exact hk2 r hr
    ·simp at hr; subst hr
     rw [H.key] at h1
     exact ⟨by omega,by omega,by omega,by omega⟩
   ·rw [aP (by omega)]; (try simp only []); omega
  ·have h:=of_decide_eq_false h
   refine ⟨_,rfl,fun hb=>?_,rfl⟩
   have hb:=of_decide_eq_true hb
   rw [List.take_of_length_le (by omega)] at hk2
   exact ⟨by omega,hk2⟩
theorem iK.at {w:World} {s:Slc} {ls:List Rc} (h:iK w s ls) (hq:qC2 ls):bP w.heap.size w s ls:=by
 obtain ⟨hs,h1,h2,h3,h4⟩:=h
 refine ⟨hs,h1,h2,h3,fun i a b=>⟨(h4 i a b).at ?_,fun z hz=>(h4 i a b).lt z hz⟩⟩
 have:=hq.2 ls[i] (List.getElem_mem _)
 exact ⟨by have:=this.1; omega,by have:=this.2.2.1; omega,by have:=this.2.1; omega,by have:=this.2.2.2; omega⟩
end Go.Proofs.YthaefcgpbccmbaaGreatDoor
end
section
namespace Go.Sh
def exA (s:List UInt8):Rc:=⟨[107],1,1,[],false,[],s⟩
def exB (s:List UInt8):Rc:=⟨[107],2,1,[],false,[],s⟩
def exC (s:List UInt8):Rc:=⟨[107],3,1,[(1,1)],false,[],s⟩
theorem qVR {s:List UInt8} (h:s.length=64):(exA s).right=true:=by simp only [Rc.right,exA,h]; rfl
theorem qUZ {s:List UInt8} (h:s.length=64):(exB s).right=true:=by simp only [Rc.right,exB,h]; rfl
theorem qVK {s:List UInt8} (h:s.length=64):(exC s).right=true:=by simp only [Rc.right,exC,h]; rfl
theorem kY {sa sb sc:List UInt8} (ha:sa.length=64) (hb:sb.length=64) (hc:sc.length=64) {ls:List Rc} (hs : ∀ r,r∈ls↔r=exA sa∨r=exB sb∨r=exC sc) {L:List (List UInt8×List Rc)} (h:fD ls L) :
 L=[([107],[exB sb,exC sc])]:=by
 have hr : ∀ k r,r∈aV ls k↔k=[107]∧(r=exA sa∨r=exB sb∨r=exC sc):=fun k r=>by
  simp only [aV,List.mem_filter,hs,Bool.and_eq_true,decide_eq_true_eq]
  constructor
  ·rintro ⟨rfl | rfl | rfl,_,h2⟩
   ·exact ⟨h2.symm,.inl rfl⟩
   ·exact ⟨h2.symm,.inr (.inl rfl)⟩
   ·exact ⟨h2.symm,.inr (.inr rfl)⟩
  ·rintro ⟨rfl,rfl | rfl | rfl⟩
   ·exact ⟨.inl rfl,qVR ha,rfl⟩
   ·exact ⟨.inr (.inl rfl),qUZ hb,rfl⟩
   ·exact ⟨.inr (.inr rfl),qVK hc,rfl⟩
 have hcp:fU (aV ls [107]) [exA sa,exB sb,exC sc]:=by
  refine ⟨?_,fun r=>?_⟩
  ·simp only [List.pairwise_cons,List.mem_cons,List.not_mem_nil,or_false,forall_eq_or_imp,forall_eq,dW,exA,exB,exC]
   refine ⟨⟨.inl (by decide),.inl (by decide)⟩,.inl (by decide),fun a h=>h.elim,List.Pairwise.nil⟩
  ·rw [hr]
   simp only [List.mem_cons,List.not_mem_nil,or_false,true_and]
   constructor
   ·intro hm
    refine ⟨hm,fun r' hr' h1 _=>?_⟩
    rw [hr] at hr'
    have:r'=r:=by
     rcases hm with rfl | rfl | rfl <;> rcases hr'.2 with rfl | rfl | rfl <;> first | rfl | exact absurd h1 (by simp [exA,exB,exC])
    subst this
    exact List.lt_irrefl _
   ·exact fun h=>h.1
 have e:fT [exA sa,exB sb,exC sc]=[exB sb,exC sc]:=by
  have o1:(exC sc).over (exA sa)=true:=by rfl
  have o2:(exB sb).over (exA sa)=false:=by rfl
  have o3:(exA sa).over (exB sb)=false:=by rfl
  have o4:(exC sc).over (exB sb)=false:=by rfl
  have o5:(exA sa).over (exC sc)=false:=by rfl
  have o6:(exB sb).over (exC sc)=false:=by rfl
  simp only [fT,List.filter_cons,List.filter_nil,List.any_cons,List.any_nil,o1,o2,o3,o4,o5,o6]
  simp [exA,exB,exC]
 refine h.uniq (l':=ls) ⟨?_,fun k s=>?_⟩ fun r=>Iff.rfl
 ·exact List.pairwise_cons.2 ⟨fun a h=>by simp at h,List.Pairwise.nil⟩
 ·simp only [List.mem_cons,List.not_mem_nil,or_false,Prod.mk.injEq]
  constructor
  ·rintro ⟨rfl,rfl⟩
   exact ⟨by simp,_,hcp,e.symm⟩
  ·rintro ⟨h1,c,hc1,rfl⟩
   by_cases hk:k=[107]
   ·subst hk
    refine ⟨rfl,?_⟩
    rw [hc1.uniq hcp fun r=>Iff.rfl,e]
   ·have:c=[]:=List.eq_nil_iff_forall_not_mem.2 fun r hr'=>hk ((hr k r).1 ((hc1.mem r).1 hr').1).1
    subst this
    exact absurd rfl h1
end Go.Sh
end
section
namespace Go.Proofs.YthaefcgpbccmbaaGreatDoor
open Go Go.Sh Go.MapKept
open Go.Proofs.Tryz
theorem bP.r {B:Nat} {w:World} {s:Slc} {ls:List Rc} (h:bP B w s ls):iH w s ls:=by
 obtain ⟨hs,h1,h2,h3,h4⟩:=h
 exact ⟨hs,h1,h3,fun i a b=>(h4 i a b).1⟩
theorem iG.len {w:World} {o:Slc} {L:Lv} (h:iG w o L):L.length=o.len:=by
 obtain ⟨es,g1,g2,_⟩:=h
 have:=bI bA (by omega) g1; omega
section
variable {w:World}
theorem qID (hg:iE w):Calls prog 7 #[] w (Ret fun v w'=>v = .bool true∧Mod NoB w w'):=by
 refine qTR ?_
 unfold sh7
 obtain ⟨ir,hr1,hr2,hr3,hr4⟩:=lM
 obtain ⟨id,hd1,hd2,hd3,hd4⟩:=xI
 refine aC (pO (key:=[107]) (cl:=1) (sq:=1) (ctx:=⟨none,0,0⟩) (cx:=[]) hg (oD _ _) (by simp) (by simp) (by simp) (by rfl)) ?_
 rintro v w1 ⟨ha,sa,rfl,Ha,la,na,hm1⟩
 refine ⟨ha.a,ha.b,ha.c,ha.d,ha.e,ha.f,ha.g,rfl,?_⟩
 refine aC (pO (key:=[107]) (cl:=2) (sq:=1) (ctx:=⟨none,0,0⟩) (cx:=[]) (hg.no hm1) (oD _ _) (by simp) (by simp) (by simp) (by rfl)) ?_
 rintro v w2 ⟨hb,sb,rfl,Hb,lb,nb,hm2⟩
 refine ⟨hb.a,hb.b,hb.c,hb.d,hb.e,hb.f,hb.g,rfl,?_⟩
 refine aM (l:=Hd.cells ⟨[],0,0,⟨none,0,0⟩,false,⟨none,0,0⟩,⟨none,0,0⟩⟩) hr1 hr2 rfl fun p w3 hN3 hp3=>⟨_,rfl,?_⟩
 refine aM (l:=Hd.cells ⟨[],0,0,⟨none,0,0⟩,false,⟨none,0,0⟩,⟨none,0,0⟩⟩) hr1 hr2 rfl fun q w4 hN4 hq4=>⟨_,rfl,?_⟩
 have e3:=hN3.at_; have e4:=hN4.at_; have s3:=hN3.size; have s4:=hN4.size
 refine bY (h:=ha) (by kernel_rfl) (by kernel_rfl) (hp3.no hN4.mod) rfl fun w5 ht5 hp5=>?_
 refine bY (h:=hb) (by kernel_rfl) (by kernel_rfl) (hq4.mod ht5.mod (by omega)) rfl fun w6 ht6 hq6=>?_
 have hp6:=hp5.mod ht6.mod (by omega)
 have hm26:Mod NoB w2 w6:=(((hN3.mod.tr hN4.mod).fresh ht5.mod fun z e=>by omega)).fresh ht6.mod fun z e=>by omega
 refine bT [.agg #[.int .i64 1,.int .i64 1]] (l:=dts [(1,1)]) qT hd1 hd2 hd3 (by omega) rfl (by omega) (by omega) rfl (by intro v hv; simp at hv; subst hv; rfl) rfl fun d w7 hN7 hd7=>⟨⟨some ⟨d,0,none⟩,1,1⟩,rfl,?_⟩
 have hm7:=((hm1.tr hm2).tr hm26).tr hN7.mod
 refine aC (pO (key:=[107]) (cl:=3) (sq:=1) (ctx:=⟨some ⟨d,0,none⟩,1,1⟩) (cx:=[(1,1)]) (hg.no hm7) (aX (n:=1) (k:=2) hd7 (by simp [dts])).rd (fun z hz=>by rw [Slc.blk_mk,if_neg (by omega)] at hz; cases hz; exact hd7.lt) (by simp) (by simp) (by rfl)) ?_
 rintro v w8 ⟨hc,sc,rfl,Hc,lc,nc,hm8⟩
 refine ⟨hc.a,hc.b,hc.c,hc.d,hc.e,hc.f,hc.g,rfl,?_⟩
 refine aM (l:=Hd.cells ⟨[],0,0,⟨none,0,0⟩,false,⟨none,0,0⟩,⟨none,0,0⟩⟩) hr1 hr2 rfl fun r w9 hN9 hr9=>⟨_,rfl,?_⟩
 have e9:=hN9.at_
 refine bY (h:=hc) (by kernel_rfl) (by kernel_rfl) hr9 rfl fun w10 ht10 hr10=>?_
 have hm810:Mod NoB w8 w10:=hN9.mod.fresh ht10.mod fun z e=>by omega
 have hm610:Mod NoB w6 w10:=hN7.mod.tr (hm8.tr hm810)
 have hMd:Mod NoB w w10.drew:=(hm7.tr (hm8.tr hm810)).tr (Mod.drew NoB w10)
 have hpd:=(hp6.no hm610).drew
 have hqd:=(hq6.no hm610).drew
 have hrd:=hr10.drew
 have HA:cN w10.drew ha (exA sa):=Ha.no (hm2.tr (hm26.tr (hm610.tr (Mod.drew NoB w10))))
 have HB:cN w10.drew hb (exB sb):=Hb.no (hm26.tr (hm610.tr (Mod.drew NoB w10)))
 have HC:cN w10.drew hc (exC sc):=Hc.no (hm810.tr (Mod.drew NoB w10))
 have gr : ∀ {w1:World} {x1:Slc} {K:Slc→World→Prop} {pan:List PanicEntry→World→Prop},bP w1.heap.size w1 x1 [exC sc,exA sa,exB sb]→(∀ x2 w2,Mod NoB w1 w2→iH w2 x2 [exB sb,exC sc]→K x2 w2)→
  aD prog 11 [.slice x1.a x1.len x1.cap] w1 pan fun v w'=>∃ x2:Slc,v = .slice x2.a x2.len x2.cap∧K x2 w':=fun hR hK=>
  aC (xD hR (by simp)) fun v w' ⟨o,L,hv,hL,hQ,hm⟩=>⟨o,hv,hK o w' hm (by
   have:=kY la lb lc (fun r=>by simp only [List.mem_cons,List.not_mem_nil,or_false]; exact ⟨fun h=>by rcases h with h | h | h; exact .inr (.inr h); exact .inl h; exact .inr (.inl h),fun h=>by rcases h with h | h | h; exact .inr (.inl h); exact .inr (.inr h); exact .inl h⟩) hL
   subst this
   simpa using hQ.r)⟩
 refine ⟨Mod NoB w10.drew,Mod.refl _ _,hc.a,hc.b,hc.c,hc.d,hc.e,hc.f,hc.g,fun w' hm=>rdH (hrd.no hm),ha.a,ha.b,ha.c,ha.d,ha.e,ha.f,ha.g,fun w' hm=>rdH (hpd.no hm),hb.a,hb.b,hb.c,hb.d,hb.e,hb.f,hb.g,fun w' hm=>rdH (hqd.no hm),hb.a,hb.b,hb.c,hb.d,hb.e,hb.f,hb.g,fun w' hm=>rdH (hqd.no hm),hc.a,hc.b,hc.c,hc.d,hc.e,hc.f,hc.g,fun w' hm=>rdH (hrd.no hm),?_,?_,trivial⟩
 ·refine iR (h1:=hc) (h2:=ha) (h3:=hb) HC HA HB fun x1 w11 hm11 hR1=>⟨x1,rfl,hm11,?_,?_,trivial⟩
  ·refine gr hR1 fun x2 w12 hm12 hR2=>⟨hm11.tr hm12,?_,trivial⟩
   refine oN (h1:=hb) (h2:=hc) (HB.no (hm11.tr hm12)) (HC.no (hm11.tr hm12)) fun x3 w13 hm13 hR3=>⟨x3,rfl,(hm11.tr hm12).tr hm13,?_,trivial⟩
   have hR2:=hR2.no hm13
   have hR3:=hR3.r
   have hmS:=(hm11.tr hm12).tr hm13
   clear hm11 hm12 hm13 hR1
   refine aC (jL hR2 hR3 (by simp)) ?_
   rintro v w14 ⟨rfl,hm14⟩
   have hm14:=hmS.tr hm14
   refine ⟨_,rfl,hm14,aE (fun _=>?_) fun h=>by simp at h⟩
   refine ⟨ha.a,ha.b,ha.c,ha.d,ha.e,ha.f,ha.g,fun w' hm=>rdH (hpd.no hm),hb.a,hb.b,hb.c,hb.d,hb.e,hb.f,hb.g,fun w' hm=>rdH (hqd.no hm),hc.a,hc.b,hc.c,hc.d,hc.e,hc.f,hc.g,fun w' hm=>rdH (hrd.no hm),?_,trivial⟩
   refine iR (h1:=ha) (h2:=hb) (h3:=hc) (HA.no hm14) (HB.no hm14) (HC.no hm14) fun x5 w15 hm15 hR5=>⟨x5,rfl,hm14.tr hm15,?_,trivial⟩
   refine aC (kE hR5 (by simp)) ?_
   rintro v w16 ⟨x6,L,rfl,hL,hQ,hm16⟩
   have hm16:=(hm14.tr hm15).tr hm16
   have:=kY la lb lc (fun r=>by simp only [List.mem_cons,List.not_mem_nil,or_false]) hL
   subst this
   have h6:=hQ.r.len
   refine ⟨x6,rfl,hm16,congrArg Value.bool ?_,hMd.tr hm16⟩
   have h6:x6.len=1:=h6.symm
   rw [h6]; rfl
  ·refine oN (h1:=hb) (h2:=hc) (HB.no hm11) (HC.no hm11) fun x3 w12 hm12 hR3=>⟨x3,rfl,hm11.tr hm12,?_,trivial⟩
   refine gr ((hR1.mod (hm12.mono fun _ _ h=>h.elim)).le hm12.size) fun x2 w13 hm13 hR2=>⟨(hm11.tr hm12).tr hm13,?_,trivial⟩
   have hR3:=hR3.r.no hm13
   have hmS:=(hm11.tr hm12).tr hm13
   clear hm11 hm12 hm13 hR1
   refine aC (jL hR2 hR3 (by simp)) ?_
   rintro v w14 ⟨rfl,hm14⟩
   have hm14:=hmS.tr hm14
   refine ⟨_,rfl,hm14,aE (fun _=>?_) fun h=>by simp at h⟩
   refine ⟨ha.a,ha.b,ha.c,ha.d,ha.e,ha.f,ha.g,fun w' hm=>rdH (hpd.no hm),hb.a,hb.b,hb.c,hb.d,hb.e,hb.f,hb.g,fun w' hm=>rdH (hqd.no hm),hc.a,hc.b,hc.c,hc.d,hc.e,hc.f,hc.g,fun w' hm=>rdH (hrd.no hm),?_,trivial⟩
   refine iR (h1:=ha) (h2:=hb) (h3:=hc) (HA.no hm14) (HB.no hm14) (HC.no hm14) fun x5 w15 hm15 hR5=>⟨x5,rfl,hm14.tr hm15,?_,trivial⟩
   refine aC (kE hR5 (by simp)) ?_
   rintro v w16 ⟨x6,L,rfl,hL,hQ,hm16⟩
   have hm16:=(hm14.tr hm15).tr hm16
   have:=kY la lb lc (fun r=>by simp only [List.mem_cons,List.not_mem_nil,or_false]) hL
   subst this
   have h6:=hQ.r.len
   refine ⟨x6,rfl,hm16,congrArg Value.bool ?_,hMd.tr hm16⟩
   have h6:x6.len=1:=h6.symm
   rw [h6]; rfl
 ·refine oN (h1:=hb) (h2:=hc) HB HC fun x3 w11 hm11 hR3=>⟨x3,rfl,hm11,?_,trivial⟩
  refine iR (h1:=hc) (h2:=ha) (h3:=hb) (HC.no hm11) (HA.no hm11) (HB.no hm11) fun x1 w12 hm12 hR1=>⟨x1,rfl,hm11.tr hm12,?_,trivial⟩
  refine gr hR1 fun x2 w13 hm13 hR2=>⟨(hm11.tr hm12).tr hm13,?_,trivial⟩
  have hR3:=(hR3.r.no hm12).no hm13
  have hmS:=(hm11.tr hm12).tr hm13
  clear hm11 hm12 hm13 hR1
  refine aC (jL hR2 hR3 (by simp)) ?_
  rintro v w14 ⟨rfl,hm14⟩
  have hm14:=hmS.tr hm14
  refine ⟨_,rfl,hm14,aE (fun _=>?_) fun h=>by simp at h⟩
  refine ⟨ha.a,ha.b,ha.c,ha.d,ha.e,ha.f,ha.g,fun w' hm=>rdH (hpd.no hm),hb.a,hb.b,hb.c,hb.d,hb.e,hb.f,hb.g,fun w' hm=>rdH (hqd.no hm),hc.a,hc.b,hc.c,hc.d,hc.e,hc.f,hc.g,fun w' hm=>rdH (hrd.no hm),?_,trivial⟩
  refine iR (h1:=ha) (h2:=hb) (h3:=hc) (HA.no hm14) (HB.no hm14) (HC.no hm14) fun x5 w15 hm15 hR5=>⟨x5,rfl,hm14.tr hm15,?_,trivial⟩
  refine aC (kE hR5 (by simp)) ?_
  rintro v w16 ⟨x6,L,rfl,hL,hQ,hm16⟩
  have hm16:=(hm14.tr hm15).tr hm16
  have:=kY la lb lc (fun r=>by simp only [List.mem_cons,List.not_mem_nil,or_false]) hL
  subst this
  have h6:=hQ.r.len
  refine ⟨x6,rfl,hm16,congrArg Value.bool ?_,hMd.tr hm16⟩
  have h6:x6.len=1:=h6.symm
  rw [h6]; rfl
end
def mP (w0 w:World) (x:Slc) (rs:List Rc):Prop:=
 ∃ hs:List Hd,Sh.Own w x 7 (hcells hs)∧FB w0 x∧hs.length=rs.length∧(∀ i (h:i<hs.length) (h':i<rs.length),cN w0 hs[i] rs[i])∧Mod NoB w0 w
theorem mP.nil {w0 w:World} (h:Mod NoB w0 w):mP w0 w ⟨none,0,0⟩ []:=⟨[],bU _ 7,FB.nil _,rfl,fun i h=>by simp at h,h⟩
theorem mP.no {w0 w w':World} {x:Slc} {rs:List Rc} (h:mP w0 w x rs) (hm:Mod NoB w w'):mP w0 w' x rs:=by
 obtain ⟨hs,h1,h2,h3,h4,h5⟩:=h
 exact ⟨hs,h1.no hm,h2,h3,h4,h5.tr hm⟩
theorem mP.at {w0 w:World} {x:Slc} {rs:List Rc} (h:mP w0 w x rs):bP w.heap.size w x rs:=by
 obtain ⟨hs,h1,h2,h3,h4,h5⟩:=h
 exact ⟨hs,h1.rd,fun z hz=>h1.lt hz,h3,fun i a b=>⟨(h4 i a b).no h5,fun z hz=>Nat.lt_of_lt_of_le ((h4 i a b).lt z hz) h5.size⟩⟩
theorem mP.m {w0 w:World} {x:Slc} {rs:List Rc} (h:mP w0 w x rs):Mod NoB w0 w:=by
 obtain ⟨hs,h1,h2,h3,h4,h5⟩:=h
 exact h5
theorem qDZ {w0 w:World} {x:Slc} {rs:List Rc} {h:Hd} {r:Rc} {K:Slc→World→Prop} (hR:mP w0 w x rs) (H:cN w0 h r) (hn:rs.length≤100000) (hK : ∀ x' w',mP w0 w' x' (rs++[r])→K x' w') :
 aF prog (Instr.buildSlice 22 1 #[(0,h.val)]) w fun v w'=>∃ x6:Slc,v = .slice x6.a x6.len x6.cap∧aF prog (Builtin.append_ #[22,22] 22 #[.slice x.a x.len x.cap,.slice x6.a x6.len x6.cap]) w' fun v4 w8=>∃ x7:Slc,v4 = .slice x7.a x7.len x7.cap∧K x7 w8:=by
 obtain ⟨ir,hr1,hr2,hr3,hr4⟩:=lM
 obtain ⟨hs,h1,h2,h3,h4,h5⟩:=hR
 have hxl:=bI Hd.len (by omega) h1.rd
 refine bT [h.val] (l:=hcells [h]) jX hr1 hr2 hr3 (by omega) rfl (by omega) (by omega) rfl (by intro v hv; simp at hv; subst hv; rfl) (by simp [hcells,aW,Value.cells,Hd.val]) fun lb w8 hN8 hb8=>⟨⟨some ⟨lb,0,none⟩,1,1⟩,rfl,?_⟩
 have hlit:aK w8 ⟨some ⟨lb,0,none⟩,1,1⟩ 7 (hcells [h]):=(aX (n:=1) (k:=7) hb8 (by rw [hcells,cH Hd.len]; rfl)).rd
 refine bC jX hr1 hr2 hr3 rfl hr4 (h1.no hN8.mod) hlit (d9 Hd.one _) (by simp only []; omega) (by simp only []; omega) fun x' w9 ho9 hlen hblk hm9=>⟨x',rfl,hK x' w9 ⟨hs++[h],by rw [hcells,cS]; exact ho9,h2.step (Nat.le_trans h5.size hN8.mod.size) hblk,by simp [h3],fun i a b=>?_,h2.mod (h5.tr hN8.mod) hm9⟩⟩
 rcases Nat.lt_or_ge i hs.length with hi | hi
 ·rw [List.getElem_append_left hi,List.getElem_append_left (by omega)]; exact h4 i hi (by omega)
 ·have hi':i=hs.length:=by simp at a; omega
  subst hi'
  rw [List.getElem_append_right (by omega),List.getElem_append_right (by omega)]
  simpa using H
end Go.Proofs.YthaefcgpbccmbaaGreatDoor
end
section
namespace Go.Proofs.YthaefcgpbccmbaaGreatDoor
open Go Go.Sh
open Go.Proofs.Tryz
def qU2 (l:Slc) (w:World) (R:RW):Prop:=
 ∃ (inv:List TV→World→Prop) (mu:List TV→World→Nat),inv [.i .i64 (0:Int)] w∧(∀ i:Int,∀ w1:World,inv [.i .i64 i] w1→aG (decide (i<(l.len:Int))) (∃ (inv1:List TV→World→Prop) (mu1:List TV→World→Nat),inv1 [.i .i64 (0:Int)] w1∧(∀ k:Int,∀ w2:World,inv1 [.i .i64 k] w2→aG (decide (k<(l.len:Int))) (∃ j:List TV→World→Prop,(∃ sx:World→Prop,sx w2.drew∧((0≤i∧i<(l.len:Nat))∧aA l.a fun a=>((0≤k∧k<(l.len:Nat))∧aA l.a fun a1=>∃ xa:List UInt8,∃ xb xc:Int,∃ xd:Slc,∃ xe:Bool,∃ xf xg:Slc,(∀ w',sx w'→Rd w' (a.add (i.toNat*7)) (yR xa xb xc xd xe xf xg))∧∃ xa1:List UInt8,∃ xb1 xc1:Int,∃ xd1:Slc,∃ xe1:Bool,∃ xf1 xg1:Slc,(∀ w',sx w'→Rd w' (a1.add (k.toNat*7)) (yR xa1 xb1 xc1 xd1 xe1 xf1 xg1))∧((aF prog (Instr.alloc 40 true (.tuple #[])) w2.drew fun v w3=>∃ a2:Option Addr,v=(.pointer a2)∧(sx w3∧((aF prog (Instr.alloc 40 true (.tuple #[])) w3 fun v1 w4=>∃ b:Option Addr,v1=(.pointer b)∧(sx w4∧((aA a2 fun a3=>aJ prog (storeVar 40 a3 (zR xa xb xc xd xe xf xg)) w4 fun w5=>(sx w5∧((aA b fun a4=>aJ prog (storeVar 40 a4 (zR xa1 xb1 xc1 xd1 xe1 xf1 xg1)) w5 fun w6=>j [.p a2,.p b] w6)∧True)))∧True)))∧True)))∧(aF prog (Instr.alloc 40 true (.tuple #[])) w2.drew fun v2 w7=>∃ b1:Option Addr,v2=(.pointer b1)∧(sx w7∧((aF prog (Instr.alloc 40 true (.tuple #[])) w7 fun v3 w8=>∃ a5:Option Addr,v3=(.pointer a5)∧(sx w8∧((aA a5 fun a6=>aJ prog (storeVar 40 a6 (zR xa xb xc xd xe xf xg)) w8 fun w9=>(sx w9∧((aA b1 fun a7=>aJ prog (storeVar 40 a7 (zR xa1 xb1 xc1 xd1 xe1 xf1 xg1)) w9 fun w10=>j [.p a5,.p b1] w10)∧True)))∧True)))∧True)))∧True))))∧(∀ a8 b2:Option Addr,∀ w11:World,j [.p a8,.p b2] w11→∃ j1:List TV→World→Prop,(aA a8 fun a9=>∃ x:List UInt8,Rd w11 (a9.add 0) [.string ⟨x.toArray⟩]∧aA b2 fun a10=>∃ x1:List UInt8,Rd w11 (a10.add 0) [.string ⟨x1.toArray⟩]∧aG (x==x1) (aA a8 fun a11=>∃ x2:Int,Rd w11 (a11.add 1) [.int .i64 x2]∧aA b2 fun a12=>∃ x3:Int,Rd w11 (a12.add 1) [.int .i64 x3]∧aG (x2==x3) (aA a8 fun a13=>∃ x4:Int,Rd w11 (a13.add 2) [.int .i64 x4]∧aA b2 fun a14=>∃ x5:Int,Rd w11 (a14.add 2) [.int .i64 x5]∧aG (x4==x5) (aA a8 fun a15=>∃ xa2:List UInt8,∃ xb2 xc2:Int,∃ xd2:Slc,∃ xe2:Bool,∃ xf2 xg2:Slc,Rd w11 a15 (yR xa2 xb2 xc2 xd2 xe2 xf2 xg2)∧aA b2 fun a16=>∃ xa3:List UInt8,∃ xb3 xc3:Int,∃ xd3:Slc,∃ xe3:Bool,∃ xf3 xg3:Slc,Rd w11 a16 (yR xa3 xb3 xc3 xd3 xe3 xf3 xg3)∧aD prog 22 [zR xa2 xb2 xc2 xd2 xe2 xf2 xg2,zR xa3 xb3 xc3 xd3 xe3 xf3 xg3] w11 (aH R) fun v4 w12=>∃ x6:Bool,v4=(.bool x6)∧j1 [.b (!x6)] w12) (j1 [.b false] w11)) (j1 [.b false] w11)) (j1 [.b false] w11))∧(∀ x7:Bool,∀ w13:World,j1 [.b x7] w13→aG x7 (R (.returned (.bool false)) w13) (aA a8 fun a17=>∃ xa4:List UInt8,∃ xb4 xc4:Int,∃ xd4:Slc,∃ xe4:Bool,∃ xf4 xg4:Slc,Rd w13 a17 (yR xa4 xb4 xc4 xd4 xe4 xf4 xg4)∧aA b2 fun a18=>∃ xa5:List UInt8,∃ xb5 xc5:Int,∃ xd5:Slc,∃ xe5:Bool,∃ xf5 xg5:Slc,Rd w13 a18 (yR xa5 xb5 xc5 xd5 xe5 xf5 xg5)∧aD prog 23 [zR xa4 xb4 xc4 xd4 xe4 xf4 xg4,zR xa5 xb5 xc5 xd5 xe5 xf5 xg5] w13 (aH R) fun v5 w14=>∃ x8:Bool,v5=(.bool x8)∧aG (!x8) ((inv1 [.i .i64 (IntKind.i64.wrap (k+(1:Int)))] w14∧mu1 [.i .i64 (IntKind.i64.wrap (k+(1:Int)))] w14<mu1 [.i .i64 k] w2)) (aA b2 fun a19=>∃ xa6:List UInt8,∃ xb6 xc6:Int,∃ xd6:Slc,∃ xe6:Bool,∃ xf6 xg6:Slc,Rd w14 a19 (yR xa6 xb6 xc6 xd6 xe6 xf6 xg6)∧aA a8 fun a20=>∃ xa7:List UInt8,∃ xb7 xc7:Int,∃ xd7:Slc,∃ xe7:Bool,∃ xf7 xg7:Slc,Rd w14 a20 (yR xa7 xb7 xc7 xd7 xe7 xf7 xg7)∧aD prog 23 [zR xa6 xb6 xc6 xd6 xe6 xf6 xg6,zR xa7 xb7 xc7 xd7 xe7 xf7 xg7] w14 (aH R) fun v6 w15=>∃ x9:Bool,v6=(.bool x9)∧aG x9 (R (.returned (.bool false)) w15) (∃ (inv2:List TV→World→Prop) (mu2:List TV→World→Nat),inv2 [.i .i64 (0:Int)] w15∧(∀ j2:Int,∀ w16:World,inv2 [.i .i64 j2] w16→aG (decide (j2<(l.len:Int))) (∃ sx1:World→Prop,sx1 w16.drew∧((0≤j2∧j2<(l.len:Nat))∧aA l.a fun a21=>aA b2 fun a22=>∃ xa8:List UInt8,∃ xb8 xc8:Int,∃ xd8:Slc,∃ xe8:Bool,∃ xf8 xg8:Slc,(∀ w',sx1 w'→Rd w' a22 (yR xa8 xb8 xc8 xd8 xe8 xf8 xg8))∧∃ xa9:List UInt8,∃ xb9 xc9:Int,∃ xd9:Slc,∃ xe9:Bool,∃ xf9 xg9:Slc,(∀ w',sx1 w'→Rd w' (a21.add (j2.toNat*7)) (yR xa9 xb9 xc9 xd9 xe9 xf9 xg9))∧((aD prog 23 [zR xa8 xb8 xc8 xd8 xe8 xf8 xg8,zR xa9 xb9 xc9 xd9 xe9 xf9 xg9] w16.drew (aH R) fun v7 w17=>∃ x10:Bool,v7=(.bool x10)∧(sx1 w17∧aG x10 (((0≤j2∧j2<(l.len:Nat))∧aA l.a fun a23=>aA a8 fun a24=>∃ xa10:List UInt8,∃ xb10 xc10:Int,∃ xd10:Slc,∃ xe10:Bool,∃ xf10 xg10:Slc,(∀ w',sx1 w'→Rd w' a24 (yR xa10 xb10 xc10 xd10 xe10 xf10 xg10))∧∃ xa11:List UInt8,∃ xb11 xc11:Int,∃ xd11:Slc,∃ xe11:Bool,∃ xf11 xg11:Slc,(∀ w',sx1 w'→Rd w' (a23.add (j2.toNat*7)) (yR xa11 xb11 xc11 xd11 xe11 xf11 xg11))∧((aD prog 23 [zR xa10 xb10 xc10 xd10 xe10 xf10 xg10,zR xa11 xb11 xc11 xd11 xe11 xf11 xg11] w17 (aH R) fun v8 w18=>∃ x11:Bool,v8=(.bool x11)∧(sx1 w18∧aG (!x11) (R (.returned (.bool false)) w18) ((inv2 [.i .i64 (IntKind.i64.wrap (j2+(1:Int)))] w18∧mu2 [.i .i64 (IntKind.i64.wrap (j2+(1:Int)))] w18<mu2 [.i .i64 j2] w16))))∧True))) ((((sx1 w17∧(inv2 [.i .i64 (IntKind.i64.wrap (j2+(1:Int)))] w17∧mu2 [.i .i64 (IntKind.i64.wrap (j2+(1:Int)))] w17<mu2 [.i .i64 j2] w16)))∧True))))∧True))) ((inv1 [.i .i64 (IntKind.i64.wrap (k+(1:Int)))] w16∧mu1 [.i .i64 (IntKind.i64.wrap (k+(1:Int)))] w16<mu1 [.i .i64 k] w2))))))))) ((inv [.i .i64 (IntKind.i64.wrap (i+(1:Int)))] w2∧mu [.i .i64 (IntKind.i64.wrap (i+(1:Int)))] w2<mu [.i .i64 i] w1)))) (R (.returned (.bool true)) w1))
theorem qR2 (l:Slc) {w:World} {R:RW} (hden:qU2 l w R):Calls prog 20 #[zS l] w R:=
 aB (q0 .z (q0 (q0 .z (.block none (.loop [(3,(.i .i64))] (q0 (q0 .z (.cond .z .z)) (q0 (.block none (q0 .z (.block none (.loop [(4,(.i .i64))] (q0 (q0 .z (.cond .z .z)) (q0 (.block none (.seq (some [(5,.p),(6,.p)]) (.draw 1 (.take 0 (.take 1 (.take 2 (.take 4 (.take 5 (.take 6 (.take 3 (.take 7 (.all [(8,(.all [(9,(.all [(10,(.all [(11,.done)]))]))])),(9,(.all [(8,(.all [(10,(.all [(11,.done)]))]))]))])))))))))) (q0 (.seq (some [(52,.b)]) .z (.cond (q0 .z .z) .z)) (q0 (q0 .z (.cond .z .z)) (q0 (q0 .z (.cond (q0 .z .z) .z)) (q0 .z (.block none (.loop [(7,(.i .i64))] (q0 (q0 .z (.cond .z .z)) (q0 (.block none (q0 (.draw 1 (.take 1 (.take 2 (.take 3 (.take 0 (.take 4 (.all [(5,(.take 6 (.take 8 (.take 9 (.take 10 (.take 7 (.take 11 (.all [(12,(.take 13 (.take 14 .done)))]))))))))]))))))) (.cond (q0 .z .z) .z))) .z)))))))))) .z)))))) .z))))) (q0 .z .z))) func20 (by kernel_rfl) [.sl l] (by kernel_rfl) (by kernel_rfl) hden
def qT9 (l:Slc) (w:World) (R:RW):Prop:=
 ∃ (inv:List TV→World→Prop) (mu:List TV→World→Nat),inv [.sl ⟨none,0,0⟩,.i .i64 (0:Int)] w∧(∀ out:Slc,∀ i:Int,∀ w1:World,inv [.sl out,.i .i64 i] w1→aG (decide (i<(l.len:Int))) (((0≤i∧i<(l.len:Nat))∧aA l.a fun a=>∃ xa:List UInt8,∃ xb xc:Int,∃ xd:Slc,∃ xe:Bool,∃ xf xg:Slc,Rd w1 (a.add (i.toNat*7)) (yR xa xb xc xd xe xf xg)∧aD prog 41 [zR xa xb xc xd xe xf xg] w1 (aH R) fun v w2=>∃ x:Bool,v=(.bool x)∧aG x (((0≤i∧i<(l.len:Nat))∧aA l.a fun a1=>∃ xa1:List UInt8,∃ xb1 xc1:Int,∃ xd1:Slc,∃ xe1:Bool,∃ xf1 xg1:Slc,Rd w2 (a1.add (i.toNat*7)) (yR xa1 xb1 xc1 xd1 xe1 xf1 xg1)∧aF prog (Instr.buildSlice 22 1 #[(0,(zR xa1 xb1 xc1 xd1 xe1 xf1 xg1))]) w2 fun v1 w3=>∃ x1:Slc,v1=(zS x1)∧aF prog (Builtin.append_ #[22,22] 22 #[zS out,zS x1]) w3 fun v2 w4=>∃ x2:Slc,v2=(zS x2)∧(inv [.sl x2,.i .i64 (IntKind.i64.wrap (i+(1:Int)))] w4∧mu [.sl x2,.i .i64 (IntKind.i64.wrap (i+(1:Int)))] w4<mu [.sl out,.i .i64 i] w1))) ((inv [.sl out,.i .i64 (IntKind.i64.wrap (i+(1:Int)))] w2∧mu [.sl out,.i .i64 (IntKind.i64.wrap (i+(1:Int)))] w2<mu [.sl out,.i .i64 i] w1)))) (R (.returned (zS out)) w1))
theorem qQP (l:Slc) {w:World} {R:RW} (hden:qT9 l w R):Calls prog 21 #[zS l] w R:=
 aB (q0 .z (q0 .z (q0 (q0 .z (.block none (.loop [(3,.sl),(4,(.i .i64))] (q0 (q0 .z (.cond .z .z)) (q0 (.block none (q0 .z (.cond .z .z))) .z))))) (q0 .z .z)))) func21 (by kernel_rfl) [.sl l] (by kernel_rfl) (by kernel_rfl) hden
end Go.Proofs.YthaefcgpbccmbaaGreatDoor
end
section
namespace Go.Proofs.YthaefcgpbccmbaaGreatDoor
open Go Go.Sh Go.MapKept
open Go.Proofs.Tryz
def tq (ls:List Rc) (a b:Rc):Prop:=(a.key=b.key→a.cl=b.cl→a.sq=b.sq→a=b)∧(a.over b=true→b.over a=false∧∀ c∈ls,b.over c=true→a.over c=true)
theorem yB {ls:List Rc} (h : ∀ a∈ls,∀ b∈ls,tq ls a b):gD ls:=
 ⟨fun a ha b hb=>(h a ha b hb).1,fun a ha b hb e=>((h a ha b hb).2 e).1,fun a ha b hb c hc e e'=>((h a ha b hb).2 e).2 c hc e'⟩
theorem eF {α:Type} {l:List α} {k:Nat} (hk:k<l.length) {P:α→Prop} (h : ∀ a∈l.take k,P a) (h':P l[k]) : ∀ a∈l.take (k+1),P a:=fun a ha=>by
 rw [aT hk] at ha
 rcases List.mem_append.1 ha with ha | ha
 ·exact h a ha
 ·simp at ha; subst ha; exact h'
section
variable {w:World}
theorem qRC {B:Nat} {s:Slc} {ls:List Rc} (hA:bP B w s ls) (hn:ls.length≤1000) :
 Calls prog 20 #[.slice s.a s.len s.cap] w (Ret fun v w'=>∃ b,v = .bool b∧(b=true→gD ls)∧Mod NoB w w'):=by
 refine qR2 _ ?_
 unfold qU2
 have hlen:=hA.len
 obtain ⟨ir,hr1,hr2,hr3,hr4⟩:=lM
 obtain ⟨hs,g1,g2,g3,g4⟩:=hA
 refine ⟨fun l' w'=>match l' with | [.i _ x]=>∃ i:Nat,x=i∧i≤ls.length∧(∀ a∈ls.take i,∀ b∈ls,tq ls a b)∧Mod NoB w w' | _=>False,fun l' _=>match l' with | [.i _ x]=>(ls.length - x).toNat | _=>0,⟨0,rfl,by omega,by simp,Mod.refl _ _⟩,?_⟩
 rintro x w1 ⟨i,rfl,hi,hI,hm1⟩
 refine aE (fun h=>?_) fun h=>?_
 ·have hil:i<ls.length:=by have:=of_decide_eq_true h; omega
  have hih:i<hs.length:=by omega
  obtain ⟨A,ea,hrA⟩:=bQ Hd.len (by omega) g1 hih
  have Hi:=(g4 i hih hil).1
  refine ⟨fun l' w'=>match l' with | [.i _ x]=>∃ k:Nat,x=k∧k≤ls.length∧(∀ b∈ls.take k,tq ls ls[i] b)∧Mod NoB w w' | _=>False,fun l' _=>match l' with | [.i _ x]=>(ls.length - x).toNat | _=>0,⟨0,rfl,by omega,by simp,hm1⟩,?_⟩
  rintro y w2 ⟨k,rfl,hk,hK,hm2⟩
  refine aE (fun h=>?_) fun h=>?_
  ·have hkl:k<ls.length:=by have:=of_decide_eq_true h; omega
   have hkh:k<hs.length:=by omega
   obtain ⟨A',ea',hrA'⟩:=bQ Hd.len (by omega) g1 hkh
   rw [ea] at ea'; cases ea'
   have Hk:=(g4 k hkh hkl).1
   rw [ea]
   refine ⟨fun l' w'=>match l' with | [.p pa,.p pb]=>∃ (p q:Nat) (T T':TypeId),pa=some ⟨p,0,none⟩∧pb=some ⟨q,0,none⟩∧Blk w' p hs[i].cells T∧Blk w' q hs[k].cells T'∧Mod NoB w w' | _=>False,?_,?_⟩
   ·have hm2d:=hm2.tr (Mod.drew NoB w2)
    refine ⟨Mod NoB w2.drew,Mod.refl _ _,⟨by omega,by omega⟩,⟨by omega,by omega⟩,hs[i].a,hs[i].b,hs[i].c,hs[i].d,hs[i].e,hs[i].f,hs[i].g,fun w' hm=>hrA.mod (hm2d.tr hm) fun h=>h,hs[k].a,hs[k].b,hs[k].c,hs[k].d,hs[k].e,hs[k].f,hs[k].g,fun w' hm=>hrA'.mod (hm2d.tr hm) fun h=>h,?_,?_,trivial⟩
    ·refine aM (l:=Hd.cells ⟨[],0,0,⟨none,0,0⟩,false,⟨none,0,0⟩,⟨none,0,0⟩⟩) hr1 hr2 rfl fun p w3 hN3 hp3=>⟨_,rfl,hN3.mod,?_,trivial⟩
     refine aM (l:=Hd.cells ⟨[],0,0,⟨none,0,0⟩,false,⟨none,0,0⟩,⟨none,0,0⟩⟩) hr1 hr2 rfl fun q w4 hN4 hq4=>⟨_,rfl,hN3.mod.tr hN4.mod,?_,trivial⟩
     have e3:=hN3.at_; have e4:=hN4.at_; have s3:=hN3.size; have s4:=hN4.size
     refine bY (h:=hs[i]) (by kernel_rfl) (by kernel_rfl) (hp3.no hN4.mod) rfl fun w5 ht5 hp5=>?_
     have hm5:Mod NoB w2.drew w5:=(hN3.mod.tr hN4.mod).fresh ht5.mod fun z e=>by omega
     refine ⟨hm5,?_,trivial⟩
     refine bY (h:=hs[k]) (by kernel_rfl) (by kernel_rfl) (hq4.mod ht5.mod (by omega)) rfl fun w6 ht6 hq6=>?_
     exact ⟨p,q,_,_,rfl,rfl,hp5.mod ht6.mod (by omega),hq6,hm2d.tr (hm5.fresh ht6.mod fun z e=>by omega)⟩
    ·refine aM (l:=Hd.cells ⟨[],0,0,⟨none,0,0⟩,false,⟨none,0,0⟩,⟨none,0,0⟩⟩) hr1 hr2 rfl fun q w3 hN3 hq3=>⟨_,rfl,hN3.mod,?_,trivial⟩
     refine aM (l:=Hd.cells ⟨[],0,0,⟨none,0,0⟩,false,⟨none,0,0⟩,⟨none,0,0⟩⟩) hr1 hr2 rfl fun p w4 hN4 hp4=>⟨_,rfl,hN3.mod.tr hN4.mod,?_,trivial⟩
     have e3:=hN3.at_; have e4:=hN4.at_; have s3:=hN3.size; have s4:=hN4.size
     refine bY (h:=hs[i]) (by kernel_rfl) (by kernel_rfl) hp4 rfl fun w5 ht5 hp5=>?_
     have hm5:Mod NoB w2.drew w5:=(hN3.mod.tr hN4.mod).fresh ht5.mod fun z e=>by omega
     refine ⟨hm5,?_,trivial⟩
     refine bY (h:=hs[k]) (by kernel_rfl) (by kernel_rfl) ((hq3.no hN4.mod).mod ht5.mod (by omega)) rfl fun w6 ht6 hq6=>?_
     exact ⟨p,q,_,_,rfl,rfl,hp5.mod ht6.mod (by omega),hq6,hm2d.tr (hm5.fresh ht6.mod fun z e=>by omega)⟩
   ·rintro pa pb w3 ⟨p,q,T,T',rfl,rfl,hp,hq,hm3⟩
    refine ⟨fun l' w'=>match l' with | [.b t]=>(t=false→ls[i].key=ls[k].key→ls[i].cl=ls[k].cl→ls[i].sq=ls[k].sq→ls[i]=ls[k])∧Mod NoB w3 w' | _=>False,?_,?_⟩
    ·refine ⟨hs[i].a,eH (i:=0) hp rfl,hs[k].a,eH (i:=0) hq rfl,aE (fun h1=>?_) fun h1=>⟨fun _ e=>?_,Mod.refl _ _⟩⟩
     ·refine ⟨hs[i].b,eH (i:=1) hp rfl,hs[k].b,eH (i:=1) hq rfl,aE (fun h2=>?_) fun h2=>⟨fun _ _ e=>?_,Mod.refl _ _⟩⟩
      ·refine ⟨hs[i].c,eH (i:=2) hp rfl,hs[k].c,eH (i:=2) hq rfl,aE (fun h3=>?_) fun h3=>⟨fun _ _ _ e=>?_,Mod.refl _ _⟩⟩
       ·refine ⟨hs[i].a,hs[i].b,hs[i].c,hs[i].d,hs[i].e,hs[i].f,hs[i].g,rdH hp,hs[k].a,hs[k].b,hs[k].c,hs[k].d,hs[k].e,hs[k].f,hs[k].g,rdH hq,?_⟩
        refine aC (sJ (a:=hs[i]) (b:=hs[k]) (Hi.no hm3) (Hk.no hm3)) ?_
        rintro v w4 ⟨rfl,hm4⟩
        exact ⟨_,rfl,fun ht _ _ _=>by simpa using ht,hm4⟩
       ·rw [Hi.sq,Hk.sq,e] at h3; simp at h3
      ·rw [Hi.cl,Hk.cl,e] at h2; simp at h2
     ·rw [Hi.key,Hk.key,e] at h1; simp at h1
    ·rintro t w4 ⟨ht,hm4⟩
     refine aE (fun h=>⟨false,rfl,(fun e=>by cases e),hm3.tr hm4⟩) fun h=>?_
     have hsame:=ht h
     have hp4:=hp.no hm4
     have hq4:=hq.no hm4
     have hM4:=hm3.tr hm4
     refine ⟨hs[i].a,hs[i].b,hs[i].c,hs[i].d,hs[i].e,hs[i].f,hs[i].g,rdH hp4,hs[k].a,hs[k].b,hs[k].c,hs[k].d,hs[k].e,hs[k].f,hs[k].g,rdH hq4,?_⟩
     refine aC (qG (a:=hs[i]) (b:=hs[k]) (Hi.no hM4) (Hk.no hM4)) ?_
     rintro v w5 ⟨rfl,hm5⟩
     have hM5:=hM4.tr hm5
     refine ⟨_,rfl,aE (fun h=>?_) fun h=>?_⟩
     ·have h:ls[i].over ls[k]=false:=by simpa using h
      refine ⟨⟨k+1,aP (by omega),by omega,eF hkl hK ⟨hsame,(fun e=>by rw [h] at e; cases e)⟩,hM5⟩,?_⟩
      rw [aP (by omega)]; (try simp only []); omega
     have hik:ls[i].over ls[k]=true:=by simpa using h
     have hp5:=hp4.no hm5
     have hq5:=hq4.no hm5
     refine ⟨hs[k].a,hs[k].b,hs[k].c,hs[k].d,hs[k].e,hs[k].f,hs[k].g,rdH hq5,hs[i].a,hs[i].b,hs[i].c,hs[i].d,hs[i].e,hs[i].f,hs[i].g,rdH hp5,?_⟩
     refine aC (qG (a:=hs[k]) (b:=hs[i]) (Hk.no hM5) (Hi.no hM5)) ?_
     rintro v w6 ⟨rfl,hm6⟩
     have hM6:=hM5.tr hm6
     refine ⟨_,rfl,aE (fun h=>⟨false,rfl,(fun e=>by cases e),hM6⟩) fun hki=>?_⟩
     have hp6:=hp5.no hm6
     have hq6:=hq5.no hm6
     refine ⟨fun l' w'=>match l' with | [.i _ x]=>∃ j:Nat,x=j∧j≤ls.length∧(∀ c∈ls.take j,ls[k].over c=true→ls[i].over c=true)∧Mod NoB w6 w' | _=>False,fun l' _=>match l' with | [.i _ x]=>(ls.length - x).toNat | _=>0,⟨0,rfl,by omega,by simp,Mod.refl _ _⟩,?_⟩
     rintro z w7 ⟨j,rfl,hj,hJ,hm7⟩
     refine aE (fun h=>?_) fun h=>?_
     ·have hjl:j<ls.length:=by have:=of_decide_eq_true h; omega
      have hjh:j<hs.length:=by omega
      obtain ⟨A',ea',hrJ⟩:=bQ Hd.len (by omega) g1 hjh
      rw [ea] at ea'; cases ea'
      have Hj:=(g4 j hjh hjl).1
      have hm7d:=hm7.tr (Mod.drew NoB w7)
      have hM7d:=hM6.tr hm7d
      refine ⟨Mod NoB w7.drew,Mod.refl _ _,⟨by omega,by omega⟩,hs[k].a,hs[k].b,hs[k].c,hs[k].d,hs[k].e,hs[k].f,hs[k].g,fun w' hm=>rdH (hq6.no (hm7d.tr hm)),hs[j].a,hs[j].b,hs[j].c,hs[j].d,hs[j].e,hs[j].f,hs[j].g,fun w' hm=>hrJ.mod (hM7d.tr hm) fun h=>h,?_,trivial⟩
      refine aC (qG (a:=hs[k]) (b:=hs[j]) (Hk.no hM7d) (Hj.no hM7d)) ?_
      rintro v w8 ⟨rfl,hm8⟩
      have hM8:=hM7d.tr hm8
      refine ⟨_,rfl,hm8,aE (fun hkj=>?_) fun hkj=>?_⟩
      ·refine ⟨⟨by omega,by omega⟩,hs[i].a,hs[i].b,hs[i].c,hs[i].d,hs[i].e,hs[i].f,hs[i].g,fun w' hm=>rdH (hp6.no (hm7d.tr hm)),hs[j].a,hs[j].b,hs[j].c,hs[j].d,hs[j].e,hs[j].f,hs[j].g,fun w' hm=>hrJ.mod (hM7d.tr hm) fun h=>h,?_,trivial⟩
       refine aC (qG (a:=hs[i]) (b:=hs[j]) (Hi.no hM8) (Hj.no hM8)) ?_
       rintro v w9 ⟨rfl,hm9⟩
       have hM9:=hM8.tr hm9
       refine ⟨_,rfl,hm8.tr hm9,aE (fun h=>⟨false,rfl,(fun e=>by cases e),hM9⟩) fun h=>?_⟩
       have hij:ls[i].over ls[j]=true:=by simpa using h
       refine ⟨⟨j+1,aP (by omega),by omega,eF hjl hJ fun _=>hij,hm7d.tr (hm8.tr hm9)⟩,?_⟩
       rw [aP (by omega)]; (try simp only []); omega
      ·refine ⟨⟨hm8,⟨j+1,aP (by omega),by omega,eF hjl hJ (fun e=>by rw [hkj] at e; cases e),hm7d.tr hm8⟩,?_⟩,trivial⟩
       rw [aP (by omega)]; (try simp only []); omega
     ·have hjl:j=ls.length:=by have:=of_decide_eq_false h; omega
      subst hjl
      rw [List.take_length] at hJ
      refine ⟨⟨k+1,aP (by omega),by omega,eF hkl hK ⟨hsame,fun _=>⟨hki,hJ⟩⟩,hM6.tr hm7⟩,?_⟩
      rw [aP (by omega)]; (try simp only []); omega
  ·have hkl:k=ls.length:=by have:=of_decide_eq_false h; omega
   subst hkl
   rw [List.take_length] at hK
   refine ⟨⟨i+1,aP (by omega),by omega,eF hil hI hK,hm2⟩,?_⟩
   rw [aP (by omega)]; (try simp only []); omega
 ·have hil:i=ls.length:=by have:=of_decide_eq_false h; omega
  subst hil
  rw [List.take_length] at hI
  exact ⟨true,rfl,fun _=>yB hI,hm1⟩
theorem qEA {B:Nat} {s:Slc} {ls:List Rc} (hA:bP B w s ls) (hn:ls.length≤1000) :
 Calls prog 21 #[.slice s.a s.len s.cap] w (Ret fun v w'=>∃ x,v = .slice x.a x.len x.cap∧mP w w' x (bG ls)):=by
 refine qQP _ ?_
 unfold qT9
 have hlen:=hA.len
 obtain ⟨hs,g1,g2,g3,g4⟩:=hA
 refine ⟨fun l' w'=>match l' with | [.sl x,.i _ y]=>∃ i:Nat,y=i∧i≤ls.length∧mP w w' x (bG (ls.take i)) | _=>False,fun l' _=>match l' with | [.sl _,.i _ y]=>(ls.length - y).toNat | _=>0,⟨0,rfl,by omega,mP.nil (Mod.refl _ _)⟩,?_⟩
 rintro x y w1 ⟨i,rfl,hi,hR⟩
 refine aE (fun h=>?_) fun h=>?_
 ·have hil:i<ls.length:=by have:=of_decide_eq_true h; omega
  have hih:i<hs.length:=by omega
  obtain ⟨A,ea,hrA⟩:=bQ Hd.len (by omega) g1 hih
  have Hi:=(g4 i hih hil).1
  have et:ls.take (i+1)=ls.take i++[ls[i]]:=aT hil
  rw [ea]
  refine ⟨⟨by omega,by omega⟩,hs[i].a,hs[i].b,hs[i].c,hs[i].d,hs[i].e,hs[i].f,hs[i].g,hrA.mod hR.m fun h=>h,?_⟩
  refine aC (pF (h:=hs[i]) (Hi.no hR.m)) ?_
  rintro v w2 ⟨rfl,hm2⟩
  have hR2:=hR.no hm2
  have hrl:(bG (ls.take i)).length≤1000:=Nat.le_trans (List.length_filter_le _ _) (by rw [List.length_take]; omega)
  refine ⟨_,rfl,aE (fun hr=>?_) fun hr=>?_⟩
  ·refine ⟨⟨by omega,by omega⟩,hs[i].a,hs[i].b,hs[i].c,hs[i].d,hs[i].e,hs[i].f,hs[i].g,hrA.mod hR2.m fun h=>h,?_⟩
   refine qDZ (h:=hs[i]) hR2 Hi (by omega) fun x' w3 hR3=>⟨⟨i+1,aP (by omega),by omega,?_⟩,?_⟩
   ·rw [et,rJ]
    have:bG [ls[i]]=[ls[i]]:=by simp [bG,hr]
    rw [this]; exact hR3
   ·rw [aP (by omega)]; (try simp only []); omega
  ·refine ⟨⟨i+1,aP (by omega),by omega,?_⟩,?_⟩
   ·rw [et,rJ]
    have:bG [ls[i]]=[]:=by simp [bG,hr]
    rw [this,List.append_nil]; exact hR2
   ·rw [aP (by omega)]; (try simp only []); omega
 ·have hil:i=ls.length:=by have:=of_decide_eq_false h; omega
  subst hil
  rw [List.take_length] at hR
  exact ⟨x,rfl,hR⟩
end
theorem yA (hs:List Hd) (a b:Nat) (h1:a≤b) (h2:b≤hs.length):((hcells hs).drop (a*7)).take ((b - a)*7)=hcells ((hs.drop a).take (b - a)):=by
 have hd : ∀ (l:List Hd) (n:Nat),n≤l.length→(hcells l).drop (n*7)=hcells (l.drop n):=by
  intro l n hn
  have e:hcells l=hcells (l.take n)++hcells (l.drop n):=by rw [hcells,hcells,hcells,← cS,List.take_append_drop]
  have hl:(hcells (l.take n)).length=n*7:=by rw [hcells,cH Hd.len,List.length_take,Nat.min_eq_left hn]
  rw [e,List.drop_append_of_le_length (by omega),List.drop_eq_nil_of_le (by omega),List.nil_append]
 rw [hd hs a (by omega)]
 exact qW Hd.len (by rw [List.length_drop]; omega)
theorem bP.cut {B:Nat} {w:World} {s:Slc} {ls:List Rc} (h:bP B w s ls) {a b:Nat} (h1:a≤b) (h2:b≤ls.length):bP B w (aI s 7 a b s.cap) ((ls.drop a).take (b - a)):=by
 have hlen:=h.len
 obtain ⟨hs,g1,g2,g3,g4⟩:=h
 have hc:=g1.2.1
 refine ⟨(hs.drop a).take (b - a),?_,fun z hz=>g2 z (lF hz (Nat.le_refl _)),by simp only [List.length_take,List.length_drop]; omega,fun i c d=>?_⟩
 ·have:=g1.cut (l:=a) (n:=b) (m:=s.cap) h1 (by omega) (by omega) (Nat.le_refl _)
  rwa [yA hs a b h1 (by omega)] at this
 ·simp only [List.length_take,List.length_drop] at c d
  simp only [List.getElem_take,List.getElem_drop]
  exact g4 (a+i) (by omega) (by omega)
end Go.Proofs.YthaefcgpbccmbaaGreatDoor
end
section
namespace Go.Proofs.YthaefcgpbccmbaaGreatDoor
open Go Go.Sh
open Go.Proofs.Tryz
theorem qC8 {L L':Lv} {key:List UInt8} {rs:List Rc} (hs:fF L) (h:xL L key rs L'):lI L' key=rs∧∀ k,k≠key→lI L' k=lI L k:=by
 refine ⟨iX h.pw ((h.mem _).2 (.inl rfl)),fun k hk=>?_⟩
 rcases Classical.em (∃ s,(k,s)∈L) with ⟨s,hm⟩ | hn
 ·rw [iX hs hm,iX h.pw ((h.mem _).2 (.inr ⟨hk,hm⟩))]
 ·have h1 : ∀ e∈L,e.1≠k:=fun e he e'=>hn ⟨e.2,by rw [← e']; exact he⟩
  rw [nX h1,nX fun e he e'=>?_]
  rcases (h.mem e).1 he with rfl | ⟨_,he⟩
  ·exact hk e'.symm
  ·exact h1 e he e'
def Holds (Ls:Nat→Lv) (X:List Rc):Prop:=∀ key,bX (aV X key) (eO Ls key)
theorem holds_none:Holds (fun _=>[]) []:=fun key=>⟨[],⟨List.Pairwise.nil,fun r=>by simp [aV]⟩,rfl⟩
theorem wE {Ls:Nat→Lv} {X:List Rc} (ht:gD (bG X)) (hH:Holds Ls X) (key:List UInt8):lP (aV X key) (eO Ls key):=
 (lV (mI ht key) kQ iJ).1 (hH key)
theorem kJ {X:List Rc} {r:Rc} (hr:r.right=true):bG (X++[r])=bG X++[r]:=by simp [bG,hr]
theorem dS {X:List Rc} {r x:Rc} {key:List UInt8} (hr:r.right=true):x∈aV (X++[r]) key↔x∈aV X key∨(x=r∧r.key=key):=by
 simp only [fS,kJ hr,List.mem_append,List.mem_singleton]
 constructor
 ·rintro ⟨h | rfl,h2⟩
  ·exact .inl ⟨h,h2⟩
  ·exact .inr ⟨rfl,h2⟩
 ·rintro (⟨h,h2⟩ | ⟨rfl,h2⟩)
  ·exact ⟨.inl h,h2⟩
  ·exact ⟨.inr rfl,h2⟩
section
variable {Ls Ls':Nat→Lv} {X:List Rc} {r:Rc}
theorem qF7 (hr:r.right=true) (ht:gD (bG (X++[r]))) (hH:Holds Ls X) : ∀ x∈eO Ls r.key++[r],x∈aV (X++[r]) r.key:=fun x hx=>by
 have ht0:gD (bG X):=ht.sub fun y hy=>by rw [kJ hr]; exact List.mem_append_left _ hy
 rw [dS hr]
 rcases List.mem_append.1 hx with h | h
 ·exact .inl (((wE ht0 hH r.key).mem x).1 h).1
 ·exact .inr ⟨by simpa using h,rfl⟩
theorem vT (hr:r.right=true) (ht:gD (bG (X++[r]))) (hH:Holds Ls X) {rs:List Rc} (hJ:bX (eO Ls r.key++[r]) rs):lP (aV (X++[r]) r.key) rs:=by
 have ht0:gD (bG X):=ht.sub fun y hy=>by rw [kJ hr]; exact List.mem_append_left _ hy
 have hF:=wE ht0 hH r.key
 have hin:=qF7 hr ht hH
 have htk:=mI ht r.key
 have hM:=(lV (htk.sub hin) (fun a ha b hb=>kQ a (hin a ha) b (hin b hb)) fun a ha=>iJ a (hin a ha)).1 hJ
 refine ⟨hM.pw,fun x=>?_⟩
 rw [hM.mem]
 constructor
 ·rintro ⟨h1,h2⟩
  refine ⟨hin x h1,fun y hy=>?_⟩
  cases e:y.over x with
  | false=>rfl
  | true=>
    rcases (dS hr).1 hy with h3 | ⟨rfl,_⟩
    ·obtain ⟨z,z1,z2,z3⟩:=(mI ht0 r.key).max' h3
     have hz:z∈eO Ls r.key:=(hF.mem z).2 ⟨z1,z3⟩
     have hzx:z.over x=true:=by
      rcases z2 with rfl | z2
      ·exact e
      ·exact htk.trans z ((dS hr).2 (.inl z1)) y hy x (hin x h1) z2 e
     have:=h2 z (List.mem_append_left _ hz)
     rw [hzx] at this; cases this
    ·have:=h2 y (List.mem_append_right _ (List.mem_singleton.2 rfl))
     rw [e] at this; cases this
 ·rintro ⟨h1,h2⟩
  refine ⟨?_,fun y hy=>h2 y (hin y hy)⟩
  rcases (dS hr).1 h1 with h3 | ⟨rfl,_⟩
  ·exact List.mem_append_left _ ((hF.mem x).2 ⟨h3,fun y hy=>h2 y ((dS hr).2 (.inl hy))⟩)
  ·exact List.mem_append_right _ (List.mem_singleton.2 rfl)
theorem qGB (hr:r.right=true) (ht:gD (bG (X++[r]))) (hH:Holds Ls X) {rs:List Rc} (hJ:bX (eO Ls r.key++[r]) rs):rs≠[]:=by
 have hM:=vT hr ht hH hJ
 obtain ⟨z,z1,z2,z3⟩:=(mI ht r.key).max' ((dS hr).2 (.inr ⟨rfl,rfl⟩))
 intro e
 have:=(hM.mem z).2 ⟨z1,z3⟩
 rw [e] at this; cases this
theorem qGA {B Y rs:List Rc} {k:List UInt8} (hB:B.length≤16) (hY : ∀ x∈Y,x∈B) (hM:lP (aV Y k) rs):rs.length≤16:=
 Nat.le_trans (kK fI hM.pw fun x hx=>hY x (List.mem_filter.1 ((hM.mem x).1 hx).1).1) hB
theorem qA {n:Nat} {e:Int} (hO:dV Ls n) (hn:n≤255) (hX : ∀ rs,lP (aV (X++[r]) r.key) rs→rs.length≤16) (hr:r.right=true) (ht:gD (bG (X++[r]))) (hH:Holds Ls X) (hT:pP Ls r e Ls'):e=0∧Holds Ls' (X++[r]):=by
 rcases hT with ⟨h,_,_⟩ | ⟨_,rs,hJ,hc⟩
 ·rw [hr] at h; cases h
 have hM:=vT hr ht hH hJ
 have hlen:=hX rs hM
 rcases hc with ⟨hf,_,_⟩ | ⟨_,he,hP,_,hel⟩
 ·rcases hf with h | h
  ·omega
  ·have:=hO.n (tOf r.key); omega
 ·refine ⟨he,fun key=>?_⟩
  have hg:=qC8 (hO.so _) hP
  rcases Classical.em (key=r.key) with e | e
  ·subst e
   have:eO Ls' r.key=rs:=hg.1
   rw [this]
   exact (lV (mI ht r.key) kQ iJ).2 hM
  ·have e1:eO Ls' key=eO Ls key:=by
    unfold eO
    rcases Classical.em (tOf key=tOf r.key) with h | h
    ·rw [h]; exact hg.2 key e
    ·rw [hel _ h]
   have e2:aV (X++[r]) key=aV X key:=by
    have : ¬ r.key=key:=fun h=>e h.symm
    simp [aV,List.filter_append,this]
   rw [e1,e2]; exact hH key
end
theorem rD {Ls Ls':Nat→Lv} (h:rF Ls [] Ls'):Ls'=Ls:=by
 generalize hl:([]:List Rc)=l at h
 cases h with
 | nil=>rfl
 | snoc _ _=>simp at hl
theorem qBD {Ls Ls':Nat→Lv} {X:List Rc} {r:Rc} (h:rF Ls (X++[r]) Ls') : ∃ L1,rF Ls X L1∧pP L1 r 0 Ls':=by
 generalize hl:X++[r]=l at h
 cases h with
 | nil=>simp at hl
 | snoc h1 h2=>
   obtain ⟨rfl,h3⟩:=List.append_inj' hl rfl
   obtain rfl:r=_:=by simpa using h3
   exact ⟨_,h1,h2⟩
theorem qF1 {Ls Ls':Nat→Lv} {r:Rc} (h:rF Ls [r] Ls'):pP Ls r 0 Ls':=by
 obtain ⟨L1,h1,h2⟩:=qBD (X:=[]) h
 rw [rD h1] at h2; exact h2
theorem tP {Ls:Nat→Lv} {n:Nat} {l:List Rc} {L:Lv} (hO:dV Ls n) (hH:Holds Ls (bG l)) (hs:fF L) (hm : ∀ e,e∈L↔∃ i,i<4∧e∈Ls i):fD l L:=by
 have e0 : ∀ k,aV (bG l) k=aV l k:=fun k=>by
  simp only [aV,bG,List.filter_filter]
  apply List.filter_congr
  intro x _
  cases x.right <;> simp
 refine ⟨hs,fun k s=>?_⟩
 have hJ:=hH k
 rw [e0] at hJ
 rw [hm]
 constructor
 ·rintro ⟨i,hi,he⟩
  have h1:tOf k=i:=hO.sh i (k,s) he
  have h2:eO Ls k=s:=by
   unfold eO
   rw [h1]; exact iX (hO.so i) he
  have h3:0<s.length:=(hO.ok i (k,s) he).2.2.1
  rw [h2] at hJ
  exact ⟨List.length_pos_iff.1 h3,hJ⟩
 ·rintro ⟨h1,h2⟩
  have h3:eO Ls k=s:=hJ.uniq h2 fun _=>Iff.rfl
  refine ⟨tOf k,xF k,?_⟩
  have e:lI (Ls (tOf k)) k=s:=h3
  have:=vL (L:=Ls (tOf k)) (key:=k) (by rw [e]; exact h1)
  rw [e] at this; exact this
def sh6 (l:Slc) (w:World) (R:RW):Prop:=
 aD prog 7 [] w (aH R) fun v w1=>∃ x:Bool,v=(.bool x)∧aG (!x) (R (.returned (.bool false)) w1) (aD prog 8 [zS l] w1 (aH R) fun v1 w2=>∃ x1:Bool,v1=(.bool x1)∧aG (!x1) (R (.returned (.bool true)) w2) (aD prog 21 [zS l] w2 (aH R) fun v2 w3=>∃ x2:Slc,v2=(zS x2)∧aD prog 20 [zS x2] w3 (aH R) fun v3 w4=>∃ x3:Bool,v3=(.bool x3)∧aG (!x3) (R (.returned (.bool true)) w4) (aD prog 24 [] w4 (aH R) fun v4 w5=>∃ x4:Option Addr,v4=(.pointer x4)∧∃ (inv:List TV→World→Prop) (mu:List TV→World→Nat),inv [.i .i64 (0:Int)] w5∧(∀ i:Int,∀ w6:World,inv [.i .i64 i] w6→aG (decide (i<(x2.len:Int))) (((0≤i∧i<(x2.len:Nat))∧aA x2.a fun a=>∃ xa:List UInt8,∃ xb xc:Int,∃ xd:Slc,∃ xe:Bool,∃ xf xg:Slc,Rd w6 (a.add (i.toNat*7)) (yR xa xb xc xd xe xf xg)∧aF prog (Instr.buildSlice 22 1 #[(0,(zR xa xb xc xd xe xf xg))]) w6 fun v5 w7=>∃ x5:Slc,v5=(zS x5)∧aD prog 25 [.pointer x4,zS x5] w7 (aH R) fun v6 w8=>∃ x6:Int,v6=(.int .i64 x6)∧aG (x6 != (0:Int)) (R (.returned (.bool false)) w8) ((inv [.i .i64 (IntKind.i64.wrap (i+(1:Int)))] w8∧mu [.i .i64 (IntKind.i64.wrap (i+(1:Int)))] w8<mu [.i .i64 i] w6)))) (aD prog 26 [.pointer x4] w6 (aH R) fun v7 w9=>∃ x7:Slc,v7=(zS x7)∧aD prog 10 [zS l] w9 (aH R) fun v8 w10=>∃ x8:Slc,v8=(zS x8)∧aD prog 12 [zS x7,zS x8] w10 (aH R) fun v9 w11=>∃ x9:Bool,v9=(.bool x9)∧R (.returned (.bool x9)) w11)))))
theorem qV2 (l:Slc) {w:World} {R:RW} (hden:sh6 l w R):Calls prog 6 #[zS l] w R:=
 aB (q0 .z (q0 (q0 .z (.cond (q0 .z .z) .z)) (q0 (q0 .z (.cond (q0 .z .z) .z)) (q0 .z (q0 (q0 .z (.cond (q0 .z .z) .z)) (q0 .z (q0 (q0 .z (.block none (.loop [(5,(.i .i64))] (q0 (q0 .z (.cond .z .z)) (q0 (.block none (q0 .z (.cond (q0 .z .z) .z))) .z))))) (q0 .z .z)))))))) func6 (by kernel_rfl) [.sl l] (by kernel_rfl) (by kernel_rfl) hden
end Go.Proofs.YthaefcgpbccmbaaGreatDoor
end
section
namespace Go.Proofs.YthaefcgpbccmbaaGreatDoor
open Go Go.Sh Go.MapKept
open Go.Proofs.Tryz
section
variable {w:World}
theorem tH {s:Slc} {ls:List Rc} (hg:iE w) (hl:iK w s ls) (hn:s.len≤9000000000000000000) :
 Calls prog 6 #[.slice s.a s.len s.cap] w (Ret fun v w'=>v = .bool true∧Mod NoB w w'):=by
 refine qV2 _ ?_
 unfold sh6
 refine aC (qID hg) ?_
 rintro v w1 ⟨rfl,hm1⟩
 refine ⟨_,rfl,aE (fun h=>by cases h) fun _=>?_⟩
 refine aC (qKH (hl.no hm1) (by omega)) ?_
 rintro v w2 ⟨b,rfl,hb,rfl⟩
 refine ⟨b,rfl,aE (fun h=>⟨rfl,hm1⟩) fun h=>?_⟩
 have hq:=hb (by simpa using h)
 have hq1:=hq.1
 refine aC (qEA ((hl.no hm1).at hq) (by omega)) ?_
 rintro v w3 ⟨x2,rfl,hR⟩
 have hrl:(bG ls).length≤16:=Nat.le_trans (List.length_filter_le _ _) hq1
 refine ⟨x2,rfl,aC (qRC hR.at (by omega)) ?_⟩
 rintro v w4 ⟨b',rfl,hb',hm4⟩
 have hM4:=(hm1.tr hR.m).tr hm4
 refine ⟨b',rfl,aE (fun h=>⟨rfl,hM4⟩) fun h=>?_⟩
 have hT:gD (bG ls):=hb' (by simpa using h)
 have hA4:=(hl.no hM4).at hq
 have hR4:=hR.at
 refine aC qQ0 ?_
 rintro v w5 ⟨p,ts0,Bs0,rfl,hp5,hF5,hpW,hpB,hp,hm5⟩
 refine ⟨_,rfl,?_⟩
 have hM5:=hM4.tr hm5
 have hpl:=hp5.lt
 obtain ⟨hs,g1,g2,g3,g4,g5⟩:=hR
 have hx2l:=bI Hd.len (by omega) g1.rd
 refine ⟨fun l' w'=>match l' with | [.i _ y]=>∃ (k:Nat) (ts:Nat→Tr) (Ls:Nat→Lv) (Bs:Nat→Nat→Prop),y=(k:Int)∧k≤(bG ls).length∧ShAt w' p ts Ls Bs w4.heap.size∧Holds Ls ((bG ls).take k)∧dV Ls k∧Mod (fun z=>z=p) w5 w' | _=>False,fun l' _=>match l' with | [.i _ y]=>((bG ls).length - y).toNat | _=>0,
  ⟨0,ts0,fun _=>[],Bs0,rfl,by omega,⟨hp5,hF5,hp,hpW,hpB⟩,holds_none,wP,Mod.refl _ _⟩,?_⟩
 rintro y w6 ⟨k,ts,Ls,Bs,rfl,hk,hS6,hH6,hO6,hm6⟩
 have hs45:=hm5.size
 have hM6:Mod NoB w4 w6:=hm5.fresh hm6 fun z e=>by omega
 have hg6:dR w6:=hg.sha.no (hM4.tr hM6)
 have hlo : ∀ z,isG z→z<w4.heap.size:=fun z hz=>(hg.sha.no hM4).lt hz
 refine aE (fun h=>?_) fun h=>?_
 ·have hlt:k<(bG ls).length:=by have:=of_decide_eq_true h; omega
  have hlh:k<hs.length:=by omega
  obtain ⟨A,ea,hrd⟩:=bQ Hd.len (by omega) ((g1.no hm4).no hM6).rd hlh
  refine ⟨⟨by omega,by omega⟩,?_⟩
  rw [ea]
  let t:=hs[k]
  have Ht:cN w6 t (bG ls)[k]:=(g4 k hlh hlt).no ((g5.tr hm4).tr hM6)
  refine ⟨t.a,t.b,t.c,t.d,t.e,t.f,t.g,hrd,?_⟩
  refine sI (h1:=t) Ht fun x5 w7 hm7 hR7=>⟨x5,rfl,?_⟩
  have hrr:(bG ls)[k].right=true:=(List.mem_filter.1 (List.getElem_mem hlt)).2
  have htk:(bG ls).take (k+1)=(bG ls).take k++[(bG ls)[k]]:=aT hlt
  have hTk:gD (bG ((bG ls).take k++[(bG ls)[k]])):=hT.sub fun r hr=>by
   rw [← htk] at hr
   exact List.mem_of_mem_take (List.mem_filter.1 hr).1
  have hmx : ∀ rs,lP (aV ((bG ls).take k++[(bG ls)[k]]) (bG ls)[k].key) rs→rs.length≤16:=fun rs hM=>qGA hrl (fun x hx=>by rw [← htk] at hx; exact List.mem_of_mem_take hx) hM
  refine aC (qSG (n:=k) (hg6.no hm7) hlo (hS6.no hm7) hO6 (by simp; omega) hR7 fun j hj L1 hPu hr out hJ=>?_) ?_
  ·have hj0:j=0:=by simp at hj; omega
   subst hj0
   rw [rD hPu] at hJ
   exact qGB hrr hTk hH6 hJ
  rintro v w8 ⟨e,rfl,⟨rfl,ts',Ls',Bs',hPu,hS8,_,hO8,hm8⟩ | ⟨he,j,hj,L1,L2,hPu,hTk',_⟩⟩
  ·refine ⟨0,rfl,aE (fun h=>by cases h) fun _=>?_⟩
   rw [wrap_i64 (e:=(k:Int)+1) (by omega)]
   have hh:=qA hO6 (by omega) hmx hrr hTk hH6 (qF1 hPu)
   refine ⟨⟨k+1,ts',Ls',Bs',by omega,by omega,hS8,by rw [htk]; exact hh.2,hO8,(hm6.no' hm7).tr hm8⟩,by (try simp only []); omega⟩
  ·exfalso
   have hj0:j=0:=by simp at hj; omega
   subst hj0
   have hL1:L1=Ls:=rD hPu
   subst hL1
   exact he (qA hO6 (by omega) hmx hrr hTk hH6 hTk').1
 ·have hkk:k=(bG ls).length:=by have:=of_decide_eq_false h; omega
  subst hkk
  rw [List.take_length] at hH6
  refine aC (qBU hS6 hO6 (by omega)) ?_
  rintro v w9 ⟨x7,L,rfl,hQ9,hs9,hm9,hM9⟩
  refine ⟨x7,rfl,?_⟩
  have hM49:=hM6.tr hM9
  refine aC (kE ((hA4.mod (hM49.mono fun _ _ h=>h.elim)).le hM49.size) (by omega)) ?_
  rintro v w10 ⟨x8,L',rfl,hL',hQ10,hM10⟩
  refine ⟨x8,rfl,?_⟩
  have hLL:=tP hO6 hH6 hs9 hm9
  have hE:L=L':=hLL.uniq hL' fun _=>Iff.rfl
  subst hE
  obtain ⟨n1,n2⟩:=nC hL'
  refine aC (tV (hQ9.r.no hM10) hQ10.r (by omega) fun e he=>by have:=n2 e he; omega) ?_
  rintro v w11 ⟨rfl,hM11⟩
  exact ⟨_,rfl,by simp,((hM4.tr hM49).tr hM10).tr hM11⟩
end
end Go.Proofs.YthaefcgpbccmbaaGreatDoor
end
