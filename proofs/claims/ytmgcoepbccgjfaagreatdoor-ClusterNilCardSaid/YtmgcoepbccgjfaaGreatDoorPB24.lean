/- The forms of the translated functions,their contracts and the plain laws behind them,put together by a program. -/
import Derived.Test.YtmgcoepbccgjfaaGreatDoorPB23
set_option linter.unusedSimpArgs false
set_option linter.unusedVariables false
set_option maxRecDepth 1000000
set_option maxHeartbeats 8000000
section
namespace Go.Proofs.YtmgcoepbccgjfaaGreatDoor
open Go Go.Sh
theorem c_bitsFn {w:World} {b:Option Addr} {n:Int} : Calls Tryz.prog 627 #[.pointer b,.int .i64 n] w (Ret λv w'=>∃ p q,v = .func (.func 685) #[] #[.pointer (some ⟨q,0,none⟩),.pointer (some ⟨p,0,none⟩)]/\
 (∃ T,Blk w' p [.pointer b] T)/\(∃ T,Blk w' q [.int .i64 n] T)/\w.heap.size<=p/\w.heap.size<=q/\Mod NoB w w'):=by
 refine call627 _ _ ?_
 unfold sh627
 refine sem_box (l:=[.pointer b]) rfl λp w1 hN1 hb1=>⟨_,rfl,?_⟩
 refine sem_box (l:=[.int .i64 n]) rfl λq w2 hN2 hb2=>⟨_,rfl,?_⟩
 have h1:=hN1.at_; have h2:=hN2.at_; have h3:=hN1.size
 exact ⟨p,q,rfl,⟨_,hb1.no hN2.mod⟩,⟨_,hb2⟩,by omega,by omega,hN1.mod.tr hN2.mod⟩
theorem c_seq {w:World} {ll:Nat} {p q:Nat} {db:Addr} {d:List UInt8} {n:Nat} {I:Nat->World->Prop} (hd:d.length=64) (h0:I n w) (hq : ∃ T,Blk w q [.int .i64 (n:Int)] T) (hn:n<=512)
 (hI : ∀ i w1,n<=i->i<512->I i w1->Rd w1 ⟨p,0,none⟩ [.pointer (some db)]/\(∀ j,j<64->Rd w1 (db.add (j*1)) [.int .u8 (d.getD j 0).toNat])/\yieldK Tryz.prog ll [.int .u8 (bit d i).toNat] w1 λv w2=>v = .bool true/\I (i+1) w2) :
 Calls Tryz.prog 685 #[.func (.yield ll) #[] #[],.pointer (some ⟨q,0,none⟩),.pointer (some ⟨p,0,none⟩)] w (Ret λv w'=>v = .tuple #[]/\I 512 w'):=by
 refine call685 _ _ _ ?_
 unfold sh685
 obtain ⟨T,hq⟩:=hq
 refine ⟨n,hq.rd1 rfl,?_⟩
 refine ⟨λl' w'=>match l' with | [.i _ x]=>∃ k:Nat,x=k/\n<=k/\k<=512/\I k w' | _=>False,λl' _=>match l' with | [.i _ x]=>(512 - x).toNat | _=>0,⟨n,rfl,by omega,hn,h0⟩,?_⟩
 rintro i w1 ⟨k,rfl,hk1,hk2,hI1⟩
 refine condK_i (λhlt=>?_) λhge=>?_
 ·have hk:k<512:=by simp at hlt; omega
  obtain ⟨hr1,hr2,hy⟩:=hI k w1 hk1 hk hI1
  have e1:IntKind.i64.wrap (Int.tdiv (k:Int) 8)=((k / 8:Nat):Int):=by
   rw [show Int.tdiv (k:Int) 8=((k / 8:Nat):Int) from rfl,wrap_i64 (by omega)]
  have e2:IntKind.i64.wrap (7 - Int.tmod (k:Int) 8)=((7 - k % 8:Nat):Int):=by
   rw [show Int.tmod (k:Int) 8=((k % 8:Nat):Int) from rfl,wrap_i64 (by omega)]; omega
  rw [e1,e2]
  refine ⟨some db,hr1,by omega,⟨by omega,by omega⟩,d.getD (k / 8) 0,hr2 _ (by omega),by omega,by omega,?_⟩
  show yieldK _ _ _ _ _
  simp only [Int.toNat_natCast]
  obtain ⟨f,tmps,assign,body,g1,g2⟩:=hy
  refine ⟨f,tmps,assign,body,g1,RoundIn.mono g2 λe w2 he=>?_⟩
  obtain ⟨v,rfl,rfl,hI2⟩:=he
  refine ⟨_,rfl,true,rfl,?_⟩
  refine condK_i (λe=>by cases e) λ_=>⟨⟨k+1,wrap_nat (by omega),by omega,by omega,hI2⟩,?_⟩
  rw [wrap_nat (by omega)]; (try simp only []); omega
 ·have:k=512:=by simp at hge; omega
  subst this
  exact ⟨rfl,hI1⟩
theorem c_shardOf {w:World} {key:List UInt8} (hg:Glob w) (hn:key.length<=800000000) :
 Calls Tryz.prog 320 #[.string ⟨key.toArray⟩] w (Ret λv w'=>v = .int .i64 (shardOf (dg key))/\Mod NoB w w'):=by
 refine call320 _ ?_
 unfold sh320
 refine callK_ret (c_of hg hn) ?_
 rintro v w1 ⟨b,rfl,hb,hbk,hm⟩
 refine ⟨_,rfl,⟨by omega,by omega⟩,(dg key).getD 0 0,?_,by omega,rfl,hm⟩
 rw [addl]
 have h64:=dg_len key
 have:=rda (n:=0) hbk (bys_at (l:=dg key) (i:=0) (by omega))
 rw [List.getD_eq_getElem?_getD,List.getElem?_eq_getElem (by omega:0<(dg key).length)]
 simpa using this
theorem c_shardBits {w:World} {key:List UInt8} (hg:Glob w) (hn:key.length<=800000000) :
 Calls Tryz.prog 517 #[.string ⟨key.toArray⟩] w (Ret λv w'=>v = .string ⟨(way (dg key)).toArray⟩/\Mod NoB w w'):=by
 refine call517 _ ?_
 unfold sh517
 obtain ⟨ib,hb1,hb2,hb3,hb4⟩:=iBuilder
 refine sem_alloc (l:=[.pointer none,.slice none 0 0]) hb1 hb2 (by simp [Value.cells]) λo w1 hN1 hbo=>⟨_,rfl,?_⟩
 have hat1:=hN1.at_; have hsz1:=hN1.size
 have hB1:BuilderAt w1 o ⟨none,0,0⟩ []:=⟨⟨none,.inl rfl,hbo⟩,.inl ⟨rfl,rfl⟩,by simp⟩
 refine callK_ret (c_of (hg.no hN1.mod) hn) ?_
 rintro v w2 ⟨b,rfl,hbs,hbk,hm2⟩
 refine ⟨_,rfl,?_⟩
 refine callK_ret c_bitsFn ?_
 rintro v w3 ⟨p,q,rfl,⟨T1,hp⟩,⟨T2,hq⟩,hps,hqs,hm3⟩
 refine ⟨_,rfl,685,#[],#[.pointer (some ⟨q,0,none⟩),.pointer (some ⟨p,0,none⟩)],rfl,by kernel_rfl,?_⟩
 rintro rec dd ll w4 hdd hll hw4 hY
 have h64:=dg_len key
 have hs2:=hm2.size; have hs3:=hm3.size
 have hpl:=hp.lt; have hql:=hq.lt; have hbl:=hbk.lt
 have hM4:Mod NoB w3 w4:=by rw [hw4]; exact (alloc_mod _ _).tr (alloc_mod _ _)
 have hsz4:w4.heap.size=ll+1:=by rw [hw4]; simp; omega
 have hld4:w4.heap[ll]? = some (rec .ready none):=by
  rw [hw4,hll,hdd]
  have:=heap_alloc_new (w3.alloc (.deferred (some []))) (rec .ready none)
  simpa using this
 have hdd4:w4.heap[dd]? = some (.deferred (some [])):=by
  rw [hw4,hdd,heap_alloc_old _ _ (by simp)]
  exact heap_alloc_new _ _
 let I:Nat->World->Prop:=λi w'=>w'.heap[ll]? = some (rec .ready none)/\∃ s,BuilderAt w' o s ((bitsFrom (dg key) 2 (i - 2)).map (48 + ·))/\(s.blk=none\/∃ x,s.blk=some x/\ll<x)/\Mod (λx=>x=o\/x=ll) w4 w'
 have hseq:=c_seq (w:=w4) (ll:=ll) (p:=p) (q:=q) (db:=(⟨b,0,none⟩:Addr).add 0) (d:=dg key) (n:=2) (I:=I) h64
  ⟨hld4,⟨none,0,0⟩,by simpa [bitsFrom] using ((hB1.mod hm2 (λh=>h) λ_ _ h=>h).mod hm3 (λh=>h) λ_ _ h=>h).mod hM4 (λh=>h) λ_ _ h=>h,.inl rfl,Mod.refl _ _⟩
  ⟨T2,hq.no hM4⟩ (by omega) (by
   rintro i w5 hi1 hi2 ⟨hl5,s,hB5,hs5,hm5⟩
   have hne : ∀ x,x<w3.heap.size->x≠o->¬ (x=o\/x=ll):=λx hx hxo e=>by omega
   have hp5:Blk w5 p [.pointer (some ((⟨b,0,none⟩:Addr).add 0))] T1:=(hp.no hM4).mod hm5 (hne p (by omega) (by omega))
   have hb5:Blk w5 b (bys (dg key)) 606:=((hbk.no hm3).no hM4).mod hm5 (hne b (by omega) (by omega))
   refine ⟨hp5.rd1 rfl,λj hj=>?_,?_⟩
   ·rw [addl,Nat.zero_add,List.getD_eq_getElem?_getD,List.getElem?_eq_getElem (by omega:j<(dg key).length)]
    exact rda hb5 (bys_at (by omega))
   refine hY _ w5 _ hl5 ⟨hl5,?_⟩
   have hll5:=lt_of_get hl5
   obtain ⟨hmp,hgp,hsp⟩:=put_mod (o:=rec .busy none) hll5
   have hsll : ∀ x,s.blk=some x->x≠ll:=λx hx=>by rcases hs5 with h | ⟨y,h,hy⟩ <;> rw [h] at hx <;> cases hx; omega
   have hB5':=hB5.mod hmp (by omega) hsll
   refine sem_bytes [bit (dg key) i] (by rfl) rfl (by decide) (by decide) λx e w6 hN6 hx hbx hox=>⟨x,rfl,?_⟩
   have hat6:=hN6.at_; have hsz6:=hN6.size
   have hxb:=blk_of_eq hx
   have hB6:=hB5'.mod hN6.mod (λh=>h) λ_ _ h=>h
   have hs5l:=Row0.lt hB5'.row
   refine callK_ret (c_sign hB6 hox.rd (λy hy=>?_) (by simp; omega)) ?_
   ·have:=hxb y hy
    subst this
    refine ⟨by omega,by have:=hB5'.lt; omega,λhc=>?_⟩
    have:=hs5l _ hc; omega
   rintro v w7 ⟨rfl,s',hB7,hs7,hm7⟩
   refine ⟨rfl,?_⟩
   have hl7:w7.heap[ll]? = some (rec .busy none):=by
    rw [hm7.block ll (by omega) (λe=>e.elim (by omega) λe=>hsll ll e rfl),hN6.mod.block ll (by omega) (λh=>h)]
    exact hgp
   refine ⟨hl7,rfl,?_⟩
   have hll7:=lt_of_get hl7
   obtain ⟨hmq,hgq,hsq⟩:=put_mod (o:=rec .ready none) hll7
   have hs7':s'.blk=none\/∃ x,s'.blk=some x/\ll<x:=by
    rcases hs7 with h | ⟨y,h,hy⟩
    ·rw [h]; exact hs5
    ·exact .inr ⟨y,h,by omega⟩
   refine ⟨hgq,s',?_,hs7',?_⟩
   ·have e:i+1 - 2=(i - 2)+1:=by omega
    rw [e,bitsFrom_succ,List.map_append,show 2+(i - 2)=i by omega]
    exact hB7.mod hmq (by have:=hB5'.lt; omega) λx hx=>by rcases hs7' with h | ⟨y,h,hy⟩ <;> rw [h] at hx <;> cases hx; omega
   ·have m1:Mod (λx=>x=o\/x=ll) w4 (w5.putObj ll (rec .busy none)):=hm5.tr (hmp.mono λx _ e=>.inr e)
    have m2:=m1.no' hN6.mod
    have m3:Mod (λx=>x=o\/x=ll) w4 w7:=m2.trans hm7 (λ_ _ h=>h) λx hx e=>by
     rcases e with e | e
     ·exact .inl e
     ·rcases hs5 with h | ⟨y,h,hy⟩
      ·rw [h] at e; cases e
      ·rw [h] at e; cases e; omega
    exact m3.tr (hmq.mono λx _ e=>.inr e))
 refine callK_of hseq ?_ (λ_ _ h=>h.elim) (λ_ h=>h)
 rintro v w5 ⟨rfl,hl5,s,hB5,hs5,hm5⟩
 left
 refine ⟨hl5,?_⟩
 have hll5:=lt_of_get hl5
 obtain ⟨hmp,hgp,hsp⟩:=put_mod (o:=rec .exhausted none) hll5
 have hsll : ∀ x,s.blk=some x->ll<x:=λx hx=>by rcases hs5 with h | ⟨y,h,hy⟩ <;> rw [h] at hx <;> cases hx; omega
 have hB6:=hB5.mod hmp (by omega) λx hx=>by have:=hsll x hx; omega
 refine callK_of (c_string hB6 (by simp)) ?_ (λ_ _ h=>h.elim) (λ_ h=>h)
 rintro v w7 ⟨rfl,hm7⟩
 refine ⟨_,rfl,?_,rfl,?_⟩
 ·rw [hm7.block dd (by omega) (λe=>by have:=hsll _ e; omega),hmp.block dd (by omega) (by omega),hm5.block dd (by omega) (by omega)]
  exact hdd4
 ·have hdd7:dd<w7.heap.size:=by have:=hm7.size; omega
  obtain ⟨hmd,-,-⟩:=put_mod (w:=w7) (o:=.deferred none) hdd7
  have m0:Mod NoB w w4:=((hN1.mod.tr hm2).tr hm3).tr hM4
  have m1:=m0.fresh hm5 λx e=>by omega
  have m2:=m1.fresh hmp λx e=>by omega
  have m3:=m2.fresh hm7 λx e=>by have:=hsll x e; omega
  exact m3.fresh hmd λx e=>by omega
end Go.Proofs.YtmgcoepbccgjfaaGreatDoor
end
