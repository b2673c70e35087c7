/- The forms of the translated functions,their contracts and the plain laws behind them,put together by a program. -/
import Derived.Test.YthaefcgpbccmbaaGreatDoorPE12
import Derived.Lib.Overlaps
set_option linter.unusedSimpArgs false
set_option linter.unusedVariables false
set_option maxRecDepth 100000
set_option maxHeartbeats 4000000
section
namespace Go.Proofs.YthaefcgpbccmbaaGreatDoor
open Go Go.Sh
open Go.Proofs.Tryz
section
variable {w:World}
theorem qMW {n:Nat} (hn:n<=2000000000):Calls prog 256 #[.slice none 0 0,.int .i64 n] w (Ret λv w'=>∃ x:Slc,v=x.val/\Sh.Own w' x 1 (bys [])/\FB w x/\Mod NoB w w'):=by
 refine qLI ⟨none,0,0⟩ _ ?_
 unfold qTR
 obtain ⟨k6,h9,k3,k4,k5⟩:=i5
 refine ⟨λl w'=>w'=w,aC (λh=>by simp at h; omega) λ_=>rfl,?_⟩
 rintro w1 rfl
 have e1:zW ((n:Int) - zW (((0:Nat):Int) - ((0:Nat):Int)))=(n:Int):=by
  rw [show (((0:Nat):Int) - ((0:Nat):Int))=0 from rfl,wrap_i64 (e:=0) (by omega),wrap_i64 (by omega)]; omega
 simp only [e1]
 refine aC (λh=>?_) λ_=>⟨⟨none,0,0⟩,rfl,bK _ _,FB.nil _,Mod.refl _ _⟩
 refine ⟨⟨by omega,by omega⟩,?_⟩
 refine jI (s:=⟨none,0,0⟩) u26 (k2:=.i64) (by kernel_rfl) h9 k3 k4 rfl rfl k5 rfl (bK _ _) (by simp only []; omega) (by simp only []; omega) λx w2 ho hlen hblk hm=>⟨x,rfl,⟨by omega,by omega⟩,?_⟩
 have hx0:aF x 1 0 (((0:Nat):Int)).toNat x.cap=⟨x.a,0,x.cap⟩:=lE ho.2.1 (Nat.zero_le _)
 rw [hx0]
 refine ⟨_,rfl,by have:=ho.take (n:=0) (Nat.zero_le _); simpa [bys] using this,?_,hm.mono λz _ hz=>by simp at hz⟩
 intro z hz
 rcases hblk with hb | hb
 ·have:x.blk=some z:=by rw [<-hz]; rfl
  rw [hb] at this; simp at this
 ·have:x.blk=some z:=by rw [<-hz]; rfl
  rw [hb] at this; cases this; exact Nat.le_refl _
def lens (l:List (zY)):Nat:=(l.map List.length).sum
theorem uH {l:List (zY)} {k:Nat} (h:k<l.length):lens (l.take (k+1))=lens (l.take k)+l[k].length:=by
 unfold lens
 rw [aL h,List.map_append,List.sum_append]
 simp only [List.map_cons,List.map_nil,List.sum_cons,List.sum_nil,Nat.add_zero]
theorem lU (l:List (zY)):l.flatten.length=lens l:=by simp [lens,List.length_flatten]
theorem qDC {l:List (zY)} (k:Nat):lens (l.take k)<=lens l:=by
 have:=lU (l.take k); have h2:=lU l
 have:l.flatten=(l.take k).flatten++(l.drop k).flatten:=by rw [<-List.flatten_append,List.take_append_drop]
 have:=congrArg List.length this
 rw [List.length_append] at this
 omega
theorem zJ {parts:Slc} {pl:List (zY)} {X:Nat->Prop} (hp:PartsAt w parts pl X) (u1 : ∀ x,X x->x<w.heap.size) (hn:pl.flatten.length<=1000000000) (hm:pl.length<=1000000000) :
 Calls prog 191 #[.slice parts.a parts.len parts.cap] w (Ret λv w'=>∃ x:Slc,v=x.val/\Sh.Own w' x 1 (bys pl.flatten)/\FB w x/\Mod NoB w w'):=by
 refine qPR _ ?_
 unfold qXG
 obtain ⟨u2,k5,k6,p8,p9⟩:=i5
 obtain ⟨ss,hps,u3,hsl,hsp⟩:=hp
 have hpl:ss.length=parts.len:=by have:=hps.1; simpa using this
 have hfl:=lU pl
 refine ⟨λl w'=>match l with | [.i _ s,.i _ x]=>∃ k:Nat,x=(k:Int)/\k<=pl.length/\s=(lens (pl.take k):Nat)/\w'=w | _=>False,λl _=>match l with | [.i _ _,.i _ x]=>(pl.length - x).toNat | _=>0,⟨0,rfl,by omega,by simp [lens],rfl⟩,?_⟩
 rintro s x w1 ⟨k,rfl,hk,rfl,rfl⟩
 refine aC (λhlt=>?_) λhge=>?_
 ·have hlt:k<ss.length:=by have:=hlt; simp at this; omega
  obtain ⟨a,ea,hr⟩:=pA hps hlt
  have q8:=uH (l:=pl) (k:=k) (by omega)
  have hle:=qDC (l:=pl) (k+1)
  obtain ⟨hs1,hs2⟩:=hsp k hlt (by omega)
  have hl1:=aV hs1
  refine ⟨⟨by omega,by omega⟩,?_⟩
  rw [ea]
  refine ⟨ss[k],hr,?_⟩
  have ew:zW ((lens (pl.take k):Nat)+(ss[k].len:Int))=((lens (pl.take (k+1)):Nat):Int):=by rw [wrap_i64 (by omega)]; omega
  rw [ew,wrap_i64 (e:=(k:Int)+1) (by omega)]
  exact aC (λh=>by simp at h; omega) λ_=>⟨⟨k+1,by omega,by omega,rfl,rfl⟩,by (try simp only []); omega⟩
 ·have hkk:k=pl.length:=by have:=hge; simp at this; omega
  subst hkk
  rw [List.take_length]
  refine aB (qMW (by omega)) ?_
  rintro v w2 ⟨x,rfl,ho,hf,q9⟩
  refine ⟨x,rfl,?_⟩
  refine ⟨λl w'=>match l with | [.sl s,.i _ x]=>∃ k:Nat,x=(k:Int)/\k<=pl.length/\Sh.Own w' s 1 (bys (pl.take k).flatten)/\FB w1 s/\Mod NoB w1 w' | _=>False,λl _=>match l with | [.sl _,.i _ x]=>(pl.length - x).toNat | _=>0,⟨0,rfl,by omega,by simpa using ho,hf,q9⟩,?_⟩
  rintro s y w3 ⟨k,rfl,hk,k3,k4,h9⟩
  refine aC (λhlt=>?_) λhge=>?_
  ·have hlt:k<ss.length:=by have:=hlt; simp at this; omega
   obtain ⟨a,ea,hr⟩:=pA (hps.no h9) hlt
   obtain ⟨hs1,hs2⟩:=hsp k hlt (by omega)
   have hl1:=aV hs1
   have q8:=uH (l:=pl) (k:=k) (by omega)
   have hle:=qDC (l:=pl) (k+1)
   have t6:=aV k3.rd
   rw [lU] at t6
   refine ⟨⟨by omega,by omega⟩,?_⟩
   rw [ea]
   refine ⟨ss[k],hr,?_⟩
   rw [wrap_i64 (e:=(k:Int)+1) (by omega)]
   refine aS u26 k5 k6 p8 rfl p9 k3 (hs1.no h9) (eX _) (by omega) (by omega) λs' w4 t7 hlen hblk u0=>⟨s',rfl,⟨k+1,by omega,by omega,?_,k4.step h9.size hblk,k4.mod h9 u0⟩,by (try simp only []); omega⟩
   rw [aL (show k<pl.length by omega),List.flatten_append,gV]
   simpa using t7
  ·have hkk:k=pl.length:=by have:=hge; simp at this; omega
   subst hkk
   rw [List.take_length] at k3
   exact ⟨s,rfl,k3,k4,h9⟩
end
section
variable {P:Program} {w:World} {K:Value->zP}
theorem lX {t t2 ty e:TypeId} {i:TypeInfo} (ht:P.underlying t=some (.slice e)) (hi:P.info? e=some i) {k:Nat} (hk:i.size=k)
 {d x:Slc} {b o:Nat} {l ys:List Value} {T:TypeId} (hd:d.a=some ⟨b,o,none⟩) (hb:Blk w b l T) (hfit:o+d.len*k<=l.length) (hx:aK w x k ys) (h1 : ∀ y∈ys.take (min x.len d.len*k),y.oneCell'=true)
 (hK : ∀ w',Blk w' b (putAt l o (ys.take (min x.len d.len*k))) T->Mod (λy=>y=b) w w'->w'.heap.size=w.heap.size->K (.int .i64 (min x.len d.len:Nat)) w') :
 aH P (Builtin.copy_ #[t,t2] ty #[.slice d.a d.len d.cap,.slice x.a x.len x.cap]) w K:=by
 subst hk
 have hxl:=hx.1
 have k4:=bJ (P:=P) (s:=⟨x.a,min x.len d.len,x.cap⟩) (w:=w) (k:=i.size) (vs:=ys.take (min x.len d.len*i.size)) (by
  refine ⟨?_,by have:=hx.2.1; simp only []; omega,?_⟩
  ·rw [List.length_take,hxl]
   exact Nat.min_eq_left (Nat.mul_le_mul_right _ (Nat.min_le_left _ _))
  ·rcases hx.2.2 with h | ⟨a',e1,e2⟩
   ·left; simp [h]
   ·exact .inr ⟨a',e1,λj v hj=>e2 j v (by rw [List.getElem?_take] at hj; split at hj <;> simp_all)⟩)
 have hlt:(ys.take (min x.len d.len*i.size)).length=min x.len d.len*i.size:=by
  rw [List.length_take,hxl]
  exact Nat.min_eq_left (Nat.mul_le_mul_right _ (Nat.min_le_left _ _))
 have hle:min x.len d.len*i.size<=d.len*i.size:=Nat.mul_le_mul_right _ (Nat.min_le_right _ _)
 obtain ⟨w',hst,k5,k3⟩:=fR (P:=P) (o:=o) (vs:=ys.take (min x.len d.len*i.size)) hb (by rw [hlt]; omega) h1
 refine ⟨_,_,?_,hK _ k5 k3.mod k3.size⟩
 have hg : ∀ w,(Builtin.lenOf (.slice x.a x.len x.cap)).run P w = .ok x.len w:=λw=>by simp [Builtin.lenOf]
 have h9:(Builtin.firstCells i.size (min x.len d.len) (.slice x.a x.len x.cap)).run P w = .ok (ys.take (min x.len d.len*i.size)).toArray w:=by
  rw [<-k4]; cases x.a <;> simp [Builtin.firstCells]
 unfold Builtin.copy_
 simp only [List.getElem?_toArray,List.getElem?_cons_zero,List.getElem?_cons_succ,run_underlying ht,Sem.run_bind,Sem.run_pure,Result.andThen_ok,hg,Go.Sh.run_sizeOf hi,goInt,show Nat.min x.len d.len=min x.len d.len from rfl,h9,hd,hst]
theorem nT {t t2 ty e:TypeId} {k2:IntKind} {i:TypeInfo} {z:Value} (ht:P.underlying t=some (.slice e)) (k5:P.underlying t2=some (.int k2)) (hi:P.info? e=some i) (hz:i.zero=some z) (hk:i.size=1) (hzc:z.cells = #[z]) {bytes:Nat} (k6:i.bytes=bytes)
 {s:Slc} {vs:List Value} {n:Nat} {xn:Int} {kn:IntKind} (p8:xn=n) (hs:Sh.Own w s 1 vs) (hb:(s.len+n)*bytes<=140737488355328) (hm:s.len+n<=9223372036854775807) (hcap:s.cap<s.len+n)
 (hK : ∀ (c:Nat) (w':World),Sh.Own w' ⟨some ⟨w.heap.size,0,none⟩,s.len+n,c⟩ 1 (vs++List.replicate n z)->Mod NoB w w'->K (.slice (some ⟨w.heap.size,0,none⟩) (s.len+n) c) w') :
 aH P (Builtin.append_ #[t,t2] ty #[.slice s.a s.len s.cap,.int kn xn]) w K:=by
 subst k6 p8
 have hsl:=hs.1
 have hw:zW (n:Int)=n:=wrap_i64 (by omega)
 have hn0 : ¬ ((n:Int)<0):=by omega
 have h9 : ¬ ((281474976710656:Int)<(n:Int)*i.bytes):=by
  have:((n:Int)*i.bytes)=((n*i.bytes:Nat):Int):=by simp
  rw [this]
  have h2:n*i.bytes<=(s.len+n)*i.bytes:=Nat.mul_le_mul_right _ (by omega)
  omega
 have h0:n≠0:=by have:=hs.2.1; omega
 have p9 : ¬ ((9223372036854775807:Int)<(s.len:Int)+n):=by omega
 have q8 : ¬ (281474976710656<Builtin.nextslicecap (s.len+n) s.cap*i.bytes):=by
  have:=growslice_fits hcap hb; omega
 have k3:=bJ (P:=P) (w:=w.drew) (hs.rd).drew
 have hn : ¬ (s.len+n<=s.cap):=by omega
 have hge:=grownCap_ge w (s.len+n) s.cap e
 have hrun:(Builtin.append_ #[t,t2] ty #[.slice s.a s.len s.cap,.int kn (n:Int)]).run P w = .ok (.slice (some ⟨w.heap.size,0,none⟩) (s.len+n) (grownCap w (s.len+n) s.cap e)) (w.drew.alloc (.cells (vs.toArray++(List.replicate n z).toArray++Builtin.zeroCells z.cells (grownCap w (s.len+n) s.cap e - (s.len+n))) e)):=by
  simp [Builtin.append_,run_underlying ht,run_underlying k5,sizeOf,typeInfo,zeroValue,hi,hz,asInt,asIntOf,hw,hn0,h9,h0,hn,p9,q8,Question.forced,newRow,grownCap,hk,hzc,zc1]
  rw [k3]
  simp only [Result.andThen_ok]
  rfl
 have k4:=fJ w (.cells (vs.toArray++(List.replicate n z).toArray++Builtin.zeroCells z.cells (grownCap w (s.len+n) s.cap e - (s.len+n))) e)
 have hblk:Blk (w.drew.alloc (.cells (vs.toArray++(List.replicate n z).toArray++Builtin.zeroCells z.cells (grownCap w (s.len+n) s.cap e - (s.len+n))) e)) w.heap.size (vs++List.replicate n z++(Builtin.zeroCells z.cells (grownCap w (s.len+n) s.cap e - (s.len+n))).toList) e:=by
  refine Blk.mk ?_
  rw [k4.get]
  congr 2
  apply Array.ext'
  simp [List.append_assoc]
 refine ⟨_,_,hrun,hK (grownCap w (s.len+n) s.cap e) _ ⟨by simp [hsl],hge,.inr ⟨w.heap.size,0,_,e,rfl,hblk,by simp [hsl,hzc,zc1]; omega,?_⟩⟩ k4.mod⟩
 simp only [List.drop_zero]
 rw [List.take_append_of_le_length (by simp [hsl]),List.take_of_length_le (by simp [hsl])]
end
def bL (l:List Slc):List Value:=l.map Slc.val
theorem lH (l:List Slc) : ∀ y∈bL l,y.oneCell'=true:=by
 intro y hy
 obtain ⟨x,_,rfl⟩:=List.mem_map.1 hy
 rfl
section
variable {w:World}
theorem yU {s:Slc} {ss:List Slc} (hs:aK w s 1 (bL ss)) (hn:ss.length<=1000000000) :
 Calls prog 244 #[.slice s.a s.len s.cap] w (Ret λv w'=>∃ s',v=s'.val/\Sh.Own w' s' 1 (bL ss)/\FB w s'/\Mod NoB w w'):=by
 obtain ⟨i',h1,h2,h3,h4⟩:=i26
 have hl:ss.length=s.len:=by have:=hs.1; simpa [bL] using this
 refine qQC _ ?_
 unfold qVG
 refine kG (e:=38) u22 ⟨_,rfl,aC (λh=>?_) (λh=>?_)⟩
 ·have:ss=[]:=by
   rcases hs.2.2 with h0 | ⟨b,e1,_⟩
   ·simpa [bL] using h0
   ·rw [e1] at h; simp at h
  subst this
  exact ⟨⟨none,0,0⟩,rfl,bK _ _,FB.nil _,Mod.refl _ _⟩
 ·refine kZ u22 h1 λb w1 hN=>⟨⟨some ⟨b,0,none⟩,0,0⟩,rfl,?_⟩
  refine aS (s:=⟨some ⟨b,0,none⟩,0,0⟩) u22 h1 h2 h3 rfl h4 (kW _ _ _) (hs.no hN.mod) (lH _) (by simp only []; omega) (by simp only []; omega) λs' w2 ho hlen hblk hm=>⟨s',rfl,s',rfl,by simpa using ho,?_,?_⟩
  ·intro z hz
   rcases hblk with h | h
   ·rw [h] at hz; simp at hz
   ·rw [h] at hz; cases hz; exact hN.mod.size
  ·exact hN.mod.fresh hm λx e=>by simp at e
theorem qGC {v0:Value} {vb blk o n c m d:Nat} {T T':TypeId} {l:List Value} {fz:Nat×Nat} (hv:w.heap[vb]? = some (.cells #[v0] T (0,0))) (hs:w.heap[blk]? = some (.cells l.toArray T' fz)) (hl:l.length≠0) (hne:vb≠blk) :
 (callFunc 296 #[.slice (some ⟨vb,0,none⟩) n c,.slice (some ⟨blk,o,none⟩) m d]).run prog w = .ok (.value (.bool false)) w:=by
 obtain ⟨i',h1,h2,h3,h4⟩:=i26
 rw [run_callFunc_extern func296 (by kernel_rfl) (by kernel_rfl) (by kernel_rfl) (e:=Extern.SlicesOverlaps.overlaps #[77,77] #[4]) (by kernel_rfl),
  Lib.run_overlaps_apart w _ _ 38 u22 1 (λw=>by rw [Go.Sh.run_sizeOf h1,h3]) ⟨vb,0,none⟩ ⟨blk,o,none⟩ n c m d hne T T' 1 l.length (by simp [World.shape?,hv]) (by simp [World.shape?,hs]) hl (by simp [World.frozen?,hv]) (by simp [World.frozen?,hv])]
 rfl
theorem fH (l:List Slc):(bL l).length=l.length:=by simp [bL]
theorem qIC {s:Slc} {ss:List Slc} {y:Slc} {vb:Nat} {T:TypeId} (ho:Sh.Own w s 1 (bL ss)) (hv:w.heap[vb]? = some (.cells #[y.val] T (0,0))) (hvs : ∀ z,s.blk=some z->z≠vb) (hn:ss.length<=100000000) :
 Calls prog 243 #[.slice s.a s.len s.cap,.int .i64 0,.slice (some ⟨vb,0,none⟩) 1 1] w (Ret λv w'=>∃ x:Slc,v=x.val/\Sh.Own w' x 1 (bL (y :: ss))/\(x.blk=s.blk\/∃ z,x.blk=some z/\w.heap.size<=z)/\Mod (λz=>s.blk=some z) w w'):=by
 refine qPT _ _ ⟨some ⟨vb,0,none⟩,1,1⟩ ?_
 unfold qWX jFI
 obtain ⟨i',h1,h2,h3,h4⟩:=i26
 have hsl:s.len=ss.length:=by have:=ho.1; rw [fH] at this; omega
 have u2:Blk w vb [y.val] T:=⟨(0,0),hv,.inl rfl⟩
 have k6:aK w ⟨some ⟨vb,0,none⟩,1,1⟩ 1 [y.val]:=(aY (n:=1) (k:=1) u2 rfl).rd
 have y1 : ∀ u∈[y.val],u.oneCell'=true:=lH [y]
 refine ⟨⟨by omega,by omega⟩,aC (λh=>by simp at h) λ_=>aC (λh=>?_) λh=>?_⟩
 ·have h0:ss=[]:=List.eq_nil_of_length_eq_zero (by have:=h; simp at this; omega)
  subst h0
  refine aS u22 h1 h2 h3 rfl h4 ho k6 y1 (by simp only []; simp at hsl; omega) (by simp only []; simp at hsl; omega) λx w2 h9 hlen hblk hm=>⟨x,rfl,x,rfl,by simpa [bL] using h9,?_,hm⟩
  rcases hblk with hb | hb
  ·exact .inl hb
  ·exact .inr ⟨_,hb,Nat.le_refl _⟩
 ·have h0:ss.length≠0:=λe=>by simp [hsl,e] at h
  have e1:zW ((s.len:Int)+((1:Nat):Int))=((ss.length+1:Nat):Int):=by rw [wrap_i64 (by omega)]; omega
  have e2:zW ((0:Int)+((1:Nat):Int))=((1:Nat):Int):=by decide
  have e3:zW (((ss.length+1:Nat):Int) - 0)=((ss.length+1:Nat):Int):=by rw [wrap_i64 (by omega)]; omega
  simp only [e1,e2,e3,Int.toNat_natCast,Int.toNat_zero]
  refine aC (λhc=>?_) λhc=>?_
  ·have hc:s.cap<ss.length+1:=by have:=hc; simp at this; omega
   have hcc:=ho.2.1
   have ec:aF s 1 0 0 s.cap=⟨s.a,0,s.cap⟩:=lE hcc (Nat.zero_le _)
   rw [ec]
   have u3:=ho.take (n:=0) (Nat.zero_le _)
   refine ⟨⟨by omega,by omega⟩,?_⟩
   refine nT (s:=⟨s.a,0,s.cap⟩) u22 (k2:=.i64) (by kernel_rfl) h1 h2 h3 rfl h4 rfl u3 (by simp only []; omega) (by simp only []; omega) (by simp only []; omega) λc w2 h9 p8=>⟨⟨some ⟨w.heap.size,0,none⟩,0+(ss.length+1),c⟩,rfl,⟨by omega,by omega⟩,?_⟩
   simp only [Nat.zero_add,Nat.zero_mul,List.take_zero,List.nil_append] at h9 ⊢
   rcases h9.owned with ⟨hz1,hz2,_⟩ | ⟨hz1,b,o,l,E,ea,hB,hfit,hcon⟩
   ·simp only [] at hz2; omega
   ·cases ea
    have hcl:=h9.2.1
    simp only [] at hcl hz1 hfit hcon
    simp only [List.drop_zero,Nat.mul_one] at hcon
    have u4:=aT hv
    have p9:aF ⟨some ⟨w.heap.size,0,none⟩,ss.length+1,c⟩ 1 0 (ss.length+1) c=⟨some ⟨w.heap.size,0,none⟩,ss.length+1,c⟩:=lE (s:=⟨some ⟨w.heap.size,0,none⟩,ss.length+1,c⟩) hcl hcl
    have q8:aF ⟨some ⟨w.heap.size,0,none⟩,ss.length+1,c⟩ 1 1 (ss.length+1) c=⟨some ⟨w.heap.size,1,none⟩,ss.length,c - 1⟩:=by
     unfold aF; simp only []; rw [if_neg (by omega)]; simp
    have u5:aF s 1 0 s.len s.cap=s:=by rw [lE hcc hcc]
    rw [p9]
    refine lX (d:=⟨some ⟨w.heap.size,0,none⟩,ss.length+1,c⟩) (o:=0) u22 h1 h3 rfl hB (by simp only []; omega) (k6.no p8) (λu hu=>y1 u (List.mem_of_mem_take hu)) λw3 k3 k4 q9=>⟨_,rfl,?_⟩
    rw [q8,u5]
    refine ⟨⟨by omega,by omega⟩,⟨by omega,by omega⟩,?_,trivial⟩
    have em:min (Slc.len ⟨some ⟨vb,0,none⟩,1,1⟩) (Slc.len ⟨some ⟨w.heap.size,0,none⟩,ss.length+1,c⟩)*1=1:=by simp only []; omega
    rw [em] at k3
    have t6:aK w3 s 1 (bL ss):=(ho.rd.no p8).mod k4 λz hz e=>by have:=ho.lt hz; omega
    refine lX (d:=⟨some ⟨w.heap.size,1,none⟩,ss.length,c - 1⟩) (o:=1) u22 h1 h3 rfl k3.drew (by rw [cZ (by simp; omega)]; simp only []; omega) t6.drew (λu hu=>lH _ u (List.mem_of_mem_take hu)) λw4 k5 t7 u0=>⟨_,rfl,?_⟩
    have u1:min s.len (Slc.len ⟨some ⟨w.heap.size,1,none⟩,ss.length,c - 1⟩)*1=ss.length:=by simp only []; omega
    have etk:(bL ss).take ss.length=bL ss:=List.take_of_length_le (by rw [fH]; exact Nat.le_refl _)
    rw [u1,etk] at k5
    refine ⟨⟨some ⟨w.heap.size,0,none⟩,ss.length+1,c⟩,rfl,⟨by simp [bL],hcl,.inr ⟨w.heap.size,0,_,E,rfl,k5,?_,?_⟩⟩,.inr ⟨w.heap.size,Slc.blk_of rfl hz1,Nat.le_refl _⟩,(p8.fresh (k4.tr ((Mod.drew _ _).tr t7)) λz e=>by omega).mono λ_ _ h=>h.elim⟩
    ·rw [cZ (by rw [cZ (by simp; omega),fH]; omega),cZ (by simp; omega)]; exact hfit
    ·have v1:ss.length+1<=l.length:=by omega
     simp only [putAt,List.drop_zero,List.take_zero,List.nil_append,List.length_cons,List.length_nil,Nat.zero_add,List.take_succ_cons]
     simp [bL]
  ·have hc2:ss.length+1<=s.cap:=by have:=hc; simp at this; omega
   clear hc
   have hcc:=ho.2.1
   rcases ho.owned with ⟨hz1,hz2,_⟩ | ⟨hz1,b,o,l,E,ea,hB,hfit,hcon⟩
   ·omega
   ·obtain ⟨sa,sl,sc⟩:=s
    simp only [] at ea hz1 hfit hcon hsl hc2 hcc
    subst ea hsl
    simp only [Nat.mul_one] at hcon hfit
    have u6:b≠vb:=hvs b (Slc.blk_of rfl hz1)
    have p9:aF ⟨some ⟨b,o,none⟩,ss.length,sc⟩ 1 0 (ss.length+1) sc=⟨some ⟨b,o,none⟩,ss.length+1,sc⟩:=lE (s:=⟨some ⟨b,o,none⟩,ss.length,sc⟩) hcc hc2
    have u7:aF ⟨some ⟨b,o,none⟩,ss.length+1,sc⟩ 1 0 (ss.length+1) sc=⟨some ⟨b,o,none⟩,ss.length+1,sc⟩:=lE (s:=⟨some ⟨b,o,none⟩,ss.length+1,sc⟩) hc2 hc2
    have q8:aF ⟨some ⟨b,o,none⟩,ss.length+1,sc⟩ 1 1 (ss.length+1) sc=⟨some ⟨b,o+1,none⟩,ss.length,sc - 1⟩:=by
     unfold aF; simp only []; rw [if_neg (by omega)]; simp
    simp only [p9,u7,q8]
    obtain ⟨fz,u9,hB2⟩:=id hB
    refine ⟨⟨by omega,by omega⟩,⟨by omega,by omega⟩,_,_,qGC hv u9 (by omega) (λe=>u6 e.symm),false,rfl,aC (λ_=>?_) (λh=>by simp at h)⟩
    refine ⟨⟨by omega,by omega⟩,⟨by omega,by omega⟩,?_,trivial⟩
    have t6:aK w.drew ⟨some ⟨b,o,none⟩,ss.length+1,sc⟩ 1 ((l.drop o).take (ss.length+1)):=⟨by simp; omega,hc2,.inr ⟨_,rfl,hB.drew.rd λj v hj=>by
     rw [List.getElem?_take] at hj
     split at hj
     ·rwa [List.getElem?_drop] at hj
     ·cases hj⟩⟩
    have em:min (Slc.len ⟨some ⟨b,o,none⟩,ss.length+1,sc⟩) (Slc.len ⟨some ⟨b,o+1,none⟩,ss.length,sc - 1⟩)*1=ss.length:=by simp only []; omega
    have etk:((l.drop o).take (ss.length+1)).take ss.length=bL ss:=by rw [List.take_take,Nat.min_eq_left (by omega)]; exact hcon
    refine lX (d:=⟨some ⟨b,o+1,none⟩,ss.length,sc - 1⟩) (o:=o+1) u22 h1 h3 rfl hB.drew (by simp only []; omega) t6 (by rw [em,etk]; exact lH _) λw3 k3 k4 q9=>⟨_,rfl,⟨by omega,by omega⟩,?_⟩
    rw [em,etk] at k3
    have hpl:(putAt l (o+1) (bL ss)).length=l.length:=cZ (by rw [fH]; omega)
    refine lX (d:=⟨some ⟨b,o,none⟩,ss.length+1,sc⟩) (o:=o) u22 h1 h3 rfl k3 (by rw [hpl]; simp only []; omega) (k6.mod ((Mod.drew _ _).tr k4) (λz hz e=>by rw [Slc.blk_mk] at hz; simp at hz; omega)) (λu hu=>y1 u (List.mem_of_mem_take hu)) λw4 k5 t7 u0=>⟨_,rfl,?_⟩
    have u1:min (Slc.len ⟨some ⟨vb,0,none⟩,1,1⟩) (Slc.len ⟨some ⟨b,o,none⟩,ss.length+1,sc⟩)*1=1:=by simp only []; omega
    rw [u1] at k5
    refine ⟨⟨some ⟨b,o,none⟩,ss.length+1,sc⟩,rfl,⟨by simp [bL],hc2,.inr ⟨b,o,_,E,rfl,k5,?_,?_⟩⟩,.inl (by rw [Slc.blk_mk,Slc.blk_mk]),(((Mod.drew _ _).tr k4).tr t7).mono λz _ hz=>by have hz:z=b:=hz; subst hz; exact Slc.blk_of rfl hz1⟩
    ·show o+sc*1<=_
     rw [cZ (by rw [hpl]; simp; omega),hpl]; omega
    ·have e5:[y.val].take 1=[y.val]:=rfl
     rw [e5]
     have e6:(putAt (putAt l (o+1) (bL ss)) o [y.val]).drop o=y.val :: (bL ss++l.drop (o+1+ss.length)):=by
      simp only [putAt,fH,List.length_singleton]
      have t1:((l.take (o+1)++bL ss++l.drop (o+1+ss.length)).take o)=l.take o:=by
       rw [List.append_assoc,List.take_append_of_le_length (by rw [List.length_take]; omega),List.take_take,Nat.min_eq_left (by omega)]
      have t2:((l.take (o+1)++bL ss++l.drop (o+1+ss.length)).drop (o+1))=bL ss++l.drop (o+1+ss.length):=by
       rw [List.append_assoc,List.drop_append_of_le_length (by rw [List.length_take]; omega),List.drop_eq_nil_of_le (by rw [List.length_take]; omega),List.nil_append]
      rw [t1,t2,List.append_assoc,List.drop_append_of_le_length (by rw [List.length_take]; omega),List.drop_eq_nil_of_le (by rw [List.length_take]; omega)]
      rfl
     rw [e6]
     have:(ss.length+1)*1=(ss.length)+1:=by omega
     simp only [Nat.mul_one,List.take_succ_cons]
     rw [List.take_append_of_le_length (by rw [fH]; exact Nat.le_refl _),List.take_of_length_le (by rw [fH]; exact Nat.le_refl _)]
     rfl
end
structure iW (w:World):Prop where
 sha:gE w
 twice:TR w (1,5)
 curve:TR w (2,5)
theorem iW.no {w w':World} (h:iW w) (hm:Mod NoB w w'):iW w':=⟨h.sha.no hm,h.twice.mod hm λh=>h,h.curve.mod hm λh=>h⟩
theorem wN (b:zY):(sha b).length=64:=by rw [sha,xT]; exact qAG (kN _)
def RN (n:Nat) (w:World) (v:Value) (w':World):Prop:=∃ (x:Slc) (l:zY),v=x.val/\Sh.Own w' x 1 (bys l)/\l.length=n/\FB w x/\Mod NoB w w'
theorem yZ {w:World} {n:Nat} {g:FuncId} {args:List Value} {pan:List PanicEntry->zP} {K:Slc->zP} (hc:Calls prog g args.toArray w (Ret (RN n w))) (hK : ∀ (x:Slc) l w',Sh.Own w' x 1 (bys l)->l.length=n->FB w x->Mod NoB w w'->K x w') :
 aD prog g args w pan λv w'=>∃ x:Slc,v = .slice x.a x.len x.cap/\K x w':=
 aB hc λv w' ⟨x,l,hv,h1,h2,h3,h4⟩=>⟨x,hv,hK x l w' h1 h2 h3 h4⟩
theorem yX {w:World} {first parts:Slc} {f:zY} {ss:List Slc} {pl:List (zY)} (hg:iW w) (hf:aK w first 1 (bys f)) (hfl : ∀ z,first.blk=some z->z<w.heap.size) (hp:aK w parts 1 (bL ss)) (hpl : ∀ z,parts.blk=some z->z<w.heap.size) (hsl:ss.length=pl.length)
 (hss : ∀ i (h:i<ss.length) (h':i<pl.length),aK w ss[i] 1 (bys pl[i])/\∀ z,ss[i].blk=some z->z<w.heap.size) (hn:f.length+pl.flatten.length<=800000000) (hm:pl.length<=1000000) :
 Calls prog 187 #[.slice first.a first.len first.cap,.slice parts.a parts.len parts.cap] w (Ret (RN 32 w)):=by
 refine qQI _ _ ?_
 unfold qTY
 refine aB (yU hp (by omega)) ?_
 rintro v w1 ⟨s1,rfl,k4,hb1,q8⟩
 refine ⟨s1,rfl,?_⟩
 refine iL [first] rfl rfl (by omega) (by omega) λx vb w2 k3 ex hB2 hx2=>⟨x,rfl,?_⟩
 subst ex
 have hvb:=k3.at_
 refine aB (qIC (y:=first) (k4.no k3.mod) k3.get (λz hz e=>by have:=k4.lt hz; omega) (by omega)) ?_
 rintro v w3 ⟨s3,rfl,k5,hb3,q9⟩
 have h9:Mod NoB w w3:=(q8.tr k3.mod).fresh q9 λz hz=>hb1 z hz
 refine ⟨s3,rfl,?_⟩
 have hX : ∀ z,s3.blk=some z->z<w3.heap.size:=λz hz=>k5.lt hz
 refine aB (qVQ (pl:=f :: pl) (X:=λz=>z<w3.heap.size) (hg.no h9).sha ⟨first :: ss,k5.rd,hX,by simp [hsl],λi hi k6=>?_⟩ (λ_ h=>h) (by rw [List.flatten_cons,List.length_append]; omega) (by simp; omega)) ?_
 ·cases i with
  | zero=>exact ⟨hf.no h9,λz hz=>Nat.lt_of_lt_of_le (hfl z hz) h9.size⟩
  | succ i=>exact ⟨(hss i (by simpa using hi) (by simpa using k6)).1.no h9,λz hz=>Nat.lt_of_lt_of_le ((hss i (by simpa using hi) (by simpa using k6)).2 z hz) h9.size⟩
 rintro v w4 ⟨d,rfl,p8,hb4,p9⟩
 refine ⟨d,rfl,?_⟩
 refine aB (qFN p8.rd λz hz=>p8.lt hz) ?_
 rintro v w5 ⟨r,rfl,⟨m,t6,t7⟩,u2,u0,u1⟩
 exact ⟨r,rfl,r,_,rfl,t6,t7 (by rw [wN]; omega),u0.le (h9.tr p9).size,(h9.tr p9).tr u1⟩
theorem jFA {w:World} {point pub parts:Slc} {f g:zY} {ss:List Slc} {pl:List (zY)} (hg:iW w) (hf:aK w point 1 (bys f)) (hfl : ∀ z,point.blk=some z->z<w.heap.size) (hq:aK w pub 1 (bys g)) (p8 : ∀ z,pub.blk=some z->z<w.heap.size) (hp:aK w parts 1 (bL ss)) (hpl : ∀ z,parts.blk=some z->z<w.heap.size) (hsl:ss.length=pl.length)
 (hss : ∀ i (h:i<ss.length) (h':i<pl.length),aK w ss[i] 1 (bys pl[i])/\∀ z,ss[i].blk=some z->z<w.heap.size) (hn:f.length+g.length+pl.flatten.length<=800000000) (hm:pl.length<=100000) :
 Calls prog 193 #[.slice point.a point.len point.cap,.slice pub.a pub.len pub.cap,.slice parts.a parts.len parts.cap] w (Ret (RN 32 w)):=by
 refine qSL _ _ _ ?_
 unfold qVK
 refine aB (yU hp (by omega)) ?_
 rintro v w1 ⟨s1,rfl,k4,hb1,p9⟩
 refine ⟨s1,rfl,?_⟩
 refine iL [pub] rfl rfl (by omega) (by omega) λx vb w2 k3 ex hB2 hx2=>⟨x,rfl,?_⟩
 subst ex
 have hvb:=k3.at_
 refine aB (qIC (y:=pub) (k4.no k3.mod) k3.get (λz hz e=>by have:=k4.lt hz; omega) (by omega)) ?_
 rintro v w3 ⟨s3,rfl,k5,hb3,q8⟩
 have h9:Mod NoB w w3:=(p9.tr k3.mod).fresh q8 λz hz=>hb1 z hz
 refine ⟨s3,rfl,?_⟩
 refine yZ (yX (pl:=g :: pl) (ss:=pub :: ss) (hg.no h9) (hf.no h9) (λz hz=>Nat.lt_of_lt_of_le (hfl z hz) h9.size) k5.rd (λz hz=>k5.lt hz) (by simp [hsl]) (λi hi k6=>?_) (by rw [List.flatten_cons,List.length_append]; omega) (by simp; omega)) λx l w4 h1 h2 h3 h4=>⟨x,l,rfl,h1,h2,h3.le h9.size,h9.tr h4⟩
 cases i with
 | zero=>exact ⟨hq.no h9,λz hz=>Nat.lt_of_lt_of_le (p8 z hz) h9.size⟩
 | succ i=>exact ⟨(hss i (by simpa using hi) (by simpa using k6)).1.no h9,λz hz=>Nat.lt_of_lt_of_le ((hss i (by simpa using hi) (by simpa using k6)).2 z hz) h9.size⟩
structure OpenAt (w0 w:World) (o:Nat):Prop where
 cells : ∃ (ps:List UInt64) (s d:Slc) (T:TypeId),ps.length=20/\Blk w o (us ps++[s.val,d.val]) T/\(∃ l,aK w s 1 (bys l)/\l.length=32)/\(∃ l,aK w d 1 (bys l)/\l.length=32)/\(∀ z,s.blk=some z->w0.heap.size<=z/\z<w.heap.size)/\(∀ z,d.blk=some z->w0.heap.size<=z/\z<w.heap.size)
 new:w0.heap.size<=o
theorem OpenAt.no {w0 w w':World} {o:Nat} (h:OpenAt w0 w o) (hm:Mod NoB w w'):OpenAt w0 w' o:=by
 obtain ⟨⟨ps,s,d,T,h1,h2,⟨l,h3,h9⟩,⟨m,h4,k3⟩,h5,h6⟩,hn⟩:=h
 exact ⟨⟨ps,s,d,T,h1,h2.no hm,⟨l,h3.no hm,h9⟩,⟨m,h4.no hm,k3⟩,λz hz=>⟨(h5 z hz).1,Nat.lt_of_lt_of_le (h5 z hz).2 hm.size⟩,λz hz=>⟨(h6 z hz).1,Nat.lt_of_lt_of_le (h6 z hz).2 hm.size⟩⟩,hn⟩
theorem qJT {w:World} {seed:Slc} {l:zY} (hg:iW w) (hs:aK w seed 1 (bys l)) (hsl : ∀ z,seed.blk=some z->z<w.heap.size) (hl:l.length=32) :
 Calls prog 183 #[.slice seed.a seed.len seed.cap] w (Ret λv w'=>∃ o,v = .tuple #[.pointer (some ⟨o,0,none⟩),.bool true]/\OpenAt w w' o/\Mod NoB w w'):=by
 refine qSF _ ?_
 unfold qWL
 have hlen:=aV hs
 refine aC (λh=>by simp at h; omega) λ_=>?_
 refine iL [seed] rfl rfl (by omega) (by omega) λx vb w1 hN1 ex z8 hx1=>⟨x,rfl,?_⟩
 subst ex
 refine aB (qVQ (pl:=[l]) (X:=λz=>z<w1.heap.size) (hg.no hN1.mod).sha ⟨[seed],hx1.rd,λz hz=>hx1.lt hz,rfl,qTB (hs.no hN1.mod) (λz hz=>Nat.lt_of_lt_of_le (hsl z hz) hN1.mod.size)⟩ (λ_ h=>h) (by simp; omega) (by simp)) ?_
 rintro v w2 ⟨d,rfl,k3,hb2,u1⟩
 have hM2:=hN1.mod.tr u1
 have hdl:=aV k3.rd
 rw [wN] at hdl
 have u2:=k3.2.1
 generalize hsh:sha [l].flatten=D at *
 have hD:D.length=64:=by rw [<-hsh]; exact wN _
 rcases k3.owned with ⟨e1,_,_⟩ | ⟨hz1,db,o,L,E,ea,hB,hfit,hcon⟩
 ·omega
 obtain ⟨da,dl,dc⟩:=d
 simp only [] at hdl u2 ea hz1 hfit hcon
 subst hdl ea
 have u3:w.heap.size<=db:=Nat.le_trans hN1.mod.size (hb2 db (Slc.blk_of rfl hz1))
 have ec:aF ⟨some ⟨db,o,none⟩,64,dc⟩ 1 0 32 32=⟨some ⟨db,o,none⟩,32,32⟩:=by unfold aF; rw [if_neg (by omega)]; simp
 have p9:aF ⟨some ⟨db,o,none⟩,64,dc⟩ 1 32 64 dc=⟨some ⟨db,o+32,none⟩,32,dc - 32⟩:=by unfold aF; rw [if_neg (by omega)]; simp
 have i32:((32:Int)).toNat=32:=rfl
 have hk : ∀ {w':World} {m:zY} (ho:Sh.Own w' ⟨some ⟨db,o,none⟩,64,dc⟩ 1 (bys m)) {i:Nat} (hi:i<m.length),Rd w' ((⟨db,o,none⟩:Addr).add (i*1)) [.int .u8 m[i].toNat]:=λho i hi=>by
  obtain ⟨a,e,hr⟩:=gL ho.rd hi
  cases e; exact hr
 refine ⟨⟨_,_,_⟩,rfl,?_⟩
 simp only [i32,ec,p9]
 refine ⟨⟨by omega,by omega,by omega⟩,⟨by omega,by omega⟩,_,hk k3 (i:=0) (by omega),⟨by omega,by omega⟩,?_⟩
 refine iC (by kernel_rfl) (by kernel_rfl) rfl k3 rfl (i:=0) (by show 0<64; omega) λw3 k5 u4 hs3=>?_
 rw [fU] at k5
 refine ⟨⟨by omega,by omega⟩,_,hk k5 (i:=31) (by simp; omega),⟨by omega,by omega⟩,?_⟩
 refine iC (by kernel_rfl) (by kernel_rfl) rfl k5 rfl (i:=31) (by show 31<64; omega) λw4 q8 u5 hs4=>?_
 rw [fU] at q8
 have q9 : ∀ z,Slc.blk ⟨some ⟨db,o,none⟩,64,dc⟩=some z->w.heap.size<=z:=λz hz=>by rw [Slc.blk_mk,if_neg (by omega)] at hz; cases hz; exact u3
 have t6:Mod NoB w w4:=(hM2.fresh u4 q9).fresh u5 q9
 refine ⟨⟨by omega,by show (32:Int)<=((64:Nat):Int); omega⟩,?_,trivial⟩
 refine aB (qHQ (hg.no (t6.tr (Mod.drew _ _))).curve) ?_
 rintro v w5 ⟨x0,x1,x2,x3,x4,x5,x6,x7,x8,x9,x10,x11,x12,x13,x14,x15,x16,x17,x18,x19,rfl,t7⟩
 refine ⟨_,_,_,_,_,_,_,_,_,_,_,_,_,_,_,_,_,_,_,_,rfl,?_,trivial⟩
 have k6:Mod NoB w w5:=(t6.tr (Mod.drew _ _)).tr t7
 have p8:Sh.Own w5 ⟨some ⟨db,o,none⟩,64,dc⟩ 1 _:=q8.no ((Mod.drew _ _).tr t7)
 have hmk : ∀ {m:zY} {w':World} (ho:Sh.Own w' ⟨some ⟨db,o,none⟩,64,dc⟩ 1 (bys m)),m.length=64->aK w' ⟨some ⟨db,o,none⟩,32,32⟩ 1 (bys (m.take 32))/\aK w' ⟨some ⟨db,o+32,none⟩,32,dc - 32⟩ 1 (bys (m.drop 32)):=λ{m w'} ho hm=>by
  have h1:=ho.rd.cut (l:=0) (n:=32) (m:=32) (by omega) (by simp only []; omega) (by omega) (by simp only []; omega)
  have h2:=ho.rd.cut (l:=32) (n:=64) (m:=dc) (by omega) (by simp only []; omega) (by omega) (by simp only []; omega)
  rw [ec,fV] at h1
  rw [p9,fV] at h2
  refine ⟨by simpa using h1,?_⟩
  have:(m.drop 32).take (64 - 32)=m.drop 32:=List.take_of_length_le (by simp; omega)
  rw [this] at h2; exact h2
 have hbl:db<w5.heap.size:=p8.lt (Slc.blk_of rfl hz1)
 have hx1:=(hmk p8 (by simp [hD])).1
 have hc:=qIM (x0:=x0) (x1:=x1) (x2:=x2) (x3:=x3) (x4:=x4) (x5:=x5) (x6:=x6) (x7:=x7) (x8:=x8) (x9:=x9) (x10:=x10) (x11:=x11) (x12:=x12) (x13:=x13) (x14:=x14) (x15:=x15) (x16:=x16) (x17:=x17) (x18:=x18) (x19:=x19) hx1 (λz hz=>by rw [Slc.blk_mk] at hz; simp at hz; omega) (hg.no k6).twice
 refine aB hc ?_
 rintro v w6 ⟨y0,y1,y2,y3,y4,y5,y6,y7,y8,y9,u6,u7,u9,y13,v1,v6,v7,v8,z1,z6,rfl,k4⟩
 refine ⟨_,_,_,_,_,_,_,_,_,_,_,_,_,_,_,_,_,_,_,_,rfl,?_,trivial⟩
 have u0:=p8.no k4
 refine aQ (l:=us [y0,y1,y2,y3,y4,y5,y6,y7,y8,y9,u6,u7,u9,y13,v1,v6,v7,v8,z1,z6]++[Slc.val ⟨some ⟨db,o,none⟩,32,32⟩,Slc.val ⟨some ⟨db,o+32,none⟩,32,dc - 32⟩]) rfl λq w7 h9 z7=>⟨_,rfl,q,rfl,⟨⟨_,⟨some ⟨db,o,none⟩,32,32⟩,⟨some ⟨db,o+32,none⟩,32,dc - 32⟩,_,rfl,z7,⟨_,(hmk (u0.no h9.mod) (by simp [hD])).1,by simp [hD]⟩,⟨_,(hmk (u0.no h9.mod) (by simp [hD])).2,by simp [hD]⟩,λz hz=>?_,λz hz=>?_⟩,?_⟩,(k6.tr k4).tr h9.mod⟩
 ·rw [Slc.blk_mk] at hz; simp at hz; have:=k4.size; have:=h9.mod.size; omega
 ·rw [Slc.blk_mk] at hz; split at hz
  ·cases hz
  ·simp at hz; have:=k4.size; have:=h9.mod.size; omega
 ·have:=h9.at_; have:=(k6.tr k4).size; omega
end Go.Proofs.YthaefcgpbccmbaaGreatDoor
end
