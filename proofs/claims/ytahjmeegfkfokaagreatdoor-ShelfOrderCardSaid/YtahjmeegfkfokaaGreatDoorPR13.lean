/- The forms of the translated functions,their contracts and the plain laws behind them,put together by a program. -/
import Derived.Test.YtahjmeegfkfokaaGreatDoorPR12
import Derived.Lib.Overlaps
set_option linter.unusedSimpArgs false
set_option linter.unusedVariables false
set_option maxRecDepth 100000
set_option maxHeartbeats 4000000
section
namespace Go.Proofs.YtahjmeegfkfokaaGreatDoor
open Go Go.Sh
open Go.Proofs.Tryz
section
variable {w:World}
theorem qLL {n:Nat} (hn:n≤2000000000):Calls prog 137 #[.slice none 0 0,.int .i64 n] w (Ret fun v w'=>∃ x:Slc,v=x.val∧Sh.Own w' x 1 (bys [])∧FB w x∧Mod NoB w w'):=by
 refine qJV ⟨none,0,0⟩ _ ?_
 unfold qTL
 obtain ⟨i5',h51,h52,h53,h54⟩:=i5
 refine ⟨fun l w'=>w'=w,aD (fun h=>by simp at h; omega) fun _=>rfl,?_⟩
 rintro w1 rfl
 have e1:IntKind.i64.wrap ((n:Int) - IntKind.i64.wrap (((0:Nat):Int) - ((0:Nat):Int)))=(n:Int):=by
  rw [show (((0:Nat):Int) - ((0:Nat):Int))=0 from rfl,wrap_i64 (e:=0) (by omega),wrap_i64 (by omega)]; omega
 simp only [e1]
 refine aD (fun h=>?_) fun _=>⟨⟨none,0,0⟩,rfl,bW _ _,FB.nil _,Mod.refl _ _⟩
 refine ⟨⟨by omega,by omega⟩,?_⟩
 refine jJ (s:=⟨none,0,0⟩) u26 (k2:=.i64) (by kernel_rfl) h51 h52 h53 rfl rfl h54 rfl (bW _ _) (by simp only []; omega) (by simp only []; omega) fun x w2 ho hlen hblk hm=>⟨x,rfl,⟨by omega,by omega⟩,?_⟩
 have hx0:aF x 1 0 (((0:Nat):Int)).toNat x.cap=⟨x.a,0,x.cap⟩:=nY ho.2.1 (Nat.zero_le _)
 rw [hx0]
 refine ⟨_,rfl,by have:=ho.take (n:=0) (Nat.zero_le _); simpa [bys] using this,?_,hm.mono fun z _ hz=>by simp at hz⟩
 intro z hz
 rcases hblk with hb | hb
 ·have:x.blk=some z:=by rw [← hz]; rfl
  rw [hb] at this; simp at this
 ·have:x.blk=some z:=by rw [← hz]; rfl
  rw [hb] at this; cases this; exact Nat.le_refl _
def lens (l:List (List UInt8)):Nat:=(l.map List.length).sum
theorem tF {l:List (List UInt8)} {k:Nat} (h:k<l.length):lens (l.take (k+1))=lens (l.take k)+l[k].length:=by
 unfold lens
 rw [aT h,List.map_append,List.sum_append]
 simp only [List.map_cons,List.map_nil,List.sum_cons,List.sum_nil,Nat.add_zero]
theorem lJ (l:List (List UInt8)):l.flatten.length=lens l:=by simp [lens,List.length_flatten]
theorem zT {l:List (List UInt8)} (k:Nat):lens (l.take k)≤lens l:=by
 have:=lJ (l.take k); have h2:=lJ l
 have:l.flatten=(l.take k).flatten++(l.drop k).flatten:=by rw [← List.flatten_append,List.take_append_drop]
 have:=congrArg List.length this
 rw [List.length_append] at this
 omega
theorem wN {parts:Slc} {pl:List (List UInt8)} {X:Nat→Prop} (hp:PartsAt w parts pl X) (hXl : ∀ x,X x→x<w.heap.size) (hn:pl.flatten.length≤1000000000) (hm:pl.length≤1000000000) :
 Calls prog 78 #[.slice parts.a parts.len parts.cap] w (Ret fun v w'=>∃ x:Slc,v=x.val∧Sh.Own w' x 1 (bys pl.flatten)∧FB w x∧Mod NoB w w'):=by
 refine qXJ _ ?_
 unfold jBL
 obtain ⟨i5',h51,h52,h53,h54⟩:=i5
 obtain ⟨ss,hps,hpX,hsl,hsp⟩:=hp
 have hpl:ss.length=parts.len:=by have:=hps.1; simpa using this
 have hfl:=lJ pl
 refine ⟨fun l w'=>match l with | [.i _ s,.i _ x]=>∃ k:Nat,x=(k:Int)∧k≤pl.length∧s=(lens (pl.take k):Nat)∧w'=w | _=>False,fun l _=>match l with | [.i _ _,.i _ x]=>(pl.length - x).toNat | _=>0,⟨0,rfl,by omega,by simp [lens],rfl⟩,?_⟩
 rintro s x w1 ⟨k,rfl,hk,rfl,rfl⟩
 refine aD (fun hlt=>?_) fun hge=>?_
 ·have hlt:k<ss.length:=by have:=hlt; simp at this; omega
  obtain ⟨a,ea,hr⟩:=uB hps hlt
  have hlk:=tF (l:=pl) (k:=k) (by omega)
  have hle:=zT (l:=pl) (k+1)
  obtain ⟨hs1,hs2⟩:=hsp k hlt (by omega)
  have hl1:=aW hs1
  refine ⟨⟨by omega,by omega⟩,?_⟩
  rw [ea]
  refine ⟨ss[k],hr,?_⟩
  have ew:IntKind.i64.wrap ((lens (pl.take k):Nat)+(ss[k].len:Int))=((lens (pl.take (k+1)):Nat):Int):=by rw [wrap_i64 (by omega)]; omega
  rw [ew,wrap_i64 (e:=(k:Int)+1) (by omega)]
  exact aD (fun h=>by simp at h; omega) fun _=>⟨⟨k+1,by omega,by omega,rfl,rfl⟩,by (try simp only []); omega⟩
 ·have hkk:k=pl.length:=by have:=hge; simp at this; omega
  subst hkk
  rw [List.take_length]
  refine aC (qLL (by omega)) ?_
  rintro v w2 ⟨x,rfl,ho,hf,hm2⟩
  refine ⟨x,rfl,?_⟩
  refine ⟨fun l w'=>match l with | [.sl s,.i _ x]=>∃ k:Nat,x=(k:Int)∧k≤pl.length∧Sh.Own w' s 1 (bys (pl.take k).flatten)∧FB w1 s∧Mod NoB w1 w' | _=>False,fun l _=>match l with | [.sl _,.i _ x]=>(pl.length - x).toNat | _=>0,⟨0,rfl,by omega,by simpa using ho,hf,hm2⟩,?_⟩
  rintro s y w3 ⟨k,rfl,hk,ho3,hf3,hm3⟩
  refine aD (fun hlt=>?_) fun hge=>?_
  ·have hlt:k<ss.length:=by have:=hlt; simp at this; omega
   obtain ⟨a,ea,hr⟩:=uB (hps.no hm3) hlt
   obtain ⟨hs1,hs2⟩:=hsp k hlt (by omega)
   have hl1:=aW hs1
   have hlk:=tF (l:=pl) (k:=k) (by omega)
   have hle:=zT (l:=pl) (k+1)
   have hl3:=aW ho3.rd
   rw [lJ] at hl3
   refine ⟨⟨by omega,by omega⟩,?_⟩
   rw [ea]
   refine ⟨ss[k],hr,?_⟩
   rw [wrap_i64 (e:=(k:Int)+1) (by omega)]
   refine bK u26 h51 h52 h53 rfl h54 ho3 (hs1.no hm3) (fN _) (by omega) (by omega) fun s' w4 ho4 hlen hblk hm4=>⟨s',rfl,⟨k+1,by omega,by omega,?_,hf3.step hm3.size hblk,hf3.mod hm3 hm4⟩,by (try simp only []); omega⟩
   rw [aT (show k<pl.length by omega),List.flatten_append,lQ]
   simpa using ho4
  ·have hkk:k=pl.length:=by have:=hge; simp at this; omega
   subst hkk
   rw [List.take_length] at ho3
   exact ⟨s,rfl,ho3,hf3,hm3⟩
end
section
variable {P:Program} {w:World} {K:Value→World→Prop}
theorem dB {t t2 ty e:TypeId} {i:TypeInfo} (ht:P.underlying t=some (.slice e)) (hi:P.info? e=some i) {k:Nat} (hk:i.size=k)
 {d x:Slc} {b o:Nat} {l ys:List Value} {T:TypeId} (hd:d.a=some ⟨b,o,none⟩) (hb:Blk w b l T) (hfit:o+d.len*k≤l.length) (hx:aL w x k ys) (h1 : ∀ y∈ys.take (min x.len d.len*k),y.oneCell'=true)
 (hK : ∀ w',Blk w' b (putAt l o (ys.take (min x.len d.len*k))) T→Mod (fun y=>y=b) w w'→w'.heap.size=w.heap.size→K (.int .i64 (min x.len d.len:Nat)) w') :
 aI P (Builtin.copy_ #[t,t2] ty #[.slice d.a d.len d.cap,.slice x.a x.len x.cap]) w K:=by
 subst hk
 have hxl:=hx.1
 have hfx:=bA (P:=P) (s:=⟨x.a,min x.len d.len,x.cap⟩) (w:=w) (k:=i.size) (vs:=ys.take (min x.len d.len*i.size)) (by
  refine ⟨?_,by have:=hx.2.1; simp only []; omega,?_⟩
  ·rw [List.length_take,hxl]
   exact Nat.min_eq_left (Nat.mul_le_mul_right _ (Nat.min_le_left _ _))
  ·rcases hx.2.2 with h | ⟨a',e1,e2⟩
   ·left; simp [h]
   ·exact .inr ⟨a',e1,fun j v hj=>e2 j v (by rw [List.getElem?_take] at hj; split at hj <;> simp_all)⟩)
 have hlt:(ys.take (min x.len d.len*i.size)).length=min x.len d.len*i.size:=by
  rw [List.length_take,hxl]
  exact Nat.min_eq_left (Nat.mul_le_mul_right _ (Nat.min_le_left _ _))
 have hle:min x.len d.len*i.size≤d.len*i.size:=Nat.mul_le_mul_right _ (Nat.min_le_right _ _)
 obtain ⟨w',hst,hb',ht'⟩:=eG (P:=P) (o:=o) (vs:=ys.take (min x.len d.len*i.size)) hb (by rw [hlt]; omega) h1
 refine ⟨_,_,?_,hK _ hb' ht'.mod ht'.size⟩
 have hg : ∀ w,(Builtin.lenOf (.slice x.a x.len x.cap)).run P w = .ok x.len w:=fun w=>by simp [Builtin.lenOf]
 have hfx':(Builtin.firstCells i.size (min x.len d.len) (.slice x.a x.len x.cap)).run P w = .ok (ys.take (min x.len d.len*i.size)).toArray w:=by
  rw [← hfx]; cases x.a <;> simp [Builtin.firstCells]
 unfold Builtin.copy_
 simp only [List.getElem?_toArray,List.getElem?_cons_zero,List.getElem?_cons_succ,run_underlying ht,Sem.run_bind,Sem.run_pure,Result.andThen_ok,hg,Go.Sh.run_sizeOf hi,goInt,show Nat.min x.len d.len=min x.len d.len from rfl,hfx',hd,hst]
theorem nX {t t2 ty e:TypeId} {k2:IntKind} {i:TypeInfo} {z:Value} (ht:P.underlying t=some (.slice e)) (ht2:P.underlying t2=some (.int k2)) (hi:P.info? e=some i) (hz:i.zero=some z) (hk:i.size=1) (hzc:z.cells = #[z]) {bytes:Nat} (hby:i.bytes=bytes)
 {s:Slc} {vs:List Value} {n:Nat} {xn:Int} {kn:IntKind} (hxn:xn=n) (hs:Sh.Own w s 1 vs) (hb:(s.len+n)*bytes≤140737488355328) (hm:s.len+n≤9223372036854775807) (hcap:s.cap<s.len+n)
 (hK : ∀ (c:Nat) (w':World),Sh.Own w' ⟨some ⟨w.heap.size,0,none⟩,s.len+n,c⟩ 1 (vs++List.replicate n z)→Mod NoB w w'→K (.slice (some ⟨w.heap.size,0,none⟩) (s.len+n) c) w') :
 aI P (Builtin.append_ #[t,t2] ty #[.slice s.a s.len s.cap,.int kn xn]) w K:=by
 subst hby hxn
 have hsl:=hs.1
 have hw:IntKind.i64.wrap (n:Int)=n:=wrap_i64 (by omega)
 have hn0 : ¬ ((n:Int)<0):=by omega
 have hbig : ¬ ((281474976710656:Int)<(n:Int)*i.bytes):=by
  have:((n:Int)*i.bytes)=((n*i.bytes:Nat):Int):=by simp
  rw [this]
  have h2:n*i.bytes≤(s.len+n)*i.bytes:=Nat.mul_le_mul_right _ (by omega)
  omega
 have h0:n≠0:=by have:=hs.2.1; omega
 have hm' : ¬ ((9223372036854775807:Int)<(s.len:Int)+n):=by omega
 have h48 : ¬ (281474976710656<Builtin.nextslicecap (s.len+n) s.cap*i.bytes):=by
  have:=growslice_fits hcap hb; omega
 have hfs':=bA (P:=P) (w:=w.drew) (hs.rd).drew
 have hn : ¬ (s.len+n≤s.cap):=by omega
 have hge:=grownCap_ge w (s.len+n) s.cap e
 have hrun:(Builtin.append_ #[t,t2] ty #[.slice s.a s.len s.cap,.int kn (n:Int)]).run P w = .ok (.slice (some ⟨w.heap.size,0,none⟩) (s.len+n) (grownCap w (s.len+n) s.cap e)) (w.drew.alloc (.cells (vs.toArray++(List.replicate n z).toArray++Builtin.zeroCells z.cells (grownCap w (s.len+n) s.cap e - (s.len+n))) e)):=by
  simp [Builtin.append_,run_underlying ht,run_underlying ht2,sizeOf,typeInfo,zeroValue,hi,hz,asInt,asIntOf,hw,hn0,hbig,h0,hn,hm',h48,Question.forced,newRow,grownCap,hk,hzc,zc1]
  rw [hfs']
  simp only [Result.andThen_ok]
  rfl
 have hn':=dX w (.cells (vs.toArray++(List.replicate n z).toArray++Builtin.zeroCells z.cells (grownCap w (s.len+n) s.cap e - (s.len+n))) e)
 have hblk:Blk (w.drew.alloc (.cells (vs.toArray++(List.replicate n z).toArray++Builtin.zeroCells z.cells (grownCap w (s.len+n) s.cap e - (s.len+n))) e)) w.heap.size (vs++List.replicate n z++(Builtin.zeroCells z.cells (grownCap w (s.len+n) s.cap e - (s.len+n))).toList) e:=by
  refine Blk.mk ?_
  rw [hn'.get]
  congr 2
  apply Array.ext'
  simp [List.append_assoc]
 refine ⟨_,_,hrun,hK (grownCap w (s.len+n) s.cap e) _ ⟨by simp [hsl],hge,.inr ⟨w.heap.size,0,_,e,rfl,hblk,by simp [hsl,hzc,zc1]; omega,?_⟩⟩ hn'.mod⟩
 simp only [List.drop_zero]
 rw [List.take_append_of_le_length (by simp [hsl]),List.take_of_length_le (by simp [hsl])]
end
def bI (l:List Slc):List Value:=l.map Slc.val
theorem kK (l:List Slc) : ∀ y∈bI l,y.oneCell'=true:=by
 intro y hy
 obtain ⟨x,_,rfl⟩:=List.mem_map.1 hy
 rfl
section
variable {w:World}
theorem vM {s:Slc} {ss:List Slc} (hs:aL w s 1 (bI ss)) (hn:ss.length≤1000000000) :
 Calls prog 125 #[.slice s.a s.len s.cap] w (Ret fun v w'=>∃ s',v=s'.val∧Sh.Own w' s' 1 (bI ss)∧FB w s'∧Mod NoB w w'):=by
 obtain ⟨i',h1,h2,h3,h4⟩:=i26
 have hl:ss.length=s.len:=by have:=hs.1; simpa [bI] using this
 refine qOE _ ?_
 unfold qRJ
 refine iC (e:=28) u22 ⟨_,rfl,aD (fun h=>?_) (fun h=>?_)⟩
 ·have:ss=[]:=by
   rcases hs.2.2 with h0 | ⟨b,e1,_⟩
   ·simpa [bI] using h0
   ·rw [e1] at h; simp at h
  subst this
  exact ⟨⟨none,0,0⟩,rfl,bW _ _,FB.nil _,Mod.refl _ _⟩
 ·refine mZ u22 h1 fun b w1 hN=>⟨⟨some ⟨b,0,none⟩,0,0⟩,rfl,?_⟩
  refine bK (s:=⟨some ⟨b,0,none⟩,0,0⟩) u22 h1 h2 h3 rfl h4 (mT _ _ _) (hs.no hN.mod) (kK _) (by simp only []; omega) (by simp only []; omega) fun s' w2 ho hlen hblk hm=>⟨s',rfl,s',rfl,by simpa using ho,?_,?_⟩
  ·intro z hz
   rcases hblk with h | h
   ·rw [h] at hz; simp at hz
   ·rw [h] at hz; cases hz; exact hN.mod.size
  ·exact hN.mod.fresh hm fun x e=>by simp at e
theorem qCY {v0:Value} {vb blk o n c m d:Nat} {T T':TypeId} {l:List Value} {fz:Nat×Nat} (hv:w.heap[vb]? = some (.cells #[v0] T (0,0))) (hs:w.heap[blk]? = some (.cells l.toArray T' fz)) (hl:l.length≠0) (hne:vb≠blk) :
 (callFunc 172 #[.slice (some ⟨vb,0,none⟩) n c,.slice (some ⟨blk,o,none⟩) m d]).run prog w = .ok (.value (.bool false)) w:=by
 obtain ⟨i',h1,h2,h3,h4⟩:=i26
 rw [run_callFunc_extern func172 (by kernel_rfl) (by kernel_rfl) (by kernel_rfl) (e:=Extern.SlicesOverlaps.overlaps #[118,118] #[4]) (by kernel_rfl),
  Lib.run_overlaps_apart w _ _ 28 u22 1 (fun w=>by rw [Go.Sh.run_sizeOf h1,h3]) ⟨vb,0,none⟩ ⟨blk,o,none⟩ n c m d hne T T' 1 l.length (by simp [World.shape?,hv]) (by simp [World.shape?,hs]) hl (by simp [World.frozen?,hv]) (by simp [World.frozen?,hv])]
 rfl
theorem fD (l:List Slc):(bI l).length=l.length:=by simp [bI]
theorem qEO {s:Slc} {ss:List Slc} {y:Slc} {vb:Nat} {T:TypeId} (ho:Sh.Own w s 1 (bI ss)) (hv:w.heap[vb]? = some (.cells #[y.val] T (0,0))) (hvs : ∀ z,s.blk=some z→z≠vb) (hn:ss.length≤100000000) :
 Calls prog 124 #[.slice s.a s.len s.cap,.int .i64 0,.slice (some ⟨vb,0,none⟩) 1 1] w (Ret fun v w'=>∃ x:Slc,v=x.val∧Sh.Own w' x 1 (bI (y :: ss))∧(x.blk=s.blk∨∃ z,x.blk=some z∧w.heap.size≤z)∧Mod (fun z=>s.blk=some z) w w'):=by
 refine qKB _ _ ⟨some ⟨vb,0,none⟩,1,1⟩ ?_
 unfold qQF qCG
 obtain ⟨i',h1,h2,h3,h4⟩:=i26
 have hsl:s.len=ss.length:=by have:=ho.1; rw [fD] at this; omega
 have hvB:Blk w vb [y.val] T:=⟨(0,0),hv,.inl rfl⟩
 have hvR:aL w ⟨some ⟨vb,0,none⟩,1,1⟩ 1 [y.val]:=(aY (n:=1) (k:=1) hvB rfl).rd
 have y1 : ∀ u∈[y.val],u.oneCell'=true:=kK [y]
 refine ⟨⟨by omega,by omega⟩,aD (fun h=>by simp at h) fun _=>aD (fun h=>?_) fun h=>?_⟩
 ·have h0:ss=[]:=List.eq_nil_of_length_eq_zero (by have:=h; simp at this; omega)
  subst h0
  refine bK u22 h1 h2 h3 rfl h4 ho hvR y1 (by simp only []; simp at hsl; omega) (by simp only []; simp at hsl; omega) fun x w2 ho2 hlen hblk hm=>⟨x,rfl,x,rfl,by simpa [bI] using ho2,?_,hm⟩
  rcases hblk with hb | hb
  ·exact .inl hb
  ·exact .inr ⟨_,hb,Nat.le_refl _⟩
 ·have h0:ss.length≠0:=fun e=>by simp [hsl,e] at h
  have e1:IntKind.i64.wrap ((s.len:Int)+((1:Nat):Int))=((ss.length+1:Nat):Int):=by rw [wrap_i64 (by omega)]; omega
  have e2:IntKind.i64.wrap ((0:Int)+((1:Nat):Int))=((1:Nat):Int):=by decide
  have e3:IntKind.i64.wrap (((ss.length+1:Nat):Int) - 0)=((ss.length+1:Nat):Int):=by rw [wrap_i64 (by omega)]; omega
  simp only [e1,e2,e3,Int.toNat_natCast,Int.toNat_zero]
  refine aD (fun hc=>?_) fun hc=>?_
  ·have hc:s.cap<ss.length+1:=by have:=hc; simp at this; omega
   have hcc:=ho.2.1
   have ec:aF s 1 0 0 s.cap=⟨s.a,0,s.cap⟩:=nY hcc (Nat.zero_le _)
   rw [ec]
   have hoz:=ho.take (n:=0) (Nat.zero_le _)
   refine ⟨⟨by omega,by omega⟩,?_⟩
   refine nX (s:=⟨s.a,0,s.cap⟩) u22 (k2:=.i64) (by kernel_rfl) h1 h2 h3 rfl h4 rfl hoz (by simp only []; omega) (by simp only []; omega) (by simp only []; omega) fun c w2 ho2 hm2=>⟨⟨some ⟨w.heap.size,0,none⟩,0+(ss.length+1),c⟩,rfl,⟨by omega,by omega⟩,?_⟩
   simp only [Nat.zero_add,Nat.zero_mul,List.take_zero,List.nil_append] at ho2 ⊢
   rcases ho2.owned with ⟨hz1,hz2,_⟩ | ⟨hz1,b,o,l,E,ea,hB,hfit,hcon⟩
   ·simp only [] at hz2; omega
   ·cases ea
    have hcl:=ho2.2.1
    simp only [] at hcl hz1 hfit hcon
    simp only [List.drop_zero,Nat.mul_one] at hcon
    have hvlt:=bD hv
    have ec1:aF ⟨some ⟨w.heap.size,0,none⟩,ss.length+1,c⟩ 1 0 (ss.length+1) c=⟨some ⟨w.heap.size,0,none⟩,ss.length+1,c⟩:=nY (s:=⟨some ⟨w.heap.size,0,none⟩,ss.length+1,c⟩) hcl hcl
    have ec2:aF ⟨some ⟨w.heap.size,0,none⟩,ss.length+1,c⟩ 1 1 (ss.length+1) c=⟨some ⟨w.heap.size,1,none⟩,ss.length,c - 1⟩:=by
     unfold aF; simp only []; rw [if_neg (by omega)]; simp
    have ec3:aF s 1 0 s.len s.cap=s:=by rw [nY hcc hcc]
    rw [ec1]
    refine dB (d:=⟨some ⟨w.heap.size,0,none⟩,ss.length+1,c⟩) (o:=0) u22 h1 h3 rfl hB (by simp only []; omega) (hvR.no hm2) (fun u hu=>y1 u (List.mem_of_mem_take hu)) fun w3 hB3 hm3 hsz3=>⟨_,rfl,?_⟩
    rw [ec2,ec3]
    refine ⟨⟨by omega,by omega⟩,⟨by omega,by omega⟩,?_,trivial⟩
    have em:min (Slc.len ⟨some ⟨vb,0,none⟩,1,1⟩) (Slc.len ⟨some ⟨w.heap.size,0,none⟩,ss.length+1,c⟩)*1=1:=by simp only []; omega
    rw [em] at hB3
    have hsr:aL w3 s 1 (bI ss):=(ho.rd.no hm2).mod hm3 fun z hz e=>by have:=ho.lt hz; omega
    refine dB (d:=⟨some ⟨w.heap.size,1,none⟩,ss.length,c - 1⟩) (o:=1) u22 h1 h3 rfl hB3.drew (by rw [aX (by simp; omega)]; simp only []; omega) hsr.drew (fun u hu=>kK _ u (List.mem_of_mem_take hu)) fun w4 hB4 hm4 hsz4=>⟨_,rfl,?_⟩
    have em2:min s.len (Slc.len ⟨some ⟨w.heap.size,1,none⟩,ss.length,c - 1⟩)*1=ss.length:=by simp only []; omega
    have etk:(bI ss).take ss.length=bI ss:=List.take_of_length_le (by rw [fD]; exact Nat.le_refl _)
    rw [em2,etk] at hB4
    refine ⟨⟨some ⟨w.heap.size,0,none⟩,ss.length+1,c⟩,rfl,⟨by simp [bI],hcl,.inr ⟨w.heap.size,0,_,E,rfl,hB4,?_,?_⟩⟩,.inr ⟨w.heap.size,Slc.blk_of rfl hz1,Nat.le_refl _⟩,(hm2.fresh (hm3.tr ((Mod.drew _ _).tr hm4)) fun z e=>by omega).mono fun _ _ h=>h.elim⟩
    ·rw [aX (by rw [aX (by simp; omega),fD]; omega),aX (by simp; omega)]; exact hfit
    ·have hlc:ss.length+1≤l.length:=by omega
     simp only [putAt,List.drop_zero,List.take_zero,List.nil_append,List.length_cons,List.length_nil,Nat.zero_add,List.take_succ_cons]
     simp [bI]
  ·have hc2:ss.length+1≤s.cap:=by have:=hc; simp at this; omega
   clear hc
   have hcc:=ho.2.1
   rcases ho.owned with ⟨hz1,hz2,_⟩ | ⟨hz1,b,o,l,E,ea,hB,hfit,hcon⟩
   ·omega
   ·obtain ⟨sa,sl,sc⟩:=s
    simp only [] at ea hz1 hfit hcon hsl hc2 hcc
    subst ea hsl
    simp only [Nat.mul_one] at hcon hfit
    have hbs:b≠vb:=hvs b (Slc.blk_of rfl hz1)
    have ec1:aF ⟨some ⟨b,o,none⟩,ss.length,sc⟩ 1 0 (ss.length+1) sc=⟨some ⟨b,o,none⟩,ss.length+1,sc⟩:=nY (s:=⟨some ⟨b,o,none⟩,ss.length,sc⟩) hcc hc2
    have ec0:aF ⟨some ⟨b,o,none⟩,ss.length+1,sc⟩ 1 0 (ss.length+1) sc=⟨some ⟨b,o,none⟩,ss.length+1,sc⟩:=nY (s:=⟨some ⟨b,o,none⟩,ss.length+1,sc⟩) hc2 hc2
    have ec2:aF ⟨some ⟨b,o,none⟩,ss.length+1,sc⟩ 1 1 (ss.length+1) sc=⟨some ⟨b,o+1,none⟩,ss.length,sc - 1⟩:=by
     unfold aF; simp only []; rw [if_neg (by omega)]; simp
    simp only [ec1,ec0,ec2]
    obtain ⟨fz,hB1,hB2⟩:=id hB
    refine ⟨⟨by omega,by omega⟩,⟨by omega,by omega⟩,_,_,qCY hv hB1 (by omega) (fun e=>hbs e.symm),false,rfl,aD (fun _=>?_) (fun h=>by simp at h)⟩
    refine ⟨⟨by omega,by omega⟩,⟨by omega,by omega⟩,?_,trivial⟩
    have hsr:aL w.drew ⟨some ⟨b,o,none⟩,ss.length+1,sc⟩ 1 ((l.drop o).take (ss.length+1)):=⟨by simp; omega,hc2,.inr ⟨_,rfl,hB.drew.rd fun j v hj=>by
     rw [List.getElem?_take] at hj
     split at hj
     ·rwa [List.getElem?_drop] at hj
     ·cases hj⟩⟩
    have em:min (Slc.len ⟨some ⟨b,o,none⟩,ss.length+1,sc⟩) (Slc.len ⟨some ⟨b,o+1,none⟩,ss.length,sc - 1⟩)*1=ss.length:=by simp only []; omega
    have etk:((l.drop o).take (ss.length+1)).take ss.length=bI ss:=by rw [List.take_take,Nat.min_eq_left (by omega)]; exact hcon
    refine dB (d:=⟨some ⟨b,o+1,none⟩,ss.length,sc - 1⟩) (o:=o+1) u22 h1 h3 rfl hB.drew (by simp only []; omega) hsr (by rw [em,etk]; exact kK _) fun w3 hB3 hm3 hsz3=>⟨_,rfl,⟨by omega,by omega⟩,?_⟩
    rw [em,etk] at hB3
    have hpl:(putAt l (o+1) (bI ss)).length=l.length:=aX (by rw [fD]; omega)
    refine dB (d:=⟨some ⟨b,o,none⟩,ss.length+1,sc⟩) (o:=o) u22 h1 h3 rfl hB3 (by rw [hpl]; simp only []; omega) (hvR.mod ((Mod.drew _ _).tr hm3) (fun z hz e=>by rw [Slc.blk_mk] at hz; simp at hz; omega)) (fun u hu=>y1 u (List.mem_of_mem_take hu)) fun w4 hB4 hm4 hsz4=>⟨_,rfl,?_⟩
    have em2:min (Slc.len ⟨some ⟨vb,0,none⟩,1,1⟩) (Slc.len ⟨some ⟨b,o,none⟩,ss.length+1,sc⟩)*1=1:=by simp only []; omega
    rw [em2] at hB4
    refine ⟨⟨some ⟨b,o,none⟩,ss.length+1,sc⟩,rfl,⟨by simp [bI],hc2,.inr ⟨b,o,_,E,rfl,hB4,?_,?_⟩⟩,.inl (by rw [Slc.blk_mk,Slc.blk_mk]),(((Mod.drew _ _).tr hm3).tr hm4).mono fun z _ hz=>by have hz:z=b:=hz; subst hz; exact Slc.blk_of rfl hz1⟩
    ·show o+sc*1≤_
     rw [aX (by rw [hpl]; simp; omega),hpl]; omega
    ·have e5:[y.val].take 1=[y.val]:=rfl
     rw [e5]
     have e6:(putAt (putAt l (o+1) (bI ss)) o [y.val]).drop o=y.val :: (bI ss++l.drop (o+1+ss.length)):=by
      simp only [putAt,fD,List.length_singleton]
      have t1:((l.take (o+1)++bI ss++l.drop (o+1+ss.length)).take o)=l.take o:=by
       rw [List.append_assoc,List.take_append_of_le_length (by rw [List.length_take]; omega),List.take_take,Nat.min_eq_left (by omega)]
      have t2:((l.take (o+1)++bI ss++l.drop (o+1+ss.length)).drop (o+1))=bI ss++l.drop (o+1+ss.length):=by
       rw [List.append_assoc,List.drop_append_of_le_length (by rw [List.length_take]; omega),List.drop_eq_nil_of_le (by rw [List.length_take]; omega),List.nil_append]
      rw [t1,t2,List.append_assoc,List.drop_append_of_le_length (by rw [List.length_take]; omega),List.drop_eq_nil_of_le (by rw [List.length_take]; omega)]
      rfl
     rw [e6]
     have:(ss.length+1)*1=(ss.length)+1:=by omega
     simp only [Nat.mul_one,List.take_succ_cons]
     rw [List.take_append_of_le_length (by rw [fD]; exact Nat.le_refl _),List.take_of_length_le (by rw [fD]; exact Nat.le_refl _)]
     rfl
end
structure iG (w:World):Prop where
 sha:dN w
 twice:TR w (1,5)
 curve:TR w (2,5)
theorem iG.no {w w':World} (h:iG w) (hm:Mod NoB w w'):iG w':=⟨h.sha.no hm,h.twice.mod hm fun h=>h,h.curve.mod hm fun h=>h⟩
theorem kH (b:List UInt8):(sha b).length=64:=by rw [sha,wG]; exact yX (jS _)
def RN (n:Nat) (w:World) (v:Value) (w':World):Prop:=∃ (x:Slc) (l:List UInt8),v=x.val∧Sh.Own w' x 1 (bys l)∧l.length=n∧FB w x∧Mod NoB w w'
theorem vR {w:World} {n:Nat} {g:FuncId} {args:List Value} {pan:List PanicEntry→World→Prop} {K:Slc→World→Prop} (hc:Calls prog g args.toArray w (Ret (RN n w))) (hK : ∀ (x:Slc) l w',Sh.Own w' x 1 (bys l)→l.length=n→FB w x→Mod NoB w w'→K x w') :
 aE prog g args w pan fun v w'=>∃ x:Slc,v = .slice x.a x.len x.cap∧K x w':=
 aC hc fun v w' ⟨x,l,hv,h1,h2,h3,h4⟩=>⟨x,hv,hK x l w' h1 h2 h3 h4⟩
theorem xQ {w:World} {first parts:Slc} {f:List UInt8} {ss:List Slc} {pl:List (List UInt8)} (hg:iG w) (hf:aL w first 1 (bys f)) (hfl : ∀ z,first.blk=some z→z<w.heap.size) (hp:aL w parts 1 (bI ss)) (hpl : ∀ z,parts.blk=some z→z<w.heap.size) (hsl:ss.length=pl.length)
 (hss : ∀ i (h:i<ss.length) (h':i<pl.length),aL w ss[i] 1 (bys pl[i])∧∀ z,ss[i].blk=some z→z<w.heap.size) (hn:f.length+pl.flatten.length≤800000000) (hm:pl.length≤1000000) :
 Calls prog 74 #[.slice first.a first.len first.cap,.slice parts.a parts.len parts.cap] w (Ret (RN 32 w)):=by
 refine qUE _ _ ?_
 unfold jCT
 refine aC (vM hp (by omega)) ?_
 rintro v w1 ⟨s1,rfl,ho1,hb1,hm1⟩
 refine ⟨s1,rfl,?_⟩
 refine fU [first] rfl rfl (by omega) (by omega) fun x vb w2 hN2 ex hB2 hx2=>⟨x,rfl,?_⟩
 subst ex
 have hvb:=hN2.at_
 refine aC (qEO (y:=first) (ho1.no hN2.mod) hN2.get (fun z hz e=>by have:=ho1.lt hz; omega) (by omega)) ?_
 rintro v w3 ⟨s3,rfl,ho3,hb3,hm3⟩
 have hM3:Mod NoB w w3:=(hm1.tr hN2.mod).fresh hm3 fun z hz=>hb1 z hz
 refine ⟨s3,rfl,?_⟩
 have hX : ∀ z,s3.blk=some z→z<w3.heap.size:=fun z hz=>ho3.lt hz
 refine aC (qHC (pl:=f :: pl) (X:=fun z=>z<w3.heap.size) (hg.no hM3).sha ⟨first :: ss,ho3.rd,hX,by simp [hsl],fun i hi hi'=>?_⟩ (fun _ h=>h) (by rw [List.flatten_cons,List.length_append]; omega) (by simp; omega)) ?_
 ·cases i with
  | zero=>exact ⟨hf.no hM3,fun z hz=>Nat.lt_of_lt_of_le (hfl z hz) hM3.size⟩
  | succ i=>exact ⟨(hss i (by simpa using hi) (by simpa using hi')).1.no hM3,fun z hz=>Nat.lt_of_lt_of_le ((hss i (by simpa using hi) (by simpa using hi')).2 z hz) hM3.size⟩
 rintro v w4 ⟨d,rfl,ho4,hb4,hm4⟩
 refine ⟨d,rfl,?_⟩
 refine aC (qCV ho4.rd fun z hz=>ho4.lt hz) ?_
 rintro v w5 ⟨r,rfl,⟨m,ho5,hm'⟩,hc5,hb5,hm5⟩
 exact ⟨r,rfl,r,_,rfl,ho5,hm' (by rw [kH]; omega),hb5.le (hM3.tr hm4).size,(hM3.tr hm4).tr hm5⟩
theorem jDS {w:World} {point pub parts:Slc} {f g:List UInt8} {ss:List Slc} {pl:List (List UInt8)} (hg:iG w) (hf:aL w point 1 (bys f)) (hfl : ∀ z,point.blk=some z→z<w.heap.size) (hq:aL w pub 1 (bys g)) (hql : ∀ z,pub.blk=some z→z<w.heap.size) (hp:aL w parts 1 (bI ss)) (hpl : ∀ z,parts.blk=some z→z<w.heap.size) (hsl:ss.length=pl.length)
 (hss : ∀ i (h:i<ss.length) (h':i<pl.length),aL w ss[i] 1 (bys pl[i])∧∀ z,ss[i].blk=some z→z<w.heap.size) (hn:f.length+g.length+pl.flatten.length≤800000000) (hm:pl.length≤100000) :
 Calls prog 80 #[.slice point.a point.len point.cap,.slice pub.a pub.len pub.cap,.slice parts.a parts.len parts.cap] w (Ret (RN 32 w)):=by
 refine qUW _ _ _ ?_
 unfold jDJ
 refine aC (vM hp (by omega)) ?_
 rintro v w1 ⟨s1,rfl,ho1,hb1,hm1⟩
 refine ⟨s1,rfl,?_⟩
 refine fU [pub] rfl rfl (by omega) (by omega) fun x vb w2 hN2 ex hB2 hx2=>⟨x,rfl,?_⟩
 subst ex
 have hvb:=hN2.at_
 refine aC (qEO (y:=pub) (ho1.no hN2.mod) hN2.get (fun z hz e=>by have:=ho1.lt hz; omega) (by omega)) ?_
 rintro v w3 ⟨s3,rfl,ho3,hb3,hm3⟩
 have hM3:Mod NoB w w3:=(hm1.tr hN2.mod).fresh hm3 fun z hz=>hb1 z hz
 refine ⟨s3,rfl,?_⟩
 refine vR (xQ (pl:=g :: pl) (ss:=pub :: ss) (hg.no hM3) (hf.no hM3) (fun z hz=>Nat.lt_of_lt_of_le (hfl z hz) hM3.size) ho3.rd (fun z hz=>ho3.lt hz) (by simp [hsl]) (fun i hi hi'=>?_) (by rw [List.flatten_cons,List.length_append]; omega) (by simp; omega)) fun x l w4 h1 h2 h3 h4=>⟨x,l,rfl,h1,h2,h3.le hM3.size,hM3.tr h4⟩
 cases i with
 | zero=>exact ⟨hq.no hM3,fun z hz=>Nat.lt_of_lt_of_le (hql z hz) hM3.size⟩
 | succ i=>exact ⟨(hss i (by simpa using hi) (by simpa using hi')).1.no hM3,fun z hz=>Nat.lt_of_lt_of_le ((hss i (by simpa using hi) (by simpa using hi')).2 z hz) hM3.size⟩
structure OpenAt (w0 w:World) (o:Nat):Prop where
 cells : ∃ (ps:List UInt64) (s d:Slc) (T:TypeId),ps.length=20∧Blk w o (us ps++[s.val,d.val]) T∧(∃ l,aL w s 1 (bys l)∧l.length=32)∧(∃ l,aL w d 1 (bys l)∧l.length=32)∧(∀ z,s.blk=some z→w0.heap.size≤z∧z<w.heap.size)∧(∀ z,d.blk=some z→w0.heap.size≤z∧z<w.heap.size)
 new:w0.heap.size≤o
theorem OpenAt.no {w0 w w':World} {o:Nat} (h:OpenAt w0 w o) (hm:Mod NoB w w'):OpenAt w0 w' o:=by
 obtain ⟨⟨ps,s,d,T,h1,h2,⟨l,h3,h3'⟩,⟨m,h4,h4'⟩,h5,h6⟩,hn⟩:=h
 exact ⟨⟨ps,s,d,T,h1,h2.no hm,⟨l,h3.no hm,h3'⟩,⟨m,h4.no hm,h4'⟩,fun z hz=>⟨(h5 z hz).1,Nat.lt_of_lt_of_le (h5 z hz).2 hm.size⟩,fun z hz=>⟨(h6 z hz).1,Nat.lt_of_lt_of_le (h6 z hz).2 hm.size⟩⟩,hn⟩
theorem qGD {w:World} {seed:Slc} {l:List UInt8} (hg:iG w) (hs:aL w seed 1 (bys l)) (hsl : ∀ z,seed.blk=some z→z<w.heap.size) (hl:l.length=32) :
 Calls prog 70 #[.slice seed.a seed.len seed.cap] w (Ret fun v w'=>∃ o,v = .tuple #[.pointer (some ⟨o,0,none⟩),.bool true]∧OpenAt w w' o∧Mod NoB w w'):=by
 refine qXV _ ?_
 unfold jDD
 have hlen:=aW hs
 refine aD (fun h=>by simp at h; omega) fun _=>?_
 refine fU [seed] rfl rfl (by omega) (by omega) fun x vb w1 hN1 ex hB1 hx1=>⟨x,rfl,?_⟩
 subst ex
 refine aC (qHC (pl:=[l]) (X:=fun z=>z<w1.heap.size) (hg.no hN1.mod).sha ⟨[seed],hx1.rd,fun z hz=>hx1.lt hz,rfl,qPV (hs.no hN1.mod) (fun z hz=>Nat.lt_of_lt_of_le (hsl z hz) hN1.mod.size)⟩ (fun _ h=>h) (by simp; omega) (by simp)) ?_
 rintro v w2 ⟨d,rfl,ho2,hb2,hm2⟩
 have hM2:=hN1.mod.tr hm2
 have hdl:=aW ho2.rd
 rw [kH] at hdl
 have hdc:=ho2.2.1
 generalize hsh:sha [l].flatten=D at *
 have hD:D.length=64:=by rw [← hsh]; exact kH _
 rcases ho2.owned with ⟨e1,_,_⟩ | ⟨hz1,db,o,L,E,ea,hB,hfit,hcon⟩
 ·omega
 obtain ⟨da,dl,dc⟩:=d
 simp only [] at hdl hdc ea hz1 hfit hcon
 subst hdl ea
 have hdb:w.heap.size≤db:=Nat.le_trans hN1.mod.size (hb2 db (Slc.blk_of rfl hz1))
 have ec:aF ⟨some ⟨db,o,none⟩,64,dc⟩ 1 0 32 32=⟨some ⟨db,o,none⟩,32,32⟩:=by unfold aF; rw [if_neg (by omega)]; simp
 have ec2:aF ⟨some ⟨db,o,none⟩,64,dc⟩ 1 32 64 dc=⟨some ⟨db,o+32,none⟩,32,dc - 32⟩:=by unfold aF; rw [if_neg (by omega)]; simp
 have i32:((32:Int)).toNat=32:=rfl
 have hk : ∀ {w':World} {m:List UInt8} (ho:Sh.Own w' ⟨some ⟨db,o,none⟩,64,dc⟩ 1 (bys m)) {i:Nat} (hi:i<m.length),Rd w' ((⟨db,o,none⟩:Addr).add (i*1)) [.int .u8 m[i].toNat]:=fun ho i hi=>by
  obtain ⟨a,e,hr⟩:=iB ho.rd hi
  cases e; exact hr
 refine ⟨⟨_,_,_⟩,rfl,?_⟩
 simp only [i32,ec,ec2]
 refine ⟨⟨by omega,by omega,by omega⟩,⟨by omega,by omega⟩,_,hk ho2 (i:=0) (by omega),⟨by omega,by omega⟩,?_⟩
 refine jI (by kernel_rfl) (by kernel_rfl) rfl ho2 rfl (i:=0) (by show 0<64; omega) fun w3 ho3 hm3 hs3=>?_
 rw [fP] at ho3
 refine ⟨⟨by omega,by omega⟩,_,hk ho3 (i:=31) (by simp; omega),⟨by omega,by omega⟩,?_⟩
 refine jI (by kernel_rfl) (by kernel_rfl) rfl ho3 rfl (i:=31) (by show 31<64; omega) fun w4 ho4 hm4 hs4=>?_
 rw [fP] at ho4
 have hbd : ∀ z,Slc.blk ⟨some ⟨db,o,none⟩,64,dc⟩=some z→w.heap.size≤z:=fun z hz=>by rw [Slc.blk_mk,if_neg (by omega)] at hz; cases hz; exact hdb
 have hM4:Mod NoB w w4:=(hM2.fresh hm3 hbd).fresh hm4 hbd
 refine ⟨⟨by omega,by show (32:Int)≤((64:Nat):Int); omega⟩,?_,trivial⟩
 refine aC (qGT (hg.no (hM4.tr (Mod.drew _ _))).curve) ?_
 rintro v w5 ⟨x0,x1,x2,x3,x4,x5,x6,x7,x8,x9,x10,x11,x12,x13,x14,x15,x16,x17,x18,x19,rfl,hm5⟩
 refine ⟨_,_,_,_,_,_,_,_,_,_,_,_,_,_,_,_,_,_,_,_,rfl,?_,trivial⟩
 have hM5:Mod NoB w w5:=(hM4.tr (Mod.drew _ _)).tr hm5
 have ho5:Sh.Own w5 ⟨some ⟨db,o,none⟩,64,dc⟩ 1 _:=ho4.no ((Mod.drew _ _).tr hm5)
 have hmk : ∀ {m:List UInt8} {w':World} (ho:Sh.Own w' ⟨some ⟨db,o,none⟩,64,dc⟩ 1 (bys m)),m.length=64→aL w' ⟨some ⟨db,o,none⟩,32,32⟩ 1 (bys (m.take 32))∧aL w' ⟨some ⟨db,o+32,none⟩,32,dc - 32⟩ 1 (bys (m.drop 32)):=fun {m w'} ho hm=>by
  have h1:=ho.rd.cut (l:=0) (n:=32) (m:=32) (by omega) (by simp only []; omega) (by omega) (by simp only []; omega)
  have h2:=ho.rd.cut (l:=32) (n:=64) (m:=dc) (by omega) (by simp only []; omega) (by omega) (by simp only []; omega)
  rw [ec,fM] at h1
  rw [ec2,fM] at h2
  refine ⟨by simpa using h1,?_⟩
  have:(m.drop 32).take (64 - 32)=m.drop 32:=List.take_of_length_le (by simp; omega)
  rw [this] at h2; exact h2
 have hbl:db<w5.heap.size:=ho5.lt (Slc.blk_of rfl hz1)
 have hx1:=(hmk ho5 (by simp [hD])).1
 have hc:=qFF (x0:=x0) (x1:=x1) (x2:=x2) (x3:=x3) (x4:=x4) (x5:=x5) (x6:=x6) (x7:=x7) (x8:=x8) (x9:=x9) (x10:=x10) (x11:=x11) (x12:=x12) (x13:=x13) (x14:=x14) (x15:=x15) (x16:=x16) (x17:=x17) (x18:=x18) (x19:=x19) hx1 (fun z hz=>by rw [Slc.blk_mk] at hz; simp at hz; omega) (hg.no hM5).twice
 refine aC hc ?_
 rintro v w6 ⟨y0,y1,y2,y3,y4,y5,y6,y7,y8,y9,y10,y11,y12,y13,y14,y15,y16,y17,y18,y19,rfl,hm6⟩
 refine ⟨_,_,_,_,_,_,_,_,_,_,_,_,_,_,_,_,_,_,_,_,rfl,?_,trivial⟩
 have ho6:=ho5.no hm6
 refine aV (l:=us [y0,y1,y2,y3,y4,y5,y6,y7,y8,y9,y10,y11,y12,y13,y14,y15,y16,y17,y18,y19]++[Slc.val ⟨some ⟨db,o,none⟩,32,32⟩,Slc.val ⟨some ⟨db,o+32,none⟩,32,dc - 32⟩]) rfl fun q w7 hN7 hb7=>⟨_,rfl,q,rfl,⟨⟨_,⟨some ⟨db,o,none⟩,32,32⟩,⟨some ⟨db,o+32,none⟩,32,dc - 32⟩,_,rfl,hb7,⟨_,(hmk (ho6.no hN7.mod) (by simp [hD])).1,by simp [hD]⟩,⟨_,(hmk (ho6.no hN7.mod) (by simp [hD])).2,by simp [hD]⟩,fun z hz=>?_,fun z hz=>?_⟩,?_⟩,(hM5.tr hm6).tr hN7.mod⟩
 ·rw [Slc.blk_mk] at hz; simp at hz; have:=hm6.size; have:=hN7.mod.size; omega
 ·rw [Slc.blk_mk] at hz; split at hz
  ·cases hz
  ·simp at hz; have:=hm6.size; have:=hN7.mod.size; omega
 ·have:=hN7.at_; have:=(hM5.tr hm6).size; omega
end Go.Proofs.YtahjmeegfkfokaaGreatDoor
end
