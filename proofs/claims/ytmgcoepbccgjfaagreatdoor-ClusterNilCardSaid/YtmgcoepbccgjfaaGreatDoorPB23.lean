/- The forms of the translated functions,their contracts and the plain laws behind them,put together by a program. -/
import Derived.Test.YtmgcoepbccgjfaaGreatDoorPB22
import Derived.Lib.Overlaps
import Derived.Test.YtmgcoepbccgjfaaGreatDoorProg
set_option linter.unusedSimpArgs false
set_option linter.unusedVariables false
set_option maxRecDepth 1000000
set_option maxHeartbeats 8000000
section
namespace Go.Proofs.YtmgcoepbccgjfaaGreatDoor
open Go Go.Sh
section
variable {w:World}
def lens (l:List (List UInt8)):Nat:=(l.map List.length).sum
theorem lens_take {l:List (List UInt8)} {k:Nat} (h:k<l.length):lens (l.take (k+1))=lens (l.take k)+l[k].length:=by
 unfold lens
 rw [take_snoc h,List.map_append,List.sum_append]
 simp only [List.map_cons,List.map_nil,List.sum_cons,List.sum_nil,Nat.add_zero]
theorem lens_flat (l:List (List UInt8)):l.flatten.length=lens l:=by simp [lens,List.length_flatten]
theorem lens_le {l:List (List UInt8)} (k:Nat):lens (l.take k)<=lens l:=by
 have:=lens_flat (l.take k); have h2:=lens_flat l
 have:l.flatten=(l.take k).flatten++(l.drop k).flatten:=by rw [<-List.flatten_append,List.take_append_drop]
 have:=congrArg List.length this
 rw [List.length_append] at this
 omega
end
section
variable {P:Program} {w:World} {K:Value->World->Prop}
theorem sem_copyT {t t2 ty e:TypeId} {i:TypeInfo} (ht:P.underlying t=some (.slice e)) (hi:P.info? e=some i) {k:Nat} (hk:i.size=k)
 {d x:Slc} {b o:Nat} {l ys:List Value} {T:TypeId} (hd:d.a=some ⟨b,o,none⟩) (hb:Blk w b l T) (hfit:o+d.len*k<=l.length) (hx:SlRd w x k ys) (h1 : ∀ y∈ys.take (min x.len d.len*k),y.oneCell'=true)
 (hK : ∀ w',Blk w' b (putAt l o (ys.take (min x.len d.len*k))) T->Mod (λy=>y=b) w w'->w'.heap.size=w.heap.size->K (.int .i64 (min x.len d.len:Nat)) w') :
 semK P (Builtin.copy_ #[t,t2] ty #[.slice d.a d.len d.cap,.slice x.a x.len x.cap]) w K:=by
 subst hk
 have hxl:=hx.1
 have hfx:=run_firstCells (P:=P) (s:=⟨x.a,min x.len d.len,x.cap⟩) (w:=w) (k:=i.size) (vs:=ys.take (min x.len d.len*i.size)) (by
  refine ⟨?_,by have:=hx.2.1; simp only []; omega,?_⟩
  ·rw [List.length_take,hxl]
   exact Nat.min_eq_left (Nat.mul_le_mul_right _ (Nat.min_le_left _ _))
  ·rcases hx.2.2 with h | ⟨a',e1,e2⟩
   ·left; simp [h]
   ·exact .inr ⟨a',e1,λj v hj=>e2 j v (by rw [List.getElem?_take] at hj; split at hj <;> simp_all)⟩)
 have hlt:(ys.take (min x.len d.len*i.size)).length=min x.len d.len*i.size:=by
  rw [List.length_take,hxl]
  exact Nat.min_eq_left (Nat.mul_le_mul_right _ (Nat.min_le_left _ _))
 have hle:min x.len d.len*i.size<=d.len*i.size:=Nat.mul_le_mul_right _ (Nat.min_le_right _ _)
 obtain ⟨w',hst,hb',ht'⟩:=store_blk (P:=P) (o:=o) (vs:=ys.take (min x.len d.len*i.size)) hb (by rw [hlt]; omega) h1
 refine ⟨_,_,?_,hK _ hb' ht'.mod ht'.size⟩
 have hg : ∀ w,(Builtin.lenOf (.slice x.a x.len x.cap)).run P w = .ok x.len w:=λw=>by simp [Builtin.lenOf]
 have hfx':(Builtin.firstCells i.size (min x.len d.len) (.slice x.a x.len x.cap)).run P w = .ok (ys.take (min x.len d.len*i.size)).toArray w:=by
  rw [<-hfx]; cases x.a <;> simp [Builtin.firstCells]
 unfold Builtin.copy_
 simp only [List.getElem?_toArray,List.getElem?_cons_zero,List.getElem?_cons_succ,run_underlying ht,Sem.run_bind,Sem.run_pure,Result.andThen_ok,hg,Go.Sh.run_sizeOf hi,goInt,show Nat.min x.len d.len=min x.len d.len from rfl,hfx',hd,hst]
theorem sem_append_zerosN {t t2 ty e:TypeId} {k2:IntKind} {i:TypeInfo} {z:Value} (ht:P.underlying t=some (.slice e)) (ht2:P.underlying t2=some (.int k2)) (hi:P.info? e=some i) (hz:i.zero=some z) (hk:i.size=1) (hzc:z.cells = #[z]) {bytes:Nat} (hby:i.bytes=bytes)
 {s:Slc} {vs:List Value} {n:Nat} {xn:Int} {kn:IntKind} (hxn:xn=n) (hs:Sh.Own w s 1 vs) (hb:(s.len+n)*bytes<=140737488355328) (hm:s.len+n<=9223372036854775807) (hcap:s.cap<s.len+n)
 (hK : ∀ (c:Nat) (w':World),Sh.Own w' ⟨some ⟨w.heap.size,0,none⟩,s.len+n,c⟩ 1 (vs++List.replicate n z)->Mod NoB w w'->K (.slice (some ⟨w.heap.size,0,none⟩) (s.len+n) c) w') :
 semK P (Builtin.append_ #[t,t2] ty #[.slice s.a s.len s.cap,.int kn xn]) w K:=by
 subst hby hxn
 have hsl:=hs.1
 have hw:IntKind.i64.wrap (n:Int)=n:=wrap_i64 (by omega)
 have hn0 : ¬ ((n:Int)<0):=by omega
 have hbig : ¬ ((281474976710656:Int)<(n:Int)*i.bytes):=by
  have:((n:Int)*i.bytes)=((n*i.bytes:Nat):Int):=by simp
  rw [this]
  have h2:n*i.bytes<=(s.len+n)*i.bytes:=Nat.mul_le_mul_right _ (by omega)
  omega
 have h0:n≠0:=by have:=hs.2.1; omega
 have hm' : ¬ ((9223372036854775807:Int)<(s.len:Int)+n):=by omega
 have h48 : ¬ (281474976710656<Builtin.nextslicecap (s.len+n) s.cap*i.bytes):=by
  have:=growslice_fits hcap hb; omega
 have hfs':=run_firstCells (P:=P) (w:=w.drew) (hs.rd).drew
 have hn : ¬ (s.len+n<=s.cap):=by omega
 have hge:=grownCap_ge w (s.len+n) s.cap e
 have hrun:(Builtin.append_ #[t,t2] ty #[.slice s.a s.len s.cap,.int kn (n:Int)]).run P w = .ok (.slice (some ⟨w.heap.size,0,none⟩) (s.len+n) (grownCap w (s.len+n) s.cap e)) (w.drew.alloc (.cells (vs.toArray++(List.replicate n z).toArray++Builtin.zeroCells z.cells (grownCap w (s.len+n) s.cap e - (s.len+n))) e)):=by
  simp [Builtin.append_,run_underlying ht,run_underlying ht2,sizeOf,typeInfo,zeroValue,hi,hz,asInt,asIntOf,hw,hn0,hbig,h0,hn,hm',h48,Question.forced,newRow,grownCap,hk,hzc,zc1]
  rw [hfs']
  simp only [Result.andThen_ok]
  rfl
 have hn':=new_alloc_drew w (.cells (vs.toArray++(List.replicate n z).toArray++Builtin.zeroCells z.cells (grownCap w (s.len+n) s.cap e - (s.len+n))) e)
 have hblk:Blk (w.drew.alloc (.cells (vs.toArray++(List.replicate n z).toArray++Builtin.zeroCells z.cells (grownCap w (s.len+n) s.cap e - (s.len+n))) e)) w.heap.size (vs++List.replicate n z++(Builtin.zeroCells z.cells (grownCap w (s.len+n) s.cap e - (s.len+n))).toList) e:=by
  refine Blk.mk ?_
  rw [hn'.get]
  congr 2
  apply Array.ext'
  simp [List.append_assoc]
 refine ⟨_,_,hrun,hK (grownCap w (s.len+n) s.cap e) _ ⟨by simp [hsl],hge,.inr ⟨w.heap.size,0,_,e,rfl,hblk,by simp [hsl,hzc,zc1]; omega,?_⟩⟩ hn'.mod⟩
 simp only [List.drop_zero]
 rw [List.take_append_of_le_length (by simp [hsl]),List.take_of_length_le (by simp [hsl])]
end
def vals (l:List Slc):List Value:=l.map Slc.val
theorem vals_one (l:List Slc) : ∀ y∈vals l,y.oneCell'=true:=by
 intro y hy
 obtain ⟨x,_,rfl⟩:=List.mem_map.1 hy
 rfl
section
variable {w:World}
theorem c_cloneR {s:Slc} {ss:List Slc} (hs:SlRd w s 1 (vals ss)) (hn:ss.length<=1000000000) :
 Calls Tryz.prog 73 #[.slice s.a s.len s.cap] w (Ret λv w'=>∃ s',v=s'.val/\Sh.Own w' s' 1 (vals ss)/\FB w s'/\Mod NoB w w'):=by
 obtain ⟨i',h1,h2,h3,h4⟩:=i26
 have hl:ss.length=s.len:=by have:=hs.1; simpa [vals] using this
 refine call73 _ ?_
 unfold sh73
 refine ps_eql_slc (e:=23) u22 ⟨_,rfl,condK_i (λh=>?_) (λh=>?_)⟩
 ·have:ss=[]:=by
   rcases hs.2.2 with h0 | ⟨b,e1,_⟩
   ·simpa [vals] using h0
   ·rw [e1] at h; simp at h
  subst this
  exact ⟨⟨none,0,0⟩,rfl,own_nil _ _,FB.nil _,Mod.refl _ _⟩
 ·refine sem_lit0 u22 h1 λb w1 hN=>⟨⟨some ⟨b,0,none⟩,0,0⟩,rfl,?_⟩
  refine sem_append (s:=⟨some ⟨b,0,none⟩,0,0⟩) u22 h1 h2 h3 rfl h4 (own_zero _ _ _) (hs.no hN.mod) (vals_one _) (by simp only []; omega) (by simp only []; omega) λs' w2 ho hlen hblk hm=>⟨s',rfl,s',rfl,by simpa using ho,?_,?_⟩
  ·intro z hz
   rcases hblk with h | h
   ·rw [h] at hz; simp at hz
   ·rw [h] at hz; cases hz; exact hN.mod.size
  ·exact hN.mod.fresh hm λx e=>by simp at e
theorem run_overl {v0:Value} {vb blk o n c m d:Nat} {T T':TypeId} {l:List Value} {fz:Nat×Nat} (hv:w.heap[vb]? = some (.cells #[v0] T (0,0))) (hs:w.heap[blk]? = some (.cells l.toArray T' fz)) (hl:l.length≠0) (hne:vb≠blk) :
 (callFunc 520 #[.slice (some ⟨vb,0,none⟩) n c,.slice (some ⟨blk,o,none⟩) m d]).run Tryz.prog w = .ok (.value (.bool false)) w:=by
 obtain ⟨i',h1,h2,h3,h4⟩:=i26
 rw [run_callFunc_extern Tryz.func520 (by kernel_rfl) (by kernel_rfl) (by kernel_rfl) (e:=Extern.SlicesOverlaps.overlaps #[55,55] #[4]) (by kernel_rfl),
  Lib.run_overlaps_apart w _ _ 23 u22 1 (λw=>by rw [Go.Sh.run_sizeOf h1,h3]) ⟨vb,0,none⟩ ⟨blk,o,none⟩ n c m d hne T T' 1 l.length (by simp [World.shape?,hv]) (by simp [World.shape?,hs]) hl (by simp [World.frozen?,hv]) (by simp [World.frozen?,hv])]
 rfl
theorem vals_len (l:List Slc):(vals l).length=l.length:=by simp [vals]
theorem c_ins0 {s:Slc} {ss:List Slc} {y:Slc} {vb:Nat} {T:TypeId} (ho:Sh.Own w s 1 (vals ss)) (hv:w.heap[vb]? = some (.cells #[y.val] T (0,0))) (hvs : ∀ z,s.blk=some z->z≠vb) (hn:ss.length<=100000000) :
 Calls Tryz.prog 360 #[.slice s.a s.len s.cap,.int .i64 0,.slice (some ⟨vb,0,none⟩) 1 1] w (Ret λv w'=>∃ x:Slc,v=x.val/\Sh.Own w' x 1 (vals (y :: ss))/\(x.blk=s.blk\/∃ z,x.blk=some z/\w.heap.size<=z)/\Mod (λz=>s.blk=some z) w w'):=by
 refine call360 _ _ ⟨some ⟨vb,0,none⟩,1,1⟩ ?_
 unfold sh360 insF
 obtain ⟨i',h1,h2,h3,h4⟩:=i26
 have hsl:s.len=ss.length:=by have:=ho.1; rw [vals_len] at this; omega
 have hvB:Blk w vb [y.val] T:=⟨(0,0),hv,.inl rfl⟩
 have hvR:SlRd w ⟨some ⟨vb,0,none⟩,1,1⟩ 1 [y.val]:=(own_whole (n:=1) (k:=1) hvB rfl).rd
 have y1 : ∀ u∈[y.val],u.oneCell'=true:=vals_one [y]
 refine ⟨⟨by omega,by omega⟩,condK_i (λh=>by simp at h) λ_=>condK_i (λh=>?_) λh=>?_⟩
 ·have h0:ss=[]:=List.eq_nil_of_length_eq_zero (by have:=h; simp at this; omega)
  subst h0
  refine sem_append u22 h1 h2 h3 rfl h4 ho hvR y1 (by simp only []; simp at hsl; omega) (by simp only []; simp at hsl; omega) λx w2 ho2 hlen hblk hm=>⟨x,rfl,x,rfl,by simpa [vals] using ho2,?_,hm⟩
  rcases hblk with hb | hb
  ·exact .inl hb
  ·exact .inr ⟨_,hb,Nat.le_refl _⟩
 ·have h0:ss.length≠0:=λe=>by simp [hsl,e] at h
  have e1:IntKind.i64.wrap ((s.len:Int)+((1:Nat):Int))=((ss.length+1:Nat):Int):=by rw [wrap_i64 (by omega)]; omega
  have e2:IntKind.i64.wrap ((0:Int)+((1:Nat):Int))=((1:Nat):Int):=by decide
  have e3:IntKind.i64.wrap (((ss.length+1:Nat):Int) - 0)=((ss.length+1:Nat):Int):=by rw [wrap_i64 (by omega)]; omega
  simp only [e1,e2,e3,Int.toNat_natCast,Int.toNat_zero]
  refine condK_i (λhc=>?_) λhc=>?_
  ·have hc:s.cap<ss.length+1:=by have:=hc; simp at this; omega
   have hcc:=ho.2.1
   have ec:cutSl s 1 0 0 s.cap=⟨s.a,0,s.cap⟩:=cutSl0 hcc (Nat.zero_le _)
   rw [ec]
   have hoz:=ho.take (n:=0) (Nat.zero_le _)
   refine ⟨⟨by omega,by omega⟩,?_⟩
   refine sem_append_zerosN (s:=⟨s.a,0,s.cap⟩) u22 (k2:=.i64) (by kernel_rfl) h1 h2 h3 rfl h4 rfl hoz (by simp only []; omega) (by simp only []; omega) (by simp only []; omega) λc w2 ho2 hm2=>⟨⟨some ⟨w.heap.size,0,none⟩,0+(ss.length+1),c⟩,rfl,⟨by omega,by omega⟩,?_⟩
   simp only [Nat.zero_add,Nat.zero_mul,List.take_zero,List.nil_append] at ho2 ⊢
   rcases ho2.owned with ⟨hz1,hz2,_⟩ | ⟨hz1,b,o,l,E,ea,hB,hfit,hcon⟩
   ·simp only [] at hz2; omega
   ·cases ea
    have hcl:=ho2.2.1
    simp only [] at hcl hz1 hfit hcon
    simp only [List.drop_zero,Nat.mul_one] at hcon
    have hvlt:=lt_of_get hv
    have ec1:cutSl ⟨some ⟨w.heap.size,0,none⟩,ss.length+1,c⟩ 1 0 (ss.length+1) c=⟨some ⟨w.heap.size,0,none⟩,ss.length+1,c⟩:=cutSl0 (s:=⟨some ⟨w.heap.size,0,none⟩,ss.length+1,c⟩) hcl hcl
    have ec2:cutSl ⟨some ⟨w.heap.size,0,none⟩,ss.length+1,c⟩ 1 1 (ss.length+1) c=⟨some ⟨w.heap.size,1,none⟩,ss.length,c - 1⟩:=by
     unfold cutSl; simp only []; rw [if_neg (by omega)]; simp
    have ec3:cutSl s 1 0 s.len s.cap=s:=by rw [cutSl0 hcc hcc]
    rw [ec1]
    refine sem_copyT (d:=⟨some ⟨w.heap.size,0,none⟩,ss.length+1,c⟩) (o:=0) u22 h1 h3 rfl hB (by simp only []; omega) (hvR.no hm2) (λu hu=>y1 u (List.mem_of_mem_take hu)) λw3 hB3 hm3 hsz3=>⟨_,rfl,?_⟩
    rw [ec2,ec3]
    refine ⟨⟨by omega,by omega⟩,⟨by omega,by omega⟩,?_,trivial⟩
    have em:min (Slc.len ⟨some ⟨vb,0,none⟩,1,1⟩) (Slc.len ⟨some ⟨w.heap.size,0,none⟩,ss.length+1,c⟩)*1=1:=by simp only []; omega
    rw [em] at hB3
    have hsr:SlRd w3 s 1 (vals ss):=(ho.rd.no hm2).mod hm3 λz hz e=>by have:=ho.lt hz; omega
    refine sem_copyT (d:=⟨some ⟨w.heap.size,1,none⟩,ss.length,c - 1⟩) (o:=1) u22 h1 h3 rfl hB3.drew (by rw [putAt_len (by simp; omega)]; simp only []; omega) hsr.drew (λu hu=>vals_one _ u (List.mem_of_mem_take hu)) λw4 hB4 hm4 hsz4=>⟨_,rfl,?_⟩
    have em2:min s.len (Slc.len ⟨some ⟨w.heap.size,1,none⟩,ss.length,c - 1⟩)*1=ss.length:=by simp only []; omega
    have etk:(vals ss).take ss.length=vals ss:=List.take_of_length_le (by rw [vals_len]; exact Nat.le_refl _)
    rw [em2,etk] at hB4
    refine ⟨⟨some ⟨w.heap.size,0,none⟩,ss.length+1,c⟩,rfl,⟨by simp [vals],hcl,.inr ⟨w.heap.size,0,_,E,rfl,hB4,?_,?_⟩⟩,.inr ⟨w.heap.size,Slc.blk_of rfl hz1,Nat.le_refl _⟩,(hm2.fresh (hm3.tr ((Mod.drew _ _).tr hm4)) λz e=>by omega).mono λ_ _ h=>h.elim⟩
    ·rw [putAt_len (by rw [putAt_len (by simp; omega),vals_len]; omega),putAt_len (by simp; omega)]; exact hfit
    ·have hlc:ss.length+1<=l.length:=by omega
     simp only [putAt,List.drop_zero,List.take_zero,List.nil_append,List.length_cons,List.length_nil,Nat.zero_add,List.take_succ_cons]
     simp [vals]
  ·have hc2:ss.length+1<=s.cap:=by have:=hc; simp at this; omega
   clear hc
   have hcc:=ho.2.1
   rcases ho.owned with ⟨hz1,hz2,_⟩ | ⟨hz1,b,o,l,E,ea,hB,hfit,hcon⟩
   ·omega
   ·obtain ⟨sa,sl,sc⟩:=s
    simp only [] at ea hz1 hfit hcon hsl hc2 hcc
    subst ea hsl
    simp only [Nat.mul_one] at hcon hfit
    have hbs:b≠vb:=hvs b (Slc.blk_of rfl hz1)
    have ec1:cutSl ⟨some ⟨b,o,none⟩,ss.length,sc⟩ 1 0 (ss.length+1) sc=⟨some ⟨b,o,none⟩,ss.length+1,sc⟩:=cutSl0 (s:=⟨some ⟨b,o,none⟩,ss.length,sc⟩) hcc hc2
    have ec0:cutSl ⟨some ⟨b,o,none⟩,ss.length+1,sc⟩ 1 0 (ss.length+1) sc=⟨some ⟨b,o,none⟩,ss.length+1,sc⟩:=cutSl0 (s:=⟨some ⟨b,o,none⟩,ss.length+1,sc⟩) hc2 hc2
    have ec2:cutSl ⟨some ⟨b,o,none⟩,ss.length+1,sc⟩ 1 1 (ss.length+1) sc=⟨some ⟨b,o+1,none⟩,ss.length,sc - 1⟩:=by
     unfold cutSl; simp only []; rw [if_neg (by omega)]; simp
    simp only [ec1,ec0,ec2]
    obtain ⟨fz,hB1,hB2⟩:=id hB
    refine ⟨⟨by omega,by omega⟩,⟨by omega,by omega⟩,_,_,run_overl hv hB1 (by omega) (λe=>hbs e.symm),false,rfl,condK_i (λ_=>?_) (λh=>by simp at h)⟩
    refine ⟨⟨by omega,by omega⟩,⟨by omega,by omega⟩,?_,trivial⟩
    have hsr:SlRd w.drew ⟨some ⟨b,o,none⟩,ss.length+1,sc⟩ 1 ((l.drop o).take (ss.length+1)):=⟨by simp; omega,hc2,.inr ⟨_,rfl,hB.drew.rd λj v hj=>by
     rw [List.getElem?_take] at hj
     split at hj
     ·rwa [List.getElem?_drop] at hj
     ·cases hj⟩⟩
    have em:min (Slc.len ⟨some ⟨b,o,none⟩,ss.length+1,sc⟩) (Slc.len ⟨some ⟨b,o+1,none⟩,ss.length,sc - 1⟩)*1=ss.length:=by simp only []; omega
    have etk:((l.drop o).take (ss.length+1)).take ss.length=vals ss:=by rw [List.take_take,Nat.min_eq_left (by omega)]; exact hcon
    refine sem_copyT (d:=⟨some ⟨b,o+1,none⟩,ss.length,sc - 1⟩) (o:=o+1) u22 h1 h3 rfl hB.drew (by simp only []; omega) hsr (by rw [em,etk]; exact vals_one _) λw3 hB3 hm3 hsz3=>⟨_,rfl,⟨by omega,by omega⟩,?_⟩
    rw [em,etk] at hB3
    have hpl:(putAt l (o+1) (vals ss)).length=l.length:=putAt_len (by rw [vals_len]; omega)
    refine sem_copyT (d:=⟨some ⟨b,o,none⟩,ss.length+1,sc⟩) (o:=o) u22 h1 h3 rfl hB3 (by rw [hpl]; simp only []; omega) (hvR.mod ((Mod.drew _ _).tr hm3) (λz hz e=>by rw [Slc.blk_mk] at hz; simp at hz; omega)) (λu hu=>y1 u (List.mem_of_mem_take hu)) λw4 hB4 hm4 hsz4=>⟨_,rfl,?_⟩
    have em2:min (Slc.len ⟨some ⟨vb,0,none⟩,1,1⟩) (Slc.len ⟨some ⟨b,o,none⟩,ss.length+1,sc⟩)*1=1:=by simp only []; omega
    rw [em2] at hB4
    refine ⟨⟨some ⟨b,o,none⟩,ss.length+1,sc⟩,rfl,⟨by simp [vals],hc2,.inr ⟨b,o,_,E,rfl,hB4,?_,?_⟩⟩,.inl (by rw [Slc.blk_mk,Slc.blk_mk]),(((Mod.drew _ _).tr hm3).tr hm4).mono λz _ hz=>by have hz:z=b:=hz; subst hz; exact Slc.blk_of rfl hz1⟩
    ·show o+sc*1<=_
     rw [putAt_len (by rw [hpl]; simp; omega),hpl]; omega
    ·have e5:[y.val].take 1=[y.val]:=rfl
     rw [e5]
     have e6:(putAt (putAt l (o+1) (vals ss)) o [y.val]).drop o=y.val :: (vals ss++l.drop (o+1+ss.length)):=by
      simp only [putAt,vals_len,List.length_singleton]
      have t1:((l.take (o+1)++vals ss++l.drop (o+1+ss.length)).take o)=l.take o:=by
       rw [List.append_assoc,List.take_append_of_le_length (by rw [List.length_take]; omega),List.take_take,Nat.min_eq_left (by omega)]
      have t2:((l.take (o+1)++vals ss++l.drop (o+1+ss.length)).drop (o+1))=vals ss++l.drop (o+1+ss.length):=by
       rw [List.append_assoc,List.drop_append_of_le_length (by rw [List.length_take]; omega),List.drop_eq_nil_of_le (by rw [List.length_take]; omega),List.nil_append]
      rw [t1,t2,List.append_assoc,List.drop_append_of_le_length (by rw [List.length_take]; omega),List.drop_eq_nil_of_le (by rw [List.length_take]; omega)]
      rfl
     rw [e6]
     have:(ss.length+1)*1=(ss.length)+1:=by omega
     simp only [Nat.mul_one,List.take_succ_cons]
     rw [List.take_append_of_le_length (by rw [vals_len]; exact Nat.le_refl _),List.take_of_length_le (by rw [vals_len]; exact Nat.le_refl _)]
     rfl
end
end Go.Proofs.YtmgcoepbccgjfaaGreatDoor
end
section
namespace Go.Proofs.YtmgcoepbccgjfaaGreatDoor
open Go Go.Sh Go.X
def RW (l:List UInt8) (w:World) (v:Value) (w':World):Prop:=∃ x:Slc,v=x.val/\Row0 5 w' x (bys l)/\FB w x/\Mod NoB w w'
theorem row0_no {T:TypeId} {w w':World} {s:Slc} {vs:List Value} (h:Row0 T w s vs) (hm:Mod NoB w w'):Row0 T w' s vs:=h.mod hm λ_ _ h=>h
theorem callW {w:World} {l:List UInt8} {g:FuncId} {args:List Value} {pan:List PanicEntry->World->Prop} {K:Slc->World->Prop} (hc:Calls Tryz.prog g args.toArray w (Ret (RW l w))) (hK : ∀ (x:Slc) w',Row0 5 w' x (bys l)->FB w x->Mod NoB w w'->K x w') :
 callK Tryz.prog g args w pan λv w'=>∃ x:Slc,v = .slice x.a x.len x.cap/\K x w':=
 callK_ret hc λv w' ⟨x,hv,h1,h2,h3⟩=>⟨x,hv,hK x w' h1 h2 h3⟩
section
variable {P:Program} {w:World} {K:Value->World->Prop}
theorem sem_append_zeros0 {t t2 ty e:TypeId} {k2:IntKind} {i:TypeInfo} {z:Value} (ht:P.underlying t=some (.slice e)) (ht2:P.underlying t2=some (.int k2)) (hi:P.info? e=some i) (hz:i.zero=some z) (hk:i.size=1) (hzc:z.cells = #[z]) {bytes:Nat} (hby:i.bytes=bytes)
 {n:Nat} {xn:Int} {kn:IntKind} (hxn:xn=n) (hb:n*bytes<=140737488355328) (hm:n<=9223372036854775807) (h0:0<n)
 (hK : ∀ (c:Nat) (w':World),n<=c->(∃ l,Blk w' w.heap.size l e/\l.length=c/\l.take n=List.replicate n z)->Mod NoB w w'->K (.slice (some ⟨w.heap.size,0,none⟩) n c) w') :
 semK P (Builtin.append_ #[t,t2] ty #[.slice none 0 0,.int kn xn]) w K:=by
 subst hby hxn
 have hw:IntKind.i64.wrap (n:Int)=n:=wrap_i64 (by omega)
 have hn0 : ¬ ((n:Int)<0):=by omega
 have hbig : ¬ ((281474976710656:Int)<(n:Int)*i.bytes):=by
  have:((n:Int)*i.bytes)=((n*i.bytes:Nat):Int):=by simp
  rw [this]
  omega
 have h0:n≠0:=by omega
 have hm' : ¬ ((9223372036854775807:Int)<(n:Int)):=by omega
 have h48 : ¬ (281474976710656<Builtin.nextslicecap n 0*i.bytes):=by
  have:=growslice_fits (need:=n) (old:=0) (by omega) (by simpa using hb); omega
 have hn : ¬ (n<=0):=by omega
 have hge:=grownCap_ge w n 0 e
 have hrun:(Builtin.append_ #[t,t2] ty #[.slice none 0 0,.int kn (n:Int)]).run P w = .ok (.slice (some ⟨w.heap.size,0,none⟩) n (grownCap w n 0 e)) (w.drew.alloc (.cells ((List.replicate n z).toArray++Builtin.zeroCells z.cells (grownCap w n 0 e - n)) e)):=by
  have hfs':=run_firstCells (P:=P) (w:=w.drew) (Go.Sh.rd_nil w.drew 1)
  simp only [List.toArray] at hfs'
  simp [Builtin.append_,run_underlying ht,run_underlying ht2,sizeOf,typeInfo,zeroValue,hi,hz,asInt,asIntOf,hw,hn0,hbig,h0,hn,hm',h48,Question.forced,newRow,grownCap,hk,hzc,zc1]
  rw [hfs']
  simp only [Result.andThen_ok]
  simp
 have hn':=new_alloc_drew w (.cells ((List.replicate n z).toArray++Builtin.zeroCells z.cells (grownCap w n 0 e - n)) e)
 have hblk:Blk (w.drew.alloc (.cells ((List.replicate n z).toArray++Builtin.zeroCells z.cells (grownCap w n 0 e - n)) e)) w.heap.size (List.replicate n z++(Builtin.zeroCells z.cells (grownCap w n 0 e - n)).toList) e:=by
  refine Blk.mk ?_
  rw [hn'.get]
  congr 2
  apply Array.ext'
  simp
 refine ⟨_,_,hrun,hK (grownCap w n 0 e) _ hge ⟨_,hblk,by simp [hzc,zc1]; omega,?_⟩ hn'.mod⟩
 rw [List.take_append_of_le_length (by simp),List.take_of_length_le (by simp)]
end
section
variable {w:World}
theorem c_grow0W {n:Nat} (hn:n<=2000000000) (h0:0<n):Calls Tryz.prog 361 #[.slice none 0 0,.int .i64 n] w (Ret (RW [] w)):=by
 refine call361 ⟨none,0,0⟩ _ ?_
 unfold sh361
 obtain ⟨i5',h51,h52,h53,h54⟩:=i5
 refine ⟨λl w'=>w'=w,condK_i (λh=>by simp at h; omega) λ_=>rfl,?_⟩
 rintro w1 rfl
 have e1:IntKind.i64.wrap ((n:Int) - IntKind.i64.wrap (((0:Nat):Int) - ((0:Nat):Int)))=(n:Int):=by
  rw [show (((0:Nat):Int) - ((0:Nat):Int))=0 from rfl,wrap_i64 (e:=0) (by omega),wrap_i64 (by omega)]; omega
 simp only [e1]
 refine condK_i (λh=>?_) λh=>by simp at h; omega
 refine ⟨⟨by omega,by omega⟩,?_⟩
 refine sem_append_zeros0 u26 (k2:=.i64) (by kernel_rfl) h51 h52 h53 rfl h54 rfl (by omega) (by omega) h0 λc w2 hc ⟨l,hb,hl,htk⟩ hm=>⟨⟨some ⟨w1.heap.size,0,none⟩,n,c⟩,rfl,⟨by omega,by simp only []; omega⟩,?_⟩
 have hx0:cutSl ⟨some ⟨w1.heap.size,0,none⟩,n,c⟩ 1 0 (((0:Nat):Int)).toNat c=⟨some ⟨w1.heap.size,0,none⟩,0,c⟩:=cutSl0 hc (Nat.zero_le _)
 rw [hx0]
 exact ⟨_,rfl,.inr ⟨_,_,_,l,rfl,by omega,hb,hl,rfl,Nat.zero_le _⟩,FB.new (Nat.le_refl _),hm⟩
theorem c_concatW {parts:Slc} {pl:List (List UInt8)} {X:Nat->Prop} (hp:PartsAt w parts pl X) (hXl : ∀ x,X x->x<w.heap.size) (hn:pl.flatten.length<=1000000000) (hm:pl.length<=1000000000) (hpo : ∀ p∈pl,0<p.length) (hp0:0<pl.length) :
 Calls Tryz.prog 249 #[.slice parts.a parts.len parts.cap] w (Ret (RW pl.flatten w)):=by
 refine call249 _ ?_
 unfold sh249
 obtain ⟨i5',h51,h52,h53,h54⟩:=i5
 obtain ⟨ss,hps,hpX,hsl,hsp⟩:=hp
 have hpl:ss.length=parts.len:=by have:=hps.1; simpa using this
 have hfl:=lens_flat pl
 have hfp:0<lens pl:=by
  obtain ⟨p,r,rfl⟩ : ∃ p r,pl=p :: r:=by cases pl with
   | nil=>simp at hp0
   | cons p r=>exact ⟨p,r,rfl⟩
  have:=hpo p List.mem_cons_self
  simp only [lens,List.map_cons,List.sum_cons]; omega
 refine ⟨λl w'=>match l with | [.i _ s,.i _ x]=>∃ k:Nat,x=(k:Int)/\k<=pl.length/\s=(lens (pl.take k):Nat)/\w'=w | _=>False,λl _=>match l with | [.i _ _,.i _ x]=>(pl.length - x).toNat | _=>0,⟨0,rfl,by omega,by simp [lens],rfl⟩,?_⟩
 rintro s x w1 ⟨k,rfl,hk,rfl,rfl⟩
 refine condK_i (λhlt=>?_) λhge=>?_
 ·have hlt:k<ss.length:=by have:=hlt; simp at this; omega
  obtain ⟨a,ea,hr⟩:=rd_slc hps hlt
  have hlk:=lens_take (l:=pl) (k:=k) (by omega)
  have hle:=lens_le (l:=pl) (k+1)
  obtain ⟨hs1,hs2⟩:=hsp k hlt (by omega)
  have hl1:=rd_len8 hs1
  refine ⟨⟨by omega,by omega⟩,?_⟩
  rw [ea]
  refine ⟨ss[k],hr,?_⟩
  have ew:IntKind.i64.wrap ((lens (pl.take k):Nat)+(ss[k].len:Int))=((lens (pl.take (k+1)):Nat):Int):=by rw [wrap_i64 (by omega)]; omega
  rw [ew,wrap_i64 (e:=(k:Int)+1) (by omega)]
  exact condK_i (λh=>by simp at h; omega) λ_=>⟨⟨k+1,by omega,by omega,rfl,rfl⟩,by (try simp only []); omega⟩
 ·have hkk:k=pl.length:=by have:=hge; simp at this; omega
  subst hkk
  rw [List.take_length]
  refine callK_ret (c_grow0W (by omega) hfp) ?_
  rintro v w2 ⟨x,rfl,ho,hf,hm2⟩
  refine ⟨x,rfl,?_⟩
  refine ⟨λl w'=>match l with | [.sl s,.i _ x]=>∃ k:Nat,x=(k:Int)/\k<=pl.length/\Row0 5 w' s (bys (pl.take k).flatten)/\FB w1 s/\Mod NoB w1 w' | _=>False,λl _=>match l with | [.sl _,.i _ x]=>(pl.length - x).toNat | _=>0,⟨0,rfl,by omega,by simpa using ho,hf,hm2⟩,?_⟩
  rintro s y w3 ⟨k,rfl,hk,ho3,hf3,hm3⟩
  refine condK_i (λhlt=>?_) λhge=>?_
  ·have hlt:k<ss.length:=by have:=hlt; simp at this; omega
   obtain ⟨a,ea,hr⟩:=rd_slc (hps.no hm3) hlt
   obtain ⟨hs1,hs2⟩:=hsp k hlt (by omega)
   have hl1:=rd_len8 hs1
   have hlk:=lens_take (l:=pl) (k:=k) (by omega)
   have hle:=lens_le (l:=pl) (k+1)
   have hl3:=rd_len8 ho3.own.rd
   rw [lens_flat] at hl3
   have hpk:=hpo pl[k] (List.getElem_mem _)
   refine ⟨⟨by omega,by omega⟩,?_⟩
   rw [ea]
   refine ⟨ss[k],hr,?_⟩
   rw [wrap_i64 (e:=(k:Int)+1) (by omega)]
   refine sem_append_row u26 h51 h52 h53 rfl h54 ho3 (hs1.no hm3) (bys_one _) (by omega) (by omega) (by omega) λs' w4 ho4 hlen hblk hm4=>⟨s',rfl,⟨k+1,by omega,by omega,?_,hf3.step hm3.size hblk,hf3.mod hm3 hm4⟩,by (try simp only []); omega⟩
   rw [take_snoc (show k<pl.length by omega),List.flatten_append,bys_app]
   simpa using ho4
  ·have hkk:k=pl.length:=by have:=hge; simp at this; omega
   subst hkk
   rw [List.take_length] at ho3
   exact ⟨s,rfl,ho3,hf3,hm3⟩
end
def numF (pl:List (List UInt8)):List UInt8:=redT (sha pl.flatten)
theorem redT_len {l:List UInt8} (h:l.length<=64):(redT l).length=32:=by rw [redT,if_neg (by omega)]; simp
theorem numF_len (pl:List (List UInt8)):(numF pl).length=32:=redT_len (by rw [sha_len']; exact Nat.le_refl _)
theorem c_numberF {w:World} {first parts:Slc} {f:List UInt8} {ss:List Slc} {pl:List (List UInt8)} (hg:GS w) (hf:SlRd w first 1 (bys f)) (hfl : ∀ z,first.blk=some z->z<w.heap.size) (hp:SlRd w parts 1 (vals ss)) (hpl : ∀ z,parts.blk=some z->z<w.heap.size) (hsl:ss.length=pl.length)
 (hss : ∀ i (h:i<ss.length) (h':i<pl.length),SlRd w ss[i] 1 (bys pl[i])/\∀ z,ss[i].blk=some z->z<w.heap.size) (hn:f.length+pl.flatten.length<=800000000) (hm:pl.length<=1000000) :
 Calls Tryz.prog 248 #[.slice first.a first.len first.cap,.slice parts.a parts.len parts.cap] w (Ret (RW (numF (f :: pl)) w)):=by
 refine call248 _ _ ?_
 unfold sh248
 refine callK_ret (c_cloneR hp (by omega)) ?_
 rintro v w1 ⟨s1,rfl,ho1,hb1,hm1⟩
 refine ⟨s1,rfl,?_⟩
 refine sem_rows [first] rfl rfl (by omega) (by omega) λx vb w2 hN2 ex hB2 hx2=>⟨x,rfl,?_⟩
 subst ex
 have hvb:=hN2.at_
 refine callK_ret (c_ins0 (y:=first) (ho1.no hN2.mod) hN2.get (λz hz e=>by have:=ho1.lt hz; omega) (by omega)) ?_
 rintro v w3 ⟨s3,rfl,ho3,hb3,hm3⟩
 have hM3:Mod NoB w w3:=(hm1.tr hN2.mod).fresh hm3 λz hz=>hb1 z hz
 refine ⟨s3,rfl,?_⟩
 have hX : ∀ z,s3.blk=some z->z<w3.heap.size:=λz hz=>ho3.lt hz
 refine callK_ret (c_sum (pl:=f :: pl) (X:=λz=>z<w3.heap.size) (hg.no hM3).sha ⟨first :: ss,ho3.rd,hX,by simp [hsl],λi hi hi'=>?_⟩ (λ_ h=>h) (by rw [List.flatten_cons,List.length_append]; omega) (by simp; omega)) ?_
 ·cases i with
  | zero=>exact ⟨hf.no hM3,λz hz=>Nat.lt_of_lt_of_le (hfl z hz) hM3.size⟩
  | succ i=>exact ⟨(hss i (by simpa using hi) (by simpa using hi')).1.no hM3,λz hz=>Nat.lt_of_lt_of_le ((hss i (by simpa using hi) (by simpa using hi')).2 z hz) hM3.size⟩
 rintro v w4 ⟨d,rfl,ho4,hb4,hm4⟩
 refine ⟨d,rfl,?_⟩
 refine callK_ret (c_reduceW ho4.rd λz hz=>ho4.lt hz) ?_
 rintro v w5 ⟨r,rfl,ho5,hb5,hm5⟩
 exact ⟨r,rfl,r,rfl,ho5,hb5.le (hM3.tr hm4).size,(hM3.tr hm4).tr hm5⟩
theorem c_howF {w:World} {point pub parts:Slc} {f g:List UInt8} {ss:List Slc} {pl:List (List UInt8)} (hg:GS w) (hf:SlRd w point 1 (bys f)) (hfl : ∀ z,point.blk=some z->z<w.heap.size) (hq:SlRd w pub 1 (bys g)) (hql : ∀ z,pub.blk=some z->z<w.heap.size) (hp:SlRd w parts 1 (vals ss)) (hpl : ∀ z,parts.blk=some z->z<w.heap.size) (hsl:ss.length=pl.length)
 (hss : ∀ i (h:i<ss.length) (h':i<pl.length),SlRd w ss[i] 1 (bys pl[i])/\∀ z,ss[i].blk=some z->z<w.heap.size) (hn:f.length+g.length+pl.flatten.length<=800000000) (hm:pl.length<=100000) :
 Calls Tryz.prog 251 #[.slice point.a point.len point.cap,.slice pub.a pub.len pub.cap,.slice parts.a parts.len parts.cap] w (Ret (RW (numF (f :: g :: pl)) w)):=by
 refine call251 _ _ _ ?_
 unfold sh251
 refine callK_ret (c_cloneR hp (by omega)) ?_
 rintro v w1 ⟨s1,rfl,ho1,hb1,hm1⟩
 refine ⟨s1,rfl,?_⟩
 refine sem_rows [pub] rfl rfl (by omega) (by omega) λx vb w2 hN2 ex hB2 hx2=>⟨x,rfl,?_⟩
 subst ex
 have hvb:=hN2.at_
 refine callK_ret (c_ins0 (y:=pub) (ho1.no hN2.mod) hN2.get (λz hz e=>by have:=ho1.lt hz; omega) (by omega)) ?_
 rintro v w3 ⟨s3,rfl,ho3,hb3,hm3⟩
 have hM3:Mod NoB w w3:=(hm1.tr hN2.mod).fresh hm3 λz hz=>hb1 z hz
 refine ⟨s3,rfl,?_⟩
 refine callW (c_numberF (pl:=g :: pl) (ss:=pub :: ss) (hg.no hM3) (hf.no hM3) (λz hz=>Nat.lt_of_lt_of_le (hfl z hz) hM3.size) ho3.rd (λz hz=>ho3.lt hz) (by simp [hsl]) (λi hi hi'=>?_) (by rw [List.flatten_cons,List.length_append]; omega) (by simp; omega)) λx w4 h1 h3 h4=>⟨x,rfl,h1,h3.le hM3.size,hM3.tr h4⟩
 cases i with
 | zero=>exact ⟨hq.no hM3,λz hz=>Nat.lt_of_lt_of_le (hql z hz) hM3.size⟩
 | succ i=>exact ⟨(hss i (by simpa using hi) (by simpa using hi')).1.no hM3,λz hz=>Nat.lt_of_lt_of_le ((hss i (by simpa using hi) (by simpa using hi')).2 z hz) hM3.size⟩
noncomputable def mulF (r:List UInt8):List UInt8:=putP (mulB baseP (bitsT r))
noncomputable def sigF (l:List UInt8) (pl:List (List UInt8)):List UInt8:=
 mulF (numF (drwB l :: pl))++mulT (numF (mulF (numF (drwB l :: pl)) :: pubF l :: pl)) (secB l) (numF (drwB l :: pl))
theorem c_SignF {w:World} {seed text:Slc} {l:List UInt8} {ss:List Slc} {pl:List (List UInt8)} (hg:GS w) (hs:SlRd w seed 1 (bys l)) (hsl : ∀ z,seed.blk=some z->z<w.heap.size) (hl:l.length=32)
 (hp:SlRd w text 1 (vals ss)) (hpl : ∀ z,text.blk=some z->z<w.heap.size) (hsl2:ss.length=pl.length)
 (hss : ∀ i (h:i<ss.length) (h':i<pl.length),SlRd w ss[i] 1 (bys pl[i])/\∀ z,ss[i].blk=some z->z<w.heap.size) (hn:pl.flatten.length<=700000000) (hm:pl.length<=10000) :
 Calls Tryz.prog 163 #[.slice seed.a seed.len seed.cap,.slice text.a text.len text.cap] w (Ret (RW (sigF l pl) w)):=by
 refine call163 _ _ ?_
 unfold sh163
 refine callK_ret (c_openF hg hs hsl hl) ?_
 rintro v w1 ⟨o,rfl,hO,hm1⟩
 refine ⟨_,_,rfl,condK_i (λh=>by simp at h) λ_=>?_⟩
 obtain ⟨⟨ps,sc,dr,T,h1,h0,hB,hsr,hdr,hsb,hdb⟩,hno⟩:=id hO
 have hsl':(secB l).length=32:=by simp [secB,clampB,sha_len']
 have hdl':(drwB l).length=32:=by simp [drwB,clampB,sha_len']
 have hss1 : ∀ {w':World},Mod NoB w w'->∀ i (h:i<ss.length) (h':i<pl.length),SlRd w' ss[i] 1 (bys pl[i])/\∀ z,ss[i].blk=some z->z<w'.heap.size:=λhm i h h'=>⟨(hss i h h').1.no hm,λz hz=>Nat.lt_of_lt_of_le ((hss i h h').2 z hz) hm.size⟩
 have hlt : ∀ {w':World} {x:Slc},Mod NoB w w'->(∀ z,x.blk=some z->z<w.heap.size)->∀ z,x.blk=some z->z<w'.heap.size:=λhm h z hz=>Nat.lt_of_lt_of_le (h z hz) hm.size
 have hr21 : ∀ {w':World},Mod NoB w1 w'->Rd w' ((⟨o,0,none⟩:Addr).add 21) [dr.val]/\Rd w' ((⟨o,0,none⟩:Addr).add 20) [sc.val]:=λhm=>by
  rw [addl,addl]
  exact ⟨(hB.no hm).rd1 (by rw [List.getElem?_append_right (by simp [h1])]; simp [h1]),(hB.no hm).rd1 (by rw [List.getElem?_append_right (by simp [h1])]; simp [h1])⟩
 refine ⟨dr,(hr21 (Mod.refl _ _)).1,?_⟩
 refine callW (c_numberF (hg.no hm1) hdr (λz hz=>(hdb z hz).2) (hp.no hm1) (hlt hm1 hpl) hsl2 (hss1 hm1) (by omega) (by omega)) λx1 w2 ho1 hf1 hm2=>?_
 have hM2:=hm1.tr hm2
 refine callK_ret (c_BaseF (hg.no hM2).ge) ?_
 rintro v w3 ⟨bl,hbl1,hbl2,rfl,hm3⟩
 obtain ⟨x0,x1',x2,x3,x4,x5,x6,x7,x8,x9,x10,x11,x12,x13,x14,x15,x16,x17,x18,x19,rfl⟩:=lst20 hbl1
 refine ⟨_,_,_,_,_,_,_,_,_,_,_,_,_,_,_,_,_,_,_,_,rfl,?_⟩
 have hM3:=hM2.tr hm3
 have ho3:=row0_no ho1 hm3
 have hc:=c_eMulF (l:=numF (drwB l :: pl)) (hg.no hM3).ge ho3.own.rd (λz hz=>ho3.own.lt hz) hbl2
 refine callK_ret hc ?_
 clear hc
 rintro v w4 ⟨kl,hk1,hk2,rfl,hm4⟩
 obtain ⟨y0,y1,y2,y3,y4,y5,y6,y7,y8,y9,y10,y11,y12,y13,y14,y15,y16,y17,y18,y19,rfl⟩:=lst20 hk1
 refine ⟨_,_,_,_,_,_,_,_,_,_,_,_,_,_,_,_,_,_,_,_,rfl,?_⟩
 have hM4:=hM3.tr hm4
 have hc:=c_ePutF (w:=w4) (hg.no hM4).ge hk2
 refine callK_ret hc ?_
 clear hc
 generalize hR:putP (mulB baseP (bitsT (numF (drwB l :: pl))))=l2
 have hl2:l2.length=32:=by rw [<-hR]; exact putP_len _
 rintro v w5 ⟨b2,T5,rfl,hb2,hs2,hm5⟩
 rw [hl2]
 have hM5:=hM4.tr hm5
 have hM15:Mod NoB w1 w5:=((hm2.tr hm3).tr hm4).tr hm5
 refine ⟨⟨some ⟨b2,0,none⟩,32,32⟩,rfl,Mod NoB w5.drew,Mod.refl _ _,?_⟩
 have hd5:Mod NoB w5 w5.drew:=Mod.drew _ _
 refine ⟨sc,λw' hm=>(hr21 ((hM15.tr hd5).tr hm)).2,?_,trivial⟩
 refine callK_ret (c_publicF (hg.no (hM5.tr hd5)).ge (hO.no (hM15.tr hd5))) ?_
 rintro v w6 ⟨b4,T6,rfl,hb4,hs4,hm6⟩
 rw [pubF_len]
 have hM6:=(hM5.tr hd5).tr hm6
 refine ⟨⟨some ⟨b4,0,none⟩,32,32⟩,rfl,hm6,?_,trivial⟩
 have hx2:SlRd w6 ⟨some ⟨b2,0,none⟩,32,32⟩ 1 (bys l2):=(own_whole (n:=32) (k:=1) (hb2.no (hd5.tr hm6)) (by simp [bys,hl2])).rd
 have hx4:SlRd w6 ⟨some ⟨b4,0,none⟩,32,32⟩ 1 (bys (pubF l)):=(own_whole (n:=32) (k:=1) hb4 (by simp [bys,pubF_len])).rd
 have hb2':=(hb2.no (hd5.tr hm6)).lt
 have hb4':=hb4.lt
 have hbk : ∀ {b z:Nat},Slc.blk ⟨some ⟨b,0,none⟩,32,32⟩=some z->z=b:=λhz=>by rw [Slc.blk_mk] at hz; simp at hz; exact hz.symm
 refine callW (c_howF (hg.no hM6) hx2 (λz hz=>by rw [hbk hz]; exact hb2') hx4 (λz hz=>by rw [hbk hz]; exact hb4') (hp.no hM6) (hlt hM6 hpl) hsl2 (hss1 hM6) (by rw [hl2,pubF_len]; omega) (by omega)) λx5 w7 ho5 hf5 hm7=>?_
 have hM7:=hM6.tr hm7
 refine ⟨hm6.tr hm7,?_,trivial⟩
 have hM17:Mod NoB w1 w7:=((hM15.tr hd5).tr hm6).tr hm7
 have ho17:=row0_no ho1 ((((hm3.tr hm4).tr hm5).tr hd5).tr (hm6.tr hm7))
 have hc:=c_mulAdd ho5.own.rd (λz hz=>ho5.own.lt hz) (hsr.no hM17) (λz hz=>Nat.lt_of_lt_of_le (hsb z hz).2 hM17.size) ho17.own.rd (λz hz=>ho17.own.lt hz)
 refine callK_ret hc ?_
 clear hc
 rintro v w8 ⟨x6,rfl,ho6,hc6,hf6,hm8⟩
 have hl6:(mulT (numF (l2 :: pubF l :: pl)) (secB l) (numF (drwB l :: pl))).length=32:=by rw [mulT,if_pos ⟨numF_len _,hsl',numF_len _⟩]; simp
 have hfin:sigF l pl=[l2,mulT (numF (l2 :: pubF l :: pl)) (secB l) (numF (drwB l :: pl))].flatten:=by simp [sigF,mulF,hR]
 rw [hfin]
 generalize mulT (numF (l2 :: pubF l :: pl)) (secB l) (numF (drwB l :: pl))=l6 at *
 refine ⟨x6,rfl,?_,trivial⟩
 have hM8:=hM7.tr hm8
 refine sem_rows [⟨some ⟨b2,0,none⟩,32,32⟩,x6] rfl rfl (by omega) (by omega) λx vb w9 hN9 ex hB9 hx9=>⟨x,rfl,?_⟩
 have hM9:=hM8.tr hN9.mod
 refine ⟨((hm6.tr hm7).tr hm8).tr hN9.mod,?_,trivial⟩
 have hx29:SlRd w9 ⟨some ⟨b2,0,none⟩,32,32⟩ 1 (bys l2):=hx2.no ((hm7.tr hm8).tr hN9.mod)
 have hb29:b2<w9.heap.size:=Nat.lt_of_lt_of_le hb2' ((hm7.tr hm8).tr hN9.mod).size
 refine callK_ret (c_concatW (pl:=[l2,l6]) (X:=λz=>z<w9.heap.size) ⟨_,hx9.rd,λz hz=>hx9.lt hz,rfl,rows2 hx29 (λz hz=>by rw [hbk hz]; exact hb29) (ho6.no hN9.mod).rd (λz hz=>(ho6.no hN9.mod).lt hz)⟩ (λ_ h=>h) (by simp [hl2,hl6]) (by simp) (λp hp=>by simp at hp; rcases hp with rfl | rfl <;> omega) (by simp)) ?_
 rintro v w10 ⟨x8,rfl,ho8,hf8,hm10⟩
 refine ⟨x8,rfl,(((hm6.tr hm7).tr hm8).tr hN9.mod).tr hm10,x8,rfl,ho8,hf8.le hM9.size,hM9.tr hm10⟩
theorem inv_new {S0:Nat->Prop} {w0 w w':World} {ρ:Lab} {h:Hp} (hi:Inv S0 w0 ρ h w) {o:XO} {b s:Nat} (hb:w.heap.size<=b) (hm:Mod NoB w w') (ho:ObjOk (λL=>if L=h.n then some (b,s) else ρ L) w' b s o) :
 Inv S0 w0 (λL=>if L=h.n then some (b,s) else ρ L) ⟨h.t.set (some o) h.n,Nat.succ h.n⟩ w'/\Lab.le ρ (λL=>if L=h.n then some (b,s) else ρ L):=by
 have hle:Lab.le ρ (λL=>if L=h.n then some (b,s) else ρ L):=λL x e=>by
  by_cases hL:L=h.n
  ·subst hL; rw [hi.fresh _ (Nat.le_refl _)] at e; cases e
  ·simp [hL,e]
 refine ⟨⟨λL hL=>?_,λL o' e=>?_,λL L' o1 o2 b1 s1 s2 e1 e2 e3 e4=>?_,hi.mod.no' hm⟩,hle⟩
 ·have:L≠h.n:=by simp only [] at hL; omega
  simp only [this,↓reduceIte]
  exact hi.fresh L (by simp only [] at hL; omega)
 ·rw [Tr.get_set] at e
  by_cases hL:L=h.n
  ·rw [if_pos hL] at e; cases e
   exact ⟨b,s,by simp [hL],ho,.inr (Nat.le_trans hi.mod.size hb)⟩
  ·rw [if_neg hL] at e
   obtain ⟨b',s',h1,h2,h3⟩:=hi.dom L o' e
   exact ⟨b',s',by simp [hL,h1],(h2.no hm).le hle,h3⟩
 ·have old : ∀ L o,h.t.get L=some o->∀ s,ρ L≠some (b,s):=λL o e s hr=>by
   obtain ⟨b',s',h1,h2,h3⟩:=hi.dom L o e
   rw [hr] at h1; cases h1
   have:=h2.lt
   omega
  rw [Tr.get_set] at e1 e2
  by_cases hL:L=h.n <;> by_cases hL':L'=h.n
  ·rw [hL,hL']
  ·exfalso
   rw [if_neg hL'] at e2
   simp only [hL,hL',↓reduceIte,Option.some.injEq,Prod.mk.injEq] at e3 e4
   rw [<-e3.1] at e4
   exact old _ _ e2 _ e4
  ·exfalso
   rw [if_neg hL] at e1
   simp only [hL,hL',↓reduceIte,Option.some.injEq,Prod.mk.injEq] at e3 e4
   rw [<-e4.1] at e3
   exact old _ _ e1 _ e3
  ·rw [if_neg hL] at e1; rw [if_neg hL'] at e2
   simp only [hL,hL',↓reduceIte] at e3 e4
   exact hi.inj L L' o1 o2 b1 s1 s2 e1 e2 e3 e4
noncomputable def newRow (h:Hp) (l:List XV):Hp:=⟨h.t.set (some (.row l)) h.n,Nat.add h.n 1⟩
def RX (us:List Value) (w:World) (v:Value) (w':World):Prop:=∃ (x:Slc) (T:TypeId),v=x.val/\Row0 T w' x us/\FB w x/\Mod NoB w w'
theorem row_call {f:FuncId} {xs cs:List XV} {us:List Value} {h:Hp} (hus : ∀ ρ,XRs ρ cs us) (hpos:0<us.length)
 (hc : ∀ (S0:Nat->Prop) (w0:World) (ρ:Lab) (w:World) (vs:List Value),GS w->Inv S0 w0 ρ h w->XRs ρ xs vs->Calls Tryz.prog f vs.toArray w (Ret (RX us w))) :
 CallOk Tryz.prog GS f xs h (.slu h.n 0 (len cs) 1) (newRow h cs):=by
 intro S0 w0 ρ w vs hG hi hvs
 refine Calls.mono (hc S0 w0 ρ w vs (hG w hi.mod) hi hvs) λe w' he=>?_
 cases e <;> first | exact he.elim | skip
 obtain ⟨x,T,rfl,hr,hf,hm⟩:=he
 rcases hr with ⟨_,rfl⟩ | ⟨g,n,c,l,rfl,hc0,hb,h1,h2,h3⟩
 ·simp at hpos
 have hlen:us.length=n:=by rw [<-h2,List.length_take]; omega
 have hcs:cs.length=n:=by rw [<-hlen]; exact ((hus ρ).len).symm
 have hg:w.heap.size<=g:=hf g (by rw [Slc.blk_mk,if_neg (by omega)])
 have hob:ObjOk (λL=>if L=h.n then some (g,c) else ρ L) w' g c (.row cs):=by
  refine ⟨us,l.drop n,T,hus _,?_,?_⟩
  ·rw [<-h2,List.take_append_drop]; exact hb
  ·rw [<-h2,List.take_append_drop]; exact h1
 obtain ⟨i1,i2⟩:=inv_new hi hg hm hob
 refine ⟨_,_,rfl,Lab.up_new i2,?_,i1⟩
 simp only [XR]
 exact ⟨g,c,c,by simp,by simp [Slc.val,len_eq,hcs],by omega,by rw [len_eq,hcs]; exact h3,by omega⟩
theorem XRs_mapB {ρ:Lab} : ∀ {l:List Nat},(∀ b∈l,b<256)->XRs ρ (mapB l) (bys (toB l))
 | [],_=>rfl
 | a :: l,hl=>by
   show XRs ρ (u8 a :: mapB l) _
   simp only [XRs]
   refine ⟨.int .u8 a,bys (toB l),?_,?_,XRs_mapB λb hb=>hl b (List.mem_cons_of_mem _ hb)⟩
   ·have:(UInt8.ofNat a).toNat=a:=by
     rw [UInt8.toNat_ofNat']
     have:=hl a List.mem_cons_self
     omega
    simp [bys,toB,this]
   ·simp only [XR]; rfl
theorem rdSl_at {S0:Nat->Prop} {w0 w:World} {ρ:Lab} {h:Hp} (hi:Inv S0 w0 ρ h w) {x:XV} {k n:Nat} {cs:List XV} (hr:rdSl h x k=some (n,cs)) {v:Value} (hx:XR ρ x v) :
 ∃ (s:Slc) (vs:List Value),v = .slice s.a s.len s.cap/\XRs ρ cs vs/\SlRd w s k vs/\∀ z,s.blk=some z->z<w.heap.size:=by
 unfold rdSl at hr
 split at hr
 ·next n' c=>
  obtain ⟨h1,hr⟩:=br_some hr
  cases hr
  have:=Nat.eq_of_beq_eq_true h1
  subst this
  simp only [XR] at hx
  exact ⟨⟨none,0,c⟩,[],hx,rfl,⟨by simp,by simp,.inl rfl⟩,λz hz=>by simp [Slc.blk] at hz⟩
 ·next L o n' c=>
  obtain ⟨h1,hr⟩:=br_some hr
  have h1:=Nat.le_of_ble_eq_true h1
  obtain ⟨l,h2,hr⟩:=onO_some hr
  obtain ⟨h3,hr⟩:=br_some hr
  cases hr
  rw [tk_eq,dr_eq] at *
  have h3:=Nat.eq_of_beq_eq_true h3
  rw [len_eq] at h3
  obtain ⟨ob,b,s,vs,rest,T,g1,g2,g3,g4,_⟩:=hi.row h2
  simp only [XR] at hx
  obtain ⟨b',s',e1,rfl⟩:=hx
  rw [g2] at e1; cases e1
  have hv:=(g3.drop o).take (n*k)
  refine ⟨⟨some ⟨b,o,none⟩,n,c⟩,_,rfl,hv,⟨by rw [hv.len]; exact h3,h1,.inr ⟨_,rfl,row_rd g4 rfl⟩⟩,λz hz=>?_⟩
  rw [Slc.blk_mk] at hz
  split at hz
  ·cases hz
  ·cases hz; exact g4.lt
 ·next L o n' k'=>
  obtain ⟨l,h2,hr⟩:=onO_some hr
  obtain ⟨h3,hr⟩:=br_some hr
  cases hr
  rw [tk_eq,dr_eq] at *
  have h3:=Nat.eq_of_beq_eq_true h3
  rw [len_eq] at h3
  obtain ⟨ob,b,s,vs,rest,T,g1,g2,g3,g4,_⟩:=hi.row h2
  simp only [XR] at hx
  obtain ⟨b',s',c,e1,rfl,_,e2,_⟩:=hx
  rw [g2] at e1; cases e1
  have hv:=(g3.drop o).take (n*k)
  refine ⟨⟨some ⟨b,o,none⟩,n,c⟩,_,rfl,hv,⟨by rw [hv.len]; exact h3,e2,.inr ⟨_,rfl,row_rd g4 rfl⟩⟩,λz hz=>?_⟩
  rw [Slc.blk_mk] at hz
  split at hz
  ·cases hz
  ·cases hz; exact g4.lt
 ·next L=>
  obtain ⟨l,h2,hr⟩:=onO_some hr
  cases hr
  obtain ⟨ob,b,s,vs,rest,T,g1,g2,g3,g4,_⟩:=hi.row h2
  simp only [XR] at hx
  obtain ⟨b',s',o,c,e1,rfl⟩:=hx
  rw [g2] at e1; cases e1
  refine ⟨⟨some ⟨b,o,none⟩,0,c⟩,[],rfl,rfl,⟨by simp,Nat.zero_le _,.inl rfl⟩,λz hz=>?_⟩
  rw [Slc.blk_mk] at hz
  split at hz
  ·cases hz
  ·cases hz; exact g4.lt
 ·cases hr
noncomputable def bytesOf (h:Hp) (x:XV):Option (List Nat):=onO (rdSl h x 1) λq=>bytesX q.2
noncomputable def rowsOf (h:Hp) (x:XV):Option (List (List Nat)):=onO (rdSl h x 1) λq=>mapO (bytesOf h) q.2
def ByAt (w:World) (s:Slc) (l:List UInt8):Prop:=SlRd w s 1 (bys l)/\∀ z,s.blk=some z->z<w.heap.size
section
variable {S0:Nat->Prop} {w0 w:World} {ρ:Lab} {h:Hp}
theorem bytesOf_ok (hi:Inv S0 w0 ρ h w) {x:XV} {ns:List Nat} (hr:bytesOf h x=some ns) {v:Value} (hx:XR ρ x v) : ∃ s:Slc,v = .slice s.a s.len s.cap/\ByAt w s (toB ns):=by
 unfold bytesOf at hr
 obtain ⟨⟨n,cs⟩,h1,h2⟩:=onO_some hr
 obtain ⟨s,vs,e1,e2,e3,e4⟩:=rdSl_at hi h1 hx
 obtain ⟨_,e5⟩:=bytesX_ok h2 e2
 subst e5
 exact ⟨s,e1,e3,e4⟩
theorem rowsOf_aux (hi:Inv S0 w0 ρ h w) : ∀ {cs:List XV} {ts:List (List Nat)} {vs:List Value},mapO (bytesOf h) cs=some ts->XRs ρ cs vs->∃ ss:List Slc,vs=vals ss/\ss.length=ts.length/\∀ i (h1:i<ss.length) (h2:i<(ts.map toB).length),ByAt w ss[i] (ts.map toB)[i]
 | [],ts,vs,hr,hx=>by
   rw [mapO_nil] at hr; cases hr
   simp only [XRs] at hx; subst hx
   exact ⟨[],rfl,rfl,λi h1=>by simp at h1⟩
 | c :: cs,ts,vs,hr,hx=>by
   obtain ⟨t,r,rfl,h1,h2⟩:=mapO_cons hr
   simp only [XRs] at hx
   obtain ⟨v,vs',rfl,h3,h4⟩:=hx
   obtain ⟨s,rfl,h5⟩:=bytesOf_ok hi h1 h3
   obtain ⟨ss,rfl,h6,h7⟩:=rowsOf_aux hi h2 h4
   refine ⟨s :: ss,rfl,by simp [h6],λi h8 h9=>?_⟩
   cases i with
   | zero=>exact h5
   | succ i=>exact h7 i (by simpa using h8) (by simpa using h9)
theorem rowsOf_ok (hi:Inv S0 w0 ρ h w) {x:XV} {ts:List (List Nat)} (hr:rowsOf h x=some ts) {v:Value} (hx:XR ρ x v) :
 ∃ (s:Slc) (ss:List Slc),v = .slice s.a s.len s.cap/\SlRd w s 1 (vals ss)/\(∀ z,s.blk=some z->z<w.heap.size)/\ss.length=(ts.map toB).length/\∀ i (h1:i<ss.length) (h2:i<(ts.map toB).length),ByAt w ss[i] (ts.map toB)[i]:=by
 unfold rowsOf at hr
 obtain ⟨⟨n,cs⟩,h1,h2⟩:=onO_some hr
 obtain ⟨s,vs,e1,e2,e3,e4⟩:=rdSl_at hi h1 hx
 obtain ⟨ss,rfl,h6,h7⟩:=rowsOf_aux hi h2 e2
 exact ⟨s,ss,e1,e3,e4,by simpa using h6,h7⟩
end
noncomputable def eqN (l m:List Nat):Bool:=List.rec (motive:=λ_=>List Nat->Bool) (λm=>match m with | []=>true | _=>false) (λx _ ih m=>match m with | []=>false | y :: r=>br (Nat.beq x y) (ih r) false) l m
theorem eqN_eq : ∀ {l m:List Nat},eqN l m=true->l=m
 | [],m,h=>by cases m <;> first | rfl | cases h
 | x :: l,m,h=>by
   cases m with
   | nil=>cases h
   | cons y r=>
     have h:br (Nat.beq x y) (eqN l r) false=true:=h
     obtain ⟨h1,h2⟩:=br_and h
     rw [Nat.eq_of_beq_eq_true h1,eqN_eq h2]
noncomputable def eqNN (l m:List (List Nat)):Bool:=List.rec (motive:=λ_=>List (List Nat)->Bool) (λm=>match m with | []=>true | _=>false) (λx _ ih m=>match m with | []=>false | y :: r=>br (eqN x y) (ih r) false) l m
theorem eqNN_eq : ∀ {l m:List (List Nat)},eqNN l m=true->l=m
 | [],m,h=>by cases m <;> first | rfl | cases h
 | x :: l,m,h=>by
   cases m with
   | nil=>cases h
   | cons y r=>
     have h:br (eqN x y) (eqNN l r) false=true:=h
     obtain ⟨h1,h2⟩:=br_and h
     rw [eqN_eq h1,eqNN_eq h2]
abbrev Tab:=List (List (List Nat)×List Nat)
noncomputable def lookX (k:List (List Nat)) (t:Tab):Option (List Nat):=List.rec (motive:=λ_=>Option (List Nat)) none (λq _ ih=>br (eqNN q.1 k) (some q.2) ih) t
theorem look_mem {k:List (List Nat)} {r:List Nat} : ∀ {t:Tab},lookX k t=some r->(k,r)∈t
 | [],h=>by cases h
 | q :: t,h=>by
   have h:br (eqNN q.1 k) (some q.2) (lookX k t)=some r:=h
   cases hb:eqNN q.1 k with
   | true=>
     rw [hb,br_t] at h
     cases h
     rw [<-eqNN_eq hb]
     exact List.mem_cons_self
   | false=>
     rw [hb,br_f] at h
     exact List.mem_cons_of_mem _ (look_mem h)
def BOk (r:List Nat):Prop:=(∀ b∈r,b<256)/\0<r.length
noncomputable def tabC (F:FuncId) (g:List XV->Hp->Option (List (List Nat))) (t:Tab) (f:FuncId) (xs:List XV) (h:Hp):Option (XV×Hp):=
 br (Nat.beq f F) (onO (g xs h) λk=>onO (lookX k t) λr=>some (.slu h.n 0 (len (mapB r)) 1,newRow h (mapB r))) none
theorem tabC_ok {F:FuncId} {g:List XV->Hp->Option (List (List Nat))} {t:Tab}
 (ht : ∀ xs h k r,g xs h=some k->(k,r)∈t->BOk r/\∀ (S0:Nat->Prop) (w0:World) (ρ:Lab) (w:World) (vs:List Value),GS w->Inv S0 w0 ρ h w->XRs ρ xs vs->Calls Tryz.prog F vs.toArray w (Ret (RX (bys (toB r)) w))) :
 ∀ f xs h y h',tabC F g t f xs h=some (y,h')->CallOk Tryz.prog GS f xs h y h':=λf xs h y h' hr=>by
 unfold tabC at hr
 obtain ⟨h1,hr1⟩:=br_some hr
 clear hr
 have:=Nat.eq_of_beq_eq_true h1
 subst this
 obtain ⟨k,h2,hr2⟩:=onO_some hr1
 obtain ⟨r,h3,hr3⟩:=onO_some hr2
 cases hr3
 obtain ⟨⟨g1,g2⟩,g3⟩:=ht xs h k r h2 (look_mem h3)
 exact row_call (us:=bys (toB r)) (λρ=>XRs_mapB g1) (by simpa [bys,toB] using g2) g3
noncomputable def key1 (xs:List XV) (h:Hp):Option (List (List Nat)):=match xs with
 | [x]=>onO (bytesOf h x) λl=>some [l]
 | _=>none
noncomputable def key2 (xs:List XV) (h:Hp):Option (List (List Nat)):=match xs with
 | [x,y]=>onO (bytesOf h x) λl=>onO (rowsOf h y) λm=>some (l :: m)
 | _=>none
noncomputable def key3 (xs:List XV) (h:Hp):Option (List (List Nat)):=match xs with
 | [x,y,z]=>onO (bytesOf h x) λl=>onO (bytesOf h y) λl'=>onO (rowsOf h z) λm=>some (l :: l' :: m)
 | _=>none
def PubTab (t:Tab):Prop:=∀ k r,(k,r)∈t->BOk r/\∃ l,k=[l]/\l.length=32/\pubF (toB l)=toB r
def small (m:List (List Nat)):Prop:=(m.map toB).flatten.length<=1000/\m.length<=1000
def SigTab (t:Tab):Prop:=∀ k r,(k,r)∈t->BOk r/\∃ l m,k=l :: m/\l.length=32/\small m/\sigF (toB l) (m.map toB)=toB r
def HowTab (t:Tab):Prop:=∀ k r,(k,r)∈t->BOk r/\∃ l l' m,k=l :: l' :: m/\l.length<=1000/\l'.length<=1000/\small m/\numF (toB l :: toB l' :: m.map toB)=toB r
theorem toB_len (l:List Nat):(toB l).length=l.length:=by simp [toB]
theorem ret_mono {R R':Value->World->Prop} {f:FuncId} {a:Array Value} {w:World} (h:Calls Tryz.prog f a w (Ret R)) (hR : ∀ v w',R v w'->R' v w'):Calls Tryz.prog f a w (Ret R'):=
 Calls.mono h λe w' he=>by cases e <;> first | exact he.elim | exact hR _ _ he
theorem pubC_ok {t:Tab} (ht:PubTab t) : ∀ f xs h y h',tabC 61 key1 t f xs h=some (y,h')->CallOk Tryz.prog GS f xs h y h':=
 tabC_ok λxs h k r hk hm=>by
  obtain ⟨hb,l,rfl,h32,hp⟩:=ht k r hm
  refine ⟨hb,λS0 w0 ρ w vs hg hi hx=>?_⟩
  unfold key1 at hk
  split at hk
  ·next x=>
   obtain ⟨l',h1,hk⟩:=onO_some hk
   cases hk
   simp only [XRs] at hx
   obtain ⟨v,vs',rfl,h2,rfl⟩:=hx
   obtain ⟨s,rfl,h3,h4⟩:=bytesOf_ok hi h1 h2
   refine ret_mono (c_PublicF hg h3 h4 (by rw [toB_len]; exact h32)) λv w' ⟨b,T,e1,e2,e3,e4⟩=>?_
   rw [hp] at e1 e2
   have hl:(toB r).length=r.length:=toB_len r
   have hp0:=hb.2
   exact ⟨⟨some ⟨b,0,none⟩,(toB r).length,(toB r).length⟩,T,e1,.inr ⟨b,_,_,_,rfl,by omega,e2,by simp [bys],List.take_of_length_le (by simp [bys]),Nat.le_refl _⟩,FB.new e3,e4⟩
  ·cases hk
theorem sigC_ok {t:Tab} (ht:SigTab t) : ∀ f xs h y h',tabC 163 key2 t f xs h=some (y,h')->CallOk Tryz.prog GS f xs h y h':=
 tabC_ok λxs h k r hk hm=>by
  obtain ⟨hb,l,m,rfl,h32,hs,hp⟩:=ht k r hm
  refine ⟨hb,λS0 w0 ρ w vs hg hi hx=>?_⟩
  unfold key2 at hk
  split at hk
  ·next x y=>
   obtain ⟨l',h1,hk⟩:=onO_some hk
   obtain ⟨m',h1',hk⟩:=onO_some hk
   cases hk
   simp only [XRs] at hx
   obtain ⟨v,vs',rfl,h2,v',vs'',rfl,h2',rfl⟩:=hx
   obtain ⟨s,rfl,h3,h4⟩:=bytesOf_ok hi h1 h2
   obtain ⟨s',ss,rfl,h5,h6,h7,h8⟩:=rowsOf_ok hi h1' h2'
   have:=c_SignF hg h3 h4 (by rw [toB_len]; exact h32) h5 h6 h7 (λi a b=>h8 i a b) (by have:=hs.1; omega) (by have:=hs.2; simp; omega)
   rw [hp] at this
   exact ret_mono this λv w' ⟨x,e1,e2⟩=>⟨x,_,e1,e2⟩
  ·cases hk
theorem howC_ok {t:Tab} (ht:HowTab t) : ∀ f xs h y h',tabC 251 key3 t f xs h=some (y,h')->CallOk Tryz.prog GS f xs h y h':=
 tabC_ok λxs h k r hk hm=>by
  obtain ⟨hb,l,l2,m,rfl,hl,hl2,hs,hp⟩:=ht k r hm
  refine ⟨hb,λS0 w0 ρ w vs hg hi hx=>?_⟩
  unfold key3 at hk
  split at hk
  ·next x y z=>
   obtain ⟨l',h1,hk⟩:=onO_some hk
   obtain ⟨l2',h1',hk⟩:=onO_some hk
   obtain ⟨m',h1'',hk⟩:=onO_some hk
   cases hk
   simp only [XRs] at hx
   obtain ⟨v,vs',rfl,h2,v',vs'',rfl,h2',v2,vs3,rfl,h2'',rfl⟩:=hx
   obtain ⟨s,rfl,h3,h4⟩:=bytesOf_ok hi h1 h2
   obtain ⟨s2,rfl,h3',h4'⟩:=bytesOf_ok hi h1' h2'
   obtain ⟨s',ss,rfl,h5,h6,h7,h8⟩:=rowsOf_ok hi h1'' h2''
   have:=c_howF hg h3 h4 h3' h4' h5 h6 h7 (λi a b=>h8 i a b) (by have:=hs.1; rw [toB_len,toB_len]; omega) (by have:=hs.2; simp; omega)
   rw [hp] at this
   exact ret_mono this λv w' ⟨x,e1,e2⟩=>⟨x,_,e1,e2⟩
  ·cases hk
noncomputable def boolX (l:List Bool):List XV:=List.rec (motive:=λ_=>List XV) [] (λa _ ih=>.bool a :: ih) l
theorem XRs_boolX {ρ:Lab} : ∀ l:List Bool,XRs ρ (boolX l) (bls l)
 | []=>rfl
 | a :: l=>by
   show XRs ρ (.bool a :: boolX l) _
   simp only [XRs]
   exact ⟨.bool a,bls l,rfl,by simp only [XR],XRs_boolX l⟩
noncomputable def bitsC (f:FuncId) (xs:List XV) (h:Hp):Option (XV×Hp):=
 br (Nat.beq f 264) (match xs with
  | [x]=>onO (bytesOf h x) λl=>br (Nat.beq (len l) 32) (some (.slu h.n 0 (len (boolX (bitsT (toB l)))) 1,newRow h (boolX (bitsT (toB l))))) none
  | _=>none) none
theorem bitsC_ok : ∀ f xs h y h',bitsC f xs h=some (y,h')->CallOk Tryz.prog GS f xs h y h':=λf xs h y h' hr=>by
 unfold bitsC at hr
 obtain ⟨h1,hr⟩:=br_some hr
 have:=Nat.eq_of_beq_eq_true h1
 subst this
 split at hr
 ·next x=>
  obtain ⟨l,h2,hr⟩:=onO_some hr
  obtain ⟨h3,hr⟩:=br_some hr
  cases hr
  have h3:=Nat.eq_of_beq_eq_true h3
  rw [len_eq] at h3
  refine row_call (us:=bls (bitsT (toB l))) (λρ=>XRs_boolX _) (by rw [bitsT,if_pos (by rw [toB_len]; exact h3)]; simp) λS0 w0 ρ w vs hg hi hx=>?_
  simp only [XRs] at hx
  obtain ⟨v,vs',rfl,h4,rfl⟩:=hx
  obtain ⟨s,rfl,h5,h6⟩:=bytesOf_ok hi h2 h4
  exact ret_mono (c_bitsW h5 h6) λv w' ⟨x,e1,e2⟩=>⟨x,_,e1,e2⟩
 ·cases hr
noncomputable def rightQ (f:FuncId) (xs:List XV) (h:Hp):Option XV:=
 br (Nat.beq f 591) (match xs with
  | [x]=>onO (bytesOf h x) λl=>some (.bool (decide ((toB l).length=32/\le (toB l)<LO)))
  | _=>none) none
theorem rightQ_ok {f:FuncId} {xs:List XV} {h:Hp} {y:XV} (hr:rightQ f xs h=some y):QuietOk Tryz.prog GS f xs h y:=by
 unfold rightQ at hr
 obtain ⟨h1,hr⟩:=br_some hr
 have:=Nat.eq_of_beq_eq_true h1
 subst this
 split at hr
 ·next x=>
  obtain ⟨l,h2,hr⟩:=onO_some hr
  cases hr
  intro S0 w0 ρ w vs hG hi hx
  simp only [XRs] at hx
  obtain ⟨v,vs',rfl,h4,rfl⟩:=hx
  obtain ⟨s,rfl,h5,h6⟩:=bytesOf_ok hi h2 h4
  refine Calls.mono (c_right h5 h6) λe w' he=>?_
  cases e <;> first | exact he.elim | skip
  obtain ⟨rfl,hm⟩:=he
  exact ⟨_,rfl,by simp only [XR],hi.no hm⟩
 ·cases hr
end Go.Proofs.YtmgcoepbccgjfaaGreatDoor
end
section
namespace Go.Proofs.YtmgcoepbccgjfaaGreatDoor
open Go Go.Sh
def sh477 (key:List UInt8) (w:World) (R:Ending->World->Prop):Prop:=
 semK Tryz.prog (Instr.alloc 606 true (.tuple #[])) w λv w1=>∃ d:Option Addr,v=(.pointer d)/\onSome d λa=>((semK Tryz.prog (Instr.buildSlice 23 1 #[(0,(.int .u8 ((6:UInt8)).toNat))]) w1.drew λv1 w2=>∃ x:Slc,v1=(.slice x.a x.len x.cap)/\((semK Tryz.prog (convert 9 23 (.string ⟨key.toArray⟩)) w2 λv2 w3=>∃ x1:Slc,v2=(.slice x1.a x1.len x1.cap)/\((semK Tryz.prog (Instr.buildSlice 55 2 #[(0,(.slice x.a x.len x.cap)),(1,(.slice x1.a x1.len x1.cap))]) w3 λv3 w4=>∃ x2:Slc,v3=(.slice x2.a x2.len x2.cap)/\((callK Tryz.prog 94 [.slice x2.a x2.len x2.cap] w4 (panR R) λv4 w5=>∃ x3:Slc,v4=(.slice x3.a x3.len x3.cap)/\((semK Tryz.prog (Builtin.copy_ #[23,23] 3 #[.slice (cutSl ⟨some (a.add 0),64,64⟩ 1 0 64 64).a (cutSl ⟨some (a.add 0),64,64⟩ 1 0 64 64).len (cutSl ⟨some (a.add 0),64,64⟩ 1 0 64 64).cap,.slice x3.a x3.len x3.cap]) w5 λv5 w6=>∃ x4:Int,v5=(.int .i64 x4)/\R (.returned (.pointer d)) w6)/\True))/\True))/\True))/\True))/\(semK Tryz.prog (convert 9 23 (.string ⟨key.toArray⟩)) w1.drew λv6 w7=>∃ x5:Slc,v6=(.slice x5.a x5.len x5.cap)/\((semK Tryz.prog (Instr.buildSlice 23 1 #[(0,(.int .u8 ((6:UInt8)).toNat))]) w7 λv7 w8=>∃ x6:Slc,v7=(.slice x6.a x6.len x6.cap)/\((semK Tryz.prog (Instr.buildSlice 55 2 #[(0,(.slice x6.a x6.len x6.cap)),(1,(.slice x5.a x5.len x5.cap))]) w8 λv8 w9=>∃ x7:Slc,v8=(.slice x7.a x7.len x7.cap)/\((callK Tryz.prog 94 [.slice x7.a x7.len x7.cap] w9 (panR R) λv9 w10=>∃ x8:Slc,v9=(.slice x8.a x8.len x8.cap)/\((semK Tryz.prog (Builtin.copy_ #[23,23] 3 #[.slice (cutSl ⟨some (a.add 0),64,64⟩ 1 0 64 64).a (cutSl ⟨some (a.add 0),64,64⟩ 1 0 64 64).len (cutSl ⟨some (a.add 0),64,64⟩ 1 0 64 64).cap,.slice x8.a x8.len x8.cap]) w10 λv10 w11=>∃ x9:Int,v10=(.int .i64 x9)/\R (.returned (.pointer d)) w11)/\True))/\True))/\True))/\True))/\True)
theorem call477 (key:List UInt8) {w:World} {R:Ending->World->Prop} (hden:sh477 key w R):Calls Tryz.prog 477 #[.string ⟨key.toArray⟩] w R:=
 calls_of_form (.seq none .z (.seq none .z (.seq none (.draw 0 (.take 0 (.take 1 (.take 3 (.all [(2,(.all [(4,(.all [(5,(.all [(6,(.all [(7,.done)]))]))]))])),(4,(.all [(2,(.all [(5,(.all [(6,(.all [(7,.done)]))]))]))]))]))))) (.seq none .z .z)))) Tryz.func477 (by kernel_rfl) [.s key] (by kernel_rfl) (by kernel_rfl) hden
def sh320 (key:List UInt8) (w:World) (R:Ending->World->Prop):Prop:=
 callK Tryz.prog 477 [.string ⟨key.toArray⟩] w (panR R) λv w1=>∃ x:Option Addr,v=(.pointer x)/\onSome x λa=>((0<=(0:Int)/\(0:Int)<(64:Nat))/\∃ x1:UInt8,Rd w1 ((a.add 0).add (((0:Int)).toNat*1)) [.int .u8 x1.toNat]/\(0<=(((6:UInt64)).toNat:Int)/\R (.returned (.int .i64 (((shrU8 x1 ((((6:UInt64)).toNat:Int)).toNat)).toNat:Int))) w1))
theorem call320 (key:List UInt8) {w:World} {R:Ending->World->Prop} (hden:sh320 key w R):Calls Tryz.prog 320 #[.string ⟨key.toArray⟩] w R:=
 calls_of_form (.seq none .z (.seq none .z .z)) Tryz.func320 (by kernel_rfl) [.s key] (by kernel_rfl) (by kernel_rfl) hden
def sh517 (key:List UInt8) (w:World) (R:Ending->World->Prop):Prop:=
 semK Tryz.prog (Instr.alloc 737 true (.tuple #[])) w λv w1=>∃ out:Option Addr,v=(.pointer out)/\callK Tryz.prog 477 [.string ⟨key.toArray⟩] w1 (panR R) λv1 w2=>∃ x:Option Addr,v1=(.pointer x)/\onSome x λa=>callK Tryz.prog 627 [.pointer (some (a.add 0)),.int .i64 (2:Int)] w2 (panR R) λv2 w3=>∃ x1:Value,v2=x1/\∃ (fn:FuncId) (first cap:Array Value),x1 = .func (.func fn) first cap/\enters Tryz.prog fn=true/\∀ (rec:LoopState->Option Code->Obj) (dd ll:Nat) (w4:World),dd=w3.heap.size->ll=dd+1->w4=(w3.alloc (.deferred (some []))).alloc (rec .ready none)->(∀ x2:UInt8,∀ (w5:World) (kk:Value->World->Prop),w5.heap[ll]? = some (rec .ready none)->((w5.heap[ll]? = some (rec .ready none)/\semK Tryz.prog (Instr.buildSlice 23 1 #[(0,(.int .u8 x2.toNat))]) (w5.putObj ll (rec .busy none)) λv3 w6=>∃ x3:Slc,v3=(.slice x3.a x3.len x3.cap)/\callK Tryz.prog 628 [.pointer out,.slice x3.a x3.len x3.cap] w6 (λ_ _=>False) λv4 w7=>v4=(.tuple #[])/\(w7.heap[ll]? = some (rec .busy none)/\kk (.bool true) (w7.putObj ll (rec .ready none)))))->yieldK Tryz.prog ll [.int .u8 x2.toNat] w5 kk)->callK Tryz.prog fn (first.toList++[.func (.yield ll) #[] #[]]++cap.toList) w4 (panRK R [(mkD dd)]) λ_ w8=>(w8.heap[ll]? = some (rec .ready none)/\callK Tryz.prog 629 [.pointer out] (w8.putObj ll (rec .exhausted none)) (panRK R [(mkD dd)]) λv5 w9=>∃ x4:List UInt8,v5=(.string ⟨x4.toArray⟩)/\(w9.heap[dd]? = some (.deferred (some []))/\R (.returned (.string ⟨x4.toArray⟩)) (w9.putObj dd (.deferred none))))\/False\/False
theorem call517 (key:List UInt8) {w:World} {R:Ending->World->Prop} (hden:sh517 key w R):Calls Tryz.prog 517 #[.string ⟨key.toArray⟩] w R:=
 calls_of_form (.seq none .z (.seq none .z (.seq none (.seq none .z (.block none (.rf false [] [.u8] .z (.block none .z)))) (.seq none .z .z)))) Tryz.func517 (by kernel_rfl) [.s key] (by kernel_rfl) (by kernel_rfl) hden
def sh628 (out:Option Addr) (bits:Slc) (w:World) (R:Ending->World->Prop):Prop:=
 ∃ (inv:List TV->World->Prop) (mu:List TV->World->Nat),inv [.i .i64 (0:Int)] w/\(∀ x:Int,∀ w1:World,inv [.i .i64 x] w1->condK (decide (x<(bits.len:Int))) (((0<=x/\x<(bits.len:Nat))/\onSome bits.a λa=>∃ x1:UInt8,Rd w1 (a.add (x.toNat*1)) [.int .u8 x1.toNat]/\callK Tryz.prog 686 [.pointer out,.int .u8 (((48:UInt8)+x1)).toNat] w1 (panR R) λv w2=>∃ x2:Value,v=x2/\(inv [.i .i64 (IntKind.i64.wrap (x+(1:Int)))] w2/\mu [.i .i64 (IntKind.i64.wrap (x+(1:Int)))] w2<mu [.i .i64 x] w1))) (R (.returned (.tuple #[])) w1))
theorem call628 (out:Option Addr) (bits:Slc) {w:World} {R:Ending->World->Prop} (hden:sh628 out bits w R):Calls Tryz.prog 628 #[.pointer out,.slice bits.a bits.len bits.cap] w R:=
 calls_of_form (.seq none .z (.block none (.loop [(8,(.i .i64))] (.seq none .z (.seq none (.cond .z .z) (.seq none (.block none (.seq none .z .z)) .z)))))) Tryz.func628 (by kernel_rfl) [.p out,.sl bits] (by kernel_rfl) (by kernel_rfl) hden
def sh627 (b:Option Addr) (from0:Int) (w:World) (R:Ending->World->Prop):Prop:=
 semK Tryz.prog (Instr.box 784 (.pointer b)) w λv w1=>∃ b1:Option Addr,v=(.pointer b1)/\semK Tryz.prog (Instr.box 3 (.int .i64 from0)) w1 λv1 w2=>∃ from1:Option Addr,v1=(.pointer from1)/\R (.returned (.func (.func 685) #[] #[.pointer from1,.pointer b1])) w2
theorem call627 (b:Option Addr) (from0:Int) {w:World} {R:Ending->World->Prop} (hden:sh627 b from0 w R):Calls Tryz.prog 627 #[.pointer b,.int .i64 from0] w R:=
 calls_of_form (.seq none .z (.seq none .z .z)) Tryz.func627 (by kernel_rfl) [.p b,.i .i64 from0] (by kernel_rfl) (by kernel_rfl) hden
def sh685 (yield:Value) (c c1:Option Addr) (w:World) (R:Ending->World->Prop):Prop:=
 onSome c λa=>∃ x:Int,Rd w a [.int .i64 x]/\∃ (inv:List TV->World->Prop) (mu:List TV->World->Nat),inv [.i .i64 x] w/\(∀ i:Int,∀ w1:World,inv [.i .i64 i] w1->condK (decide (i<(512:Int))) (onSome c1 λa1=>∃ x1:Option Addr,Rd w1 a1 [.pointer x1]/\((8:Int)≠0/\onSome x1 λa2=>((0<=(IntKind.i64.wrap (Int.tdiv i (8:Int)))/\(IntKind.i64.wrap (Int.tdiv i (8:Int)))<(64:Nat))/\∃ x2:UInt8,Rd w1 (a2.add (((IntKind.i64.wrap (Int.tdiv i (8:Int)))).toNat*1)) [.int .u8 x2.toNat]/\((8:Int)≠0/\(0<=(IntKind.i64.wrap ((7:Int) - (Int.tmod i (8:Int))))/\callFV Tryz.prog yield [.int .u8 (((shrU8 x2 ((IntKind.i64.wrap ((7:Int) - (Int.tmod i (8:Int))))).toNat) &&& (1:UInt8))).toNat] w1 (panR R) λv w2=>∃ x3:Bool,v=(.bool x3)/\condK (!x3) (R (.returned (.tuple #[])) w2) ((inv [.i .i64 (IntKind.i64.wrap (i+(1:Int)))] w2/\mu [.i .i64 (IntKind.i64.wrap (i+(1:Int)))] w2<mu [.i .i64 i] w1))))))) (R (.returned (.tuple #[])) w1))
theorem call685 (yield:Value) (c c1:Option Addr) {w:World} {R:Ending->World->Prop} (hden:sh685 yield c c1 w R):Calls Tryz.prog 685 #[yield,.pointer c,.pointer c1] w R:=
 calls_of_form (.seq none .z (.block none (.loop [(4,(.i .i64))] (.seq none (.seq none .z (.cond .z .z)) (.seq none (.block none (.seq none .z (.cond .z .z))) .z))))) Tryz.func685 (by kernel_rfl) [.v yield,.p c,.p c1] (by kernel_rfl) (by kernel_rfl) hden
def sh734 (b:Option Addr) (w:World) (R:Ending->World->Prop):Prop:=
 onSome b λa=>∃ x:Option Addr,Rd w (a.add 0) [.pointer x]/\pureSem Tryz.prog (do eqGuard .eql 735 (.tmp 5) (.const (.pointer none)) (.pointer x) (.pointer none); binOp .eql 735 (.pointer x) (.pointer none)) λv=>∃ x1:Bool,v=(.bool x1)/\condK x1 (semK Tryz.prog (convert 735 843 (.pointer b)) w λv1 w1=>∃ x2:Option Addr,v1=(.pointer x2)/\∃ v2 w2,(callFunc 755 #[.pointer x2]).run Tryz.prog w1 = .ok (.value v2) w2/\∃ x3:Option Addr,v2=(.pointer x3)/\semK Tryz.prog (convert 843 735 (.pointer x3)) w2 λv3 w3=>∃ x4:Option Addr,v3=(.pointer x4)/\onSome b λa1=>semU Tryz.prog (storeVar 735 (a1.add 0) (.pointer x4)) w3 λw4=>R (.returned (.tuple #[])) w4) (onSome b λa2=>∃ x5:Option Addr,Rd w (a2.add 0) [.pointer x5]/\pureSem Tryz.prog (do eqGuard .neq 735 (.tmp 17) (.tmp 18) (.pointer x5) (.pointer b); binOp .neq 735 (.pointer x5) (.pointer b)) λv4=>∃ x6:Bool,v4=(.bool x6)/\condK x6 (False) (R (.returned (.tuple #[])) w))
theorem call734 (b:Option Addr) {w:World} {R:Ending->World->Prop} (hden:sh734 b w R):Calls Tryz.prog 734 #[.pointer b] w R:=
 calls_of_form (.seq none .z (.cond .z (.seq none .z (.cond .z .z)))) Tryz.func734 (by kernel_rfl) [.p b] (by kernel_rfl) (by kernel_rfl) hden
def sh686 (b:Option Addr) (c:UInt8) (w:World) (R:Ending->World->Prop):Prop:=
 callK Tryz.prog 734 [.pointer b] w (panR R) λv w1=>v=(.tuple #[])/\onSome b λa=>∃ x:Slc,Rd w1 (a.add 1) [.slice x.a x.len x.cap]/\semK Tryz.prog (Instr.buildSlice 23 1 #[(0,(.int .u8 c.toNat))]) w1 λv1 w2=>∃ x1:Slc,v1=(.slice x1.a x1.len x1.cap)/\semK Tryz.prog (Builtin.append_ #[23,23] 23 #[.slice x.a x.len x.cap,.slice x1.a x1.len x1.cap]) w2 λv2 w3=>∃ x2:Slc,v2=(.slice x2.a x2.len x2.cap)/\onSome b λa1=>semU Tryz.prog (storeVar 23 (a1.add 1) (.slice x2.a x2.len x2.cap)) w3 λw4=>R (.returned .nilIface) w4
theorem call686 (b:Option Addr) (c:UInt8) {w:World} {R:Ending->World->Prop} (hden:sh686 b c w R):Calls Tryz.prog 686 #[.pointer b,.int .u8 c.toNat] w R:=
 calls_of_form (.seq none .z (.seq none .z (.seq none .z (.seq none .z .z)))) Tryz.func686 (by kernel_rfl) [.p b,.u8 c] (by kernel_rfl) (by kernel_rfl) hden
def sh629 (b:Option Addr) (w:World) (R:Ending->World->Prop):Prop:=
 ∃ sx:World->Prop,sx w.drew/\onSome b λa=>onSome b λa1=>∃ x:Slc,(∀ w',sx w'->Rd w' (a.add 1) [.slice x.a x.len x.cap])/\∃ x1:Slc,(∀ w',sx w'->Rd w' (a1.add 1) [.slice x1.a x1.len x1.cap])/\((semK Tryz.prog (Builtin.unsafeSliceData_ #[23] 462 #[.slice x.a x.len x.cap]) w.drew λv w1=>∃ x2:Option Addr,v=(.pointer x2)/\(sx w1/\((semK Tryz.prog (Builtin.unsafeString_ #[462,3] 9 #[.pointer x2,.int .i64 (x1.len:Int)]) w1 λv1 w2=>∃ x3:List UInt8,v1=(.string ⟨x3.toArray⟩)/\(sx w2/\R (.returned (.string ⟨x3.toArray⟩)) w2))/\True)))/\True)
theorem call629 (b:Option Addr) {w:World} {R:Ending->World->Prop} (hden:sh629 b w R):Calls Tryz.prog 629 #[.pointer b] w R:=
 calls_of_form (.seq none .z (.seq none (.draw 1 (.take 0 (.take 1 (.take 2 (.take 5 (.take 6 (.take 7 (.take 3 (.take 8 (.take 9 (.all [(4,(.all [(10,(.take 11 .done))]))]))))))))))) .z)) Tryz.func629 (by kernel_rfl) [.p b] (by kernel_rfl) (by kernel_rfl) hden
abbrev TBuilder:TypeId:=737
theorem iBuilder : ∃ i,Tryz.prog.info? 737=some i/\i.zero=some (.agg #[.pointer none,.slice none 0 0])/\i.size=2/\i.bytes=32:=info_of (by kernel_rfl) (by kernel_rfl) (by kernel_rfl)
structure BuilderAt (w:World) (b:Nat) (s:Slc) (l:List UInt8):Prop where
 blk : ∃ p,(p=none\/p=some ⟨b,0,none⟩)/\Blk w b [.pointer p,s.val] TBuilder
 row:Row0 5 w s (bys l)
 ne:s.blk≠some b
theorem ps_neq_same {ox oy:Operand} {b:Nat} {K:Value->Prop} (hk:K (.bool false)) :
 pureSem Tryz.prog (do eqGuard .neq 735 ox oy (.pointer (some ⟨b,0,none⟩)) (.pointer (some ⟨b,0,none⟩)); binOp .neq 735 (.pointer (some ⟨b,0,none⟩)) (.pointer (some ⟨b,0,none⟩))) K:=by
 obtain ⟨i,h1,-,-,-⟩:=iBuilder
 exact ps_of (λw=>by rw [eqGuard_at_pointer]; exact Lib.run_neq_ptr_same (te:=TBuilder) w _ (by kernel_rfl) h1) hk
theorem shape_of {w:World} {b:Nat} {l:List Value} {T:TypeId} (h:Blk w b l T):w.shape? b=some (T,l.length):=by
 obtain ⟨fr,h1,_⟩:=h
 simp [World.shape?,h1]
theorem c_copyCheck {w:World} {b:Nat} {s:Slc} {l:List UInt8} (h:BuilderAt w b s l) :
 Calls Tryz.prog 734 #[.pointer (some ⟨b,0,none⟩)] w (Ret λv w'=>v = .tuple #[]/\Blk w' b [.pointer (some ⟨b,0,none⟩),s.val] TBuilder/\Mod (λx=>x=b) w w'):=by
 refine call734 _ ?_
 unfold sh734
 obtain ⟨p,hp,hb⟩:=h.blk
 obtain ⟨i,h1,h2,h3,h4⟩:=iBuilder
 have hr:Rd w ((⟨b,0,none⟩:Addr).add 0) [.pointer p]:=by rw [addl]; exact hb.rd1 rfl
 refine ⟨p,hr,ps_eql_ptr (e:=TBuilder) (by kernel_rfl) ⟨_,rfl,?_⟩⟩
 rcases hp with rfl | rfl
 ·refine condK_i (λ_=>?_) λe=>by cases e
  refine ⟨_,_,Lib.run_to_unsafe w ⟨b,0,none⟩ (t:=TBuilder) (by kernel_rfl) (by kernel_rfl) h1 (by omega) (shape_of hb) (by simp),_,rfl,?_⟩
  refine ⟨.pointer (some ⟨b,0,none⟩),w,?_,some ⟨b,0,none⟩,rfl,?_⟩
  ·rw [run_callFunc_extern Tryz.func755 (by kernel_rfl) (by kernel_rfl) (by kernel_rfl) (e:=Extern.AbiNoEscape.same) (by kernel_rfl),Lib.run_noEscape]; rfl
  ·refine ⟨_,_,Lib.run_from_unsafe w ⟨b,0,none⟩ (u:=TBuilder) (by kernel_rfl) (by kernel_rfl) h1 (shape_of hb) (by kernel_rfl),_,rfl,?_⟩
   show semU _ (storeVar _ ((⟨b,0,none⟩:Addr).add 0) _) _ _
   rw [addl]
   refine semU_store1 (b:=b) (o:=0+0) (by kernel_rfl) (by kernel_rfl) rfl hb (by simp) λw' ht hb'=>⟨rfl,hb',ht.mod⟩
 ·refine condK_i (λe=>by cases e) λ_=>⟨_,hr,ps_neq_same ⟨_,rfl,condK_i (λe=>by cases e) λ_=>⟨rfl,hb,Mod.refl _ _⟩⟩⟩
theorem BuilderAt.mod {w w':World} {b:Nat} {s:Slc} {l:List UInt8} {S:Nat->Prop} (h:BuilderAt w b s l) (hm:Mod S w w') (hb : ¬ S b) (hs : ∀ x,s.blk=some x->¬ S x):BuilderAt w' b s l:=by
 obtain ⟨p,hp,h1⟩:=h.blk
 exact ⟨⟨p,hp,h1.mod hm hb⟩,h.row.mod hm hs,h.ne⟩
theorem BuilderAt.lt {w:World} {b:Nat} {s:Slc} {l:List UInt8} (h:BuilderAt w b s l):b<w.heap.size:=by
 obtain ⟨p,hp,h1⟩:=h.blk
 exact h1.lt
theorem c_writeByte {w:World} {b:Nat} {s:Slc} {l:List UInt8} {c:UInt8} (h:BuilderAt w b s l) (hn:l.length<=2000000000) :
 Calls Tryz.prog 686 #[.pointer (some ⟨b,0,none⟩),.int .u8 c.toNat] w (Ret λv w'=>v = .nilIface/\∃ s',BuilderAt w' b s' (l++[c])/\(s'.blk=s.blk\/∃ x,s'.blk=some x/\w.heap.size<=x)/\Mod (λx=>x=b\/s.blk=some x) w w'):=by
 refine call686 _ _ ?_
 unfold sh686
 obtain ⟨i5',h51,h52,h53,h54⟩:=i5
 refine callK_ret (c_copyCheck h) ?_
 rintro v w1 ⟨rfl,hb1,hm1⟩
 have hr1:Row0 5 w1 s (bys l):=h.row.mod hm1 λx hx e=>h.ne (by rw [hx,e])
 have hbl:=hb1.lt
 have hsl:=rd_len8 hr1.own.rd
 refine ⟨rfl,s,by rw [addl]; exact hb1.rd1 rfl,?_⟩
 refine sem_lit (l:=[.int .u8 c.toNat]) [.int .u8 c.toNat] u26 h51 h52 h53 (by decide) rfl (by decide) (by decide) rfl (by simp [Value.cells]) rfl λe w2 hN hbe=>⟨⟨_,_,_⟩,rfl,?_⟩
 refine sem_append_row u26 h51 h52 h53 rfl h54 (hr1.mod hN.mod λ_ _ h=>h) (own_whole (n:=1) (k:=1) hbe rfl).rd (bys_one [c]) (by simp) (by simp only []; omega) (by simp only []; omega) λs' w3 hr' hlen hblk hm3=>⟨s',rfl,?_⟩
 have hsb : ∀ x,s.blk=some x->x≠b:=λx hx e=>h.ne (by rw [hx,e])
 have hb3:Blk w3 b [.pointer (some ⟨b,0,none⟩),s.val] TBuilder:=(hb1.no hN.mod).mod hm3 λe=>hsb b e rfl
 show semU _ (storeVar _ ((⟨b,0,none⟩:Addr).add 1) _) _ _
 rw [addl]
 have hat:=hN.at_; have hsz:=hN.size
 have hs'b:s'.blk≠some b:=by
  rcases hblk with e | e
  ·rw [e]; exact h.ne
  ·rw [e]; intro e'; cases e'; omega
 refine semU_store1 (b:=b) (o:=0+1) (l:=[.pointer (some ⟨b,0,none⟩),s.val]) (by kernel_rfl) (by kernel_rfl) rfl hb3 (by simp) λw4 ht4 hb4=>⟨rfl,s',⟨⟨_,.inr rfl,hb4⟩,?_,hs'b⟩,?_,?_⟩
 ·have:=hr'.mod ht4.mod λx hx e=>hs'b (by rw [hx,e])
  rw [bys_app]
  exact this
 ·rcases hblk with e | e
  ·exact .inl e
  ·exact .inr ⟨_,e,by have:=hm1.size; omega⟩
 ·have e1:Mod (λx=>x=b\/s.blk=some x) w w1:=hm1.mono λx _ e=>.inl e
  have e3:Mod (λx=>x=b\/s.blk=some x) w2 w3:=hm3.mono λx _ e=>.inr e
  have e4:Mod (λx=>x=b\/s.blk=some x) w3 w4:=ht4.mod.mono λx _ e=>.inl e
  exact ((e1.no' hN.mod).tr e3).tr e4
theorem freeze_tch {w:World} {b n:Nat} {l:List Value} {T:TypeId} (h:Blk w b l T):Mod (λx=>x=b) w (w.freeze ⟨b,0,none⟩ n):=by
 have hlt:=h.lt
 unfold World.freeze
 split
 ·exact Mod.refl _ _
 ·exact ⟨rfl,rfl,rfl,by simp,λx hx hne=>by
   simp only [Array.getElem?_modify]
   rw [if_neg (λe=>hne e.symm)]⟩
theorem uPB:Tryz.prog.underlying 462=some (.pointer 5):=by kernel_rfl
theorem c_string {w:World} {b:Nat} {s:Slc} {l:List UInt8} (h:BuilderAt w b s l) (hn:l.length<=2000000000) :
 Calls Tryz.prog 629 #[.pointer (some ⟨b,0,none⟩)] w (Ret λv w'=>v = .string ⟨l.toArray⟩/\Mod (λx=>s.blk=some x) w w'):=by
 refine call629 _ ?_
 unfold sh629
 obtain ⟨p,hp,hb⟩:=h.blk
 have hrd : ∀ w',Mod (λx=>s.blk=some x) w w'->Rd w' ((⟨b,0,none⟩:Addr).add 1) [s.val]:=λw' hm=>by rw [addl]; exact (hb.mod hm h.ne).rd1 rfl
 refine ⟨λw'=>Mod (λx=>s.blk=some x) w w',Mod.drew _ _,s,hrd,s,hrd,?_,trivial⟩
 have hlen:=rd_len8 h.row.own.rd
 rcases h.row with ⟨rfl,e2⟩ | ⟨g,n,c,r,rfl,hc,hg,e1,e2,e3⟩
 ·obtain rfl:l=[]:=bys_inj (b:=[]) e2
  refine ⟨_,_,Lib.run_unsafeSliceData_nil _ _ _ _ _,none,rfl,Mod.drew _ _,?_,trivial⟩
  refine ⟨_,_,Lib.run_unsafeString_none _ _ _ _ _,[],rfl,Mod.drew _ _,rfl,Mod.drew _ _⟩
 ·have hgb:Slc.blk ⟨some ⟨g,0,none⟩,n,c⟩=some g:=by rw [Slc.blk_mk,if_neg (by omega)]
  refine ⟨_,_,Lib.run_unsafeSliceData_row _ _ _ _ _ _ (show c≠0 by omega),some ⟨g,0,none⟩,rfl,Mod.drew _ _,?_,trivial⟩
  have hln:l.length=n:=hlen
  by_cases h0:l=[]
  ·subst h0
   obtain rfl:n=0:=by simpa using hln.symm
   refine ⟨_,_,Lib.run_unsafeString_none _ _ _ _ _,[],rfl,Mod.drew _ _,rfl,Mod.drew _ _⟩
  ·subst hln
   have hm:Mod (λx=>Slc.blk ⟨some ⟨g,0,none⟩,l.length,c⟩=some x) w (w.drew.freeze ⟨g,0,none⟩ l.length):=
    (Mod.drew _ w).tr ((freeze_tch hg.drew).mono λx _ e=>by rw [hgb,e])
   refine ⟨_,_,Lib.run_unsafeString_row _ 462 3 9 5 uPB (by kernel_rfl) g r.length (shape_of hg.drew) l h0 (by omega) (by omega) (λj x hj=>?_),l,rfl,hm,rfl,hm⟩
   rw [addl,Nat.zero_add,hg.drew.cell]
   have hlt:j<l.length:=(List.getElem?_eq_some_iff.1 hj).1
   have:(r.take l.length)[j]? = some (.int .u8 x.toNat):=by rw [e2]; simp [bys,hj]
   rwa [List.getElem?_take,if_pos hlt] at this
theorem c_sign {w:World} {b:Nat} {s:Slc} {l:List UInt8} {bits:Slc} {bs:List UInt8} (h:BuilderAt w b s l) (hbs:SlRd w bits 1 (bys bs)) (hbb : ∀ x,bits.blk=some x->x<w.heap.size/\x≠b/\s.blk≠some x) (hn:l.length+bs.length<=1000000000) :
 Calls Tryz.prog 628 #[.pointer (some ⟨b,0,none⟩),.slice bits.a bits.len bits.cap] w (Ret λv w'=>v = .tuple #[]/\∃ s',BuilderAt w' b s' (l++bs.map (48 + ·))/\(s'.blk=s.blk\/∃ x,s'.blk=some x/\w.heap.size<=x)/\Mod (λx=>x=b\/s.blk=some x) w w'):=by
 refine call628 _ _ ?_
 unfold sh628
 have hbl:=rd_len8 hbs
 refine ⟨λl' w'=>match l' with | [.i _ x]=>∃ (k:Nat) (s':Slc),x=k/\k<=bs.length/\BuilderAt w' b s' (l++(bs.take k).map (48 + ·))/\(s'.blk=s.blk\/∃ x,s'.blk=some x/\w.heap.size<=x)/\Mod (λx=>x=b\/s.blk=some x) w w' | _=>False,
  λl' _=>match l' with | [.i _ x]=>(bs.length - x).toNat | _=>0,⟨0,s,rfl,by omega,by simpa using h,.inl rfl,Mod.refl _ _⟩,?_⟩
 rintro x w1 ⟨k,s1,rfl,hk,hb1,hs1,hm1⟩
 refine condK_i (λhlt=>?_) λhge=>?_
 ·have hk':k<bs.length:=by simp at hlt; omega
  have hbs1:SlRd w1 bits 1 (bys bs):=hbs.mod hm1 λx hx e=>e.elim (hbb x hx).2.1 (hbb x hx).2.2
  obtain ⟨a,ea,hra⟩:=rd_u8 hbs1 hk'
  rw [ea]
  refine ⟨⟨by omega,by omega⟩,_,hra,?_⟩
  refine callK_ret (c_writeByte hb1 (by simp; omega)) ?_
  rintro v w2 ⟨rfl,s2,hb2,hs2,hm2⟩
  refine ⟨_,rfl,⟨k+1,s2,wrap_nat (by omega),by omega,?_,?_,?_⟩,?_⟩
  ·rw [take_snoc hk',List.map_append,<-List.append_assoc]; exact hb2
  ·rcases hs2 with e | ⟨y,e,hy⟩
   ·rw [e]; exact hs1
   ·exact .inr ⟨y,e,Nat.le_trans hm1.size hy⟩
  ·refine hm1.trans hm2 (λ_ _ h=>h) λx hx e=>?_
   rcases e with e | e
   ·exact .inl e
   ·rcases hs1 with h1 | ⟨y,h1,hy⟩
    ·exact .inr (by rw [<-h1]; exact e)
    ·rw [h1] at e; cases e; omega
  ·rw [wrap_nat (by omega)]; (try simp only []); omega
 ·have hk':k=bs.length:=by simp at hge; omega
  subst hk'
  rw [List.take_length] at hb1
  exact ⟨rfl,s1,hb1,hs1,hm1⟩
theorem sha_len (b:List UInt8):(sha b).length=64:=by rw [sha,shaBy_eq]; exact digest_len (st_len _)
def dg (key:List UInt8):List UInt8:=sha (6 :: key)
def bit (d:List UInt8) (i:Nat):UInt8:=shrU8 (d.getD (i / 8) 0) (7 - i % 8) &&& 1
def bitsFrom (d:List UInt8) (i n:Nat):List UInt8:=(List.range' i n).map (bit d)
theorem bitsFrom_succ (d:List UInt8) (i n:Nat):bitsFrom d i (n+1)=bitsFrom d i n++[bit d (i+n)]:=by
 simp [bitsFrom,List.range'_concat]
@[simp] theorem bitsFrom_len (d:List UInt8) (i n:Nat):(bitsFrom d i n).length=n:=by simp [bitsFrom]
def way (d:List UInt8):List UInt8:=(bitsFrom d 2 510).map (48 + ·)
def shardOf (d:List UInt8):Int:=((shrU8 (d.getD 0 0) 6).toNat:Int)
theorem step_sum {W w:World} {ss:List Slc} {pl:List (List UInt8)} {n:Nat} {ps:Array (Nat×Value)} {pan:List PanicEntry->World->Prop} {K:Slc->World->Prop}
 (hg:Glob w) (hm:Mod NoB W w)
 (hps:ps.toList=((ss.map Slc.val).zipIdx 0).map λx=>(x.2,x.1)) (hn:n=ss.length) (h0:0<n) (hs:n<=10000) (hl:ss.length=pl.length)
 (hr : ∀ i (h:i<ss.length) (h':i<pl.length),SlRd W ss[i] 1 (bys pl[i])/\∀ x,ss[i].blk=some x->x<W.heap.size) (hb:(pl.flatten).length<=900000000)
 (hK : ∀ x w',Sh.Own w' x 1 (bys (sha pl.flatten))->FB w x->Mod NoB w w'->K x w') :
 semK Tryz.prog (Instr.buildSlice 55 n ps) w λv w2=>∃ x:Slc,v=(.slice x.a x.len x.cap)/\callK Tryz.prog 94 [(.slice x.a x.len x.cap)] w2 pan λv w3=>∃ x:Slc,v=(.slice x.a x.len x.cap)/\K x w3:=by
 refine sem_rows ss hps hn h0 hs λx e w1 hN hx hbz hox=>⟨x,rfl,?_⟩
 have hat:=hN.at_; have hsz:=hN.size
 have hm1:=hm.tr hN.mod
 have hWw:=hm.size
 have hxe:=blk_of_eq hx
 refine callK_ret (c_sum (hg.no hN.mod) (parts_of (pl:=pl) (X:=λy=>y=e\/y<W.heap.size) hox.rd (λy hy=>.inl (hxe y hy)) hl λi hi hi'=>⟨(hr i hi hi').1.no hm1,λy hy=>.inr ((hr i hi hi').2 y hy)⟩)
  (λy hy=>by omega) hb (by omega)) ?_
 rintro v w2 ⟨y,rfl,ho,hf,hm2⟩
 exact ⟨y,rfl,hK y w2 ho (hf.le hN.mod.size) (hN.mod.tr hm2)⟩
theorem dg_len (key:List UInt8):(dg key).length=64:=sha_len _
theorem iDigest : ∃ i,Tryz.prog.info? 606=some i/\i.zero=some (.agg (List.replicate 64 (Value.int .u8 0)).toArray)/\i.size=64/\i.bytes=64:=info_of (by kernel_rfl) (by kernel_rfl) (by kernel_rfl)
theorem of_tail {w0 w:World} {b:Nat} {x y:Slc} {key:List UInt8} {R:Ending->World->Prop} (hg:Glob w) (hb:Blk w b (bys (List.replicate 64 0)) 606) (hbl:b=w0.heap.size)
 (hm:Mod NoB w0 w) (hx:SlRd w x 1 (bys [6])) (hxl : ∀ z,x.blk=some z->z<w.heap.size) (hy:SlRd w y 1 (bys key)) (hyl : ∀ z,y.blk=some z->z<w.heap.size) (hn:key.length<=800000000)
 (hR : ∀ w',Blk w' b (bys (dg key)) 606->Mod NoB w0 w'->R (.returned (.pointer (some ⟨b,0,none⟩))) w') :
 semK Tryz.prog (Instr.buildSlice 55 2 #[(0,(.slice x.a x.len x.cap)),(1,(.slice y.a y.len y.cap))]) w λv3 w4=>∃ x2:Slc,v3=(.slice x2.a x2.len x2.cap)/\((callK Tryz.prog 94 [(.slice x2.a x2.len x2.cap)] w4 (panR R) λv4 w5=>∃ x3:Slc,v4=(.slice x3.a x3.len x3.cap)/\
  ((semK Tryz.prog (Builtin.copy_ #[23,23] 3 #[(.slice (cutSl ⟨some ((⟨b,0,none⟩:Addr).add 0),64,64⟩ 1 0 64 64).a (cutSl ⟨some ((⟨b,0,none⟩:Addr).add 0),64,64⟩ 1 0 64 64).len (cutSl ⟨some ((⟨b,0,none⟩:Addr).add 0),64,64⟩ 1 0 64 64).cap),(.slice x3.a x3.len x3.cap)]) w5 λv5 w6=>∃ x4:Int,v5=(.int .i64 x4)/\R (.returned (.pointer (some ⟨b,0,none⟩))) w6)/\True))/\True):=by
 obtain ⟨i5',h51,h52,h53,h54⟩:=i5
 suffices hk:semK Tryz.prog (Instr.buildSlice 55 2 #[(0,(.slice x.a x.len x.cap)),(1,(.slice y.a y.len y.cap))]) w λv3 w4=>∃ x2:Slc,v3=(.slice x2.a x2.len x2.cap)/\(callK Tryz.prog 94 [(.slice x2.a x2.len x2.cap)] w4 (panR R) λv4 w5=>∃ x3:Slc,v4=(.slice x3.a x3.len x3.cap)/\(semK Tryz.prog (Builtin.copy_ #[23,23] 3 #[(.slice (cutSl ⟨some ((⟨b,0,none⟩:Addr).add 0),64,64⟩ 1 0 64 64).a (cutSl ⟨some ((⟨b,0,none⟩:Addr).add 0),64,64⟩ 1 0 64 64).len (cutSl ⟨some ((⟨b,0,none⟩:Addr).add 0),64,64⟩ 1 0 64 64).cap),(.slice x3.a x3.len x3.cap)]) w5 λv5 w6=>∃ x4:Int,v5=(.int .i64 x4)/\R (.returned (.pointer (some ⟨b,0,none⟩))) w6)) by
  obtain ⟨v,w4,h1,x2,h2,h3⟩:=hk
  refine ⟨v,w4,h1,x2,h2,callK_mono h3 λv w5 ⟨x3,h4,h5⟩=>⟨x3,h4,h5,trivial⟩,trivial⟩
 refine step_sum (W:=w) (ss:=[x,y]) (pl:=[[6],key]) hg (Mod.refl _ _) rfl rfl (by omega) (by omega) rfl (rows2 hx hxl hy hyl) (by simp; omega) ?_
 intro z w5 ho hf hm5
 simp only [List.flatten_cons,List.flatten_nil,List.append_nil,List.singleton_append] at ho
 have hzl:z.len=64:=by have:=rd_len8 ho.rd; rw [sha_len] at this; omega
 refine sem_copy (d:=cutSl ⟨some ((⟨b,0,none⟩:Addr).add 0),64,64⟩ 1 0 64 64) (b:=b) (o:=0) (l:=bys (List.replicate 64 0)) u26 h51 h53 (by simp [cutSl]) (hb.no hm5) (by simp [cutSl]) ho.rd (bys_one _) λw6 hb6 hm6 hs6=>⟨_,rfl,hR w6 ?_ ?_⟩
 ·rw [show min z.len (cutSl ⟨some ((⟨b,0,none⟩:Addr).add 0),64,64⟩ 1 0 64 64).len*1=64 by simp [cutSl,hzl]] at hb6
  have e:putAt (bys (List.replicate 64 0)) 0 ((bys (sha (6 :: key))).take 64)=bys (dg key):=by
   rw [List.take_of_length_le (by rw [bys_len,sha_len]; omega)]
   simp [putAt,dg,sha_len,bys]
  rw [e] at hb6
  exact hb6
 ·exact (hm.tr hm5).fresh hm6 λx e=>by omega
theorem c_of {w:World} {key:List UInt8} (hg:Glob w) (hn:key.length<=800000000) :
 Calls Tryz.prog 477 #[.string ⟨key.toArray⟩] w (Ret λv w'=>∃ b,v = .pointer (some ⟨b,0,none⟩)/\w.heap.size<=b/\Blk w' b (bys (dg key)) 606/\Mod NoB w w'):=by
 refine call477 _ ?_
 unfold sh477
 obtain ⟨id,hd1,hd2,hd3,hd4⟩:=iDigest
 refine sem_alloc (l:=bys (List.replicate 64 0)) hd1 hd2 (by simp [Value.cells,bys]) λb w1 hN hb=>⟨_,rfl,?_⟩
 have hat:=hN.at_; have hsz:=hN.size
 have hm1:Mod NoB w w1.drew:=hN.mod.tr (Mod.drew _ _)
 have end' : ∀ w',Blk w' b (bys (dg key)) 606->Mod NoB w w'->Ret (λv w'=>∃ b,v = .pointer (some ⟨b,0,none⟩)/\w.heap.size<=b/\Blk w' b (bys (dg key)) 606/\Mod NoB w w') (.returned (.pointer (some ⟨b,0,none⟩))) w':=
  λw' h1 h2=>⟨b,rfl,by omega,h1,h2⟩
 refine ⟨?_,?_,trivial⟩
 ·refine sem_bytes [6] (by rfl) rfl (by decide) (by decide) λx e w2 hN2 hx hbx hox=>⟨x,rfl,?_,trivial⟩
  have hxb:=blk_of_eq hx
  refine sem_strBytes uStr u26 uU8 λy w3 hoy hyl hyb hm3 hs3=>⟨y,rfl,?_,trivial⟩
  have hs2:w2.heap.size=e+1:=hN2.size
  have hm2:Mod NoB w w3:=(hm1.tr hN2.mod).tr hm3
  have:=of_tail (w0:=w) (b:=b) (x:=x) (y:=y) (key:=key) (hg.no hm2) ((hb.drew.no hN2.mod).no hm3) hat hm2 (hox.rd.no hm3) (λz hz=>by have:=hxb z hz; omega) hoy.rd (λz hz=>by rcases hyb with h | h <;> rw [h] at hz <;> cases hz; omega) hn end'
  exact this
 ·refine sem_strBytes uStr u26 uU8 λy w2 hoy hyl hyb hm2 hs2=>⟨y,rfl,?_,trivial⟩
  refine sem_bytes [6] (by rfl) rfl (by decide) (by decide) λx e w3 hN3 hx hbx hox=>⟨x,rfl,?_,trivial⟩
  have hxb:=blk_of_eq hx
  have hs3:w3.heap.size=e+1:=hN3.size
  have hm3:Mod NoB w w3:=(hm1.tr hm2).tr hN3.mod
  have:=of_tail (w0:=w) (b:=b) (x:=x) (y:=y) (key:=key) (hg.no hm3) ((hb.drew.no hm2).no hN3.mod) hat hm3 hox.rd (λz hz=>by have:=hxb z hz; omega) (hoy.rd.no hN3.mod) (λz hz=>by have:=hN3.at_; rcases hyb with h | h <;> rw [h] at hz <;> cases hz; omega) hn end'
  exact this
end Go.Proofs.YtmgcoepbccgjfaaGreatDoor
end
