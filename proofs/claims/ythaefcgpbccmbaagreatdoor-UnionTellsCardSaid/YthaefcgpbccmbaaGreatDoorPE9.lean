/- The forms of the translated functions,their contracts and the plain laws behind them,put together by a program. -/
import Derived.Test.YthaefcgpbccmbaaGreatDoorPE8
import Derived.Lib.ConvBytes
import Derived.Laws.BytesString
set_option linter.unusedSimpArgs false
set_option linter.unusedVariables false
set_option maxRecDepth 100000
set_option maxHeartbeats 4000000
section
namespace Go.Sh
open Go
section
variable {P:Program} {w:World} {K:Value->World->Prop}
theorem oB {s d e:TypeId} {u:TypeDesc} {l:List UInt8} (hs:P.underlying s=some u) (hd:P.underlying d=some (.slice e)) (he:P.underlying e=some (.int .u8))
 (hK : ∀ (x:Slc) w',Own w' x 1 (bys l)->x.len=l.length->x.blk=some w.heap.size\/x.blk=none->Mod NoB w w'->w'.heap.size=w.heap.size+1->K (.slice x.a x.len x.cap) w') :
 aH P (convert s d (.string ⟨l.toArray⟩)) w K:=by
 have hrun:=Lib.run_convert_string_bytes (P:=P) w s d e ⟨l.toArray⟩ hs hd he
 have hsz:(ByteArray.mk l.toArray).size=l.length:=by simp [ByteArray.size]
 have hge:=grownCap_ge w l.length 0 e
 have hnew:=Lib.bytesWorld_at_new w e ⟨l.toArray⟩
 have hcells:Lib.bytesCells w e ⟨l.toArray⟩=(bys l++List.replicate (grownCap w l.length 0 e - l.length) (Value.int .u8 0)).toArray:=by
  unfold Lib.bytesCells
  rw [hsz]
  apply Array.ext'
  simp [bys]
 rw [hsz] at hrun
 have hblk:Blk (Lib.bytesWorld w e ⟨l.toArray⟩) w.heap.size (bys l++List.replicate (grownCap w l.length 0 e - l.length) (Value.int .u8 0)) e:=by
  rw [hcells] at hnew
  exact ⟨_,hnew,.inr (by simp)⟩
 refine ⟨_,_,hrun,hK ⟨some ⟨w.heap.size,0,none⟩,l.length,grownCap w l.length 0 e⟩ _ ?_ rfl ?_ ?_ (Lib.bytesWorld_size _ _ _)⟩
 ·have:=qW (n:=l.length) (c:=grownCap w l.length 0 e) (k:=1) hblk (by simp; omega) hge
  rwa [Nat.mul_one,List.take_append_of_le_length (by simp),List.take_of_length_le (by simp)] at this
 ·rw [Slc.blk_mk]
  split
  ·exact .inr rfl
  ·exact .inl rfl
 ·refine ⟨?_,?_,?_,by rw [Lib.bytesWorld_size]; omega,λx hx _=>Lib.bytesWorld_at_old w e _ x hx⟩
  ·unfold Lib.bytesWorld World.freeze; rw [if_neg (by decide)]; rfl
  ·unfold Lib.bytesWorld World.freeze; rw [if_neg (by decide)]; rfl
  ·unfold Lib.bytesWorld World.freeze; rw [if_neg (by decide)]; rfl
theorem fG {s d e:TypeId} {x:Slc} {l:List UInt8} (hs:P.underlying s=some (.slice e)) (hd:P.underlying d=some .string) (he:P.underlying e=some (.int .u8)) (hx:aK w x 1 (bys l))
 (hK:K (.string ⟨l.toArray⟩) w):aH P (convert s d (.slice x.a x.len x.cap)) w K:=by
 refine ⟨_,_,?_,hK⟩
 have hl:l.length=x.len:=by have:=hx.1; simpa using this
 cases ha:x.a with
 | none=>
   have:l=[]:=by
    rcases hx.2.2 with h | ⟨b,e1,_⟩
    ·exact vI (b:=[]) h
    ·rw [ha] at e1; cases e1
   subst this
   simp [convert,run_underlying hs,run_underlying hd,run_underlying he,Conv.bytesToString]
   rfl
 | some a=>
   have k3:Rd w a (bys l):=by
    rcases hx.2.2 with h | ⟨b,e1,e2⟩
    ·rw [h]; intro j v hj; simp at hj
    ·rw [ha] at e1; cases e1; exact e2
   have h9:=run_loadCells_list (P:=P) w a (bys l) k3
   rw [qQG,hl] at h9
   have hns:bys l=(l.map λu=>(u.toNat:Int)).map (Value.int .u8):=by simp [bys]
   have h1:=run_bytesToString (P:=P) w a x.len x.cap (l.map λu=>(u.toNat:Int)) (by rw [h9,hns])
   have hf : ∀ (l:List UInt8) (r:ByteArray),((l.map λu=>(u.toNat:Int)).foldl (λr n=>r.push (UInt8.ofNat n.toNat)) r).data.toList=r.data.toList++l:=by
    intro l
    induction l with
    | nil=>intro r; simp
    | cons u l ih=>intro r; simp [ih]
   have h2:((l.map λu=>(u.toNat:Int)).foldl (λr n=>r.push (UInt8.ofNat n.toNat)) ByteArray.empty)=⟨l.toArray⟩:=by
    apply ByteArray.ext
    apply Array.ext'
    rw [hf]
    simp
   rw [h2] at h1
   simp [convert,run_underlying hs,run_underlying hd,run_underlying he,h1]
end
section
variable {P:Program} {w:World} {K:Value->World->Prop}
theorem sC {t ty e:TypeId} {i:TypeInfo} {z:Value} (ht:P.underlying t=some (.slice e)) (hi:P.info? e=some i) (hz:i.zero=some z) {k:Nat} (hk:i.size=k) (k4:z.cells.size=k) {bytes:Nat} (k5:i.bytes=bytes)
 {s x:Slc} {vs ys:List Value} (hs:Own w s k vs) (hx:aK w x k ys) (h1 : ∀ y∈ys,y.oneCell'=true) (hb:(s.len+x.len)*bytes<=140737488355328) (hm:s.len+x.len<=9223372036854775807) (hcap:s.cap<s.len+x.len)
 (hK : ∀ (c:Nat) (w':World),Own w' ⟨some ⟨w.heap.size,0,none⟩,s.len+x.len,c⟩ k (vs++ys)->s.len+x.len<=c->Mod NoB w w'->w'.heap.size=w.heap.size+1->K (.slice (some ⟨w.heap.size,0,none⟩) (s.len+x.len) c) w') :
 aH P (Builtin.append_ #[t,t] ty #[.slice s.a s.len s.cap,.slice x.a x.len x.cap]) w K:=by
 subst hk
 subst k5
 have p9:=bJ (P:=P) hx
 have q8:=bJ (P:=P) hs.rd
 have hxl:=hx.1
 have hsl:=hs.1
 have k6 : ¬ ((9223372036854775807:Int)<(s.len:Int)+x.len):=by omega
 have hroom : ¬ s.len+x.len<=s.cap:=by omega
 have p8 : ¬ (281474976710656<Builtin.nextslicecap (s.len+x.len) s.cap*i.bytes):=by
  have:=growslice_fits hcap hb; omega
 have hge:=grownCap_ge w (s.len+x.len) s.cap e
 have hrun:(Builtin.append_ #[t,t] ty #[.slice s.a s.len s.cap,.slice x.a x.len x.cap]).run P w =
  .ok (.slice (some ⟨w.heap.size,0,none⟩) (s.len+x.len) (grownCap w (s.len+x.len) s.cap e)) (w.drew.alloc (.cells (vs.toArray++ys.toArray++Builtin.zeroCells z.cells (grownCap w (s.len+x.len) s.cap e - (s.len+x.len))) e)):=by
  have h9:=bJ (P:=P) (w:=w.drew) hx.drew
  have k3:=bJ (P:=P) (w:=w.drew) (hs.rd).drew
  have hn : ¬ (s.len+x.len<=s.cap):=hroom
  simp [Builtin.append_,run_underlying ht,sizeOf,typeInfo,zeroValue,hi,hz,Builtin.lenOf,hn,k6,p8,Question.forced,newRow,grownCap]
  rw [k3]
  simp only [Result.andThen_ok]
  rw [h9]
  simp only [Result.andThen_ok]
  congr 3
  apply Array.ext'
  simp [List.append_assoc]
 have hlv:(vs++ys++(Builtin.zeroCells z.cells (grownCap w (s.len+x.len) s.cap e - (s.len+x.len))).toList).length=grownCap w (s.len+x.len) s.cap e*i.size:=by
  simp only [List.length_append,Array.length_toList,size_zeroCells,k4,hsl,hxl,<-Nat.add_mul]
  congr 1; omega
 have hn:=fJ w (.cells (vs.toArray++ys.toArray++Builtin.zeroCells z.cells (grownCap w (s.len+x.len) s.cap e - (s.len+x.len))) e)
 have hblk:Blk (w.drew.alloc (.cells (vs.toArray++ys.toArray++Builtin.zeroCells z.cells (grownCap w (s.len+x.len) s.cap e - (s.len+x.len))) e)) w.heap.size (vs++ys++(Builtin.zeroCells z.cells (grownCap w (s.len+x.len) s.cap e - (s.len+x.len))).toList) e:=by
  refine Blk.mk ?_
  rw [hn.get]
  congr 2
  apply Array.ext'
  simp [List.append_assoc]
 refine ⟨_,_,hrun,hK (grownCap w (s.len+x.len) s.cap e) _ ⟨by simp [hsl,hxl,Nat.add_mul],hge,.inr ⟨w.heap.size,0,_,e,rfl,hblk,by simp only []; omega,?_⟩⟩ hge hn.mod hn.size⟩
 simp only [List.drop_zero]
 rw [List.take_append_of_le_length (by simp [hsl,hxl,Nat.add_mul]),List.take_of_length_le (by simp [hsl,hxl,Nat.add_mul])]
theorem pW {t ty e:TypeId} {i:TypeInfo} {z:Value} (ht:P.underlying t=some (.slice e)) (hi:P.info? e=some i) (hz:i.zero=some z) {k:Nat} (hk:i.size=k) (h9:z.cells.size=k) {bytes:Nat} (k3:i.bytes=bytes)
 {s x:Slc} {vs ys:List Value} (hs:Own w s k vs) (hx:aK w x k ys) (h1 : ∀ y∈ys,y.oneCell'=true) (hb:(s.len+x.len)*bytes<=140737488355328) (hm:s.len+x.len<=9223372036854775807)
 (hK1:s.len+x.len<=s.cap->∀ (w':World),Own w' ⟨s.a,s.len+x.len,s.cap⟩ k (vs++ys)->Mod (λb=>s.blk=some b) w w'->w'.heap.size=w.heap.size->K (.slice s.a (s.len+x.len) s.cap) w')
 (hK2:s.cap<s.len+x.len->∀ (c:Nat) (w':World),Own w' ⟨some ⟨w.heap.size,0,none⟩,s.len+x.len,c⟩ k (vs++ys)->s.len+x.len<=c->Mod NoB w w'->w'.heap.size=w.heap.size+1->K (.slice (some ⟨w.heap.size,0,none⟩) (s.len+x.len) c) w') :
 aH P (Builtin.append_ #[t,t] ty #[.slice s.a s.len s.cap,.slice x.a x.len x.cap]) w K:=by
 rcases Nat.lt_or_ge s.cap (s.len+x.len) with h | h
 ·exact sC ht hi hz hk h9 k3 hs hx h1 hb hm h (hK2 h)
 ·exact tP ht hi hk hs hx h1 h (hK1 h)
end
theorem Own.take {w:World} {s:Slc} {k:Nat} {vs:List Value} (h:Own w s k vs) {n:Nat} (hn:n<=s.len):Own w ⟨s.a,n,s.cap⟩ k (vs.take (n*k)):=by
 obtain ⟨h1,h2,h3⟩:=h
 have hle:n*k<=s.len*k:=Nat.mul_le_mul_right k hn
 refine ⟨by rw [List.length_take,h1]; exact Nat.min_eq_left hle,Nat.le_trans hn h2,?_⟩
 rcases h3 with h3 | ⟨b,o,l,T,e1,e2,e3,e4⟩
 ·exact .inl h3
 ·exact .inr ⟨b,o,l,T,e1,e2,e3,by rw [<-e4,List.take_take,Nat.min_eq_left hle]⟩
theorem aK.take {w:World} {s:Slc} {k:Nat} {vs:List Value} (h:aK w s k vs) {n:Nat} (hn:n<=s.len):aK w ⟨s.a,n,s.cap⟩ k (vs.take (n*k)):=by
 obtain ⟨h1,h2,h3⟩:=h
 have hle:n*k<=s.len*k:=Nat.mul_le_mul_right k hn
 refine ⟨by rw [List.length_take,h1]; exact Nat.min_eq_left hle,Nat.le_trans hn h2,?_⟩
 rcases h3 with h3 | ⟨a,e1,e2⟩
 ·subst h3; exact .inl (by simp)
 ·refine .inr ⟨a,e1,λj v hj=>e2 j v ?_⟩
  rw [List.getElem?_take] at hj
  split at hj
  ·exact hj
  ·cases hj
theorem lE {s:Slc} {n:Nat} (h:s.len<=s.cap) (hn:n<=s.cap):aF s 1 0 n s.cap=⟨s.a,n,s.cap⟩:=by
 unfold aF
 split
 ·next hc=>simp
 ·next hc=>
  congr 1
  cases s.a with
  | none=>rfl
  | some a=>simp [Addr.add]
theorem Mod.dr {S:Nat->Prop} {a b:World} (h:Mod S a b):Mod S a b.drew:=h.tr (Mod.drew _ _)
section
variable {P:Program} {w:World}
theorem tX {α:Type} (l:List α) (o i n:Nat) (v:α) (hi:i<n) (hl:o+n<=l.length):((l.set (o+i) v).drop o).take n=((l.drop o).take n).set i v:=by
 apply List.ext_getElem?
 intro j
 rw [List.getElem?_take,List.getElem?_set]
 have e1:((l.drop o).take n).length=n:=by rw [List.length_take,List.length_drop]; omega
 rw [e1]
 split
 ·next hj=>
  rw [List.getElem?_drop,List.getElem?_set]
  split
  ·next h=>
   have:i=j:=by omega
   subst this
   rw [if_pos (by omega),if_pos rfl]
  ·next h=>
   rw [if_neg (by omega),List.getElem?_take,if_pos hj,List.getElem?_drop]
 ·next hj=>
  rw [if_neg (by omega),List.getElem?_take,if_neg hj]
theorem iC {T:TypeId} {s:Slc} {vs:List Value} {a:Addr} {i:Nat} {v:Value} {K:World->Prop} (hi:(P.info? T).isSome=true) (hsz:bE P T=1) (h1:v.oneCell'=true)
 (ho:Own w s 1 vs) (ha:s.a=some a) (hil:i<s.len)
 (hk : ∀ w',Own w' s 1 (vs.set i v)->Mod (λx=>s.blk=some x) w w'->w'.heap.size=w.heap.size->K w'):aJ P (storeVar T (a.add (i*1)) v) w K:=by
 rcases ho.owned with ⟨h0,h9,_⟩ | ⟨k3,b,o,l,E,e1,e2,e3,e4⟩
 ·omega
 ·rw [ha] at e1; cases e1
  have hc:=ho.2.1
  have hv:=ho.1
  rw [aO]
  refine aX (l:=l) hi hsz h1 e2 (by omega) λw' ht hb=>hk w' ?_ ?_ ht.size
  ·refine ⟨by rw [List.length_set]; exact hv,hc,.inr ⟨b,o,_,E,ha,hb,by rw [List.length_set]; exact e3,?_⟩⟩
   rw [Nat.mul_one,Nat.mul_one] at *
   rw [tX l o i s.len v hil (by omega),e4]
  ·refine ht.mod.mono λx _ hx=>?_
   subst hx
   unfold Slc.blk
   rw [if_neg (by omega),ha]; rfl
end
end Go.Sh
end
