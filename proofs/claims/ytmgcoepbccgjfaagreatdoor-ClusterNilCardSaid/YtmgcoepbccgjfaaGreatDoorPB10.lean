/- The forms of the translated functions,their contracts and the plain laws behind them,put together by a program. -/
import Derived.Test.YtmgcoepbccgjfaaGreatDoorPB9
import Derived.Lib.ConvBytes
import Derived.Laws.BytesString
set_option linter.unusedSimpArgs false
set_option linter.unusedVariables false
set_option maxRecDepth 1000000
set_option maxHeartbeats 8000000
section
namespace Go.Sh
open Go
section
variable {P:Program} {w:World} {K:Value->World->Prop}
theorem freeze_blk {b n:Nat} {l:List Value} {T:TypeId} (h:Blk w b l T) (hn:n=l.length):Blk (w.freeze ⟨b,n,none⟩ 1) b l T/\Tch w (w.freeze ⟨b,n,none⟩ 1) b:=by
 subst hn
 obtain ⟨fr,h1,h2⟩:=h
 have hlt:=lt_of_get h1
 have hg:w.heap[b] = .cells l.toArray T fr:=by
  have:=h1
  rw [Array.getElem?_eq_getElem hlt] at this
  simpa using this
 have hheap:(w.freeze ⟨b,l.length,none⟩ 1).heap=w.heap.modify b (λo=>match o with | .cells c elem (lo,hi)=>.cells c elem (if lo==hi then (l.length,l.length+1) else (min lo l.length,max hi (l.length+1))) | o=>o):=by
  unfold World.freeze
  rw [if_neg (by decide)]
  rfl
 refine ⟨⟨if fr.1==fr.2 then (l.length,l.length+1) else (min fr.1 l.length,max fr.2 (l.length+1)),?_,?_⟩,?_,?_⟩
 ·rw [hheap,Array.getElem?_modify]
  simp [hlt,hg]
 ·right
  split
  ·exact Nat.le_refl _
  ·rename_i hne
   rcases h2 with h2 | h2
   ·simp [h2] at hne
   ·simp only []; omega
 ·rw [hheap]; simp
 ·refine ⟨?_,?_,?_,by rw [hheap]; simp,λx hx hne=>?_⟩
  ·unfold World.freeze; rw [if_neg (by decide)]
  ·unfold World.freeze; rw [if_neg (by decide)]
  ·unfold World.freeze; rw [if_neg (by decide)]
  ·rw [hheap,Array.getElem?_modify]
   simp [show b≠x from λe=>hne e.symm]
theorem sem_strBytes {s d e:TypeId} {u:TypeDesc} {l:List UInt8} (hs:P.underlying s=some u) (hd:P.underlying d=some (.slice e)) (he:P.underlying e=some (.int .u8))
 (hK : ∀ (x:Slc) w',Own w' x 1 (bys l)->x.len=l.length->x.blk=some w.heap.size\/x.blk=none->Mod NoB w w'->w'.heap.size=w.heap.size+1->K (.slice x.a x.len x.cap) w') :
 semK P (convert s d (.string ⟨l.toArray⟩)) w K:=by
 have hrun:=Lib.run_convert_string_bytes (P:=P) w s d e ⟨l.toArray⟩ hs hd he
 have hsz:(ByteArray.mk l.toArray).size=l.length:=by simp [ByteArray.size]
 have hge:=grownCap_ge w l.length 0 e
 have hnew:=Lib.bytesWorld_at_new w e ⟨l.toArray⟩
 have hcells:Lib.bytesCells w e ⟨l.toArray⟩=(bys l++List.replicate (grownCap w l.length 0 e - l.length) (Value.int .u8 0)).toArray:=by
  unfold Lib.bytesCells
  rw [hsz]
  apply Array.ext'
  simp [bys]
 rw [hsz] at hrun
 have hblk:Blk (Lib.bytesWorld w e ⟨l.toArray⟩) w.heap.size (bys l++List.replicate (grownCap w l.length 0 e - l.length) (Value.int .u8 0)) e:=by
  rw [hcells] at hnew
  exact ⟨_,hnew,.inr (by simp)⟩
 refine ⟨_,_,hrun,hK ⟨some ⟨w.heap.size,0,none⟩,l.length,grownCap w l.length 0 e⟩ _ ?_ rfl ?_ ?_ (Lib.bytesWorld_size _ _ _)⟩
 ·have:=own_new (n:=l.length) (c:=grownCap w l.length 0 e) (k:=1) hblk (by simp; omega) hge
  rwa [Nat.mul_one,List.take_append_of_le_length (by simp),List.take_of_length_le (by simp)] at this
 ·rw [Slc.blk_mk]
  split
  ·exact .inr rfl
  ·exact .inl rfl
 ·refine ⟨?_,?_,?_,by rw [Lib.bytesWorld_size]; omega,λx hx _=>Lib.bytesWorld_at_old w e _ x hx⟩
  ·unfold Lib.bytesWorld World.freeze; rw [if_neg (by decide)]; rfl
  ·unfold Lib.bytesWorld World.freeze; rw [if_neg (by decide)]; rfl
  ·unfold Lib.bytesWorld World.freeze; rw [if_neg (by decide)]; rfl
theorem sem_bytesStr {s d e:TypeId} {x:Slc} {l:List UInt8} (hs:P.underlying s=some (.slice e)) (hd:P.underlying d=some .string) (he:P.underlying e=some (.int .u8)) (hx:SlRd w x 1 (bys l))
 (hK:K (.string ⟨l.toArray⟩) w):semK P (convert s d (.slice x.a x.len x.cap)) w K:=by
 refine ⟨_,_,?_,hK⟩
 have hl:l.length=x.len:=by have:=hx.1; simpa using this
 cases ha:x.a with
 | none=>
   have:l=[]:=by
    rcases hx.2.2 with h | ⟨b,e1,_⟩
    ·exact bys_inj (b:=[]) h
    ·rw [ha] at e1; cases e1
   subst this
   simp [convert,run_underlying hs,run_underlying hd,run_underlying he,Conv.bytesToString]
   rfl
 | some a=>
   have hrd:Rd w a (bys l):=by
    rcases hx.2.2 with h | ⟨b,e1,e2⟩
    ·rw [h]; intro j v hj; simp at hj
    ·rw [ha] at e1; cases e1; exact e2
   have hld:=run_loadCells_list (P:=P) w a (bys l) hrd
   rw [bys_len,hl] at hld
   have hns:bys l=(l.map λu=>(u.toNat:Int)).map (Value.int .u8):=by simp [bys]
   have h1:=run_bytesToString (P:=P) w a x.len x.cap (l.map λu=>(u.toNat:Int)) (by rw [hld,hns])
   have hf : ∀ (l:List UInt8) (r:ByteArray),((l.map λu=>(u.toNat:Int)).foldl (λr n=>r.push (UInt8.ofNat n.toNat)) r).data.toList=r.data.toList++l:=by
    intro l
    induction l with
    | nil=>intro r; simp
    | cons u l ih=>intro r; simp [ih]
   have h2:((l.map λu=>(u.toNat:Int)).foldl (λr n=>r.push (UInt8.ofNat n.toNat)) ByteArray.empty)=⟨l.toArray⟩:=by
    apply ByteArray.ext
    apply Array.ext'
    rw [hf]
    simp
   rw [h2] at h1
   simp [convert,run_underlying hs,run_underlying hd,run_underlying he,h1]
theorem sem_convLit {s e:TypeId} {b n c:Nat} {l:List Value} {T:TypeId} (hs:P.underlying s=some (.slice e)) (he:P.underlying e=some (.int .u8)) (hb:Blk w b l T)
 (hK : ∀ w',Blk w' b l T->Tch w w' b->K (.slice (some ⟨b,0,none⟩) n c) w'):semK P (convert s s (.slice (some ⟨b,0,none⟩) n c)) w K:=by
 have hsh:w.shape? b=some (T,l.length):=by
  obtain ⟨fr,h1,_⟩:=hb
  simp [World.shape?,h1]
 have hf:=freeze_blk hb rfl
 refine ⟨_,_,?_,hK _ hf.1 hf.2⟩
 simp [convert,run_underlying hs,run_underlying he,markStringish,hsh]
end
theorem Own.take {w:World} {s:Slc} {k:Nat} {vs:List Value} (h:Own w s k vs) {n:Nat} (hn:n<=s.len):Own w ⟨s.a,n,s.cap⟩ k (vs.take (n*k)):=by
 obtain ⟨h1,h2,h3⟩:=h
 have hle:n*k<=s.len*k:=Nat.mul_le_mul_right k hn
 refine ⟨by rw [List.length_take,h1]; exact Nat.min_eq_left hle,Nat.le_trans hn h2,?_⟩
 rcases h3 with h3 | ⟨b,o,l,T,e1,e2,e3,e4⟩
 ·exact .inl h3
 ·exact .inr ⟨b,o,l,T,e1,e2,e3,by rw [<-e4,List.take_take,Nat.min_eq_left hle]⟩
theorem cutSl0 {s:Slc} {n:Nat} (h:s.len<=s.cap) (hn:n<=s.cap):cutSl s 1 0 n s.cap=⟨s.a,n,s.cap⟩:=by
 unfold cutSl
 split
 ·next hc=>simp
 ·next hc=>
  congr 1
  cases s.a with
  | none=>rfl
  | some a=>simp [Addr.add]
theorem Mod.dr {S:Nat->Prop} {a b:World} (h:Mod S a b):Mod S a b.drew:=h.tr (Mod.drew _ _)
section
variable {P:Program} {w:World}
theorem set_drop_take {α:Type} (l:List α) (o i n:Nat) (v:α) (hi:i<n) (hl:o+n<=l.length):((l.set (o+i) v).drop o).take n=((l.drop o).take n).set i v:=by
 apply List.ext_getElem?
 intro j
 rw [List.getElem?_take,List.getElem?_set]
 have e1:((l.drop o).take n).length=n:=by rw [List.length_take,List.length_drop]; omega
 rw [e1]
 split
 ·next hj=>
  rw [List.getElem?_drop,List.getElem?_set]
  split
  ·next h=>
   have:i=j:=by omega
   subst this
   rw [if_pos (by omega),if_pos rfl]
  ·next h=>
   rw [if_neg (by omega),List.getElem?_take,if_pos hj,List.getElem?_drop]
 ·next hj=>
  rw [if_neg (by omega),List.getElem?_take,if_neg hj]
theorem semU_own1 {T:TypeId} {s:Slc} {vs:List Value} {a:Addr} {i:Nat} {v:Value} {K:World->Prop} (hi:(P.info? T).isSome=true) (hsz:sizeAt P T=1) (h1:v.oneCell'=true)
 (ho:Own w s 1 vs) (ha:s.a=some a) (hil:i<s.len)
 (hk : ∀ w',Own w' s 1 (vs.set i v)->Mod (λx=>s.blk=some x) w w'->w'.heap.size=w.heap.size->K w'):semU P (storeVar T (a.add (i*1)) v) w K:=by
 rcases ho.owned with ⟨h0,h0',_⟩ | ⟨hcp,b,o,l,E,e1,e2,e3,e4⟩
 ·omega
 ·rw [ha] at e1; cases e1
  have hc:=ho.2.1
  have hv:=ho.1
  rw [addl]
  refine semU_store1 (l:=l) hi hsz h1 e2 (by omega) λw' ht hb=>hk w' ?_ ?_ ht.size
  ·refine ⟨by rw [List.length_set]; exact hv,hc,.inr ⟨b,o,_,E,ha,hb,by rw [List.length_set]; exact e3,?_⟩⟩
   rw [Nat.mul_one,Nat.mul_one] at *
   rw [set_drop_take l o i s.len v hil (by omega),e4]
  ·refine ht.mod.mono λx _ hx=>?_
   subst hx
   unfold Slc.blk
   rw [if_neg (by omega),ha]; rfl
end
end Go.Sh
end
