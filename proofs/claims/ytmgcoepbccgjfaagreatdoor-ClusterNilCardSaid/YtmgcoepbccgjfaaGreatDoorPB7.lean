/- The forms of the translated functions,their contracts and the plain laws behind them,put together by a program. -/
import Derived.Test.YtmgcoepbccgjfaaGreatDoorPB6
import Derived.Laws.MakeOwn
set_option linter.unusedSimpArgs false
set_option linter.unusedVariables false
set_option maxRecDepth 1000000
set_option maxHeartbeats 8000000
section
namespace Go.Sh
open Go
def Blk (w:World) (b:Nat) (l:List Value) (T:TypeId):Prop:=∃ fr:Nat×Nat,w.heap[b]? = some (.cells l.toArray T fr)/\(fr.1=fr.2\/l.length<=fr.1)
theorem lt_of_get {w:World} {b:Nat} {o:Obj} (h:w.heap[b]? = some o):b<w.heap.size:=(Array.getElem?_eq_some_iff.1 h).1
theorem Blk.mk {w:World} {b:Nat} {l:List Value} {T:TypeId} (h:w.heap[b]? = some (.cells l.toArray T (0,0))):Blk w b l T:=⟨_,h,.inl rfl⟩
theorem Blk.lt {w:World} {b:Nat} {l:List Value} {T:TypeId} (h:Blk w b l T):b<w.heap.size:=lt_of_get h.choose_spec.1
theorem Blk.mod {w w':World} {b:Nat} {l:List Value} {T:TypeId} {S:Nat->Prop} (h:Blk w b l T) (hm:Mod S w w') (hb : ¬ S b):Blk w' b l T:=by
 have:=hm.block b h.lt hb
 obtain ⟨fr,h1,h2⟩:=h
 exact ⟨fr,this.trans h1,h2⟩
theorem Blk.no {w w':World} {b:Nat} {l:List Value} {T:TypeId} (h:Blk w b l T) (hm:Mod NoB w w'):Blk w' b l T:=h.mod hm λh=>h
theorem Blk.drew {w:World} {b:Nat} {l:List Value} {T:TypeId} (h:Blk w b l T):Blk w.drew b l T:=h
theorem Blk.cell {w:World} {b:Nat} {l:List Value} {T:TypeId} (h:Blk w b l T) (j:Nat):w.cell? ⟨b,j,none⟩=l[j]?:=by
 obtain ⟨fr,h1,h2⟩:=h
 have:=cell_of_row w b j _ _ _ h1
 simpa using this
theorem Blk.rd {w:World} {b:Nat} {l:List Value} {T:TypeId} (h:Blk w b l T) {o:Nat} {vs:List Value} (hv : ∀ j v,vs[j]? = some v->l[o+j]? = some v):Rd w ⟨b,o,none⟩ vs:=by
 intro j v hj
 rw [Addr.add_lit,h.cell]
 exact hv j v hj
theorem Blk.rd1 {w:World} {b:Nat} {l:List Value} {T:TypeId} (h:Blk w b l T) {o:Nat} {v:Value} (hv:l[o]? = some v):Rd w ⟨b,o,none⟩ [v]:=
 h.rd λj u hj=>by
  cases j with
  | zero=>simp at hj; subst hj; simpa using hv
  | succ j=>simp at hj
theorem Rd.mod {w w':World} {a:Addr} {vs:List Value} {S:Nat->Prop} (h:Rd w a vs) (hm:Mod S w w') (hs : ¬ S a.block):Rd w' a vs:=by
 intro j v hj
 have h0:=h j v hj
 have hb:(a.add j).block=a.block:=by unfold Addr.add; split <;> rfl
 have hlt:=World.block_lt_of_cell? w _ h0
 rw [hb] at hlt
 rw [World.cell?_of_block (w:=w) (by rw [hb]; exact hm.block _ hlt hs)]
 exact h0
theorem Rd.drew {w:World} {a:Addr} {vs:List Value} (h:Rd w a vs):Rd w.drew a vs:=h
@[simp] theorem add0 (a:Addr):a.add 0=a:=Addr.add_zero' a
@[simp] theorem addl (b o n:Nat):Addr.add ⟨b,o,none⟩ n=⟨b,o+n,none⟩:=Addr.add_lit b o n
section
variable {P:Program} {w:World} {K:Value->World->Prop}
theorem alloc_mod (w:World) (o:Obj):Mod NoB w (w.alloc o):=
 ⟨rfl,rfl,rfl,by simp,λ_ hb _=>heap_alloc_old w o hb⟩
structure New (w w':World) (b:Nat) (o:Obj):Prop where
 at_:b=w.heap.size
 size:w'.heap.size=b+1
 get:w'.heap[b]? = some o
 mod:Mod NoB w w'
theorem new_alloc (w:World) (o:Obj):New w (w.alloc o) w.heap.size o:=⟨rfl,by simp,heap_alloc_new w o,alloc_mod w o⟩
theorem new_alloc_drew (w:World) (o:Obj):New w (w.drew.alloc o) w.heap.size o:=⟨rfl,by simp,heap_alloc_new w.drew o,(Mod.drew NoB w).no (alloc_mod _ _)⟩
theorem sem_ok {s:Sem Value} {v:Value} {w':World} (h:s.run P w = .ok v w') (hk:K v w'):semK P s w K:=⟨v,w',h,hk⟩
theorem sem_new {s:Sem Value} {l:List Value} {T:TypeId} (h : ∀ w,s.run P w = .ok (.pointer (some ⟨w.heap.size,0,none⟩)) (w.alloc (.cells l.toArray T)))
 (hk : ∀ b w',New w w' b (.cells l.toArray T)->Blk w' b l T->K (.pointer (some ⟨b,0,none⟩)) w'):semK P s w K:=
 ⟨_,_,h w,hk _ _ (new_alloc w _) (Blk.mk (new_alloc w _).get)⟩
theorem sem_box {T:TypeId} {v:Value} {l:List Value} (hv:v.cells=l.toArray)
 (hk : ∀ b w',New w w' b (.cells l.toArray T)->Blk w' b l T->K (.pointer (some ⟨b,0,none⟩)) w'):semK P (Instr.box T v) w K:=
 sem_new (λw=>by simp [Instr.box,newVar,newRow,hv]) hk
theorem sem_newSlice {s:Sem Value} {l:List Value} {e:TypeId} {n c:Nat} (h : ∀ w,s.run P w = .ok (.slice (some ⟨w.heap.size,0,none⟩) n c) (w.alloc (.cells l.toArray e)))
 (hk : ∀ b w',New w w' b (.cells l.toArray e)->Blk w' b l e->K (.slice (some ⟨b,0,none⟩) n c) w'):semK P s w K:=
 ⟨_,_,h w,hk _ _ (new_alloc w _) (Blk.mk (new_alloc w _).get)⟩
theorem sem_newMap {s:Sem Value} (h : ∀ w,s.run P w = .ok (.map (some w.heap.size)) (w.alloc (.map #[] 0)))
 (hk : ∀ b w',New w w' b (.map #[] 0)->K (.map (some b)) w'):semK P s w K:=
 ⟨_,_,h w,hk _ _ (new_alloc w _)⟩
structure Upd (w w':World) (b:Nat) (o:Obj):Prop where
 get:w'.heap[b]? = some o
 size:w'.heap.size=w.heap.size
 mod:Mod (λx=>x=b) w w'
theorem upd_setRow {g:Nat} {old cs:Array Value} {T:TypeId} {fr:Nat×Nat} (hg:w.heap[g]? = some (.cells old T fr)):Upd w (w.setRow g cs) g (.cells cs T fr):=
 ⟨setRow_heap w g old cs T fr hg,by simp,⟨rfl,rfl,rfl,by simp,λb _ hn=>setRow_other w g b cs hn⟩⟩
def putAt (l:List Value) (o:Nat) (vs:List Value):List Value:=l.take o++vs++l.drop (o+vs.length)
@[simp] theorem putAt_len {l vs:List Value} {o:Nat} (h:o+vs.length<=l.length):(putAt l o vs).length=l.length:=by
 simp [putAt]; omega
structure Tch (w w':World) (b:Nat):Prop where
 size:w'.heap.size=w.heap.size
 mod:Mod (λx=>x=b) w w'
theorem store_free {g o:Nat} {t:TypeId} {fz:Nat×Nat} : ∀ (vs:List Value) (i:Nat) (cur:Array Value) (w:World),w.heap[g]? = some (.cells cur t fz)->(fz.1=fz.2\/cur.size<=fz.1)->o+i+vs.length<=cur.size->(∀ v∈vs,v.oneCell'=true)->
 (storeCells ⟨g,o,none⟩ vs i).run P w = .ok () (w.setRow g (cur.toList.take (o+i)++vs++cur.toList.drop (o+i+vs.length)).toArray)
 | [],i,cur,w,hg,_,_,_=>by
   simp only [storeCells,List.append_nil,List.length_nil,Nat.add_zero,List.take_append_drop,Array.toArray_toList]
   rw [setRow_self w g cur t fz hg]
   rfl
 | v :: rest,i,cur,w,hg,hfz,hl,h1=>by
   have hi:o+i<cur.size:=by simp at hl; omega
   have hcell:w.cell? ⟨g,o+i,none⟩=some cur[o+i]:=by simp [World.cell?,hg,hi]
   have hfro:w.frozen? ⟨g,o+i,none⟩=false:=by
    obtain ⟨lo,hi'⟩:=fz
    simp only [World.frozen?,hg,Bool.and_eq_false_iff,decide_eq_false_iff_not]
    simp only at hfz
    omega
   have hst:(store ((⟨g,o,none⟩:Addr).add i) v).run P w = .ok () (w.setRow g (cur.setIfInBounds (o+i) v)):=by
    rw [addl,run_store P w _ v _ (h1 v (by simp)),hcell]
    simp [hfro,setCell_eq_setRow w g (o+i) cur t fz v hg]
   have ih:=store_free (o:=o) (fz:=fz) rest (i+1) (cur.setIfInBounds (o+i) v) (w.setRow g (cur.setIfInBounds (o+i) v)) (setRow_heap w g cur _ t _ hg) (by simpa using hfz) (by simp at hl ⊢; omega) (λx hx=>h1 x (by simp [hx]))
   simp only [storeCells,Sem.run_bind,hst,Result.andThen_ok,ih,setRow_setRow]
   congr 3
   have e:(cur.toList.set (o+i) v).take (o+(i+1))++rest++(cur.toList.set (o+i) v).drop (o+(i+1)+rest.length)=cur.toList.take (o+i)++v :: rest++cur.toList.drop (o+i+(rest.length+1)):=by
    have hl':o+i<cur.toList.length:=by simpa using hi
    rw [List.set_eq_take_append_cons_drop,if_pos hl']
    have e1:(cur.toList.take (o+i)).length=o+i:=by rw [List.length_take]; omega
    rw [List.take_append,List.drop_append,e1]
    have e2:o+(i+1) - (o+i)=1:=by omega
    have e3:o+(i+1)+rest.length - (o+i)=rest.length+1:=by omega
    rw [e2,e3,List.take_of_length_le (l:=cur.toList.take (o+i)) (by rw [e1]; omega),show (cur.toList.take (o+i)).drop (o+(i+1)+rest.length)=[] from List.drop_eq_nil_of_le (by rw [e1]; omega)]
    simp only [List.take_succ_cons,List.take_zero,List.drop_succ_cons,List.drop_drop,List.nil_append,List.append_assoc,List.cons_append]
    congr 4
    omega
   simpa [Array.toList_setIfInBounds,Nat.add_assoc] using e
theorem store_blk {b o:Nat} {vs l:List Value} {E:TypeId} (hb:Blk w b l E) (hl:o+vs.length<=l.length) (h1 : ∀ u∈vs,u.oneCell'=true) :
 ∃ w',(storeCells ⟨b,o,none⟩ vs).run P w = .ok () w'/\Blk w' b (putAt l o vs) E/\Tch w w' b:=by
 obtain ⟨fr,g1,g2⟩:=hb
 have hst:=store_free (P:=P) (o:=o) vs 0 l.toArray w g1 (by simpa using g2) (by simpa using hl) h1
 simp only [Nat.add_zero] at hst
 have hu:=upd_setRow (cs:=(putAt l o vs).toArray) g1
 exact ⟨_,hst,⟨fr,hu.get,by rw [putAt_len hl]; exact g2⟩,hu.size,hu.mod⟩
theorem semU_store {T:TypeId} {b o:Nat} {v:Value} {vs l:List Value} {E:TypeId} {K:World->Prop} (hi:(P.info? T).isSome=true) (hsz:sizeAt P T=vs.length) (hv:v.cells=vs.toArray)
 (hb:Blk w b l E) (hl:o+vs.length<=l.length) (h1 : ∀ u∈vs,u.oneCell'=true)
 (hk : ∀ w',Tch w w' b->Blk w' b (putAt l o vs) E->K w'):semU P (storeVar T ⟨b,o,none⟩ v) w K:=by
 obtain ⟨w',hst,hb',ht⟩:=store_blk (P:=P) hb hl h1
 refine ⟨_,?_,hk _ ht hb'⟩
 unfold storeVar
 simp only [Sem.run_bind,run_sizeAt hi,Result.andThen_ok,hsz,hv,List.size_toArray,ne_eq,not_true,↓reduceIte]
 exact hst
theorem putAt1 {l:List Value} {o:Nat} {v:Value} (hl:o<l.length):putAt l o [v]=l.set o v:=by
 rw [List.set_eq_take_append_cons_drop,if_pos hl]
 simp [putAt]
theorem semU_store1 {T:TypeId} {b o:Nat} {v:Value} {l:List Value} {E:TypeId} {K:World->Prop} (hi:(P.info? T).isSome=true) (hsz:sizeAt P T=1) (h1:v.oneCell'=true)
 (hb:Blk w b l E) (hl:o<l.length)
 (hk : ∀ w',Tch w w' b->Blk w' b (l.set o v) E->K w'):semU P (storeVar T ⟨b,o,none⟩ v) w K:=by
 have hv:v.cells=[v].toArray:=by cases v <;> simp_all [Value.oneCell',Value.cells]
 refine semU_store (vs:=[v]) hi hsz hv hb (by simp; omega) (by simpa using h1) ?_
 rw [putAt1 hl]
 exact hk
end
def Slc.blk (s:Slc):Option Nat:=if s.cap=0 then none else s.a.map (·.block)
def Slc.val (s:Slc):Value:=.slice s.a s.len s.cap
theorem Slc.blk_of {s:Slc} {b o:Nat} (h:s.a=some ⟨b,o,none⟩) (hc:0<s.cap):s.blk=some b:=by simp [Slc.blk,h,show s.cap≠0 by omega]
theorem Slc.blk_of' {s:Slc} {a:Addr} (h:s.a=some a) (hc:0<s.cap):s.blk=some a.block:=by simp [Slc.blk,h,show s.cap≠0 by omega]
theorem Addr.add_add' (a:Addr) (i j:Nat):(a.add i).add j=a.add (i+j):=by
 unfold Addr.add
 by_cases hi:i=0 <;> by_cases hj:j=0 <;> simp [hi,hj,Nat.add_assoc]
@[simp] theorem Slc.blk_nil:Slc.blk ⟨none,0,0⟩=none:=rfl
@[simp] theorem Slc.blk_mk (b o n c:Nat):Slc.blk ⟨some ⟨b,o,none⟩,n,c⟩=if c=0 then none else some b:=by simp [Slc.blk]
def SlRd (w:World) (s:Slc) (k:Nat) (vs:List Value):Prop:=
 vs.length=s.len*k/\s.len<=s.cap/\(vs=[]\/∃ a,s.a=some a/\Rd w a vs)
def Own (w:World) (s:Slc) (k:Nat) (vs:List Value):Prop:=
 vs.length=s.len*k/\s.len<=s.cap/\(s.cap=0\/
  ∃ b o l T,s.a=some ⟨b,o,none⟩/\Blk w b l T/\o+s.cap*k<=l.length/\(l.drop o).take (s.len*k)=vs)
theorem own_nil (w:World) (k:Nat):Own w ⟨none,0,0⟩ k []:=⟨by simp,Nat.le_refl _,.inl rfl⟩
theorem own_zero (w:World) (a:Option Addr) (k:Nat):Own w ⟨a,0,0⟩ k []:=⟨by simp,Nat.le_refl _,.inl rfl⟩
theorem rd_nil (w:World) (k:Nat):SlRd w ⟨none,0,0⟩ k []:=⟨by simp,Nat.le_refl _,.inl rfl⟩
theorem Own.mod {w w':World} {s:Slc} {k:Nat} {vs:List Value} {S:Nat->Prop} (h:Own w s k vs) (hm:Mod S w w') (hs : ∀ b,s.blk=some b->¬ S b):Own w' s k vs:=by
 obtain ⟨h1,h2,h3⟩:=h
 refine ⟨h1,h2,?_⟩
 by_cases hc:s.cap=0
 ·exact .inl hc
 rcases h3 with h3 | ⟨b,o,l,T,e1,e2,e3,e4⟩
 ·exact .inl h3
 ·exact .inr ⟨b,o,l,T,e1,e2.mod hm (hs b (Slc.blk_of e1 (by omega))),e3,e4⟩
theorem Own.no {w w':World} {s:Slc} {k:Nat} {vs:List Value} (h:Own w s k vs) (hm:Mod NoB w w'):Own w' s k vs:=h.mod hm λ_ _ h=>h
theorem Own.lt {w:World} {s:Slc} {k:Nat} {vs:List Value} (h:Own w s k vs) {b:Nat} (hb:s.blk=some b):b<w.heap.size:=by
 unfold Slc.blk at hb
 split at hb
 ·cases hb
 ·next hc=>
  rcases h.2.2 with h3 | ⟨b',o,l,T,e1,e2,_⟩
  ·exact absurd h3 hc
  ·simp [e1] at hb; subst hb; exact e2.lt
theorem Own.rd {w:World} {s:Slc} {k:Nat} {vs:List Value} (h:Own w s k vs):SlRd w s k vs:=by
 obtain ⟨h1,h2,h3⟩:=h
 refine ⟨h1,h2,?_⟩
 rcases h3 with h3 | ⟨b,o,l,T,e1,e2,e3,e4⟩
 ·left
  have:s.len=0:=by omega
  rw [this] at h1
  exact List.eq_nil_of_length_eq_zero (by simpa using h1)
 ·right
  refine ⟨_,e1,e2.rd λj v hj=>?_⟩
  rw [<-e4,List.getElem?_take] at hj
  split at hj
  ·simpa using hj
  ·simp at hj
theorem SlRd.mod {w w':World} {s:Slc} {k:Nat} {vs:List Value} {S:Nat->Prop} (h:SlRd w s k vs) (hm:Mod S w w') (hs : ∀ b,s.blk=some b->¬ S b):SlRd w' s k vs:=by
 obtain ⟨h1,h2,h3⟩:=h
 refine ⟨h1,h2,?_⟩
 by_cases hv:vs=[]
 ·exact .inl hv
 rcases h3 with h3 | ⟨a,e1,e2⟩
 ·exact .inl h3
 ·refine .inr ⟨a,e1,e2.mod hm (hs _ (Slc.blk_of' e1 ?_))⟩
  have h4:0<vs.length:=List.length_pos_iff.2 hv
  rcases Nat.eq_zero_or_pos s.len with h | h
  ·rw [h] at h1; simp at h1; exact absurd h1 hv
  ·omega
theorem SlRd.no {w w':World} {s:Slc} {k:Nat} {vs:List Value} (h:SlRd w s k vs) (hm:Mod NoB w w'):SlRd w' s k vs:=h.mod hm λ_ _ h=>h
theorem SlRd.drew {w:World} {s:Slc} {k:Nat} {vs:List Value} (h:SlRd w s k vs):SlRd w.drew s k vs:=h
theorem SlRd.at {w:World} {s:Slc} {k:Nat} {vs:List Value} (h:SlRd w s k vs) {i:Nat} (hi:i<s.len) {us:List Value} (hk:0<k) (hu : ∀ j u,us[j]? = some u->vs[i*k+j]? = some u) :
 ∃ a,s.a=some a/\Rd w (a.add (i*k)) us:=by
 obtain ⟨h1,h2,h3⟩:=h
 rcases h3 with h3 | ⟨a,e1,e2⟩
 ·subst h3
  simp at h1
  have:s.len=0:=by
   rcases Nat.eq_zero_or_pos s.len with h | h
   ·exact h
   ·have:=Nat.mul_pos h hk; omega
  omega
 ·refine ⟨_,e1,?_⟩
  intro j u hj
  rw [Addr.add_add']
  exact e2 _ _ (hu j u hj)
theorem own_new {w:World} {b:Nat} {l:List Value} {T:TypeId} {n c k:Nat} (h:Blk w b l T) (hl:l.length=c*k) (hn:n<=c):Own w ⟨some ⟨b,0,none⟩,n,c⟩ k (l.take (n*k)):=
 ⟨by rw [List.length_take,hl]; exact Nat.min_eq_left (Nat.mul_le_mul_right k hn),hn,.inr ⟨b,0,l,T,rfl,h,by simp [hl],by simp⟩⟩
theorem own_whole {w:World} {b:Nat} {l:List Value} {T:TypeId} {n k:Nat} (h:Blk w b l T) (hl:l.length=n*k):Own w ⟨some ⟨b,0,none⟩,n,n⟩ k l:=by
 have:=own_new (n:=n) (k:=k) h hl (Nat.le_refl n)
 rwa [List.take_of_length_le (by omega)] at this
theorem Own.cut {w:World} {s:Slc} {k:Nat} {vs:List Value} (h:Own w s k vs) {l n m:Nat} (h1:l<=n) (h2:n<=s.len) (h3:n<=m) (h4:m<=s.cap):Own w (cutSl s k l n m) k ((vs.drop (l*k)).take ((n - l)*k)):=by
 obtain ⟨g1,g2,g3⟩:=h
 have hlen:((vs.drop (l*k)).take ((n - l)*k)).length=(n - l)*k:=by
  rw [List.length_take,List.length_drop,g1,<-Nat.sub_mul]
  exact Nat.min_eq_left (Nat.mul_le_mul_right k (by omega))
 refine ⟨hlen,by simp [cutSl]; omega,?_⟩
 by_cases hml:m=l
 ·exact .inl (by simp [cutSl,hml])
 rcases g3 with g3 | ⟨b,o,r,T,e1,e2,e3,e4⟩
 ·exact .inl (by simp [cutSl]; omega)
 ·right
  refine ⟨b,o+l*k,r,T,by simp [cutSl,e1,hml],e2,?_,?_⟩
  ·have:l*k+(m - l)*k<=s.cap*k:=by rw [<-Nat.add_mul]; exact Nat.mul_le_mul_right k (by omega)
   simp [cutSl]; omega
  ·rw [<-e4]
   simp only [cutSl,List.drop_take,List.drop_drop,List.take_take]
   congr 1
   have:(n - l)*k<=s.len*k - l*k:=by rw [<-Nat.sub_mul]; exact Nat.mul_le_mul_right k (by omega)
   omega
theorem SlRd.cut {w:World} {s:Slc} {k:Nat} {vs:List Value} (h:SlRd w s k vs) {l n m:Nat} (h1:l<=n) (h2:n<=s.len) (h3:n<=m) (h4:m<=s.cap):SlRd w (cutSl s k l n m) k ((vs.drop (l*k)).take ((n - l)*k)):=by
 obtain ⟨g1,g2,g3⟩:=h
 have hlen:((vs.drop (l*k)).take ((n - l)*k)).length=(n - l)*k:=by
  rw [List.length_take,List.length_drop,g1,<-Nat.sub_mul]
  exact Nat.min_eq_left (Nat.mul_le_mul_right k (by omega))
 refine ⟨hlen,by simp [cutSl]; omega,?_⟩
 rcases g3 with rfl | ⟨a,e1,e2⟩
 ·left; simp
 ·by_cases hml:m=l
  ·left
   have:n - l=0:=by omega
   simp [this]
  ·right
   refine ⟨a.add (l*k),by simp [cutSl,e1,hml],?_⟩
   intro j v hj
   rw [List.getElem?_take] at hj
   split at hj
   ·rw [List.getElem?_drop] at hj
    rw [Addr.add_add']
    exact e2 _ _ hj
   ·simp at hj
theorem blk_cut {s:Slc} {k l n m:Nat} {b:Nat} (h:(cutSl s k l n m).blk=some b) (hm:m<=s.cap):s.blk=some b:=by
 unfold Slc.blk cutSl at *
 simp only at *
 split at h
 ·cases h
 ·rw [if_neg (by omega)]
  split at h
  ·omega
  ·rw [<-h]
   cases s.a with
   | none=>rfl
   | some a=>
     simp only [Option.map_some,Option.some.injEq]
     unfold Addr.add; split <;> rfl
section
variable {P:Program} {w:World} {K:Value->World->Prop}
theorem run_firstCells {s:Slc} {k:Nat} {vs:List Value} (h:SlRd w s k vs):(Builtin.firstCells k s.len (.slice s.a s.len s.cap)).run P w = .ok vs.toArray w:=by
 obtain ⟨h1,h2,h3⟩:=h
 rcases h3 with rfl | ⟨a,e1,e2⟩
 ·simp at h1
  cases hsa:s.a with
  | none=>simp [Builtin.firstCells]
  | some a=>
    have:s.len*k=0:=by omega
    simp [Builtin.firstCells,this,loadCells,loadCellsFrom]
 ·rw [e1]
  exact run_firstCells_some (P:=P) w k s.len _ s.len s.cap vs h1 e2
theorem sem_append {t ty e:TypeId} {i:TypeInfo} {z:Value} (ht:P.underlying t=some (.slice e)) (hi:P.info? e=some i) (hz:i.zero=some z) {k:Nat} (hk:i.size=k) (hzk:z.cells.size=k) {bytes:Nat} (hby:i.bytes=bytes)
 {s x:Slc} {vs ys:List Value} (hs:Own w s k vs) (hx:SlRd w x k ys) (h1 : ∀ y∈ys,y.oneCell'=true) (hb:(s.len+x.len)*bytes<=140737488355328) (hm:s.len+x.len<=9223372036854775807)
 (hK : ∀ (s':Slc) (w':World),Own w' s' k (vs++ys)->s'.len=s.len+x.len->(s'.blk=s.blk\/s'.blk=some w.heap.size)->Mod (λb=>s.blk=some b) w w'->K (.slice s'.a s'.len s'.cap) w') :
 semK P (Builtin.append_ #[t,t] ty #[.slice s.a s.len s.cap,.slice x.a x.len x.cap]) w K:=by
 subst hk
 subst hby
 have hfx:=run_firstCells (P:=P) hx
 have hfs:=run_firstCells (P:=P) hs.rd
 have hxl:=hx.1
 have hsl:=hs.1
 have hm' : ¬ ((9223372036854775807:Int)<(s.len:Int)+x.len):=by omega
 by_cases hroom:s.len+x.len<=s.cap
 ·obtain ⟨g1,g2,g3⟩:=hs
  by_cases hc0:s.cap=0
  ·have g3:=hc0
   have hx0:x.len=0:=by omega
   have hs0:s.len=0:=by omega
   have hy0:ys=[]:=List.eq_nil_of_length_eq_zero (by rw [hxl,hx0]; simp)
   subst hy0
   refine ⟨.slice s.a (s.len+x.len) s.cap,w,?_,?_⟩
   ·cases hsa:s.a <;> simp [Builtin.append_,run_underlying ht,sizeOf,typeInfo,hi,Builtin.lenOf,hroom,hfx,storeCells]
   ·exact hK ⟨s.a,s.len+x.len,s.cap⟩ w ⟨by simp [g1,hx0],hroom,.inl g3⟩ rfl (.inl rfl) (Mod.refl _ _)
  ·obtain ⟨b,o,l,T,e1,e2,e3,e4⟩:=g3.resolve_left hc0
   have hfit:o+s.len*i.size+ys.length<=l.length:=by
    have:s.len*i.size+x.len*i.size<=s.cap*i.size:=by rw [<-Nat.add_mul]; exact Nat.mul_le_mul_right _ hroom
    omega
   obtain ⟨w',hst,hb',ht'⟩:=store_blk (P:=P) e2 hfit h1
   refine ⟨.slice s.a (s.len+x.len) s.cap,w',?_,?_⟩
   ·simp [Builtin.append_,run_underlying ht,sizeOf,typeInfo,hi,Builtin.lenOf,hroom,hfx,e1,hst]
   ·refine hK ⟨s.a,s.len+x.len,s.cap⟩ _ ⟨by simp [g1,hxl,Nat.add_mul],hroom,.inr ⟨b,o,_,T,e1,hb',?_,?_⟩⟩ rfl (.inl rfl) (ht'.mod.mono λy _ hy=>by subst hy; exact Slc.blk_of e1 (by omega))
    ·rw [putAt_len hfit]; exact e3
    ·have hlo:o+s.len*i.size<=l.length:=by omega
     simp only [putAt]
     rw [Nat.add_mul,<-hxl,List.append_assoc,List.drop_append_of_le_length (by rw [List.length_take]; omega),List.drop_take]
     have e5:(List.take (o+s.len*i.size - o) (List.drop o l))=vs:=by rw [<-e4]; congr 1; omega
     rw [e5]
     have e6:vs.length=s.len*i.size:=g1
     rw [<-List.append_assoc,List.take_append_of_le_length (by simp [e6]),List.take_of_length_le (by simp [e6])]
 ·have hcap:s.cap<s.len+x.len:=by omega
  have h48 : ¬ (281474976710656<Builtin.nextslicecap (s.len+x.len) s.cap*i.bytes):=by
   have:=growslice_fits hcap hb; omega
  have hge:=grownCap_ge w (s.len+x.len) s.cap e
  have hrun:(Builtin.append_ #[t,t] ty #[.slice s.a s.len s.cap,.slice x.a x.len x.cap]).run P w =
   .ok (.slice (some ⟨w.heap.size,0,none⟩) (s.len+x.len) (grownCap w (s.len+x.len) s.cap e)) (w.drew.alloc (.cells (vs.toArray++ys.toArray++Builtin.zeroCells z.cells (grownCap w (s.len+x.len) s.cap e - (s.len+x.len))) e)):=by
   have hfx':=run_firstCells (P:=P) (w:=w.drew) hx.drew
   have hfs':=run_firstCells (P:=P) (w:=w.drew) (hs.rd).drew
   have hn : ¬ (s.len+x.len<=s.cap):=hroom
   simp [Builtin.append_,run_underlying ht,sizeOf,typeInfo,zeroValue,hi,hz,Builtin.lenOf,hn,hm',h48,Question.forced,newRow,grownCap]
   rw [hfs']
   simp only [Result.andThen_ok]
   rw [hfx']
   simp only [Result.andThen_ok]
   congr 3
   apply Array.ext'
   simp [List.append_assoc]
  have hlv:(vs++ys++(Builtin.zeroCells z.cells (grownCap w (s.len+x.len) s.cap e - (s.len+x.len))).toList).length=grownCap w (s.len+x.len) s.cap e*i.size:=by
   simp only [List.length_append,Array.length_toList,size_zeroCells,hzk,hsl,hxl,<-Nat.add_mul]
   congr 1; omega
  have hn:=new_alloc_drew w (.cells (vs.toArray++ys.toArray++Builtin.zeroCells z.cells (grownCap w (s.len+x.len) s.cap e - (s.len+x.len))) e)
  have hblk:Blk (w.drew.alloc (.cells (vs.toArray++ys.toArray++Builtin.zeroCells z.cells (grownCap w (s.len+x.len) s.cap e - (s.len+x.len))) e)) w.heap.size (vs++ys++(Builtin.zeroCells z.cells (grownCap w (s.len+x.len) s.cap e - (s.len+x.len))).toList) e:=by
   refine Blk.mk ?_
   rw [hn.get]
   congr 2
   apply Array.ext'
   simp [List.append_assoc]
  refine ⟨_,_,hrun,hK ⟨some ⟨w.heap.size,0,none⟩,s.len+x.len,grownCap w (s.len+x.len) s.cap e⟩ _ ⟨by simp [hsl,hxl,Nat.add_mul],hge,.inr ⟨w.heap.size,0,_,e,rfl,hblk,by simp only []; omega,?_⟩⟩ rfl (.inr (Slc.blk_of rfl (by simp only []; omega))) (hn.mod.mono λ_ _ h=>h.elim)⟩
  simp only [List.drop_zero]
  rw [List.take_append_of_le_length (by simp [hsl,hxl,Nat.add_mul]),List.take_of_length_le (by simp [hsl,hxl,Nat.add_mul])]
theorem callK_of {f:FuncId} {args:List Value} {pan:List PanicEntry->World->Prop} {R:Ending->World->Prop} (h:Calls P f args.toArray w R)
 (hr : ∀ v w',R (.returned v) w'->K v w') (hp : ∀ c w',R (.panicked c) w'->pan c w') (ho : ∀ w',¬ R .outgrown w'):callK P f args w pan K:=
 Calls.mono h λe w' he=>by cases e with | returned v=>exact hr v w' he | panicked c=>exact hp c w' he | outgrown=>exact ho w' he
def Ret (Q:Value->World->Prop):Ending->World->Prop
 | .returned v,w=>Q v w
 | _,_=>False
theorem callK_ret {f:FuncId} {args:List Value} {pan:List PanicEntry->World->Prop} {Q:Value->World->Prop} (h:Calls P f args.toArray w (Ret Q))
 (hr : ∀ v w',Q v w'->K v w'):callK P f args w pan K:=callK_of h hr (λ_ _ h=>h.elim) (λ_ h=>h)
end
theorem wrap_i64 {e:Int} (h : -9223372036854775808<=e/\e<=9223372036854775807):IntKind.i64.wrap e=e:=by
 simp [IntKind.wrap,IntKind.bits,IntKind.signed]; omega
theorem Own.owned {w:World} {s:Slc} {k:Nat} {vs:List Value} (h:Own w s k vs):(s.cap=0/\s.len=0/\vs=[])\/(0<s.cap/\∃ b o l T,s.a=some ⟨b,o,none⟩/\Blk w b l T/\o+s.cap*k<=l.length/\(l.drop o).take (s.len*k)=vs):=by
 obtain ⟨h1,h2,h3⟩:=h
 by_cases hc:s.cap=0
 ·have h0:s.len=0:=by omega
  exact .inl ⟨hc,h0,List.eq_nil_of_length_eq_zero (by rw [h1,h0]; simp)⟩
 ·exact .inr ⟨by omega,h3.resolve_left hc⟩
section
variable {P:Program} {w:World} {K:Value->Prop}
theorem ps_of {s:Sem Value} {v:Value} (h : ∀ w,s.run P w = .ok v w) (hk:K v):pureSem P s K:=⟨v,h,hk⟩
theorem ps_gen {op:BinOp} {T:TypeId} {ox oy:Operand} {x y:Value} {b:Bool} (hop:op = .eql\/op = .neq) (hg:eqGuard op T ox oy x y=pure ())
 (hb : ∀ w,(Op.equal T x y).run P w = .ok b w) (h1:binOp .eql T x y=(do pure (.bool (<-Op.equal T x y)))) (h2:binOp .neq T x y=(do pure (.bool (!(<-Op.equal T x y)))))
 (hk:K (.bool (if op = .eql then b else !b))):pureSem P (do eqGuard op T ox oy x y; binOp op T x y) K:=by
 refine ps_of (λw=>?_) hk
 rw [hg]
 rcases hop with rfl | rfl
 ·rw [h1]; simp [hb]
 ·rw [h2]; simp [hb]
theorem eqIn_ptr {T:TypeId} {e:TypeId} {p:Option Addr} (d:Nat) (ht:P.underlying T=some (.pointer e)) (w:World):(Op.equalIn (d+1) T (.pointer p) (.pointer none)).run P w = .ok p.isNone w:=by
 unfold Op.equalIn
 cases p <;> simp [run_underlying ht]
theorem ps_eql_ptr {T:TypeId} {e:TypeId} {ox oy:Operand} {p:Option Addr} (ht:P.underlying T=some (.pointer e)) (hk:K (.bool p.isNone)) :
 pureSem P (do eqGuard .eql T ox oy (.pointer p) (.pointer none); binOp .eql T (.pointer p) (.pointer none)) K:=
 ps_gen (.inl rfl) (eqGuard_at_pointer ..) (λw=>eqIn_ptr 9999 ht w) rfl rfl hk
theorem ps_neq_ptr {T:TypeId} {e:TypeId} {ox oy:Operand} {p:Option Addr} (ht:P.underlying T=some (.pointer e)) (hk:K (.bool p.isSome)) :
 pureSem P (do eqGuard .neq T ox oy (.pointer p) (.pointer none); binOp .neq T (.pointer p) (.pointer none)) K:=
 ps_gen (.inr rfl) (eqGuard_at_pointer ..) (λw=>eqIn_ptr 9999 ht w) rfl rfl (by cases p <;> exact hk)
theorem eqIn_map {T:TypeId} {k e:TypeId} {p:Option Nat} (d:Nat) (ht:P.underlying T=some (.map k e)) (w:World):(Op.equalIn (d+1) T (.map p) (.map none)).run P w = .ok p.isNone w:=by
 unfold Op.equalIn
 cases p <;> simp [run_underlying ht]
theorem ps_neq_map {T:TypeId} {k e:TypeId} {ox oy:Operand} {p:Option Nat} (ht:P.underlying T=some (.map k e)) (hk:K (.bool p.isSome)) :
 pureSem P (do eqGuard .neq T ox oy (.map p) (.map none); binOp .neq T (.map p) (.map none)) K:=
 ps_gen (.inr rfl) (eqGuard_at_map ..) (λw=>eqIn_map 9999 ht w) rfl rfl (by cases p <;> exact hk)
theorem eqIn_slc {T:TypeId} {e:TypeId} {a:Option Addr} {n c:Nat} (d:Nat) (ht:P.underlying T=some (.slice e)) (w:World):(Op.equalIn (d+1) T (.slice a n c) (.slice none 0 0)).run P w = .ok a.isNone w:=by
 unfold Op.equalIn
 cases a <;> simp [run_underlying ht]
theorem ps_eql_slc {T:TypeId} {e:TypeId} {ox oy:Operand} {a:Option Addr} {n c:Nat} (ht:P.underlying T=some (.slice e)) (hk:K (.bool a.isNone)) :
 pureSem P (do eqGuard .eql T ox oy (.slice a n c) (.slice none 0 0); binOp .eql T (.slice a n c) (.slice none 0 0)) K:=
 ps_gen (.inl rfl) (eqGuard_at_slice ..) (λw=>eqIn_slc 9999 ht w) rfl rfl hk
theorem eqIn_bool {T:TypeId} {x y:Bool} (d:Nat) (ht:P.underlying T=some .bool) (w:World):(Op.equalIn (d+1) T (.bool x) (.bool y)).run P w = .ok (x==y) w:=by
 unfold Op.equalIn
 simp [run_underlying ht]
end
end Go.Sh
end
