/- The forms of the translated functions,their contracts and the plain laws behind them,put together by a program. -/
import Derived.Test.YtmgcoepbccgjfaaGreatDoorPB8
import Derived.ChangeKeysEq
set_option linter.unusedSimpArgs false
set_option linter.unusedVariables false
set_option maxRecDepth 1000000
set_option maxHeartbeats 8000000
section
namespace Go.Sh
open Go
section
variable {P:Program}
theorem run_eqItems_ints {e:TypeId} {k:IntKind} (d:Nat) (he:P.underlying e=some (.int k)) (hp:P.plainKey e=true) (l l':List Int) (w:World) : ∀ (m s:Nat),s+m=l.length->s+m=l'.length->
 (Op.eqItems (d+1) e 1 (l.map (Value.int k)).toArray (l'.map (Value.int k)).toArray (List.range' s m)).run P w = .ok (l.drop s==l'.drop s) w
 | 0,s,h1,h2=>by
   have e1:l.drop s=[]:=List.drop_eq_nil_of_le (by omega)
   have e2:l'.drop s=[]:=List.drop_eq_nil_of_le (by omega)
   simp [Op.eqItems,e1,e2]
 | m+1,s,h1,h2=>by
   have ih:=run_eqItems_ints d he hp l l' w m (s+1) (by omega) (by omega)
   have p1:=run_part_plain w hp (xs:=(l.map (Value.int k)).toArray) (off:=s*1) (v:=.int k (l[s]'(by omega))) (by simp [show s<l.length by omega])
   have p2:=run_part_plain w hp (xs:=(l'.map (Value.int k)).toArray) (off:=s*1) (v:=.int k (l'[s]'(by omega))) (by simp [show s<l'.length by omega])
   rw [List.range'_succ]
   simp only [Op.eqItems,Sem.run_bind,p1,p2,run_equalIn_int w d e k k _ _ he,Result.andThen_ok]
   have d1:l.drop s=l[s]'(by omega) :: l.drop (s+1):=List.drop_eq_getElem_cons (by omega)
   have d2:l'.drop s=l'[s]'(by omega) :: l'.drop (s+1):=List.drop_eq_getElem_cons (by omega)
   rw [d1,d2,List.cons_beq_cons]
   cases hb:l[s]'(by omega)==l'[s]'(by omega)
   ·simp
   ·simpa using ih
theorem run_equal_ints {t e:TypeId} {n:Nat} {k:IntKind} {i:TypeInfo} (d:Nat) (hu:P.underlying t=some (.array n e)) (he:P.underlying e=some (.int k)) (hp:P.plainKey e=true) (hi:P.info? e=some i) (hs:P.cellsOf e=1)
 (l l':List Int) (h1:l.length=n) (h2:l'.length=n) (w:World):(Op.equalIn (d+2) t (.agg (l.map (Value.int k)).toArray) (.agg (l'.map (Value.int k)).toArray)).run P w = .ok (l==l') w:=by
 rw [run_equalIn_array w (d+1) _ _ hu hi,hs,List.range_eq_range',run_eqItems_ints d he hp l l' w n 0 (by omega) (by omega)]
 rfl
variable {K:Value->Prop}
theorem ps_arr {op:BinOp} {t e:TypeId} {n:Nat} {k:IntKind} {i:TypeInfo} {ox oy:Operand} (hop:op = .eql\/op = .neq) (hu:P.underlying t=some (.array n e)) (he:P.underlying e=some (.int k)) (hp:P.plainKey e=true) (hi:P.info? e=some i) (hs:P.cellsOf e=1)
 (hm:P.eqGuardType P.depth t=false) {l l':List Int} (h1:l.length=n) (h2:l'.length=n) {xs ys:Array Value} (hx:xs=(l.map (Value.int k)).toArray) (hy:ys=(l'.map (Value.int k)).toArray)
 (hk:K (.bool (if op = .eql then (l==l') else !(l==l')))):pureSem P (do eqGuard op t ox oy (.agg xs) (.agg ys); binOp op t (.agg xs) (.agg ys)) K:=by
 subst hx hy
 refine ps_of (λw=>?_) hk
 have he':(Op.equal t (.agg (l.map (Value.int k)).toArray) (.agg (l'.map (Value.int k)).toArray)).run P w = .ok (l==l') w:=run_equal_ints 9998 hu he hp hi hs l l' h1 h2 w
 simp only [Sem.run_bind,run_eqGuard_agg w op t ox oy _ _ hm,Result.andThen_ok]
 rcases hop with rfl | rfl
 ·show (do pure (Value.bool (<-Op.equal t _ _)):Sem Value).run P w=_
  simp only [Sem.run_bind,he',Result.andThen_ok]
  rfl
 ·show (do pure (Value.bool (!(<-Op.equal t _ _))):Sem Value).run P w=_
  simp only [Sem.run_bind,he',Result.andThen_ok]
  rfl
end
section
variable {P:Program} {w:World} {K:Value->World->Prop}
theorem run_tinfo {T:TypeId} {i:TypeInfo} (h:P.info? T=some i) (w:World):(typeInfo T).run P w = .ok i w:=by simp [typeInfo,h]
theorem run_zero {T:TypeId} {i:TypeInfo} {z:Value} (h:P.info? T=some i) (hz:i.zero=some z) (w:World):(zeroValue T).run P w = .ok z w:=by simp [zeroValue,typeInfo,h,hz]
theorem zc1 (z:Value) (n:Nat):Builtin.zeroCells #[z] n=(List.replicate n z).toArray:=by
 apply Array.ext'
 simp only [Builtin.zeroCells,Array.toList_map,Array.toList_range,List.size_toArray,List.length_cons,List.length_nil,Nat.zero_add,Nat.mul_one]
 apply List.ext_getElem
 ·simp
 ·intro i h1 h2
  simp [Nat.mod_one]
theorem rng1 (z:Value) (n:Nat):(Array.range n).map (λi=>(#[z]:Array Value)[i % 1]!)=(List.replicate n z).toArray:=by
 have:=zc1 z n
 simpa [Builtin.zeroCells] using this
theorem sem_makeSlice {t e:TypeId} {i:TypeInfo} {z:Value} (ht:P.underlying t=some (.slice e)) (hi:P.info? e=some i) (hz:i.zero=some z) (hk:i.size=1) (hzk:z.cells = #[z]) {bytes:Nat} (hby:i.bytes=bytes)
 {kl kc:IntKind} {li ci:Int} {l c:Nat} (hl:li=l) (hc:ci=c) (hlc:l<=c) (hb:c*bytes<=281474976710656) (hc63:c<=9223372036854775807)
 (hK : ∀ b w',New w w' b (.cells (List.replicate c z).toArray e)->Blk w' b (List.replicate c z) e->Own w' ⟨some ⟨b,0,none⟩,l,c⟩ 1 (List.replicate l z)->K (.slice (some ⟨b,0,none⟩) l c) w') :
 semK P (Instr.makeSlice t (.int kl li) (.int kc ci)) w K:=by
 subst hl hc hby
 refine sem_newSlice (l:=List.replicate c z) (e:=e) (n:=l) (c:=c) (λw=>?_) (λb w' hN hb'=>hK b w' hN hb' ?_)
 ·have e1:IntKind.i64.wrap (l:Int)=l:=wrap_i64 (by omega)
  have e2:IntKind.i64.wrap (c:Int)=c:=wrap_i64 (by omega)
  have g1 : ¬ ((c:Int)<0):=by omega
  have g2 : ¬ ((281474976710656:Int)<i.bytes*(c:Int)):=by
   have:(i.bytes*(c:Int))=((c*i.bytes:Nat):Int):=by rw [Nat.mul_comm]; simp
   rw [this]; omega
  have g3 : ¬ ((l:Int)<0):=by omega
  have g4 : ¬ ((c:Int)<l):=by omega
  have g5 : ¬ (((281474976710656:Int)<i.bytes*(c:Int)\/(c:Int)<0)\/(l:Int)<0\/(c:Int)<l):=by omega
  have r1 : ∀ n:Nat,(Array.range n).map (λj=>z.cells[j % z.cells.size]!)=(List.replicate n z).toArray:=λn=>by rw [hzk]; exact rng1 z n
  have r0:(if c=0 then (#[]:Array Value) else z.cells)=if c=0 then #[] else z.cells:=rfl
  unfold Instr.makeSlice
  simp only [asInt,asIntOf,Sem.run_bind,Sem.run_pure,run_underlying ht,Result.andThen_ok,run_sizeOf hi,run_tinfo hi,hk,e1,e2,Nat.mul_one,Int.toNat_natCast,run_askRoom]
  have g6 : ¬ ((decide ((c:Int)<0) || decide ((i.bytes:Int)*(c:Int) > 2 ^ 48) || decide ((l:Int)<0) || decide ((l:Int) > (c:Int)))=true):=by
   simp only [Bool.or_eq_true,decide_eq_true_eq,gt_iff_lt]
   have:(2:Int) ^ 48=281474976710656:=by decide
   rw [this]; omega
  rw [if_neg g6]
  simp only [Sem.run_bind,Sem.run_pure,Result.andThen_ok,run_sizeOf hi,run_tinfo hi,hk,Nat.mul_one,Int.toNat_natCast,run_askRoom]
  by_cases h0:c=0
  ·subst h0
   have:(Array.map (λ(x:Nat)=>(default:Value)) (Array.range 0)) = #[]:=by apply Array.ext'; simp
   simp [newRow,this]
  ·rw [if_neg h0]
   simp only [Sem.run_bind,run_zero hi hz,Result.andThen_ok,Sem.run_pure,newRow,r1]
   simp
 ·have:=own_new (n:=l) (k:=1) hb' (by simp) hlc
  simpa [List.take_replicate,Nat.min_eq_left hlc] using this
theorem sem_lit0 {t e:TypeId} {i:TypeInfo} (ht:P.underlying t=some (.slice e)) (hi:P.info? e=some i)
 (hK : ∀ b w',New w w' b (.cells #[] e)->K (.slice (some ⟨b,0,none⟩) 0 0) w'):semK P (Instr.buildSlice t 0 #[]) w K:=
 sem_newSlice (l:=[]) (e:=e) (λw=>by
  have:(Array.map (λ(x:Nat)=>(default:Value)) (Array.range 0)) = #[]:=by apply Array.ext'; simp
  simp [Instr.buildSlice,run_underlying ht,sizeOf,typeInfo,hi,Instr.fill,newRow,this]) λb w' hN _=>hK b w' hN
theorem sem_copy {t t2 ty e:TypeId} {i:TypeInfo} (ht:P.underlying t=some (.slice e)) (hi:P.info? e=some i) {k:Nat} (hk:i.size=k)
 {d x:Slc} {b o:Nat} {l ys:List Value} {T:TypeId} (hd:d.a=some ⟨b,o,none⟩) (hb:Blk w b l T) (hfit:o+d.len*k<=l.length) (hx:SlRd w x k ys) (h1 : ∀ y∈ys,y.oneCell'=true)
 (hK : ∀ w',Blk w' b (putAt l o (ys.take (min x.len d.len*k))) T->Mod (λy=>y=b) w w'->w'.heap.size=w.heap.size->K (.int .i64 (min x.len d.len:Nat)) w') :
 semK P (Builtin.copy_ #[t,t2] ty #[.slice d.a d.len d.cap,.slice x.a x.len x.cap]) w K:=by
 subst hk
 have hxl:=hx.1
 have hfx:=run_firstCells (P:=P) (s:=⟨x.a,min x.len d.len,x.cap⟩) (w:=w) (k:=i.size) (vs:=ys.take (min x.len d.len*i.size)) (by
  refine ⟨?_,by have:=hx.2.1; simp only []; omega,?_⟩
  ·rw [List.length_take,hxl]
   exact Nat.min_eq_left (Nat.mul_le_mul_right _ (Nat.min_le_left _ _))
  ·rcases hx.2.2 with h | ⟨a',e1,e2⟩
   ·left; simp [h]
   ·exact .inr ⟨a',e1,λj v hj=>e2 j v (by rw [List.getElem?_take] at hj; split at hj <;> simp_all)⟩)
 have hlt:(ys.take (min x.len d.len*i.size)).length=min x.len d.len*i.size:=by
  rw [List.length_take,hxl]
  exact Nat.min_eq_left (Nat.mul_le_mul_right _ (Nat.min_le_left _ _))
 have hle:min x.len d.len*i.size<=d.len*i.size:=Nat.mul_le_mul_right _ (Nat.min_le_right _ _)
 obtain ⟨w',hst,hb',ht'⟩:=store_blk (P:=P) (o:=o) (vs:=ys.take (min x.len d.len*i.size)) hb (by rw [hlt]; omega) (λy hy=>h1 y (List.mem_of_mem_take hy))
 refine ⟨_,_,?_,hK _ hb' ht'.mod ht'.size⟩
 have hg : ∀ w,(Builtin.lenOf (.slice x.a x.len x.cap)).run P w = .ok x.len w:=λw=>by simp [Builtin.lenOf]
 have hfx':(Builtin.firstCells i.size (min x.len d.len) (.slice x.a x.len x.cap)).run P w = .ok (ys.take (min x.len d.len*i.size)).toArray w:=by
  rw [<-hfx]; cases x.a <;> simp [Builtin.firstCells]
 unfold Builtin.copy_
 simp only [List.getElem?_toArray,List.getElem?_cons_zero,List.getElem?_cons_succ,run_underlying ht,Sem.run_bind,Sem.run_pure,Result.andThen_ok,hg,run_sizeOf hi,goInt,show Nat.min x.len d.len=min x.len d.len from rfl,hfx',hd,hst]
end
def bys (l:List UInt8):List Value:=l.map λx=>.int .u8 x.toNat
theorem bys_one (l:List UInt8) : ∀ y∈bys l,y.oneCell'=true:=by
 intro y hy
 obtain ⟨x,_,rfl⟩:=List.mem_map.1 hy
 rfl
@[simp] theorem bys_len (l:List UInt8):(bys l).length=l.length:=by simp [bys]
theorem bys_app (a b:List UInt8):bys (a++b)=bys a++bys b:=by simp [bys]
theorem bys_inj {a b:List UInt8} (h:bys a=bys b):a=b:=by
 induction a generalizing b with
 | nil=>cases b <;> simp [bys] at h ⊢
 | cons x a ih=>
   cases b with
   | nil=>simp [bys] at h
   | cons y b=>
     simp only [bys,List.map_cons,List.cons.injEq,Value.int.injEq,true_and] at h
     have:x.toNat=y.toNat:=by omega
     rw [UInt8.toNat_inj] at this
     rw [this,ih h.2]
theorem bys_rep (n:Nat):List.replicate n (Value.int .u8 0)=bys (List.replicate n 0):=by simp [bys]
section
variable {P:Program} {w:World} {K:Value->World->Prop}
theorem sem_append_gen {A:Sem Value} {e:TypeId} {i:TypeInfo} {z:Value} (hzk:z.cells.size=i.size) {n:Nat} {s:Slc} {vs ys:List Value} (hs:Own w s i.size vs) (hxl:ys.length=n*i.size) (h1 : ∀ y∈ys,y.oneCell'=true)
 (hroomR:s.len+n<=s.cap->∀ w',(match s.a with | some a=>storeCells (a.add (s.len*i.size)) ys | none=>pure ():Sem Unit).run P w = .ok () w'->A.run P w = .ok (.slice s.a (s.len+n) s.cap) w')
 (hgrowR:s.cap<s.len+n->A.run P w = .ok (.slice (some ⟨w.heap.size,0,none⟩) (s.len+n) (grownCap w (s.len+n) s.cap e)) (w.drew.alloc (.cells (vs.toArray++ys.toArray++Builtin.zeroCells z.cells (grownCap w (s.len+n) s.cap e - (s.len+n))) e)))
 (hK : ∀ (s':Slc) (w':World),Own w' s' i.size (vs++ys)->s'.len=s.len+n->(s'.blk=s.blk\/s'.blk=some w.heap.size)->Mod (λb=>s.blk=some b) w w'->K (.slice s'.a s'.len s'.cap) w'):semK P A w K:=by
 have hsl:=hs.1
 by_cases hroom:s.len+n<=s.cap
 ·obtain ⟨g1,g2,g3⟩:=hs
  by_cases hc0:s.cap=0
  ·have g3:=hc0
   have hx0:n=0:=by omega
   have hs0:s.len=0:=by omega
   have hy0:ys=[]:=List.eq_nil_of_length_eq_zero (by rw [hxl,hx0]; simp)
   subst hy0
   refine ⟨.slice s.a (s.len+n) s.cap,w,?_,?_⟩
   ·exact hroomR hroom w (by cases hsa:s.a <;> simp [storeCells])
   ·exact hK ⟨s.a,s.len+n,s.cap⟩ w ⟨by simp [g1,hx0],hroom,.inl g3⟩ rfl (.inl rfl) (Mod.refl _ _)
  ·obtain ⟨b,o,l,T,e1,e2,e3,e4⟩:=g3.resolve_left hc0
   have hfit:o+s.len*i.size+ys.length<=l.length:=by
    have:s.len*i.size+n*i.size<=s.cap*i.size:=by rw [<-Nat.add_mul]; exact Nat.mul_le_mul_right _ hroom
    omega
   obtain ⟨w',hst,hb',ht'⟩:=store_blk (P:=P) e2 hfit h1
   refine ⟨.slice s.a (s.len+n) s.cap,w',?_,?_⟩
   ·exact hroomR hroom w' (by rw [e1]; simpa using hst)
   ·refine hK ⟨s.a,s.len+n,s.cap⟩ _ ⟨by simp [g1,hxl,Nat.add_mul],hroom,.inr ⟨b,o,_,T,e1,hb',?_,?_⟩⟩ rfl (.inl rfl) (ht'.mod.mono λy _ hy=>by subst hy; exact Slc.blk_of e1 (by omega))
    ·rw [putAt_len hfit]; exact e3
    ·have hlo:o+s.len*i.size<=l.length:=by omega
     simp only [putAt]
     rw [Nat.add_mul,<-hxl,List.append_assoc,List.drop_append_of_le_length (by rw [List.length_take]; omega),List.drop_take]
     have e5:(List.take (o+s.len*i.size - o) (List.drop o l))=vs:=by rw [<-e4]; congr 1; omega
     rw [e5]
     have e6:vs.length=s.len*i.size:=g1
     rw [<-List.append_assoc,List.take_append_of_le_length (by simp [e6]),List.take_of_length_le (by simp [e6])]
 ·have hcap:s.cap<s.len+n:=by omega
  have hge:=grownCap_ge w (s.len+n) s.cap e
  have hrun:=hgrowR hcap
  have hlv:(vs++ys++(Builtin.zeroCells z.cells (grownCap w (s.len+n) s.cap e - (s.len+n))).toList).length=grownCap w (s.len+n) s.cap e*i.size:=by
   simp only [List.length_append,Array.length_toList,size_zeroCells,hzk,hsl,hxl,<-Nat.add_mul]
   congr 1; omega
  have hna:=new_alloc_drew w (.cells (vs.toArray++ys.toArray++Builtin.zeroCells z.cells (grownCap w (s.len+n) s.cap e - (s.len+n))) e)
  have hblk:Blk (w.drew.alloc (.cells (vs.toArray++ys.toArray++Builtin.zeroCells z.cells (grownCap w (s.len+n) s.cap e - (s.len+n))) e)) w.heap.size (vs++ys++(Builtin.zeroCells z.cells (grownCap w (s.len+n) s.cap e - (s.len+n))).toList) e:=by
   refine Blk.mk ?_
   rw [hna.get]
   congr 2
   apply Array.ext'
   simp [List.append_assoc]
  refine ⟨_,_,hrun,hK ⟨some ⟨w.heap.size,0,none⟩,s.len+n,grownCap w (s.len+n) s.cap e⟩ _ ⟨by simp [hsl,hxl,Nat.add_mul],hge,.inr ⟨w.heap.size,0,_,e,rfl,hblk,by simp only []; omega,?_⟩⟩ rfl (.inr (Slc.blk_of rfl (by simp only []; omega))) (hna.mod.mono λ_ _ h=>h.elim)⟩
  simp only [List.drop_zero]
  rw [List.take_append_of_le_length (by simp [hsl,hxl,Nat.add_mul]),List.take_of_length_le (by simp [hsl,hxl,Nat.add_mul])]
theorem run_firstCells_string (w:World) (l:List UInt8) (k:Nat):(Builtin.firstCells k l.length (.string ⟨l.toArray⟩)).run P w = .ok (bys l).toArray w:=by
 have h0:(ByteArray.mk l.toArray).extract 0 l.length=ByteArray.mk l.toArray:=by
  apply ByteArray.ext
  simp
 simp [Builtin.firstCells,bys,h0]
theorem sem_append_zeros {t t2 ty e:TypeId} {k2:IntKind} {i:TypeInfo} {z:Value} (ht:P.underlying t=some (.slice e)) (ht2:P.underlying t2=some (.int k2)) (hi:P.info? e=some i) (hz:i.zero=some z) (hk:i.size=1) (hzc:z.cells = #[z]) (hz1:z.oneCell'=true) {bytes:Nat} (hby:i.bytes=bytes)
 {s:Slc} {vs:List Value} {n:Nat} {xn:Int} {kn:IntKind} (hxn:xn=n) (hs:Own w s 1 vs) (hb:(s.len+n)*bytes<=140737488355328) (hm:s.len+n<=9223372036854775807)
 (hK : ∀ (s':Slc) (w':World),Own w' s' 1 (vs++List.replicate n z)->s'.len=s.len+n->(s'.blk=s.blk\/s'.blk=some w.heap.size)->Mod (λb=>s.blk=some b) w w'->K (.slice s'.a s'.len s'.cap) w') :
 semK P (Builtin.append_ #[t,t2] ty #[.slice s.a s.len s.cap,.int kn xn]) w K:=by
 subst hby hxn
 have hw:IntKind.i64.wrap (n:Int)=n:=wrap_i64 (by omega)
 have hn0 : ¬ ((n:Int)<0):=by omega
 have hbig : ¬ ((281474976710656:Int)<(n:Int)*i.bytes):=by
  have:((n:Int)*i.bytes)=((n*i.bytes:Nat):Int):=by simp
  rw [this]
  have h2:n*i.bytes<=(s.len+n)*i.bytes:=Nat.mul_le_mul_right _ (by omega)
  omega
 have hw0:IntKind.i64.wrap 0=0:=wrap_i64 (by omega)
 refine sem_append_gen (e:=e) (i:=i) (z:=z) (n:=n) (ys:=List.replicate n z) (by rw [hzc,hk]; rfl) (by rw [hk]; exact hs) (by simp [hk]) (λy hy=>by rw [List.eq_of_mem_replicate hy]; exact hz1) (λhroom w' hst=>?_) (λhcap=>?_) (by rw [hk]; exact hK)
 ·rw [hk] at hst
  by_cases h0:n=0
  ·subst h0
   cases hsa:s.a with
   | none=>
     rw [hsa] at hst
     simp at hst
     simp [Builtin.append_,run_underlying ht,run_underlying ht2,sizeOf,typeInfo,hi,asInt,asIntOf,hw0,hroom,hk,hst,show s.len<=s.cap from hs.2.1]
   | some a=>
     rw [hsa] at hst
     simp only [Nat.mul_one,List.replicate_zero] at hst
     simp [Builtin.append_,run_underlying ht,run_underlying ht2,sizeOf,typeInfo,hi,asInt,asIntOf,hw0,hk,hst,show s.len<=s.cap from hs.2.1]
  ·cases hsa:s.a with
   | none=>
     rw [hsa] at hst
     simp at hst
     simp [Builtin.append_,run_underlying ht,run_underlying ht2,sizeOf,typeInfo,zeroValue,hi,hz,asInt,asIntOf,hw,hn0,hbig,h0,hroom,hk,hzc,zc1,hst]
   | some a=>
     rw [hsa] at hst
     simp only [Nat.mul_one] at hst
     simp [Builtin.append_,run_underlying ht,run_underlying ht2,sizeOf,typeInfo,zeroValue,hi,hz,asInt,asIntOf,hw,hn0,hbig,h0,hroom,hk,hzc,zc1,hst]
 ·have h0:n≠0:=by have:=hs.2.1; omega
  have hm' : ¬ ((9223372036854775807:Int)<(s.len:Int)+n):=by omega
  have h48 : ¬ (281474976710656<Builtin.nextslicecap (s.len+n) s.cap*i.bytes):=by
   have:=growslice_fits hcap hb; omega
  have hfs':=run_firstCells (P:=P) (w:=w.drew) (hs.rd).drew
  have hn : ¬ (s.len+n<=s.cap):=by omega
  simp [Builtin.append_,run_underlying ht,run_underlying ht2,sizeOf,typeInfo,zeroValue,hi,hz,asInt,asIntOf,hw,hn0,hbig,h0,hn,hm',h48,Question.forced,newRow,grownCap,hk,hzc,zc1]
  rw [hfs']
  simp only [Result.andThen_ok]
  rfl
end
end Go.Sh
end
