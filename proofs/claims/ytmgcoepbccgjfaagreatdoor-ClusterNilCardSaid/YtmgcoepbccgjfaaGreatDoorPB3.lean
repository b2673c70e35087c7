/- The forms of the translated functions,their contracts and the plain laws behind them,put together by a program. -/
import Derived.Test.YtmgcoepbccgjfaaGreatDoorPB2
set_option linter.unusedSimpArgs false
set_option linter.unusedVariables false
set_option maxRecDepth 1000000
set_option maxHeartbeats 8000000
section
namespace Go.Sh
open Go
theorem fits_part : ∀ (fs:List TV) (o:Nat) (ps:List Pt) (i:Nat) (y:TV),fitsAt o ps fs=true->fs[i]? = some y->
 ∃ q pre post,ps[i]? = some q/\cellsL fs=pre++y.cells++post/\o+pre.length=q.off/\y.cells.length=q.size/\y.isAgg=q.ag/\y.isBad=false
 | [],o,ps,i,y,h,hi=>by simp at hi
 | x :: xs,o,ps,i,y,h,hi=>by
   cases ps with
   | nil=>simp [fitsAt] at h
   | cons q r=>
     simp only [fitsAt,Bool.and_eq_true,beq_iff_eq,Nat.beq_eq] at h
     obtain ⟨⟨⟨⟨h1,h2⟩,h3⟩,h4⟩,h5⟩:=h
     cases i with
     | zero=>
       simp at hi; subst hi
       exact ⟨q,[],cellsL xs,rfl,by simp [cellsL],by simp [h1],h2.symm,h3,by simpa using h4⟩
     | succ i=>
       simp at hi
       obtain ⟨q',pre,post,e1,e2,e3,e4,e5,e6⟩:=fits_part xs (o+q.size) r i y h5 hi
       refine ⟨q',x.cells++pre,post,by simpa using e1,by simp [cellsL,e2],?_,e4,e5,e6⟩
       simp only [List.length_append]; omega
theorem cells_single {y:TV} (h1:y.isAgg=false) (h2:y.isBad=false):y.cells=[y.enc]:=by
 cases y <;> simp_all [TV.isAgg,TV.isBad,TV.cells,TV.enc]
theorem enc_agg {y:TV} (h1:y.isAgg=true):y.enc = .agg y.cells.toArray:=by
 cases y <;> simp_all [TV.isAgg,TV.cells,TV.enc]
section
variable {P:Program}
theorem run_sizeOf {T:TypeId} {i:TypeInfo} (h:P.info? T=some i) (w:World):(sizeOf T).run P w = .ok i.size w:=by
 simp [sizeOf,typeInfo,h]
theorem sizeAt_of {T:TypeId} {i:TypeInfo} (h:P.info? T=some i):sizeAt P T=i.size:=by simp [sizeAt,h]
theorem info_some {T:TypeId} (h:(P.info? T).isSome=true):P.info? T=some ((P.info? T).get h):=by simp
theorem run_sizeAt {T:TypeId} (h:(P.info? T).isSome=true) (w:World):(sizeOf T).run P w = .ok (sizeAt P T) w:=by
 rw [run_sizeOf (info_some h),sizeAt_of (info_some h)]
theorem run_isAgg {T:TypeId} {d:TypeDesc} (h:P.underlying T=some d) (w:World):(isAgg T).run P w = .ok (isAggT P T) w:=by
 unfold isAggT
 cases d <;> simp [isAgg,run_underlying h,h]
theorem run_part {T:TypeId} {d:TypeDesc} (hu:P.underlying T=some d) (hi:(P.info? T).isSome=true) {y:TV} {pre post:List Value} (hb:y.isBad=false)
 (hag:y.isAgg=isAggT P T) (hs:y.cells.length=sizeAt P T) (w:World) :
 (part T (pre++y.cells++post).toArray pre.length).run P w = .ok y.enc w:=by
 unfold part
 simp only [Sem.run_bind,run_isAgg hu,Result.andThen_ok]
 cases hA:isAggT P T with
 | true=>
   rw [hA] at hag
   simp only [↓reduceIte,Sem.run_bind,run_sizeAt hi,Result.andThen_ok,Sem.run_pure]
   rw [enc_agg hag]
   congr 2
   apply Array.ext'
   simp [<-hs]
 | false=>
   rw [hA] at hag
   rw [cells_single hag hb]
   simp
end
theorem optNum_run {env:Env} {x:Option Operand} {n:Option Int} (h:optNum env x=some n) :
 (x=none/\n=none)\/∃ o c,x=some o/\n=some c/\(ev env o).num=some c:=by
 unfold optNum at h
 split at h
 ·exact .inl ⟨rfl,by simpa using h.symm⟩
 ·rename_i o
  split at h
  ·rename_i c hc
   exact .inr ⟨o,c,rfl,by simpa using h.symm,hc⟩
  ·simp at h
theorem bounds_run {P:Program} {isS:Bool} {len cap:Nat} {lo hi mx:Option Int} {kl kh km:IntKind} {K:Nat->Nat->Nat->Prop} (h:boundK len cap lo hi mx K) :
 ∃ l h' m,(∀ w,(Instr.sliceBounds isS len cap (lo.map (Value.int kl)) (hi.map (Value.int kh)) (mx.map (Value.int km))).run P w = .ok (l,h',m) w)/\K l h' m:=by
 cases mx with
 | none=>
   cases hi with
   | none=>
     cases lo with
     | none=>exact ⟨_,_,_,λw=>by simp [Instr.sliceBounds],h⟩
     | some l=>
       obtain ⟨⟨h1,h2⟩,h⟩:=h
       exact ⟨_,_,_,λw=>by simp [Instr.sliceBounds,Instr.sliceBound,asIntOf,h1,h2],h⟩
   | some hh=>
     cases lo with
     | none=>
       obtain ⟨⟨h1,h2⟩,h⟩:=h
       exact ⟨_,_,_,λw=>by simp [Instr.sliceBounds,Instr.sliceBound,asIntOf,h1,h2],h⟩
     | some l=>
       obtain ⟨⟨h1,h2,h3⟩,h⟩:=h
       have e1:0<=hh:=by omega
       have e2:l<=max hh 0:=by omega
       exact ⟨_,_,_,λw=>by simp [Instr.sliceBounds,Instr.sliceBound,asIntOf,h1,e2,h3,e1],h⟩
 | some m=>
   cases hi with
   | none=>exact h.elim
   | some hh=>
     cases lo with
     | none=>
       obtain ⟨⟨h1,h2,h3⟩,h⟩:=h
       have e1:0<=m:=by omega
       have e2:hh<=max m 0:=by omega
       exact ⟨_,_,_,λw=>by simp [Instr.sliceBounds,Instr.sliceBound,asIntOf,h1,e2,h3,e1],h⟩
     | some l=>
       obtain ⟨⟨h1,h2,h3,h4⟩,h⟩:=h
       have e1:0<=m:=by omega
       have e0:0<=hh:=by omega
       have e2:hh<=max m 0:=by omega
       have e3:l<=max hh 0:=by omega
       exact ⟨_,_,_,λw=>by simp [Instr.sliceBounds,Instr.sliceBound,asIntOf,h1,e2,e3,h4,e1,e0],h⟩
theorem splice_fold (cs:List Value) : ∀ (i:Nat) (pre old post:List Value) (k:Nat),old.length=cs.length->k+i=pre.length->
 (cs.zipIdx i).foldl (λa (cj:Value×Nat)=>a.setIfInBounds (k+cj.2) cj.1) (pre++old++post).toArray=(pre++cs++post).toArray:=by
 induction cs with
 | nil=>intro i pre old post k h _; have:old=[]:=List.eq_nil_of_length_eq_zero (by simpa using h); subst this; rfl
 | cons c cs ih=>
   intro i pre old post k h hk
   cases old with
   | nil=>simp at h
   | cons o old=>
     simp only [List.zipIdx_cons,List.foldl_cons]
     have e:((pre++o :: old++post).toArray).setIfInBounds (k+i) c=((pre++[c])++old++post).toArray:=by
      rw [hk]
      apply Array.ext'
      simp
     rw [e,ih (i+1) (pre++[c]) old post k (by simpa using h) (by simp; omega)]
     simp
theorem cellsL_set : ∀ (fs:List TV) (i:Nat) (x y:TV) (pre post:List Value),fs[i]? = some y->cellsL fs=pre++y.cells++post->pre.length=(cellsL (fs.take i)).length->
 cellsL (fs.set i x)=pre++x.cells++post
 | [],i,x,y,pre,post,h,_,_=>by simp at h
 | z :: zs,0,x,y,pre,post,h,he,hl=>by
   simp at h; subst h
   simp [cellsL] at hl
   subst hl
   simp [cellsL] at he ⊢
   exact he
 | z :: zs,i+1,x,y,pre,post,h,he,hl=>by
   simp at h
   simp only [List.take_succ_cons,cellsL,List.length_append] at hl
   simp only [cellsL,List.set_cons_succ] at he ⊢
   have hz:pre.take z.cells.length=z.cells:=by
    have:=congrArg (List.take z.cells.length) he
    simp [List.take_append_of_le_length,show z.cells.length<=pre.length by omega] at this
    exact this.symm
   obtain ⟨p2,rfl⟩ : ∃ p2,pre=z.cells++p2:=⟨pre.drop z.cells.length,(List.take_append_drop z.cells.length pre).symm.trans (by rw [hz])⟩
   simp only [List.append_assoc,List.append_cancel_left_eq] at he ⊢
   have:=cellsL_set zs i x y p2 post h (by simpa using he) (by simp at hl; omega)
   simpa using this
theorem fits_take : ∀ (fs:List TV) (o:Nat) (ps:List Pt) (i:Nat) (q:Pt),fitsAt o ps fs=true->ps[i]? = some q->q.off=o+(cellsL (fs.take i)).length
 | [],o,ps,i,q,h,hi=>by cases ps <;> simp_all [fitsAt]
 | x :: xs,o,ps,i,q,h,hi=>by
   cases ps with
   | nil=>simp at hi
   | cons p r=>
     simp only [fitsAt,Bool.and_eq_true,beq_iff_eq,Nat.beq_eq] at h
     obtain ⟨⟨⟨⟨h1,h2⟩,h3⟩,h4⟩,h5⟩:=h
     cases i with
     | zero=>simp at hi; subst hi; simp [cellsL,h1]
     | succ i=>
       simp at hi
       have:=fits_take xs (o+p.size) r i q h5 hi
       simp only [List.take_succ_cons,cellsL,List.length_append]; omega
theorem cells_of {x:TV} (hb:x.isBad=false) (hs : ∀ v,x = .v v->v.oneCell'=true):x.enc.cells=x.cells.toArray:=by
 cases x with
 | v y=>
   have:=hs y rfl
   cases y <;> simp_all [Value.oneCell',TV.enc,TV.cells,Value.cells]
 | bad=>simp [TV.isBad] at hb
 | _=>simp [TV.enc,TV.cells,Value.cells]
theorem solid_out : ∀ (ts:List TV) (K:Prop),solidK ts K->(∀ t∈ts,∀ v,t = .v v->v.oneCell'=true)/\K
 | [],K,h=>⟨by simp,h⟩
 | t :: r,K,h=>by
   cases t with
   | v y=>
     obtain ⟨h1,h2⟩:=h
     obtain ⟨h3,h4⟩:=solid_out r K h2
     refine ⟨λt ht v hv=>?_,h4⟩
     cases ht with
     | head=>cases hv; exact h1
     | tail _ ht=>exact h3 t ht v hv
   | _=>
     obtain ⟨h3,h4⟩:=solid_out r K h
     refine ⟨λt ht v hv=>?_,h4⟩
     cases ht with
     | head=>cases hv
     | tail _ ht=>exact h3 t ht v hv
theorem fill_parts {N:Nat} {env:Env} {a:Act} (hsim:Sim N env a.tmps) {ps:List Pt} {place:Nat->Option (Nat×Nat)} (hp : ∀ i q,ps[i]? = some q->place i=some (q.off,q.size)) :
 ∀ (parts:List (Nat×Operand)) (fs out:List TV),fitsAt 0 ps fs=true->setParts ps env fs parts=some out->(∀ t∈parts.map (λq=>ev env q.2),∀ v,t = .v v->v.oneCell'=true)->
   Instr.fill place (cellsL fs).toArray (parts.map λq=>(q.1,a.eval q.2))=some (cellsL out).toArray/\fitsAt 0 ps out=true
 | [],fs,out,hf,hs,_=>by
   simp only [setParts,Option.some.injEq] at hs
   subst hs
   exact ⟨rfl,hf⟩
 | (i,x) :: r,fs,out,hf,hs,hso=>by
   simp only [setParts] at hs
   cases hc:(Nat.blt i fs.length&&fitsAt 0 ps (fs.set i (ev env x))) with
   | false=>simp [hc] at hs
   | true=>
     simp only [hc,cond_true] at hs
     simp only [Bool.and_eq_true,Nat.blt_eq] at hc
     obtain ⟨hlt,hfit⟩:=hc
     have hy:(fs.set i (ev env x))[i]? = some (ev env x):=by simp [hlt]
     obtain ⟨q,pre2,post2,e1,e2,e3,e4,e5,e6⟩:=fits_part _ _ _ _ _ hfit hy
     obtain ⟨y,hyo⟩ : ∃ y,fs[i]? = some y:=⟨_,List.getElem?_eq_getElem hlt⟩
     obtain ⟨q',pre,post,f1,f2,f3,f4,f5,f6⟩:=fits_part _ _ _ _ _ hf hyo
     rw [e1] at f1
     cases f1
     have hev:=hsim.eval x e6
     have hcell:(a.eval x).cells=(ev env x).cells.toArray:=by
      rw [hev]; exact cells_of e6 (λv hv=>hso _ (by simp) v hv)
     have htake:=fits_take fs 0 ps i q hf e1
     have hset:=cellsL_set fs i (ev env x) y pre post hyo f2 (by omega)
     have ih:=fill_parts hsim hp r (fs.set i (ev env x)) out hfit hs (λt ht v hv=>hso t (by simp at ht ⊢; exact .inr ht) v hv)
     refine ⟨?_,ih.2⟩
     simp only [List.map_cons,Instr.fill,hp i q e1,hcell,List.size_toArray,e4]
     simp only [ne_eq,not_true,decide_false,Bool.false_or]
     have hle : ¬ (q.off+q.size > (cellsL fs).length):=by
      have:(cellsL fs).length=pre.length+y.cells.length+post.length:=by rw [f2]; simp [Nat.add_assoc]
      omega
     simp only [hle,decide_false,Bool.false_eq_true,↓reduceIte]
     have hfold:=splice_fold (ev env x).cells 0 pre y.cells post pre.length (by omega) (by omega)
     rw [f2]
     have hoff:q.off=pre.length:=by omega
     rw [hoff]
     have e9:((ev env x).cells.toArray.zipIdx.foldl (λcs (x:Value×Nat)=>cs.setIfInBounds (pre.length+x.2) x.1) (pre++y.cells++post).toArray)=(pre++(ev env x).cells++post).toArray:=by
      rw [<-Array.foldl_toList]
      simpa using hfold
     rw [e9,<-hset]
     exact ih.1
section
variable {P:Program} {N:Nat} {env:Env} {a:Act} {next:TV->Prop}
theorem okT_out {T:TypeId} (h:okT P T=true):(P.info? T).isSome=true/\(P.underlying T).isSome=true:=by simpa [okT] using h
theorem onSome_out {α:Type} {o:Option α} {K:α->Prop} (h:onSome o K) : ∃ x,o=some x/\K x:=by
 cases o with
 | none=>exact h.elim
 | some x=>exact ⟨x,rfl,h⟩
theorem Sim.is (h:Sim N env a.tmps) {x:Operand} {t:TV} (hx:ev env x=t) (hb:t.isBad=false):a.eval x=t.enc:=by
 subst hx; exact h.eval x hb
theorem Sim.numIs (h:Sim N env a.tmps) {x:Operand} {c:Int} (hx:(ev env x).num=some c) : ∃ k,a.eval x = .int k c:=by
 obtain ⟨k,hk⟩:=num_enc hx
 exact ⟨k,by rw [h.eval x (num_good hx),hk]⟩
theorem idx_run {k:IntKind} {n:Int} {len:Nat} {q:Option Addr} {T e:TypeId} (hu:P.underlying T=some (.slice e)) (hi:(P.info? e).isSome=true) {cap:Nat}
 (h:idxK n len q (sizeAt P e) next) : ∃ t,(∀ w,(Instr.indexAt T (.slice q len cap) (.int k n)).run P w = .ok t.enc w)/\next t:=by
 obtain ⟨⟨h1,h2⟩,h⟩:=h
 obtain ⟨ad,rfl,h⟩:=onSome_out h
 exact ⟨_,λw=>by simp [Instr.indexAt,asIntOf,run_underlying hu,h1,h2,run_sizeAt hi,TV.enc],h⟩
theorem idxA_run {k:IntKind} {n:Int} {len:Nat} {q:Option Addr} {T e:TypeId} (hu:P.underlying T=some (.array len e)) (hi:(P.info? e).isSome=true)
 (h:idxK n len q (sizeAt P e) next) : ∃ t,(∀ w,(Instr.indexAt T (.pointer q) (.int k n)).run P w = .ok t.enc w)/\next t:=by
 obtain ⟨⟨h1,h2⟩,h⟩:=h
 obtain ⟨ad,rfl,h⟩:=onSome_out h
 exact ⟨_,λw=>by simp [Instr.indexAt,asIntOf,run_underlying hu,h1,h2,run_sizeAt hi,TV.enc,Instr.sureAddr],h⟩
theorem gives_value {s:Sem Value} {t:TV} (h : ∀ w,s.run P w = .ok t.enc w) (hn:next t):Gives P (do let x <-s; pure (Next.value x):Sem Next) next:=
 .of (λw=>by simp [h w]) hn
mutual
theorem zeroOf_cells : ∀ (κ:Kd) (l:List Value) (x:TV) (r:List Value),zeroOf κ l=some (x,r)->l=x.cells++r
 | .i k,l,x,r,h=>by
   unfold zeroOf at h
   split at h <;> (try split at h) <;> simp_all [TV.cells]
   all_goals (obtain ⟨h1,_⟩:=h; rw [<-h1]; simp [TV.cells]; try rfl)
 | .u8,l,x,r,h=>by
   unfold zeroOf at h
   split at h <;> (try split at h) <;> simp_all [TV.cells]
   all_goals (obtain ⟨h1,_⟩:=h; rw [<-h1]; simp [TV.cells]; try rfl)
 | .u64,l,x,r,h=>by
   unfold zeroOf at h
   split at h <;> (try split at h) <;> simp_all [TV.cells]
   all_goals (obtain ⟨h1,_⟩:=h; rw [<-h1]; simp [TV.cells]; try rfl)
 | .b,l,x,r,h=>by
   unfold zeroOf at h
   split at h <;> (try split at h) <;> simp_all [TV.cells]
   all_goals (obtain ⟨h1,_⟩:=h; rw [<-h1]; simp [TV.cells]; try rfl)
 | .s,l,x,r,h=>by
   unfold zeroOf at h
   split at h <;> (try split at h) <;> simp_all [TV.cells]
   all_goals (obtain ⟨h1,_⟩:=h; rw [<-h1]; simp [TV.cells]; try rfl)
 | .p,l,x,r,h=>by
   unfold zeroOf at h
   split at h <;> (try split at h) <;> simp_all [TV.cells]
   all_goals (obtain ⟨h1,_⟩:=h; rw [<-h1]; simp [TV.cells]; try rfl)
 | .sl,l,x,r,h=>by
   unfold zeroOf at h
   split at h <;> (try split at h) <;> simp_all [TV.cells]
   all_goals (obtain ⟨h1,_⟩:=h; rw [<-h1]; simp [TV.cells]; try rfl)
 | .m,l,x,r,h=>by
   unfold zeroOf at h
   split at h <;> (try split at h) <;> simp_all [TV.cells]
   all_goals (obtain ⟨h1,_⟩:=h; rw [<-h1]; simp [TV.cells]; try rfl)
 | .v,l,x,r,h=>by
   unfold zeroOf at h
   split at h <;> (try split at h) <;> simp_all [TV.cells]
   all_goals (obtain ⟨h1,_⟩:=h; rw [<-h1]; simp [TV.cells]; try rfl)
 | .agg fs,l,x,r,h=>by
   unfold zeroOf at h
   cases hz:zerosOf fs l with
   | none=>simp [hz] at h
   | some q=>
     obtain ⟨xs,r'⟩:=q
     simp [hz] at h
     obtain ⟨rfl,rfl⟩:=h
     exact zerosOf_cells fs l xs r' hz
 | .la _ _,l,x,r,h=>by simp [zeroOf] at h
 | .tup _,l,x,r,h=>by simp [zeroOf] at h
theorem zerosOf_cells : ∀ (κs:List Kd) (l:List Value) (xs:List TV) (r:List Value),zerosOf κs l=some (xs,r)->l=cellsL xs++r
 | [],l,xs,r,h=>by simp [zerosOf] at h; obtain ⟨rfl,rfl⟩:=h; rfl
 | k :: ks,l,xs,r,h=>by
   unfold zerosOf at h
   cases hz:zeroOf k l with
   | none=>simp [hz] at h
   | some q=>
     obtain ⟨x,r1⟩:=q
     simp only [hz] at h
     cases hzs:zerosOf ks r1 with
     | none=>simp [hzs] at h
     | some q'=>
       obtain ⟨ys,r2⟩:=q'
       simp [hzs] at h
       obtain ⟨rfl,rfl⟩:=h
       rw [zeroOf_cells k l x r1 hz,zerosOf_cells ks r1 ys r2 hzs]
       simp [cellsL]
end
theorem zeroTV_run {T:TypeId} {x:TV} (h:zeroTV P T=some x) : ∃ z,(∀ w,(zeroValue T).run P w = .ok z w)/\z.cells.toList=x.cells:=by
 unfold zeroTV at h
 cases hi:P.info? T with
 | none=>simp [hi] at h
 | some i=>
   simp only [hi] at h
   cases hz:i.zero with
   | none=>simp [hz] at h
   | some z=>
     simp only [hz] at h
     refine ⟨z,λw=>by simp [zeroValue,typeInfo,hi,hz],?_⟩
     split at h
     ·rename_i y hy
      simp at h; subst h
      have:=zeroOf_cells _ _ _ _ hy
      simpa using this
     ·simp at h
theorem buildK_run (hsim:Sim N env a.tmps) {T:TypeId} {parts:Array (Nat×Operand)} (h:buildK P T parts env next) :
 ∃ t,(∀ w,(Instr.build T (parts.map λ(i,x)=>(i,a.eval x))).run P w = .ok t.enc w)/\next t:=by
 unfold buildK at h
 split at h
 ·rename_i zs hz
  cases hps:partsOf P T with
  | none=>simp [hps] at h
  | some ps=>
    simp only [hps] at h
    cases hf:fitsAt 0 ps zs with
    | false=>simp [hf] at h
    | true=>
      simp only [hf,cond_true] at h
      cases hs:setParts ps env zs parts.toList with
      | none=>simp [hs] at h
      | some fs=>
        simp only [hs] at h
        obtain ⟨hso,h⟩:=solid_out _ _ h
        obtain ⟨z,hzr,hzc⟩:=zeroTV_run hz
        have hzc':z.cells=(cellsL zs).toArray:=by
         apply Array.ext'
         rw [hzc]; rfl
        refine ⟨_,λw=>?_,h⟩
        unfold partsOf at hps
        split at hps
        ·rename_i fields hu
         cases hall:(fields.toList.all λf=>okT P f.type) with
         | false=>simp [hall] at hps
         | true=>
           simp only [hall,cond_true,Option.some.injEq] at hps
           subst hps
           have hm : ∀ w,(fields.mapM (λf=>do pure (f.offset,<-sizeOf f.type)):Sem (Array (Nat×Nat))).run P w = .ok (fields.map λf=>(f.offset,sizeAt P f.type)) w:=by
            intro w
            have hl : ∀ (l:List Field) (w:World),l.all (λf=>okT P f.type)=true->(l.mapM (λf=>Functor.map (Prod.mk f.offset) (sizeOf f.type)):Sem (List (Nat×Nat))).run P w = .ok (l.map λf=>(f.offset,sizeAt P f.type)) w:=by
             intro l
             induction l with
             | nil=>intro w _; rfl
             | cons f l ih=>
               intro w h
               simp only [List.all_cons,Bool.and_eq_true] at h
               simp [List.mapM_cons,run_sizeAt (okT_out h.1).1,ih w h.2]
            rw [Array.mapM_eq_mapM_toList]
            simp [hl fields.toList w hall]
            apply Array.ext'
            simp
           have hfill:=fill_parts hsim (place:=λi=>(fields.map λf=>(f.offset,sizeAt P f.type))[i]?) (by
            intro i q hq
            simp at hq
            obtain ⟨f,hf1,rfl⟩:=hq
            simp [hf1]) parts.toList zs fs hf hs hso
           simp only [Instr.build,Sem.run_bind,hzr,Result.andThen_ok,run_underlying hu,hm,hzc']
           have e:(parts.map λ(x:Nat×Operand)=>(x.1,a.eval x.2)).toList=parts.toList.map λq=>(q.1,a.eval q.2):=by simp
           rw [e,hfill.1]
           rfl
        ·rename_i n e hu
         cases hall:okT P e with
         | false=>simp [hall] at hps
         | true=>
           simp only [hall,cond_true,Option.some.injEq] at hps
           subst hps
           have hfill:=fill_parts hsim (place:=λi=>some (i*sizeAt P e,sizeAt P e)) (by
            intro i q hq
            simp only [List.getElem?_map,Option.map_eq_some_iff] at hq
            obtain ⟨j,hf1,rfl⟩:=hq
            have:=List.getElem?_range (show i<n from by
             have:=(List.getElem?_eq_some_iff.1 hf1).1
             simpa using this)
            rw [this] at hf1
            cases hf1
            rfl) parts.toList zs fs hf hs hso
           simp only [Instr.build,Sem.run_bind,hzr,Result.andThen_ok,run_underlying hu,run_sizeAt (okT_out hall).1,hzc']
           have e:(parts.map λ(x:Nat×Operand)=>(x.1,a.eval x.2)).toList=parts.toList.map λq=>(q.1,a.eval q.2):=by simp
           rw [e,hfill.1]
           rfl
        ·simp at hps
 ·exact h.elim
theorem field_run (hsim:Sim N env a.tmps) {T:TypeId} {x:Operand} {f:Nat} {fs:List TV} {ps:List Pt} {y:TV} (hx:ev env x = .agg fs) (hps:partsOf P T=some ps) (hf:fs[f]? = some y)
 (hfit:fitsAt 0 ps fs=true) (hfo:(fieldsOf P T).isSome=true) (hn:next y) : ∃ t,(∀ w,(Instr.field T (a.eval x) f).run P w = .ok t.enc w)/\next t:=by
 obtain ⟨q,pre,post,e1,e2,e3,e4,e5,e6⟩:=fits_part _ _ _ _ _ hfit hf
 refine ⟨y,λw=>?_,hn⟩
 rw [hsim.is hx rfl]
 unfold partsOf at hps
 unfold fieldsOf at hfo
 split at hps
 ·rename_i fields hu
  cases hall:(fields.toList.all λf=>okT P f.type) with
  | false=>simp [hall] at hps
  | true=>
    simp only [hall,cond_true,Option.some.injEq] at hps
    subst hps
    simp only [List.getElem?_map,Option.map_eq_some_iff] at e1
    obtain ⟨fd,g1,g2⟩:=e1
    subst g2
    have hfd:fields[f]? = some fd:=by simpa using g1
    have hok:=okT_out (by simpa using List.all_eq_true.1 hall fd (List.mem_of_getElem? g1))
    have hpre:pre.length=fd.offset:=by simpa using e3
    simp only [Instr.field,Sem.run_bind,run_underlying hu,Result.andThen_ok,hfd,TV.enc,asAgg,Sem.run_pure]
    rw [e2,<-hpre]
    exact run_part (Option.some_get hok.2).symm hok.1 e6 e5 e4 w
 ·rename_i hu; simp [hu] at hfo
 ·simp at hps
theorem index_run (hsim:Sim N env a.tmps) {T e:TypeId} {len:Nat} {x:Operand} {k:IntKind} {n:Int} {fs:List TV} {y:TV} (hu:P.underlying T=some (.array len e)) (hx:ev env x = .agg fs)
 (hk:kdFit P e=true) (hr:0<=n/\n<len) (hall : ∀ z∈fs,z.cells.length=sizeAt P e) (hy:fs[n.toNat]? = some y) (hl:y.cells.length=kdSize (kindOf P 20 e)) (hag:y.isAgg=kdAgg (kindOf P 20 e)) (hb:y.isBad=false)
 (w:World):(Instr.index T (a.eval x) (.int k n)).run P w = .ok y.enc w:=by
 rw [hsim.is hx rfl]
 simp only [kdFit,Bool.and_eq_true,beq_iff_eq,Nat.beq_eq] at hk
 obtain ⟨⟨⟨k1,k2⟩,k3⟩,k4⟩:=hk
 have hc : ∀ (fs:List TV) (i:Nat),(∀ z∈fs,z.cells.length=sizeAt P e)->fs[i]? = some y->∃ pre post,cellsL fs=pre++y.cells++post/\pre.length=i*sizeAt P e:=by
  intro fs
  induction fs with
  | nil=>intro i _ h; simp at h
  | cons z zs ih=>
    intro i ha h
    cases i with
    | zero=>simp at h; subst h; exact ⟨[],cellsL zs,by simp [cellsL],by simp⟩
    | succ i=>
      simp at h
      obtain ⟨pre,post,h1,h2⟩:=ih i (λz hz=>ha z (by simp [hz])) h
      refine ⟨z.cells++pre,post,by simp [cellsL,h1],?_⟩
      have:=ha z (by simp)
      rw [List.length_append,this,h2,Nat.add_mul]; omega
 obtain ⟨pre,post,h1,h2⟩:=hc fs n.toNat hall hy
 simp only [Instr.index,Sem.run_bind,asIntOf,Sem.run_pure,Result.andThen_ok,run_underlying hu,TV.enc,hr,and_self,↓reduceIte,run_sizeAt k3]
 rw [h1,<-h2]
 exact run_part (Option.some_get k4).symm k3 hb (by rw [hag,k2]) (by rw [hl,k1]) w
end
section
variable {P:Program} {N:Nat} {env:Env} {a:Act} {next:TV->Prop}
theorem good_evs (hsim:Sim N env a.tmps) {xs:Array Operand} (h:allGood env xs=true):xs.map a.eval=(evs env xs).toArray:=by
 apply Array.ext'
 simp only [Array.toList_map,evs]
 apply List.map_congr_left
 intro x hx
 have:=List.all_eq_true.1 h x hx
 exact hsim.eval x (by simpa using this)
theorem slice_run_s {T:TypeId} {s:List UInt8} {lo hi:Option Int} {kl kh:IntKind} (hu:P.underlying T=some .string)
 (h:boundK s.length s.length lo hi none λl h _=>next (.s ((s.take h).drop l))) :
 ∃ t,(∀ w,(Instr.sliceAt T (.string ⟨s.toArray⟩) (lo.map (Value.int kl)) (hi.map (Value.int kh)) none).run P w = .ok t.enc w)/\next t:=by
 obtain ⟨l,h',m,hr,hn⟩:=bounds_run (P:=P) (isS:=false) (kl:=kl) (kh:=kh) (km:=.i64) h
 refine ⟨_,λw=>?_,hn⟩
 have e1:(ByteArray.mk s.toArray).size=s.length:=by simp [ByteArray.size]
 have hr':=hr
 simp only [Option.map_none] at hr'
 simp only [Instr.sliceAt,Instr.slice,Sem.run_bind,run_underlying hu,Result.andThen_ok,e1]
 simp only [Option.isSome_none,Bool.false_eq_true,↓reduceIte,Sem.run_bind,Sem.run_pure,Result.andThen_ok,hr',TV.enc]
 congr 2
 apply ByteArray.ext
 apply Array.ext'
 simp [ByteArray.data_extract,List.drop_take]
theorem slice_run_sl {T e:TypeId} {s:Slc} {lo hi mx:Option Int} {kl kh km:IntKind} (hu:P.underlying T=some (.slice e)) (hi':(P.info? e).isSome=true)
 (h:boundK s.len s.cap lo hi mx λl h m=>next (.sl (cutSl s (sizeAt P e) l h m))) :
 ∃ t,(∀ w,(Instr.sliceAt T (.slice s.a s.len s.cap) (lo.map (Value.int kl)) (hi.map (Value.int kh)) (mx.map (Value.int km))).run P w = .ok t.enc w)/\next t:=by
 obtain ⟨l,h',m,hr,hn⟩:=bounds_run (P:=P) (isS:=true) (kl:=kl) (kh:=kh) (km:=km) h
 refine ⟨_,λw=>?_,hn⟩
 simp only [Instr.sliceAt,Instr.slice,Sem.run_bind,run_underlying hu,Result.andThen_ok,hr,run_sizeAt hi',Sem.run_pure,TV.enc,cutSl]
theorem slice_run_a {T e:TypeId} {n:Nat} {ad:Addr} {lo hi:Option Int} {kl kh:IntKind} (hu:P.underlying T=some (.array n e)) (hi':(P.info? e).isSome=true)
 (h:boundK n n lo hi none λl h m=>next (.sl (cutSl ⟨some ad,n,n⟩ (sizeAt P e) l h m))) :
 ∃ t,(∀ w,(Instr.sliceAt T (.pointer (some ad)) (lo.map (Value.int kl)) (hi.map (Value.int kh)) none).run P w = .ok t.enc w)/\next t:=by
 obtain ⟨l,h',m,hr,hn⟩:=bounds_run (P:=P) (isS:=false) (kl:=kl) (kh:=kh) (km:=.i64) h
 refine ⟨_,λw=>?_,hn⟩
 have hr':=hr
 simp only [Option.map_none] at hr'
 simp only [Instr.sliceAt,Instr.sureAddr,Sem.run_bind,run_underlying hu,Result.andThen_ok,Sem.run_pure,hr',run_sizeAt hi',TV.enc,cutSl,Option.map_some]
 split <;> rfl
theorem opt_eval (hsim:Sim N env a.tmps) {x:Option Operand} {n:Option Int} (h:optNum env x=some n) : ∃ k,x.map a.eval=n.map (Value.int k):=by
 rcases optNum_run h with ⟨rfl,rfl⟩ | ⟨o,c,rfl,rfl,hc⟩
 ·exact ⟨.i64,rfl⟩
 ·obtain ⟨k,hk⟩:=hsim.numIs hc
  exact ⟨k,by simp [hk]⟩
theorem lenK_run {T:TypeId} {x:TV} {ty:TypeId} (h:lenK P T x next):x.isBad=false/\∃ t,(∀ w,(Builtin.len_ #[T] ty #[x.enc]).run P w = .ok t.enc w)/\next t:=by
 have e1 : ∀ l:List UInt8,(ByteArray.mk l.toArray).size=l.length:=λl=>by simp [ByteArray.size]
 unfold lenK at h
 split at h
 ·rename_i hu
  exact ⟨rfl,_,λw=>by simp [Builtin.len_,run_underlying hu,TV.enc,goInt]; rw [e1],h⟩
 ·rename_i hu
  exact ⟨rfl,_,λw=>by simp [Builtin.len_,run_underlying hu,TV.enc,goInt],h⟩
 ·rename_i hu
  exact ⟨rfl,_,λw=>by simp [Builtin.len_,run_underlying hu,TV.enc,goInt],h⟩
 ·rename_i hu
  split at h
  ·rename_i hu2
   exact ⟨rfl,_,λw=>by simp [Builtin.len_,run_underlying hu,run_underlying hu2,TV.enc,goInt],h⟩
  ·exact h.elim
 ·exact h.elim
theorem capK_run {T:TypeId} {x:TV} {ty:TypeId} (h:capK P T x next):x.isBad=false/\∃ t,(∀ w,(Builtin.cap_ #[T] ty #[x.enc]).run P w = .ok t.enc w)/\next t:=by
 unfold capK at h
 split at h
 ·rename_i hu
  exact ⟨rfl,_,λw=>by simp [Builtin.cap_,run_underlying hu,TV.enc,goInt],h⟩
 ·exact h.elim
theorem min2_run {xs:List TV} {y:TV} {ty:Array TypeId} {t:TypeId} (h:min2 xs=some y):(∀ x∈xs,x.isBad=false)/\∀ w,(Builtin.min_ ty t (encL xs).toArray).run P w = .ok y.enc w:=by
 unfold min2 at h
 split at h
 ·split at h
  ·rename_i hk; subst hk; cases h
   exact ⟨by simp [TV.isBad],λw=>by simp [Builtin.min_,Builtin.min2,encL,TV.enc]⟩
  ·simp at h
 ·split at h
  ·rename_i hk; obtain ⟨rfl,rfl⟩:=hk; cases h
   exact ⟨by simp [TV.isBad],λw=>by simp [Builtin.min_,Builtin.min2,encL,TV.enc]⟩
  ·simp at h
 ·simp at h
theorem max2_run {xs:List TV} {y:TV} {ty:Array TypeId} {t:TypeId} (h:max2 xs=some y):(∀ x∈xs,x.isBad=false)/\∀ w,(Builtin.max_ ty t (encL xs).toArray).run P w = .ok y.enc w:=by
 unfold max2 at h
 split at h
 ·split at h
  ·rename_i hk; subst hk; cases h
   exact ⟨by simp [TV.isBad],λw=>by simp [Builtin.max_,Builtin.max2,encL,TV.enc]⟩
  ·simp at h
 ·split at h
  ·rename_i hk; obtain ⟨rfl,rfl⟩:=hk; cases h
   exact ⟨by simp [TV.isBad],λw=>by simp [Builtin.max_,Builtin.max2,encL,TV.enc]⟩
  ·simp at h
 ·simp at h
theorem eval_list (hsim:Sim N env a.tmps) : ∀ (xs:List Operand),(∀ x∈xs.map (ev env),x.isBad=false)->xs.map a.eval=encL (xs.map (ev env))
 | [],_=>rfl
 | x :: r,h=>by
   simp only [List.map_cons,encL]
   rw [hsim.eval x (h _ (by simp)),eval_list hsim r (λy hy=>h y (by simp at hy ⊢; exact .inr hy))]
theorem pureK_run {o:Oper} (hsim:Sim N env a.tmps) (h:pureK P o env next):Gives P (execOp a.eval o) next:=by
 obtain ⟨dst,op,type,pos,after,guard⟩:=o
 unfold pureK at h
 simp only at h
 unfold execOp
 cases op <;> simp only at h ⊢ <;> try (exact h.elim)
 case move x=>exact ⟨ev env x,a.eval x,λw=>rfl,λhb=>hsim.eval x hb,h⟩
 case assign x=>exact ⟨ev env x,a.eval x,λw=>rfl,λhb=>hsim.eval x hb,h⟩
 case pick c x y=>
  split at h
  ·rename_i t hc
   have:=hsim.is hc rfl
   cases t with
   | true=>exact ⟨ev env x,a.eval x,λw=>by simp [this,TV.enc,asBool],λhb=>hsim.eval x hb,h⟩
   | false=>exact ⟨ev env y,a.eval y,λw=>by simp [this,TV.enc,asBool],λhb=>hsim.eval y hb,h⟩
  ·exact h.elim
 case nilCheck x=>
  split at h
  ·rename_i q hx
   obtain ⟨ad,rfl,h⟩:=onSome_out h
   have:=hsim.is hx rfl
   exact .of (t:=.p (some ad)) (λw=>by simp [this,TV.enc]) h
  ·rename_i f first cap hx
   have:=hsim.is hx rfl
   exact .of (t:=.v (.func (.func f) first cap)) (λw=>by simp [this,TV.enc]) h
  ·exact h.elim
 case binOp op T x y yT=>
  obtain ⟨hbx,hby,t,ht,hn⟩:=binK_run h
  refine gives_value (t:=t) (λw=>?_) hn
  rw [hsim.eval x hbx,hsim.eval y hby]
  exact ht w
 case unOp op T x=>
  split at h
  ·rename_i hx
   exact gives_value (λw=>by rw [hsim.is hx rfl]; rfl) h
  ·rename_i hx
   exact gives_value (λw=>by rw [hsim.is hx rfl]; rfl) h
  ·rename_i n hx
   refine gives_value (t:=.u64 (~~~n)) (λw=>?_) h
   rw [hsim.is hx rfl]
   show Result.ok (Value.int .u64 (IntKind.u64.wrap ((BitVec.ofInt 64 (IntKind.u64.max) ^^^ BitVec.ofInt 64 (n.toNat:Int)).toNat:Int))) w=_
   rw [not64]; rfl
  ·rename_i n hx
   refine gives_value (t:=.u8 (~~~n)) (λw=>?_) h
   rw [hsim.is hx rfl]
   show Result.ok (Value.int .u8 (IntKind.u8.wrap ((BitVec.ofInt 8 (IntKind.u8.max) ^^^ BitVec.ofInt 8 (n.toNat:Int)).toNat:Int))) w=_
   rw [not8]; rfl
  ·exact h.elim
 case convert s d x=>
  split at h
  ·rename_i ts hs
   cases hd:P.underlying d with
   | none=>simp [hd,convI] at h
   | some td=>
     rw [hd] at h
     obtain ⟨hb,t,ht,hn⟩:=convI_run hs hd h
     exact gives_value (λw=>by rw [hsim.eval x hb]; exact ht w) hn
  ·exact h.elim
 case makeInterface T x=>
  cases hc:(isIface P T || (ev env x).isBad) with
  | true=>simp [hc] at h
  | false=>
    simp only [hc,cond_false] at h
    simp only [Bool.or_eq_false_iff] at hc
    refine gives_value (t:=.v (.iface T (ev env x).enc)) (λw=>?_) h
    rw [hsim.eval x hc.2]
    have h1:=hc.1
    unfold isIface at h1
    cases hu:P.underlying T with
    | none=>simp [hu] at h1
    | some d=>
      rw [hu] at h1
      cases d <;> simp at h1 <;> simp [Instr.makeInterface,run_underlying hu,TV.enc]
 case makeFunc fn first cap=>
  cases hc:(allGood env first&&allGood env cap) with
  | false=>simp [hc] at h
  | true=>
    simp only [hc,cond_true] at h
    simp only [Bool.and_eq_true] at hc
    refine gives_value (t:=.v (.func fn (evs env first).toArray (evs env cap).toArray)) (λw=>?_) h
    rw [good_evs hsim hc.1,good_evs hsim hc.2]
    rfl
 case slice T x lo hi mx=>
  split at h
  ·rename_i l hh m hl hhi hm
   obtain ⟨kl,el⟩:=opt_eval hsim hl
   obtain ⟨kh,eh⟩:=opt_eval hsim hhi
   obtain ⟨km,em⟩:=opt_eval hsim hm
   rw [el,eh,em]
   split at h
   ·rename_i s hu hx
    rw [hsim.is hx rfl]
    cases m with
    | some _=>exact h.elim
    | none=>
      obtain ⟨t,ht,hn⟩:=slice_run_s (kl:=kl) (kh:=kh) hu h
      exact gives_value ht hn
   ·rename_i e s hu hx
    rw [hsim.is hx rfl]
    cases hi':(P.info? e).isSome with
    | false=>simp [hi'] at h
    | true=>
      simp only [hi',cond_true] at h
      obtain ⟨t,ht,hn⟩:=slice_run_sl (kl:=kl) (kh:=kh) (km:=km) hu hi' h
      exact gives_value ht hn
   ·rename_i n e q hu hx
    rw [hsim.is hx rfl]
    cases hi':(P.info? e).isSome with
    | false=>simp [hi'] at h
    | true=>
      cases m with
      | some _=>simp at h
      | none=>
        simp only [hi',Option.isNone_none,Bool.and_self,cond_true] at h
        obtain ⟨ad,rfl,h⟩:=onSome_out h
        obtain ⟨t,ht,hn⟩:=slice_run_a (kl:=kl) (kh:=kh) hu hi' h
        exact gives_value ht hn
   ·exact h.elim
  ·exact h.elim
 case fieldAddr T x f=>
  split at h
  ·rename_i off q hf hx
   obtain ⟨ad,rfl,h⟩:=onSome_out h
   refine gives_value (t:=.p (some (ad.add off))) (λw=>?_) h
   rw [hsim.is hx rfl]
   unfold fieldOff at hf
   split at hf
   ·rename_i fs hu
    split at hf
    ·rename_i fd hfd
     cases hc:(Nat.beq (sizeAt P fd.type) 0 || !(P.info? fd.type).isSome) with
     | true=>rw [hc] at hf; simp at hf
     | false=>
       simp only [hc,cond_false,Option.some.injEq] at hf
       subst hf
       simp only [Bool.or_eq_false_iff,Bool.not_eq_false'] at hc
       have hz : ¬ (sizeAt P fd.type=0):=by
        intro e0; rw [e0] at hc; simp at hc
       simp [Instr.fieldAt,run_underlying hu,hfd,Instr.sureAddr,TV.enc,fieldPlace,run_sizeAt hc.2,hz]
    ·simp at hf
   ·simp at hf
  ·exact h.elim
 case field T x f=>
  split at h
  ·rename_i fs ps hx hps
   split at h
   ·rename_i y hy
    cases hc:(fitsAt 0 ps fs&&(fieldsOf P T).isSome) with
    | false=>simp [hc] at h
    | true=>
      simp only [hc,cond_true] at h
      simp only [Bool.and_eq_true] at hc
      obtain ⟨t,ht,hn⟩:=field_run hsim hx hps hy hc.1 hc.2 h
      exact gives_value ht hn
   ·exact h.elim
  ·exact h.elim
 case indexAddr T x i=>
  split at h
  ·rename_i e hu
   split at h
   ·rename_i s n hx hi
    cases hi':(P.info? e).isSome with
    | false=>simp [hi'] at h
    | true=>
      simp only [hi',cond_true] at h
      obtain ⟨k,hk⟩:=hsim.numIs hi
      obtain ⟨t,ht,hn⟩:=idx_run (k:=k) (cap:=s.cap) hu hi' h
      exact gives_value (λw=>by rw [hsim.is hx rfl,hk]; exact ht w) hn
   ·exact h.elim
  ·rename_i len e hu
   split at h
   ·rename_i q n hx hi
    cases hi':(P.info? e).isSome with
    | false=>simp [hi'] at h
    | true=>
      simp only [hi',cond_true] at h
      obtain ⟨k,hk⟩:=hsim.numIs hi
      obtain ⟨t,ht,hn⟩:=idxA_run (k:=k) hu hi' h
      exact gives_value (λw=>by rw [hsim.is hx rfl,hk]; exact ht w) hn
   ·exact h.elim
  ·exact h.elim
 case index T x i=>
  split at h
  ·rename_i hu
   split at h
   ·rename_i l n hx hi
    obtain ⟨h0,c,hc,hn⟩:=h
    obtain ⟨k,hk⟩:=hsim.numIs hi
    refine gives_value (t:=.u8 c) (λw=>?_) hn
    rw [hsim.is hx rfl,hk]
    have hlt:n.toNat<l.length:=(List.getElem?_eq_some_iff.1 hc).1
    have e1:(ByteArray.mk l.toArray)[n.toNat]? = some c:=by
     have hs:n.toNat<(ByteArray.mk l.toArray).size:=by simpa [ByteArray.size] using hlt
     rw [getElem?_pos (ByteArray.mk l.toArray) n.toNat hs,<-(List.getElem?_eq_some_iff.1 hc).2]
     rfl
    simp [Instr.index,asIntOf,run_underlying hu,TV.enc,h0,e1]
   ·exact h.elim
  ·rename_i len e hu
   split at h
   ·rename_i fs n hx hi
    cases hkf:kdFit P e with
    | false=>simp [hkf] at h
    | true=>
      simp only [hkf,cond_true] at h
      obtain ⟨hr,hall,h⟩:=h
      obtain ⟨y,y1,y2,y3,hy,hn⟩:=exK_out _ _ h
      obtain ⟨k,hk⟩:=hsim.numIs hi
      exact gives_value (λw=>by rw [hk]; exact index_run hsim hu hx hkf hr hall hy y1 y2 y3 w) hn
   ·exact h.elim
  ·exact h.elim
 case extract t i=>
  split at h
  ·rename_i fs hx
   split at h
   ·rename_i y hy
    refine gives_value (t:=y) (λw=>?_) h
    rw [hsim.is hx rfl]
    have : ∀ (fs:List TV) (i:Nat),fs[i]? = some y->(encL fs)[i]? = some y.enc:=by
     intro fs
     induction fs with
     | nil=>intro i h; simp at h
     | cons z zs ih=>intro i h; cases i <;> simp_all [encL]
    simp [TV.enc,Instr.extract,this fs i hy]
   ·exact h.elim
  ·rename_i x hx
   obtain ⟨vs,rfl,h⟩:=h
   obtain ⟨y,_,_,_,hy,hn⟩:=exK_out _ _ h
   refine gives_value (t:=y) (λw=>?_) hn
   rw [hsim.is hx rfl]
   simp [TV.enc,Instr.extract,hy]
  ·exact h.elim
 case build T parts=>
  obtain ⟨t,ht,hn⟩:=buildK_run hsim h
  exact gives_value ht hn
 case call c=>
  obtain ⟨callee,args,argTypes⟩:=c
  cases callee <;> (try simp only at h) <;> try (exact h.elim)
  rename_i b
  cases b <;> (try simp only at h) <;> try (exact h.elim)
  case len=>
   split at h
   ·rename_i x T hx hT
    obtain ⟨hb,t,ht,hn⟩:=lenK_run (ty:=type) h
    have e1:args.map a.eval = #[(ev env x).enc]:=by
     apply Array.ext'
     simp [hx,hsim.eval x hb]
    have e2:argTypes = #[T]:=by apply Array.ext'; simpa using hT
    refine .of (t:=t) (λw=>?_) hn
    simp only [resolve,e1,e2,invoke,builtin,Sem.run_bind,Sem.run_pure,Result.andThen_ok,ht w]
   ·exact h.elim
  case cap=>
   split at h
   ·rename_i x T hx hT
    obtain ⟨hb,t,ht,hn⟩:=capK_run (ty:=type) h
    have e1:args.map a.eval = #[(ev env x).enc]:=by
     apply Array.ext'
     simp [hx,hsim.eval x hb]
    have e2:argTypes = #[T]:=by apply Array.ext'; simpa using hT
    refine .of (t:=t) (λw=>?_) hn
    simp only [resolve,e1,e2,invoke,builtin,Sem.run_bind,Sem.run_pure,Result.andThen_ok,ht w]
   ·exact h.elim
  case max=>
   split at h
   ·rename_i y hy
    obtain ⟨hb,ht⟩:=max2_run (P:=P) (ty:=argTypes) (t:=type) hy
    have e1:args.map a.eval=(encL (args.toList.map (ev env))).toArray:=by
     apply Array.ext'
     simp only [Array.toList_map]
     exact eval_list hsim _ hb
    refine .of (t:=y) (λw=>?_) h
    simp only [resolve,e1,invoke,builtin,Sem.run_bind,Sem.run_pure,Result.andThen_ok,ht w]
   ·exact h.elim
  case min=>
   split at h
   ·rename_i y hy
    obtain ⟨hb,ht⟩:=min2_run (P:=P) (ty:=argTypes) (t:=type) hy
    have e1:args.map a.eval=(encL (args.toList.map (ev env))).toArray:=by
     apply Array.ext'
     simp only [Array.toList_map]
     exact eval_list hsim _ hb
    refine .of (t:=y) (λw=>?_) h
    simp only [resolve,e1,invoke,builtin,Sem.run_bind,Sem.run_pure,Result.andThen_ok,ht w]
   ·exact h.elim
end
end Go.Sh
end
