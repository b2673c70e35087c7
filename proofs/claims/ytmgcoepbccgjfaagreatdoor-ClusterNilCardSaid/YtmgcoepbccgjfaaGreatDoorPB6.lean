/- The forms of the translated functions,their contracts and the plain laws behind them,put together by a program. -/
import Derived.Test.YtmgcoepbccgjfaaGreatDoorPB5
import Derived.LoopNIn
import Derived.KernelRfl
set_option linter.unusedSimpArgs false
set_option linter.unusedVariables false
set_option maxRecDepth 1000000
set_option maxHeartbeats 8000000
section
namespace Go.Sh
open Go
def QK (N:Nat) (k:Kt) (ws:List Nat) (t0:Array Value) (q:Bool) (d0:List Deferred):Exit->Act->World->Prop
 | .normal,a,w=>(q=true->a.defers=d0)/\Same ws t0 a.tmps/\∃ env,Sim N env a.tmps/\k.nrm a.defers env w
 | .ret,a,w=>(q=true->a.defers=d0)/\Same ws t0 a.tmps/\∃ env,Sim N env a.tmps/\k.ret a.defers env w
 | .exit i,a,w=>(q=true->a.defers=d0)/\Same ws t0 a.tmps/\∃ env,Sim N env a.tmps/\k.ext i a.defers env w
 | .panic c,a,w=>Same ws t0 a.tmps/\∃ env,Sim N env a.tmps/\k.pan a.defers env c w
 | _,_,_=>False
section
variable {P:Program} {N:Nat}
theorem QK.mono {k:Kt} {a b:List Nat} {t0 t1:Array Value} {q q':Bool} {d0 d1:List Deferred} (hq1:q=true->q'=true) (hd:q=true->d1=d0) (h:Same a t0 t1) {c:List Nat} (ha : ∀ t,t∈a->t∈c) (hb : ∀ t,t∈b->t∈c) :
 ∀ e x w,QK N k b t1 q' d1 e x w->QK N k c t0 q d0 e x w:=by
 intro e x w hq
 cases e <;> first
  | exact ⟨λe=>(hq.1 (hq1 e)).trans (hd e),Same.trans h hq.2.1 ha hb,hq.2.2⟩
  | exact ⟨Same.trans h hq.1 ha hb,hq.2⟩
  | exact hq.elim
theorem look_poison (ws:List Nat) (env:Env) (t:Nat):look (poison ws env) t=if t∈ws then .bad else look env t:=by
 unfold poison
 induction ws with
 | nil=>rfl
 | cons u r ih=>
   simp only [List.map_cons,List.cons_append,look_cons,List.mem_cons]
   by_cases e:u=t
   ·subst e; simp
   ·have : ¬ t=u:=λh=>e h.symm
    simp only [e,↓reduceIte,this,false_or]
    exact ih
theorem look_binds : ∀ (vs:List (Nat×Kd)) (xs:List TV) (env:Env) (t:Nat),xs.length=vs.length->
 (∃ (i:Nat) (v:Nat×Kd) (x:TV),vs[i]? = some v/\xs[i]? = some x/\v.1=t/\look (binds vs xs++env) t=x)\/look (binds vs xs++env) t=look env t
 | [],xs,env,t,h=>.inr (by simp [binds])
 | v :: vs,[],env,t,h=>by simp at h
 | v :: vs,x :: xs,env,t,h=>by
   have e:binds (v :: vs) (x :: xs)++env=(v.1,x) :: (binds vs xs++env):=rfl
   rw [e,look_cons]
   by_cases hv:v.1=t
   ·exact .inl ⟨0,v,x,rfl,rfl,hv,by simp [hv]⟩
   ·simp only [hv,↓reduceIte]
    rcases look_binds vs xs env t (by simpa using h) with ⟨i,v',x',h1,h2,h3,h4⟩ | h1
    ·exact .inl ⟨i+1,v',x',by simpa using h1,by simpa using h2,h3,h4⟩
    ·exact .inr h1
theorem okKs_len : ∀ (ks:List Kd) (xs:List TV),okKs ks xs=true->xs.length=ks.length
 | [],[],_=>rfl
 | [],_ :: _,h=>by simp [okKs] at h
 | _ :: _,[],h=>by simp [okKs] at h
 | k :: r,x :: xs,h=>by simp [okKs] at h; simp [okKs_len r xs h.2]
theorem sim_join {env env':Env} {t0 t1:Array Value} {ws:List Nat} {vs:List (Nat×Kd)} (h0:Sim N env t0) (h1:Sim N env' t1) (hs:Same ws t0 t1) {xs:List TV} (hxs:xs=vals env' vs) :
 Sim N (binds vs xs++poison ws env) t1:=by
 refine ⟨h1.1,λt ht=>?_⟩
 rcases look_binds vs xs (poison ws env) t (by rw [hxs]; simp [vals]) with ⟨i,v,x,a1,a2,a3,a4⟩ | a1
 ·rw [a4] at ht ⊢
  subst hxs
  simp only [vals,List.getElem?_map,a1,Option.map_some,Option.some.injEq] at a2
  rw [<-a2,a3] at ht ⊢
  exact h1.2 t ht
 ·rw [a1,look_poison] at ht ⊢
  by_cases e:t∈ws
  ·simp [e,TV.isBad] at ht
  ·simp only [e,↓reduceIte] at ht ⊢
   rw [hs t e]
   exact h0.2 t ht
theorem sim_poison {env:Env} {t0 t1:Array Value} {ws:List Nat} (h0:Sim N env t0) (h1:t1.size=N) (hs:Same ws t0 t1):Sim N (poison ws env) t1:=by
 refine ⟨h1,λt ht=>?_⟩
 rw [look_poison] at ht ⊢
 by_cases e:t∈ws
 ·simp [e,TV.isBad] at ht
 ·simp only [e,↓reduceIte] at ht ⊢
  rw [hs t e]
  exact h0.2 t ht
def QR (N:Nat) (k:Kt) (ws:List Nat) (t0:Array Value) (q:Bool) (d0:List Deferred) (env:Env):Exit->Act->World->Prop
 | .panic c,a,w=>a.tmps.size=N/\Same ws t0 a.tmps/\k.pan a.defers (poison ws env) c w
 | e,a,w=>QK N k ws t0 q d0 e a w
theorem subB_sim {env:Env} {t0:Array Value} {c:Operand} {t:Bool} (h:Sim N env t0) (hc:ev env c = .b t):Sim N (subB env c t) t0:=by
 cases c with
 | tmp u=>exact h.same hc
 | _=>exact h
theorem wpIn_loop_ghost {F:Fence} {n:Nat} {Q:Exit->Act->World->Prop} {a:Act} {w:World} {c:Code} (I:Nat->Act->World->Prop) (n₀:Nat) (h₀:I n₀ a w)
 (round : ∀ m a w,I m a w->c.wpIn F n P (Exit.then (λa' w'=>∃ n',n'<m/\I n' a' w') Q) a w):(Code.loop c).wpIn F n P Q a w:=by
 refine wpIn_loop (λa w=>∃ m,I m a w) (λa w=>leastOf (λm=>I m a w)) ⟨n₀,h₀⟩ ?_
 intro a w hI
 refine wpIn_mono (round _ a w (leastOf_spec hI).1) ?_
 intro e a' w' hq
 cases e with
 | normal=>
   obtain ⟨n',hlt,hI'⟩:=hq
   exact show (∃ n,I n a' w')/\leastOf (λn=>I n a' w')<leastOf (λn=>I n a w) from ⟨⟨n',hI'⟩,Nat.lt_of_le_of_lt ((leastOf_spec ⟨n',hI'⟩).2 n' hI') hlt⟩
 | exit id=>exact hq
 | goto l=>exact hq
 | ret=>exact hq
 | panic ch=>exact hq
 | outgrown=>exact hq
theorem noDefer_of {ops:Array Oper} (h:opsDefer ops.toList=false) : ∀ (j:Nat) (o:Oper),ops[j]? = some o->isDefer o.op=false:=λj o ho=>by
 unfold opsDefer at h
 rw [List.any_eq_false] at h
 have:=h o (by have:=Array.mem_of_getElem? ho; simpa using this)
 simpa using this
theorem encL_len : ∀ xs:List TV,(encL xs).length=xs.length
 | []=>rfl
 | x :: r=>by simp [encL,encL_len r]
mutual
theorem allK_of : ∀ (κ:Kd) (K:TV->Prop),noLa κ=true->(∀ t,okK κ t=true->K t)->allK κ K
 | .i k,K,_,h=>λn=>h _ (by simp [okK])
 | .u8,K,_,h=>λn=>h _ rfl
 | .u64,K,_,h=>λn=>h _ rfl
 | .b,K,_,h=>λn=>h _ rfl
 | .s,K,_,h=>λn=>h _ rfl
 | .p,K,_,h=>λn=>h _ rfl
 | .sl,K,_,h=>λn=>h _ rfl
 | .m,K,_,h=>λn=>h _ rfl
 | .v,K,_,h=>λn=>h _ rfl
 | .agg fs,K,hn,h=>by
   unfold allK
   exact allKs_of fs _ (by simpa [noLa] using hn) λxs hx=>h _ (by simpa [okK] using hx)
 | .tup fs,K,hn,h=>by
   unfold allK
   exact allKs_of fs _ (by simpa [noLa] using hn) λxs hx=>h _ (by simpa [okK] using hx)
 | .la _ _,K,hn,h=>by simp [noLa] at hn
theorem allKs_of : ∀ (κs:List Kd) (K:List TV->Prop),noLas κs=true->(∀ ts,okKs κs ts=true->K ts)->allKs κs K
 | [],K,_,h=>h [] rfl
 | k :: r,K,hn,h=>by
   unfold allKs
   simp only [noLas,Bool.and_eq_true] at hn
   exact allK_of k _ hn.1 λx hx=>allKs_of r _ hn.2 λxs hxs=>h _ (by simp [okKs,hx,hxs])
end
theorem sim_bindPs : ∀ (ps:List Tmp) (ks:List Kd) (xs:List TV) (env:Env) (t0:Array Value),Sim N env t0->(ps.all λt=>Nat.blt t N)=true->okKs ks xs=true->
 Sim N (bindPs ps xs env) ((ps.zip (encL xs)).foldl (λt (q:Tmp×Value)=>t.setIfInBounds q.1 q.2) t0)
 | [],ks,xs,env,t0,h,_,_=>by cases xs <;> exact h
 | t :: ts,ks,[],env,t0,h,_,_=>by simpa [bindPs,encL] using h
 | t :: ts,[],x :: xs,env,t0,h,_,ho=>by simp [okKs] at ho
 | t :: ts,k :: ks,x :: xs,env,t0,h,hp,ho=>by
   simp only [okKs,Bool.and_eq_true] at ho
   simp only [List.all_cons,Bool.and_eq_true] at hp
   simp only [bindPs,encL,List.zip_cons_cons,List.foldl_cons]
   exact sim_bindPs ts ks xs _ _ (h.put (by simpa using hp.1) λ_=>rfl) hp.2 ho.2
theorem rangeFunc_wp {g:Operand} {ps:Array Tmp} {assign body:Code} {hasRet:Bool} {ids:List Nat} {ks:List Kd} {a b:Ann} {k:Kt} {ds:List Deferred} {env:Env} {w:World} {t0:Array Value}
 (iha : ∀ (r:Option Nat) (ann:Ann) (k:Kt) (ds:List Deferred) (env:Env) (w:World) (t0:Array Value),Sim N env t0->den P N r ann assign k ds env w->assign.wpIn (Fr r) 0 P (QK N k (writes assign) t0 (quiet assign) ds) ⟨t0,ds⟩ w)
 (ihb : ∀ (r:Option Nat) (ann:Ann) (k:Kt) (ds:List Deferred) (env:Env) (w:World) (t0:Array Value),Sim N env t0->den P N r ann body k ds env w->body.wpIn (Fr r) 0 P (QK N k (writes body) t0 (quiet body) ds) ⟨t0,ds⟩ w)
 (hs:Sim N env t0) (h:den P N none (.rf hasRet ids ks a b) (.rangeFunc g ps assign body) k ds env w) :
 (Code.rangeFunc g ps assign body).wpIn (Fr none) 0 P (QK N k (writes (.rangeFunc g ps assign body)) t0 false ds) ⟨t0,ds⟩ w:=by
 simp only [den] at h
 split at h
 case h_2=>exact h.elim
 rename_i fv hg
 cases hc:(noLas ks&&Nat.beq ps.size ks.length&&ps.toList.all (λt=>Nat.blt t N)&&quiet assign&&quiet body) with
 | false=>simp only [hc,cond_false] at h
 | true=>
   simp only [hc,cond_true] at h
   simp only [Bool.and_eq_true] at hc
   obtain ⟨⟨⟨⟨c2,c3⟩,c4⟩,c5⟩,c6⟩:=hc
   obtain ⟨f,first,cap,rfl,c1,h⟩:=h
   have c3':ps.size=ks.length:=by simpa using c3
   refine wpIn_rangeFunc λfn hfn=>?_
   obtain ⟨W1,hW1⟩ : ∃ W1,W1=(w.alloc (.deferred (some []))).alloc (.loop {state:=.ready,pending:=none,fn:=fn,tmps:=t0,params:=ps,assign:=assign,body:=body,defers:=w.heap.size}):=⟨_,rfl⟩
   have h:=h (λst pe=>.loop {state:=st,pending:=pe,fn:=fn,tmps:=t0,params:=ps,assign:=assign,body:=body,defers:=w.heap.size}) w.heap.size (w.heap.size+1) W1 rfl rfl hW1
   have hge:((⟨t0,ds⟩:Act)).eval g = .func (.func f) first cap:=hs.is (a:=⟨t0,ds⟩) hg rfl
   refine ⟨w.heap.size+1,[mkD w.heap.size],W1,{target:=.fn (.func f) cap,args:=first++#[.func (.yield (w.heap.size+1)) #[] #[]]},W1,f,first++#[.func (.yield (w.heap.size+1)) #[] #[]]++cap,W1,
    by rw [hW1]; exact run_enterLoop_outer _ _ _ _ _,?_,λ_ _=>trivial,?_,λe=>by simp [Fence.wide] at e,?_⟩
   ·simp [resolve,hge,Deferred.ofValue]
    rfl
   ·simp only [invoke]
    exact enters_run c1 _
   ·have hcall:=h (allKs_of ks _ c2 λxs hxs w2 K hw2 hden=>by
     have hlen:=okKs_len _ _ hxs
     have hy:=run_yield (P:=P) (args:=(encL xs).toArray) hw2 (by simp [encL_len,hlen,c3'])
     refine ⟨_,_,_,_,hy,?_⟩
     have hs1:Sim N (bindPs ps.toList xs env) ((ps.zip (encL xs).toArray).foldl (λtmps (x:Tmp×Value)=>tmps.setIfInBounds x.1 x.2) t0):=by
      have:=sim_bindPs ps.toList ks xs env t0 hs c4 hxs
      rw [<-Array.foldl_toList]
      simpa using this
     refine roundIn_of_wpIn (F:=Fence.wide) trivial ?_
     refine wpIn_mono (iha (some (w.heap.size+1)) a _ [] _ w2 _ hs1 hden) ?_
     intro e a3 w3 hq
     cases e with
     | normal=>
       obtain ⟨hd3,_,env3,hs3,hh,hbody⟩:=hq
       have hd3:=hd3 c5
       refine ⟨_,run_beginRound hh rfl,?_⟩
       have hb:=ihb (some (w.heap.size+1)) b _ [] _ _ _ hs3 hbody
       have ea:a3=⟨a3.tmps,[]⟩:=by rw [<-hd3]
       rw [ea]
       refine wpIn_mono hb ?_
       intro e a4 w4 hq4
       cases e with
       | normal=>
         obtain ⟨_,_,_,_,hh4,hk⟩:=hq4
         exact ⟨_,_,run_endRound none hh4,_,rfl,hk⟩
       | ret=>
         obtain ⟨_,_,_,_,hh4,hk⟩:=hq4
         exact ⟨_,_,run_endRound (some .ret) hh4,_,rfl,hk⟩
       | exit id=>
         obtain ⟨_,_,_,_,hh4,hk⟩:=hq4
         exact ⟨_,_,run_endRound (some (.exit id)) hh4,_,rfl,hk⟩
       | panic c=>obtain ⟨_,_,_,hk⟩:=hq4; exact hk.elim
       | goto l=>exact hq4.elim
       | outgrown=>exact hq4.elim
     | ret=>obtain ⟨_,_,_,_,hk⟩:=hq; exact hk.elim
     | exit id=>obtain ⟨_,_,_,_,hk⟩:=hq; exact hk.elim
     | panic c=>obtain ⟨_,_,_,hk⟩:=hq; exact hk.elim
     | goto l=>exact hq.elim
     | outgrown=>exact hq.elim)
    have e:(first.toList++[Value.func (.yield (w.heap.size+1)) #[] #[]]++cap.toList).toArray=first++#[Value.func (.yield (w.heap.size+1)) #[] #[]]++cap:=by apply Array.ext'; simp
    unfold callK at hcall
    rw [e] at hcall
    refine callsIn_fr.2 (Calls.mono hcall λe w6 he=>?_)
    cases e with
    | outgrown=>exact he.elim
    | panicked c=>exact ⟨Same.refl _ _,env,hs,he⟩
    | returned v=>
      rcases he with ⟨hh,hk⟩ | hk | hk
      ·exact ⟨none,_,run_endLoop hh (by simp),λe=>by simp at e,Same.refl _ _,env,hs,hk⟩
      ·cases hasRet with
       | false=>exact hk.elim
       | true=>
         obtain ⟨hh,hk⟩:=hk
         exact ⟨some .ret,_,run_endLoop hh (by simp),wpIn_ret ⟨λe=>by simp at e,Same.refl _ _,env,hs,hk⟩⟩
      ·have : ∀ ids,orIds (λid=>w6.heap[w.heap.size+1]? = some (Obj.loop {state:=.done,pending:=some (.exit id),fn:=fn,tmps:=t0,params:=ps,assign:=assign,body:=body,defers:=w.heap.size})/\k.ext id (mkD w.heap.size :: ds) env (w6.putObj (w.heap.size+1) (Obj.loop {state:=.exhausted,pending:=some (.exit id),fn:=fn,tmps:=t0,params:=ps,assign:=assign,body:=body,defers:=w.heap.size}))) ids->
        ∃ id,w6.heap[w.heap.size+1]? = some (Obj.loop {state:=.done,pending:=some (.exit id),fn:=fn,tmps:=t0,params:=ps,assign:=assign,body:=body,defers:=w.heap.size})/\k.ext id (mkD w.heap.size :: ds) env (w6.putObj (w.heap.size+1) (Obj.loop {state:=.exhausted,pending:=some (.exit id),fn:=fn,tmps:=t0,params:=ps,assign:=assign,body:=body,defers:=w.heap.size})):=by
        intro ids
        induction ids with
        | nil=>intro h; exact h.elim
        | cons i r ih=>intro h; rcases h with h | h; exact ⟨i,h⟩; exact ih h
       obtain ⟨id,hh,hk⟩:=this ids hk
       exact ⟨some (.exit id),_,run_endLoop hh (by simp),wpIn_exit ⟨λe=>by simp at e,Same.refl _ _,env,hs,hk⟩⟩
theorem den_wp : ∀ (c:Code) (r:Option Nat) (ann:Ann) (k:Kt) (ds:List Deferred) (env:Env) (w:World) (t0:Array Value),Sim N env t0->den P N r ann c k ds env w->c.wpIn (Fr r) 0 P (QK N k (writes c) t0 (quiet c) ds) ⟨t0,ds⟩ w:=by
 intro c
 induction c with
 | skip=>intro r ann k ds env w t0 hs h; exact wpIn_skip ⟨λ_=>rfl,Same.refl _ _,env,hs,by simpa [den] using h⟩
 | ret=>intro r ann k ds env w t0 hs h; exact wpIn_ret ⟨λ_=>rfl,Same.refl _ _,env,hs,by simpa [den] using h⟩
 | exit id=>intro r ann k ds env w t0 hs h; exact wpIn_exit ⟨λ_=>rfl,Same.refl _ _,env,hs,by simpa [den] using h⟩
 | region id ops draw=>
   intro r ann k ds env w t0 hs h
   cases draw with
   | false=>
     have h':denOps P N r ops.toList (λds c w=>k.pan ds (poison (opsWrite ops.toList) env) c w) ops.toList k.nrm ds env w:=by cases r <;> simpa [den] using h
     have:=wp_region_list' (P:=P) (r:=r) (id:=id) (ops:=ops.toList) (Q:=QK N k (writes (.region id ops false)) t0 (quiet (.region id ops false)) ds) (a:=⟨t0,ds⟩) (w:=w)
      (denOps_wp (ws:=opsWrite ops.toList) (t0:=t0) (λc a' w' hz hsm hp=>⟨hsm,_,sim_poison hs hz hsm,hp⟩) ops.toList env ⟨t0,ds⟩ w hs (Same.refl _ _) (λ_ h=>h) h' (λenv' a' w' h1 h2 h3 h4=>⟨λe=>h2 (by simpa [quiet] using e),h3,env',h1,h4⟩))
     simpa using this
   | true=>
     cases ann with
     | draw fl d=>
       have gen : ∀ (S:World->Prop) (LD:Addr->List Value->Prop),(∀ ad cs,LD ad cs->∀ w',S w'->Rd w' ad cs)->(Region.noSelect ops&&P.follows .mixedOrders&&!opsDefer ops.toList)=true->S w.drew->
        denDraw P N ops S LD (k.pan ds (poison (opsWrite ops.toList) env)) (k.nrm ds) d ops.size (Array.replicate ops.size false) env w.drew->(Code.region id ops true).wpIn (Fr r) 0 P (QK N k (writes (.region id ops true)) t0 (quiet (.region id ops true)) ds) ⟨t0,ds⟩ w:=by
        intro S LD hLD hc hS h
        simp only [Bool.and_eq_true,Bool.not_eq_true'] at hc
        refine wpIn_mono (wpIn_region_any' (S:=S) hc.1.2 (denDraw_wp hc.1.1 (noDefer_of hc.2) hLD (Q:=QR N k (opsWrite ops.toList) t0 (quiet (.region id ops true)) ds env) (t0:=t0) (d0:=ds)
         (λc a d v w hd=>by
          simp only [QR,put_defers,put_size]
          refine ⟨λhq=>⟨hq.1,λt ht=>?_,hq.2.2⟩,λhq=>⟨hq.1,λt ht=>?_,hq.2.2⟩⟩
          ·rw [<-hq.2.1 t ht]
           exact (Same.put a d v hd t ht).symm
          ·rw [<-hq.2.1 t ht]
           exact Same.put a d v hd t ht) (λc a' w' hz hsm hd hp=>by simp only [QR]; rw [hd]; exact ⟨hz,hsm,hp⟩)
         (λenv' a' w' h1 h2 h3 h4=>⟨λ_=>h2,h3,env',h1,by rw [h2]; exact h4⟩) d ops.size _ env ⟨t0,ds⟩ w.drew hs rfl (Same.refl _ _) (.inl hS) (closed_none _ _) h)) ?_
        intro e a' w' hq
        cases e with
        | panic c=>obtain ⟨q1,q2,q3⟩:=hq; exact ⟨q2,_,sim_poison hs q1 q2,q3⟩
        | normal=>exact hq
        | ret=>exact hq
        | exit i=>exact hq
        | goto l=>exact hq
        | outgrown=>exact hq
       match fl,h with
       | 0,h=>
         have h:(bif Region.noSelect ops&&P.follows .mixedOrders&&!opsDefer ops.toList then denDraw P N ops (λ_=>True) (λ_ _=>False) (k.pan ds (poison (opsWrite ops.toList) env)) (k.nrm ds) d ops.size (Array.replicate ops.size false) env w.drew else False):=by cases r <;> simpa only [den] using h
         cases hc:(Region.noSelect ops&&P.follows .mixedOrders&&!opsDefer ops.toList) with
         | false=>simp only [hc,cond_false] at h
         | true=>simp only [hc,cond_true] at h; exact gen _ _ (λ_ _ h=>h.elim) hc trivial h
       | 1,h=>
         have h:(bif Region.noSelect ops&&P.follows .mixedOrders&&!opsDefer ops.toList then ∃ S:World->Prop,S w.drew/\denDraw P N ops S (λad cs=>∀ w',S w'->Rd w' ad cs) (k.pan ds (poison (opsWrite ops.toList) env)) (k.nrm ds) d ops.size (Array.replicate ops.size false) env w.drew else False):=by cases r <;> simpa only [den] using h
         cases hc:(Region.noSelect ops&&P.follows .mixedOrders&&!opsDefer ops.toList) with
         | false=>simp only [hc,cond_false] at h
         | true=>simp only [hc,cond_true] at h; obtain ⟨S,hS,h⟩:=h; exact gen S _ (λ_ _ h=>h) hc hS h
       | 2,h=>
         have h:(bif Region.noSelect ops&&P.follows .mixedOrders&&!opsDefer ops.toList then denDraw P N ops (λw'=>w'=w.drew) (λad cs=>Rd w.drew ad cs) (k.pan ds (poison (opsWrite ops.toList) env)) (k.nrm ds) d ops.size (Array.replicate ops.size false) env w.drew else False):=by cases r <;> simpa only [den] using h
         cases hc:(Region.noSelect ops&&P.follows .mixedOrders&&!opsDefer ops.toList) with
         | false=>simp only [hc,cond_false] at h
         | true=>simp only [hc,cond_true] at h; exact gen (λw'=>w'=w.drew) (λad cs=>Rd w.drew ad cs) (λ_ _ h w' e=>by rw [e]; exact h) hc rfl h
       | n+3,h=>cases r <;> simp [den] at h
     | _=>cases r <;> simp [den] at h
 | seq x y ihx ihy=>
   intro r ann k ds env w t0 hs h
   have hqx:quiet (x.seq y)=true->quiet x=true:=λe=>by simp [quiet] at e; exact e.1
   have hqy:quiet (x.seq y)=true->quiet y=true:=λe=>by simp [quiet] at e; exact e.2
   have hx : ∀ t,t∈writes x->t∈writes (x.seq y):=λt ht=>by simp [writes,ht]
   have hy : ∀ t,t∈writes y->t∈writes (x.seq y):=λt ht=>by simp [writes,ht]
   cases ann with
   | seq j a b=>
     cases j with
     | none=>
       have h:den P N r a x {k with nrm:=λds env w=>den P N r b y k ds env w} ds env w:=by cases r <;> simpa only [den] using h
       refine wpIn_seq (wpIn_mono (ihx r a _ ds env w t0 hs h) ?_)
       intro e act w' hq
       cases e with
       | normal=>
         obtain ⟨hd,hsm,env',hs',hk⟩:=hq
         exact wpIn_mono (ihy r b k act.defers env' w' act.tmps hs' hk) (QK.mono hqy (λe=>hd (hqx e)) hsm hx hy)
       | ret=>exact ⟨λe=>hq.1 (hqx e),hq.2.1.mono hx,hq.2.2⟩
       | exit i=>exact ⟨λe=>hq.1 (hqx e),hq.2.1.mono hx,hq.2.2⟩
       | panic c=>exact ⟨hq.1.mono hx,hq.2⟩
       | goto l=>exact hq.elim
       | outgrown=>exact hq.elim
     | some vs=>
       have h:(bif quiet x then ∃ J:List TV->World->Prop,den P N r a x {k with nrm:=λ_ env w=>bif okKs (kinds vs) (vals env vs) then J (vals env vs) w else False} ds env w/\
        allKs (kinds vs) λxs=>∀ w,J xs w->den P N r b y k ds (binds vs xs++poison (writes x) env) w else False):=by cases r <;> simpa only [den] using h
       cases hqq:quiet x with
       | false=>simp [hqq] at h
       | true=>
         simp only [hqq,cond_true] at h
         obtain ⟨J,h,hrest⟩:=h
         refine wpIn_seq (wpIn_mono (ihx r a _ ds env w t0 hs h) ?_)
         intro e act w' hq
         cases e with
         | normal=>
           obtain ⟨hd,hsm,env',hs',hk⟩:=hq
           have hd:=hd hqq
           simp only at hk
           cases hok:okKs (kinds vs) (vals env' vs) with
           | false=>simp only [hok,cond_false] at hk
           | true=>
             simp only [hok,cond_true] at hk
             have:=ihy r b k act.defers _ w' act.tmps (sim_join hs hs' hsm rfl) (by rw [hd]; exact allKs_in _ _ _ hrest hok w' hk)
             exact wpIn_mono this (QK.mono hqy (λe=>hd) hsm hx hy)
         | ret=>exact ⟨λe=>hq.1 (hqx e),hq.2.1.mono hx,hq.2.2⟩
         | exit i=>exact ⟨λe=>hq.1 (hqx e),hq.2.1.mono hx,hq.2.2⟩
         | panic c=>exact ⟨hq.1.mono hx,hq.2⟩
         | goto l=>exact hq.elim
         | outgrown=>exact hq.elim
   | _=>cases r <;> simp [den] at h
 | cond c x y ihx ihy=>
   intro r ann k ds env w t0 hs h
   cases ann with
   | cond a b=>
     have h:(match ev env c with | .b t=>condK t (den P N r a x k ds (subB env c true) w) (den P N r b y k ds (subB env c false) w) | _=>False):=by cases r <;> (simp only [den] at h; exact h)
     split at h
     ·rename_i t hc
      have he:=hs.is (a:=⟨t0,ds⟩) hc rfl
      cases t with
      | true=>exact wpIn_cond_true he (wpIn_mono (ihx r a k ds _ w t0 (subB_sim hs hc) h) (QK.mono (λe=>by simp [quiet] at e; exact e.1) (λ_=>rfl) (Same.refl [] t0) (by simp) (λt ht=>by simp [writes,ht])))
      | false=>exact wpIn_cond_false he (wpIn_mono (ihy r b k ds _ w t0 (subB_sim hs hc) h) (QK.mono (λe=>by simp [quiet] at e; exact e.2) (λ_=>rfl) (Same.refl [] t0) (by simp) (λt ht=>by simp [writes,ht])))
     ·exact h.elim
   | _=>cases r <;> simp [den] at h
 | block id x ih=>
   intro r ann k ds env w t0 hs h
   cases ann with
   | block j a=>
     cases j with
     | none=>
       have h:den P N r a x {k with ext:=λi ds env w=>bif Nat.beq i id then k.nrm ds env w else k.ext i ds env w} ds env w:=by cases r <;> simpa only [den] using h
       refine wpIn_block (wpIn_mono (ih r a _ ds env w t0 hs h) ?_)
       intro e act w' hq
       cases e with
       | exit i=>
         obtain ⟨hd,hsm,env',hs',hk⟩:=hq
         simp only at hk
         simp only [Exit.inBlock]
         by_cases e:i=id
         ·subst e
          rw [if_pos rfl]
          simp only [Nat.beq_refl,cond_true] at hk
          exact ⟨hd,hsm,env',hs',hk⟩
         ·rw [if_neg e]
          have:Nat.beq i id=false:=by
           cases hb:Nat.beq i id with
           | false=>rfl
           | true=>exact absurd (Nat.eq_of_beq_eq_true hb) e
          rw [this] at hk
          exact ⟨hd,hsm,env',hs',hk⟩
       | normal=>exact hq
       | ret=>exact hq
       | panic c=>exact hq
       | goto l=>exact hq.elim
       | outgrown=>exact hq.elim
     | some vs=>
       have h:(bif quiet x then ∃ J:List TV->World->Prop,den P N r a x {k with
        nrm:=λ_ env w=>bif okKs (kinds vs) (vals env vs) then J (vals env vs) w else False
        ext:=λi ds env w=>bif Nat.beq i id then (bif okKs (kinds vs) (vals env vs) then J (vals env vs) w else False) else k.ext i ds env w} ds env w/\
        allKs (kinds vs) λxs=>∀ w,J xs w->k.nrm ds (binds vs xs++poison (writes x) env) w else False):=by cases r <;> simpa only [den] using h
       cases hqq:quiet x with
       | false=>simp [hqq] at h
       | true=>
         simp only [hqq,cond_true] at h
         obtain ⟨J,h,hrest⟩:=h
         refine wpIn_block (wpIn_mono (ih r a _ ds env w t0 hs h) ?_)
         have fin : ∀ (env':Env) (act:Act) (w':World),act.defers=ds->Same (writes x) t0 act.tmps->Sim N env' act.tmps->(bif okKs (kinds vs) (vals env' vs) then J (vals env' vs) w' else False)->
          QK N k (writes (.block id x)) t0 (quiet (.block id x)) ds .normal act w':=by
          intro env' act w' hd hsm hs' hk
          cases hok:okKs (kinds vs) (vals env' vs) with
          | false=>simp only [hok,cond_false] at hk
          | true=>
            simp only [hok,cond_true] at hk
            exact ⟨λ_=>hd,hsm,_,sim_join hs hs' hsm rfl,by rw [hd]; exact allKs_in _ _ _ hrest hok w' hk⟩
         intro e act w' hq
         cases e with
         | exit i=>
           obtain ⟨hd,hsm,env',hs',hk⟩:=hq
           simp only at hk
           simp only [Exit.inBlock]
           by_cases e:i=id
           ·subst e
            rw [if_pos rfl]
            simp only [Nat.beq_refl,cond_true] at hk
            exact fin env' act w' (hd hqq) hsm hs' hk
           ·rw [if_neg e]
            have:Nat.beq i id=false:=by
             cases hb:Nat.beq i id with
             | false=>rfl
             | true=>exact absurd (Nat.eq_of_beq_eq_true hb) e
            rw [this] at hk
            exact ⟨hd,hsm,env',hs',hk⟩
         | normal=>
           obtain ⟨hd,hsm,env',hs',hk⟩:=hq
           exact fin env' act w' (hd hqq) hsm hs' hk
         | ret=>exact hq
         | panic c=>exact hq
         | goto l=>exact hq.elim
         | outgrown=>exact hq.elim
   | _=>cases r <;> simp [den] at h
 | loop x ih=>
   intro r ann k ds env w t0 hs h
   cases ann with
   | loop vs a=>
     have h:(bif okKs (kinds vs) (vals env vs)&&quiet x then
      ∃ (I:List TV->World->Prop) (μ:List TV->World->Nat),I (vals env vs) w/\
        allKs (kinds vs) λxs=>∀ w,I xs w->den P N r a x {k with
         nrm:=λ_ env' w'=>bif okKs (kinds vs) (vals env' vs) then I (vals env' vs) w'/\μ (vals env' vs) w'<μ xs w else False}
         ds (binds vs xs++poison (writes x) env) w else False):=by cases r <;> simpa only [den] using h
     cases hok:(okKs (kinds vs) (vals env vs)&&quiet x) with
     | false=>simp only [hok,cond_false] at h
     | true=>
       simp only [hok,cond_true] at h
       simp only [Bool.and_eq_true] at hok
       obtain ⟨hok,hqq⟩:=hok
       obtain ⟨I,μ,hI,hround⟩:=h
       refine wpIn_loop_ghost (λn act w=>act.defers=ds/\Same (writes x) t0 act.tmps/\∃ env',Sim N env' act.tmps/\okKs (kinds vs) (vals env' vs)=true/\I (vals env' vs) w/\μ (vals env' vs) w=n)
        (μ (vals env vs) w) ⟨rfl,Same.refl _ _,env,hs,hok,hI,rfl⟩ ?_
       rintro n act w ⟨hd,hsm,env',hs',hok',hI',hμ⟩
       have hb:=allKs_in _ _ _ hround hok' w hI'
       have:=ih r a _ ds _ w act.tmps (sim_join hs hs' hsm rfl) hb
       rw [<-hd] at this
       refine wpIn_mono this ?_
       intro e act' w' hq
       rw [hd] at hq
       cases e with
       | normal=>
         obtain ⟨hd2,hsm2,env2,hs2,hk⟩:=hq
         simp only at hk
         cases hok2:okKs (kinds vs) (vals env2 vs) with
         | false=>simp only [hok2,cond_false] at hk
         | true=>
           simp only [hok2,cond_true] at hk
           exact ⟨_,hμ ▸ hk.2,hd2 hqq,Same.trans hsm hsm2 (λ_ h=>h) (λ_ h=>h),env2,hs2,hok2,hk.1,rfl⟩
       | ret=>exact ⟨hq.1,Same.trans hsm hq.2.1 (λ_ h=>h) (λ_ h=>h),hq.2.2⟩
       | exit i=>exact ⟨hq.1,Same.trans hsm hq.2.1 (λ_ h=>h) (λ_ h=>h),hq.2.2⟩
       | panic c=>exact ⟨Same.trans hsm hq.1 (λ_ h=>h) (λ_ h=>h),hq.2⟩
       | goto l=>exact hq.elim
       | outgrown=>exact hq.elim
   | unroll n a=>
     have h:unr n (λnrm ds env w=>den P N r a x {k with nrm:=nrm} ds env w) ds env w:=by cases r <;> simpa only [den] using h
     refine wpIn_loop_rounds n ?_
     have go : ∀ (n:Nat) (act:Act) (env:Env) (w:World),Sim N env act.tmps->Same (writes x) t0 act.tmps->(quiet x=true->act.defers=ds)->unr n (λnrm ds env w=>den P N r a x {k with nrm:=nrm} ds env w) act.defers env w->
      Code.roundsIn (Fr r) 0 P x (QK N k (writes (.loop x)) t0 (quiet (.loop x)) ds) n act w:=by
      intro n
      induction n with
      | zero=>intro act env w _ _ _ h; exact h.elim
      | succ n ihn=>
        intro act env w hs hsm hd h
        rw [roundsIn_succ]
        refine wpIn_mono (ih r a _ act.defers env w act.tmps hs h) ?_
        intro e act' w' hq
        cases e with
        | normal=>
          obtain ⟨hd2,hsm2,env2,hs2,hk⟩:=hq
          exact ihn act' env2 w' hs2 (Same.trans hsm hsm2 (λ_ h=>h) (λ_ h=>h)) (λe=>(hd2 e).trans (hd e)) hk
        | ret=>exact ⟨λe=>(hq.1 e).trans (hd e),Same.trans hsm hq.2.1 (λ_ h=>h) (λ_ h=>h),hq.2.2⟩
        | exit i=>exact ⟨λe=>(hq.1 e).trans (hd e),Same.trans hsm hq.2.1 (λ_ h=>h) (λ_ h=>h),hq.2.2⟩
        | panic c=>exact ⟨Same.trans hsm hq.1 (λ_ h=>h) (λ_ h=>h),hq.2⟩
        | goto l=>exact hq.elim
        | outgrown=>exact hq.elim
     exact go n ⟨t0,ds⟩ env w hs (Same.refl _ _) (λ_=>rfl) h
   | _=>cases r <;> simp [den] at h
 | rangeFunc g ps assign body iha ihb=>
   intro r ann k ds env w t0 hs h
   cases r with
   | some l=>cases ann <;> simp [den] at h
   | none=>
     cases ann with
     | rf hasRet ids ks a b=>exact rangeFunc_wp iha ihb hs h
     | _=>simp [den] at h
 | _=>intro r ann k ds env w t0 hs h; cases r <;> simp [den] at h
theorem envOf_look : ∀ (i:Nat) (xs:List TV) (t:Nat),(look (envOf i xs) t).isBad=false->∃ j x,t=i+j/\xs[j]? = some x/\look (envOf i xs) t=x
 | i,[],t,h=>by simp [envOf,look,TV.isBad] at h
 | i,x :: r,t,h=>by
   unfold envOf at h ⊢
   rw [look_cons] at h ⊢
   by_cases e:i=t
   ·subst e; exact ⟨0,x,rfl,rfl,by simp⟩
   ·simp only [e,↓reduceIte] at h ⊢
    obtain ⟨j,y,h1,h2,h3⟩:=envOf_look (i+1) r t h
    exact ⟨j+1,y,by omega,by simpa using h2,h3⟩
theorem retK_run {fn:Func} {tmps:Array Value} {env:Env} {w:World} (hs:Sim N env tmps) :
 ∀ (l:List ResultVar) (acc:List TV) (K:TV->Prop),retK P env w l acc K->∃ xs:List TV,(l.mapM λ
   | .tmp t=>pure (tmps.getD t undef)
   | .cell a t=>do loadVar t (<-asAddr (tmps.getD a undef)):Sem (List Value)).run P w = .ok (encL xs) w/\K (packV (acc.reverse++xs))
 | [],acc,K,h=>⟨[],rfl,by simpa [retK] using h⟩
 | .tmp t :: r,acc,K,h=>by
   unfold retK at h
   cases hb:(look env t).isBad with
   | true=>simp [hb] at h
   | false=>
     simp only [hb,cond_false] at h
     obtain ⟨xs,h1,h2⟩:=retK_run (fn:=fn) hs r _ K h
     refine ⟨look env t :: xs,?_,by simpa using h2⟩
     have:=hs.2 t hb
     simp only [List.mapM_cons,Sem.run_bind,Sem.run_pure,Result.andThen_ok]
     rw [h1]
     simp [this,encL]
 | .cell t T :: r,acc,K,h=>by
   unfold retK at h
   split at h
   ·rename_i q hq
    obtain ⟨ad,rfl,h⟩:=onSome_out h
    cases hf:kdFit P T with
    | false=>simp [hf,onSome] at h
    | true=>
      simp only [hf,cond_true] at h
      obtain ⟨x,x1,x2,x3,hr,h⟩:=exK_out _ _ h
      obtain ⟨xs,h1,h2⟩:=retK_run (fn:=fn) hs r _ K h
      refine ⟨x :: xs,?_,by simpa using h2⟩
      have ht:tmps[t]? = some (.pointer (some ad)):=by
       have:=hs.2 t (by rw [hq]; rfl)
       rw [hq] at this
       exact this
      have hlv:=run_loadVar (P:=P) hf x1 x2 x3 hr
      have e:(do loadVar T (<-asAddr (tmps.getD t undef)):Sem Value).run P w = .ok x.enc w:=by simp [ht,asAddr,hlv]
      simp only [List.mapM_cons]
      rw [Sem.run_bind,e]
      simp only [Result.andThen_ok,Sem.run_bind]
      rw [h1]
      simp [encL]
   ·exact h.elim
theorem encL_get : ∀ (l:List TV) (i:Nat),(encL l)[i]? = (l[i]?).map TV.enc
 | [],i=>by simp [encL]
 | x :: r,0=>by simp [encL]
 | x :: r,i+1=>by simp [encL,encL_get r i]
theorem retK_post {fn:Func} {R:Ending->World->Prop} {tmps:Array Value} {w:World} {env:Env} (hs:Sim N env tmps) (h:retK P env w fn.results.toList [] λt=>R (.returned t.enc) w) :
 ∃ v,(results fn tmps).run P w = .ok v w/\R (.returned v) w:=by
 obtain ⟨xs,h1,h2⟩:=retK_run (fn:=fn) hs fn.results.toList [] _ h
 simp only [List.reverse_nil,List.nil_append] at h2
 refine ⟨_,?_,h2⟩
 unfold results
 rw [Array.mapM_eq_mapM_toList]
 simp only [Sem.run_bind,Sem.run_map]
 erw [h1]
 simp only [Result.andThen_ok,Sem.run_pure]
 congr 1
 match xs with
 | []=>rfl
 | [x]=>simp [encL,packV]
 | x :: y :: r=>simp [encL,packV,TV.enc]
theorem leave_ret {fn:Func} {tmps:Array Value} {R:Ending->World->Prop} {K:FrameMode->World->Prop} (hK : ∀ u w,K u w->LeavesInM Fence.wide 0 P fn tmps R [] u w) :
 ∀ (ds:List Deferred) (u:FrameMode) (w:World),u≠.run->leaveK P ds u w K->LeavesInM Fence.wide 0 P fn tmps R ds u w
 | [],u,w,_,h=>hK u w h
 | d :: ds,u,w,hu,h=>by
   obtain ⟨t,ar⟩:=d
   unfold leaveK at h
   simp only at h
   split at h
   ·rename_i D
    obtain ⟨h1,h2⟩:=h
    exact ⟨hu,.inl ⟨D,_,rfl,run_takeDeferred h1,leave_ret hK ds u _ hu h2⟩⟩
   ·rename_i f cap
    cases he:enters P f with
    | false=>simp [he] at h
    | true=>
      simp only [he,cond_true] at h
      refine ⟨hu,.inr ⟨λe=>by simp [Fence.wide] at e,.func f,cap,f,ar++cap,rfl,?_,λ_ _=>trivial,?_⟩⟩
      ·simpa [invoke] using enters_run he w
      ·refine CallsDIn.mono h λe u' w' hr=>?_
       cases e with
       | returned v=>
         exact leave_ret hK ds (settle u') w' hr.1 hr.2
       | panicked c=>
         exact leave_ret hK ds (raised u' c) w' hr.1 hr.2
       | outgrown=>exact hr.elim
   ·exact h.elim
theorem calls_of_den {f:FuncId} {fn:Func} {c:Code} (ann:Ann) (hf:P.funcs[f]? = some fn) (hb:fn.body=some c) (args:List TV) (hl:args.length<=fn.ntmps) {w:World} {R:Ending->World->Prop}
 (h:den P fn.ntmps none ann c (ktOf P fn R) [] (envOf 0 args) w):Calls P f (encL args).toArray w R:=by
 refine callsIn_wide.1 (callsIn_of_wp_marks (F:=Fence.wide) (n:=0) hf hb trivial ?_)
 have hs:Sim fn.ntmps (envOf 0 args) ((encL args).toArray++Array.replicate (fn.ntmps - (encL args).toArray.size) undef):=by
  have hle:=encL_len args
  refine ⟨by simp [hle]; omega,λt ht=>?_⟩
  obtain ⟨j,x,h1,h2,h3⟩:=envOf_look 0 args t ht
  rw [h3]
  have:t=j:=by omega
  subst this
  have hjl:t<args.length:=(List.getElem?_eq_some_iff.1 h2).1
  rw [Array.getElem?_append_left (by simpa [hle] using hjl)]
  simp [encL_get,h2]
 refine wpIn_mono (den_wp c none ann _ [] _ w _ hs h) ?_
 intro e a w' hq
 have fin : ∀ (env:Env),Sim fn.ntmps env a.tmps->retR P fn R a.defers env w'->LeavesInM Fence.wide 0 P fn a.tmps R a.defers .returning w':=λenv hs' hk=>
  leave_ret (λu w hw=>by
   cases u with
   | run=>exact hw.elim
   | returning=>exact retK_post hs' hw
   | panicking c=>exact hw) a.defers .returning w' (by simp) hk
 cases e with
 | normal=>obtain ⟨_,_,env,hs',hk⟩:=hq; exact fin env hs' hk
 | ret=>obtain ⟨_,_,env,hs',hk⟩:=hq; exact fin env hs' hk
 | exit i=>obtain ⟨hd,_,env,hs',hk⟩:=hq; exact hk.elim
 | panic c=>
   obtain ⟨_,env,hs',hk⟩:=hq
   exact leave_ret (λu w hw=>by
    cases u with
    | run=>exact hw.elim
    | returning=>exact retK_post hs' hw
    | panicking c=>exact hw) a.defers (.panicking c) w' (by simp) hk
 | goto l=>exact hq.elim
 | outgrown=>exact hq.elim
end
def panR (R:Ending->World->Prop):List PanicEntry->World->Prop:=λc w=>R (.panicked c) w
def bodyOf (f:Func):Code:=match f.body with | some c=>c | none=>.skip
theorem bodyOf_some {f:Func} (h:f.body.isSome=true):f.body=some (bodyOf f):=by
 unfold bodyOf
 cases hb:f.body with
 | none=>simp [hb] at h
 | some c=>rfl
theorem calls_of_form {S:Prop} {P:Program} {f:FuncId} {fn:Func} (ann:Ann) (hf:P.funcs[f]? = some fn) (hb:fn.body.isSome=true) (args:List TV) (hl:Nat.ble args.length fn.ntmps=true) {w:World} {R:Ending->World->Prop}
 (he:S=den P fn.ntmps none ann (bodyOf fn) (ktOf P fn R) [] (envOf 0 args) w) (h:S):Calls P f (encL args).toArray w R:=
 calls_of_den ann hf (bodyOf_some hb) args (Nat.le_of_ble_eq_true hl) (he ▸ h)
abbrev e5 (a b c d e:UInt64):Value:=.agg #[.int .u64 a.toNat,.int .u64 b.toNat,.int .u64 c.toNat,.int .u64 d.toNat,.int .u64 e.toNat]
abbrev l5 (a b c d e:UInt64):List Value:=[.int .u64 a.toNat,.int .u64 b.toNat,.int .u64 c.toNat,.int .u64 d.toNat,.int .u64 e.toNat]
abbrev e20 (a b c d e f g h i j k l m n o p q r s t:UInt64):Value:=.agg #[.int .u64 a.toNat,.int .u64 b.toNat,.int .u64 c.toNat,.int .u64 d.toNat,.int .u64 e.toNat,.int .u64 f.toNat,.int .u64 g.toNat,.int .u64 h.toNat,.int .u64 i.toNat,.int .u64 j.toNat,.int .u64 k.toNat,.int .u64 l.toNat,.int .u64 m.toNat,.int .u64 n.toNat,.int .u64 o.toNat,.int .u64 p.toNat,.int .u64 q.toNat,.int .u64 r.toNat,.int .u64 s.toNat,.int .u64 t.toNat]
abbrev l20 (a b c d e f g h i j k l m n o p q r s t:UInt64):List Value:=[.int .u64 a.toNat,.int .u64 b.toNat,.int .u64 c.toNat,.int .u64 d.toNat,.int .u64 e.toNat,.int .u64 f.toNat,.int .u64 g.toNat,.int .u64 h.toNat,.int .u64 i.toNat,.int .u64 j.toNat,.int .u64 k.toNat,.int .u64 l.toNat,.int .u64 m.toNat,.int .u64 n.toNat,.int .u64 o.toNat,.int .u64 p.toNat,.int .u64 q.toNat,.int .u64 r.toNat,.int .u64 s.toNat,.int .u64 t.toNat]
end Go.Sh
end
