/- The forms of the translated functions,their contracts and the plain laws behind them,put together by a program. -/
import Derived.Test.YtmgcoepbccgjfaaGreatDoorPB4
import Derived.Deep.LoopGhost
set_option linter.unusedSimpArgs false
set_option linter.unusedVariables false
set_option maxRecDepth 1000000
set_option maxHeartbeats 8000000
section
namespace Go.Sh
open Go
def Same (ws:List Nat) (t0 t1:Array Value):Prop:=∀ t,t ∉ ws->t1[t]? = t0[t]?
theorem Same.refl (ws:List Nat) (t:Array Value):Same ws t t:=λ_ _=>rfl
theorem Same.trans {a b c:List Nat} {x y z:Array Value} (h:Same a x y) (h':Same b y z) (ha : ∀ t,t∈a->t∈c) (hb : ∀ t,t∈b->t∈c):Same c x z:=
 λt ht=>(h' t (λe=>ht (hb t e))).trans (h t (λe=>ht (ha t e)))
theorem Same.mono {a c:List Nat} {x y:Array Value} (h:Same a x y) (ha : ∀ t,t∈a->t∈c):Same c x y:=λt ht=>h t (λe=>ht (ha t e))
theorem Same.put (a:Act) (d:Option Tmp) (v:Value) {ws:List Nat} (h : ∀ x,d=some x->x∈ws):Same ws a.tmps (a.put d v).tmps:=by
 intro t ht
 cases d with
 | none=>rfl
 | some x=>
   have:x≠t:=λe=>ht (e ▸ h x rfl)
   simp [Act.put,Array.getElem?_setIfInBounds_ne this]
section
variable {P:Program} {N:Nat}
theorem put_defers (a:Act) (d:Option Tmp) (v:Value):(a.put d v).defers=a.defers:=by cases d <;> rfl
theorem guard_split {ops:List Oper} {o:Oper} {env:Env} {a:Act} {yes no:Env->Prop} (hsim:Sim N env a.tmps) (h:guardK ops o env yes no) :
 (Region.wanted o (yielded ops.toArray a.tmps)=true/\∃ env',Sim N env' a.tmps/\yes env')\/(Region.wanted o (yielded ops.toArray a.tmps)=false/\∃ env',Sim N env' a.tmps/\no env'):=by
 unfold guardK at h
 unfold Region.wanted
 cases hg:o.guard with
 | none=>simp only [hg] at h; exact .inl ⟨rfl,env,hsim,h⟩
 | some jw=>
   obtain ⟨j,want⟩:=jw
   simp only [hg] at h
   cases hs:slotOf ops j with
   | none=>simp [hs] at h
   | some d=>
     simp only [hs] at h
     split at h
     ·rename_i t hl
      have ht:a.tmps[d]? = some (.bool t):=by
       have:=hsim.2 d (by rw [hl]; rfl)
       rw [hl] at this
       exact this
      have hy:yielded ops.toArray a.tmps j=some t:=by
       unfold yielded
       unfold slotOf at hs
       cases ho:ops[j]? with
       | none=>simp [ho] at hs
       | some oj=>
         simp [ho] at hs
         simp [ho,hs,ht]
      simp only [hy]
      have hsame:Sim N ((d,.b t) :: env) a.tmps:=hsim.same hl
      cases t <;> cases want <;> simp only [condK,cond_true,cond_false] at h
      ·exact .inl ⟨rfl,_,hsame,h⟩
      ·exact .inr ⟨rfl,_,hsame,h⟩
      ·exact .inr ⟨rfl,_,hsame,h⟩
      ·exact .inl ⟨rfl,_,hsame,h⟩
     ·rename_i fs hl
      have ht:a.tmps[d]? = some (.tuple (encL fs).toArray):=by
       have:=hsim.2 d (by rw [hl]; rfl)
       rw [hl] at this
       exact this
      have hy:yielded ops.toArray a.tmps j=none:=by
       unfold yielded
       unfold slotOf at hs
       cases ho:ops[j]? with
       | none=>simp [ho] at hs
       | some oj=>
         simp [ho] at hs
         simp [ho,hs,ht]
      simp only [hy]
      exact .inr ⟨rfl,env,hsim,h⟩
     ·exact h.elim
def wList (P:Program) (r:Option Nat) (ops:Array Oper) (Q:Exit->Act->World->Prop):List Oper->Act->World->Prop
 | [],a,w=>Q .normal a w
 | o :: q,a,w=>if Region.wanted o (yielded ops a.tmps) then o.wpIn (Fr r) 0 P a w (wList P r ops Q q) Q else wList P r ops Q q (a.put o.dst undef) w
theorem wList_in {r:Option Nat} {ops:List Oper} {Q:Exit->Act->World->Prop} : ∀ (suf pre:List Oper) (a:Act) (w:World),ops=pre++suf->wList P r ops.toArray Q suf a w->wpOpsIn (Fr r) 0 P ops.toArray Q (List.range' pre.length suf.length) a w
 | [],pre,a,w,_,h=>h
 | o :: q,pre,a,w,e,h=>by
   have ho:ops.toArray[pre.length]? = some o:=by simp [e]
   have ih : ∀ a w,wList P r ops.toArray Q q a w->wpOpsIn (Fr r) 0 P ops.toArray Q (List.range' (pre.length+1) q.length) a w:=λa w h=>by
    have:=wList_in q (pre++[o]) a w (by simp [e]) h
    simpa using this
   simp only [List.length_cons,List.range'_succ]
   rw [wpOpsIn_cons]
   unfold wpOpIn
   rw [ho]
   simp only
   unfold wList at h
   split
   ·next hw=>
    rw [if_pos hw] at h
    exact Oper.wpIn_mono (λa w=>ih a w) h
   ·next hw=>
    rw [if_neg hw] at h
    exact ⟨λ_ _=>trivial,ih _ _ h⟩
theorem wp_region_list' {r:Option Nat} {id:Nat} {ops:List Oper} {Q:Exit->Act->World->Prop} {a:Act} {w:World} (h:wList P r ops.toArray Q ops a w):(Code.region id ops.toArray false).wpIn (Fr r) 0 P Q a w:=
 wpIn_region (by
  have:=wList_in ops [] a w rfl h
  simpa [List.range_eq_range'] using this)
theorem deferK_up {o:Oper} {env:Env} {a:Act} {w:World} {next:Deferred->Prop} {K:Act->World->Prop} {Q:Exit->Act->World->Prop} (hsim:Sim N env a.tmps) (hd:o.dst=none) (h:deferK o env next)
 (hk : ∀ d,next d->K {a with defers:=d :: a.defers} w):o.wpIn (Fr none) 0 P a w K Q:=by
 unfold deferK at h
 split at h
 ·rename_i f args at_ hop
  cases hg:allGood env args with
  | false=>simp [hg] at h
  | true=>
    simp only [hg,cond_true] at h
    split at h
    ·rename_i fn first cap hf
     have hfe:=hsim.is hf rfl
     have ea:=good_evs hsim hg
     unfold Oper.wpIn
     refine ⟨λ_ _=>trivial,?_⟩
     have:(o.semAt (Fr none).round a.eval).run P w = .ok (.defer {target:=.fn fn cap,args:=first++(evs env args).toArray}) w:=by
      rw [Oper.semAt_none]
      simp [execOp,hop,resolve,hfe,TV.enc,ea,Deferred.ofValue]
     rw [this,Oper.uponIn_defer,hd]
     exact hk _ h
    ·exact h.elim
 ·exact h.elim
theorem denOps_wp {r:Option Nat} {ops:List Oper} {pan:List Deferred->List PanicEntry->World->Prop} {k:List Deferred->Env->World->Prop} {Q:Exit->Act->World->Prop} {ws:List Nat} {t0:Array Value}
 (hp : ∀ c a' w',a'.tmps.size=N->Same ws t0 a'.tmps->pan a'.defers c w'->Q (.panic c) a' w') :
 ∀ (l:List Oper) (env:Env) (a:Act) (w:World),Sim N env a.tmps->Same ws t0 a.tmps->(∀ t,t∈opsWrite l->t∈ws)->denOps P N r ops pan l k a.defers env w->
   (∀ env a' w',Sim N env a'.tmps->(opsDefer l=false->a'.defers=a.defers)->Same (opsWrite l) a.tmps a'.tmps->k a'.defers env w'->Q .normal a' w')->wList P r ops.toArray Q l a w
 | [],env,a,w,hsim,_,_,h,hn=>hn env a w hsim (λ_=>rfl) (Same.refl _ _) h
 | o :: q,env,a,w,hsim,hsm,hws,h,hn=>by
   unfold denOps at h
   cases hr:inRange N o.dst with
   | false=>simp [hr] at h
   | true=>
     simp only [hr,cond_true] at h
     have hsub : ∀ t,t∈opsWrite q->t∈opsWrite (o :: q):=by
      intro t ht; unfold opsWrite; cases o.dst <;> simp [ht]
     have hdst : ∀ x,o.dst=some x->x∈opsWrite (o :: q):=by
      intro x hx; unfold opsWrite; simp [hx]
     cases hdf:isDefer o.op with
     | true=>
       simp only [hdf,cond_true] at h
       cases hc:(o.guard.isNone&&r.isNone&&o.dst.isNone) with
       | false=>simp [hc] at h
       | true=>
         simp only [hc,cond_true] at h
         simp only [Bool.and_eq_true,Option.isNone_iff_eq_none] at hc
         obtain ⟨⟨c1,c2⟩,c3⟩:=hc
         subst c2
         unfold wList
         rw [if_pos (by unfold Region.wanted; rw [c1])]
         refine deferK_up hsim c3 h λd hd=>?_
         refine denOps_wp hp q env {a with defers:=d :: a.defers} w hsim hsm (λt ht=>hws t (hsub t ht)) hd λenv' a' w' h1 h2 h3 h4=>?_
         refine hn env' a' w' h1 (λe=>?_) (Same.mono h3 hsub) h4
         simp [opsDefer,hdf] at e
     | false=>
       simp only [hdf,cond_false] at h
       have rest : ∀ (env:Env) (v:Value) (x:TV) (w':World),Sim N env a.tmps->(x.isBad=false->v=x.enc)->denOps P N r ops pan q k a.defers (putD env o.dst x) w'->wList P r ops.toArray Q q (a.put o.dst v) w':=by
        intro env v x w' hs hv hden
        refine denOps_wp hp q _ (a.put o.dst v) w' (hs.putD' hr hv) (Same.trans hsm (Same.put a o.dst v hdst) (λ_ h=>h) hws) (λt ht=>hws t (hsub t ht)) (by rw [put_defers]; exact hden) ?_
        intro env' a' w'' h1 h2 h3 h4
        refine hn env' a' w'' h1 (λe=>?_) (Same.trans (Same.put a o.dst v hdst) h3 (λ_ h=>h) hsub) h4
        rw [h2 (by simp [opsDefer] at e ⊢; exact e.2),put_defers]
       rcases guard_split hsim h with ⟨hw,env',hs',h⟩ | ⟨hw,env',hs',h⟩
       ·unfold wList
        rw [if_pos hw]
        exact runOp_wp hdf hs' h (λt v w' hv hk=>rest env' v t w' hs' hv hk) (λc w' hc=>hp c a w' hs'.1 hsm hc)
       ·unfold wList
        rw [if_neg (by simp [hw])]
        exact rest env' undef (.tup []) w hs' (λ_=>rfl) h
def allL (ops:Array Oper) (listed:Array Bool):Prop:=∀ i x,ops[i]? = some x->isLoadOp x=true->listed.getD i false=true
theorem allL_set {ops:Array Oper} {listed:Array Bool} (h:allL ops listed) (j:Nat):allL ops (listed.setIfInBounds j true):=λi x hi hl=>getD_set_true (h i x hi hl)
theorem not_allL {ops:Array Oper} {listed:Array Bool} {i:Nat} {o:Oper} (ho:ops[i]? = some o) (hl:isLoadOp o=true) (hr:(Region.ready .any ops listed).contains i=true) : ¬ allL ops listed:=λh=>by
 have h1:=h i o ho hl
 have h0:=(mem_ready.1 (show i∈Region.ready .any ops listed by simpa using hr)).1
 rcases Nat.lt_or_ge i listed.size with h' | h'
 ·simp [h'] at h0 h1; rw [h0] at h1; cases h1
 ·simp [Array.getElem?_eq_none h'] at h1
theorem late_all {ops:Array Oper} {listed:Array Bool} {j:Nat} (hcl:Closed ops listed) (hl:late ops j=true) (hr:j∈Region.ready .any ops listed):allL ops listed:=λi x hi hx=>by
 obtain ⟨_,o,ho,hall⟩:=mem_ready.1 hr
 rcases late_spec hl ho hi hx with ⟨e,he,hb,hon⟩ | ⟨e,he,hb,y,hy,g,hg,hgb,hon⟩
 ·have:=hall e he hb
  rwa [hon] at this
 ·have:=hcl _ y hy (hall e he hb) g hg hgb
  rwa [hon] at this
theorem closed_setAll {ops:Array Oper} {listed:Array Bool} {is:List (Nat×Kd)} (hcl:Closed ops listed) (hsz:listed.size=ops.size) (hop : ∀ q∈is,∃ o,ops[q.1]? = some o) (hf : ∀ q∈is,∀ o,ops[q.1]? = some o->∀ e∈o.after,Region.binds .any e=true->listed.getD e.on false=true\/∃ p∈is,p.1=e.on/\p.1<q.1):Closed ops (setAll listed is):=by
 have get : ∀ k,k<listed.size->((setAll listed is).getD k false=true↔(∃ q∈is,q.1=k)\/listed.getD k false=true):=λk hk=>by
  have h1:=setAll_get is listed k hk
  have hk':k<(setAll listed is).size:=by rw [setAll_size]; exact hk
  have e1:(setAll listed is).getD k false=(setAll listed is).getD k true:=by simp [Array.getD,hk']
  have e2:listed.getD k false=listed.getD k true:=by simp [Array.getD,hk]
  rw [e1,e2,h1]
  split
  ·next h=>simp [h]
  ·next h=>simp [h]
 intro m om hm hl e he hb
 have hml:m<listed.size:=by rw [hsz]; exact (Array.getElem?_eq_some_iff.1 hm).1
 have key:listed.getD e.on false=true\/∃ p∈is,p.1=e.on:=by
  rcases (get m hml).1 hl with ⟨q,hq,rfl⟩ | h
  ·rcases hf q hq om hm e he hb with h | ⟨p,hp,h1,_⟩
   ·exact .inl h
   ·exact .inr ⟨p,hp,h1⟩
  ·exact .inl (hcl m om hm h e he hb)
 by_cases hk:e.on<listed.size
 ·rcases key with h | ⟨p,hp,h1⟩
  ·exact (get _ hk).2 (.inr h)
  ·exact (get _ hk).2 (.inl ⟨p,hp,h1⟩)
 ·exfalso
  rcases key with h | ⟨p,hp,h1⟩
  ·simp [Array.getD,hk] at h
  ·obtain ⟨o,ho⟩:=hop p hp
   have:=(Array.getElem?_eq_some_iff.1 ho).1
   omega
mutual
theorem denDraw_wp {r:Option Nat} {ops:Array Oper} {S:World->Prop} {LD:Addr->List Value->Prop} {pan:List PanicEntry->World->Prop} {k:Env->World->Prop} {Q:Exit->Act->World->Prop} {t0:Array Value} {d0:List Deferred}
 (hsel:Region.noSelect ops=true) (hdf : ∀ (j:Nat) (o:Oper),ops[j]? = some o->isDefer o.op=false) (hLD : ∀ ad cs,LD ad cs->∀ w',S w'->Rd w' ad cs) (hQ : ∀ c (a:Act) d v w,(∀ x,d=some x->x∈opsWrite ops.toList)->(Q (.panic c) (a.put d v) w↔Q (.panic c) a w))
 (hp : ∀ c a' w',a'.tmps.size=N->Same (opsWrite ops.toList) t0 a'.tmps->a'.defers=d0->pan c w'->Q (.panic c) a' w')
 (hn : ∀ env a' w',Sim N env a'.tmps->a'.defers=d0->Same (opsWrite ops.toList) t0 a'.tmps->k env w'->Q .normal a' w') :
 ∀ (d:DS) (f:Nat) (listed:Array Bool) (env:Env) (a:Act) (w:World),Sim N env a.tmps->a.defers=d0->Same (opsWrite ops.toList) t0 a.tmps->(S w\/allL ops listed)->Closed ops listed->denDraw P N ops S LD pan k d f listed env w->
   wAny P ops r Q S f listed a w
 | .done,f,listed,env,a,w,hsim,hd,hsame,hS,hcl,h=>by
   unfold denDraw at h
   cases hr:(Region.ready .any ops listed).isEmpty with
   | false=>simp [hr] at h
   | true=>
     simp only [hr,cond_true] at h
     exact wAny_done (by simpa using hr) (hn env a w hsim hd hsame h) f
 | .take i q,0,listed,env,a,w,hsim,hd,hsame,hS,hcl,h=>by unfold denDraw at h; exact h.elim
 | .take i q,f+1,listed,env,a,w,hsim,hd,hsame,hS,hcl,h=>by
   unfold denDraw at h
   cases ho:ops[i]? with
   | none=>simp [ho] at h
   | some o=>
     simp only [ho] at h
     have hdst : ∀ x,o.dst=some x->x∈opsWrite ops.toList:=opsWrite_mem _ o (by
      have:=Array.mem_of_getElem? ho
      simpa using this)
     cases hc:(inRange N o.dst&&Region.free .any ops listed i&&(Region.ready .any ops listed).contains i) with
     | false=>simp only [hc,cond_false] at h
     | true=>
       simp only [hc,cond_true] at h
       simp only [Bool.and_eq_true] at hc
       obtain ⟨⟨c1,c2⟩,c3⟩:=hc
       have hS':S w\/allL ops (listed.setIfInBounds i true):=hS.imp id λh=>allL_set h i
       have go : ∀ (S':World->Prop) (env':Env) (v:Value) (x:TV),(∀ w,S' w)\/(isLoadOp o=true/\∀ w,S w->S' w)->eff P ops i=false->S' w->Sim N env' a.tmps->(x.isBad=false->v=x.enc)->YieldsIf P ops S' o v a->denDraw P N ops S LD pan k q f (listed.setIfInBounds i true) (putD env' o.dst x) w->
        wAny P ops r Q S (f+1) listed a w:=by
        intro S' env' v x hSS he hSw hs hv hy hden
        refine wAny_take ho hsel hdf c2 c3 (λc a w=>(hQ c a o.dst v w hdst).1) hSS he hy hSw hcl ?_
        exact denDraw_wp hsel hdf hLD hQ hp hn q f _ _ (a.put o.dst v) w (hs.putD' c1 hv) (by rw [put_defers,hd])
         (Same.trans hsame (Same.put a o.dst v hdst) (λ_ h=>h) (λ_ h=>h)) hS' (closed_set hcl (by simpa using c3)) hden
       have eops:ops.toList.toArray=ops:=by simp
       cases hpu:isPure P o with
       | true=>
         have he:eff P ops i=false:=by simp [eff,ho,hpu]
         simp only [hpu,cond_true] at h
         rcases guard_split hsim h with ⟨hw,env',hs',h⟩ | ⟨hw,env',hs',h⟩
         ·rw [eops] at hw
          obtain ⟨t,v,hr,hv,h⟩:=pureK_run hs' h
          exact go (λ_=>True) env' v t (.inl λ_=>trivial) he trivial hs' hv (.inl ⟨hw,λw _=>hr w⟩) h
         ·rw [eops] at hw
          exact go (λ_=>True) env' undef (.tup []) (.inl λ_=>trivial) he trivial hs' (λ_=>rfl) (.inr ⟨hw,rfl⟩) h
       | false=>
         simp only [hpu,cond_false] at h
         split at h
         ·rename_i T x hop
          have hlo:isLoadOp o=true:=by simp [isLoadOp,hop]
          have he:eff P ops i=false:=by simp [eff,ho,hlo]
          have hSw:S w:=hS.resolve_right (not_allL ho hlo c3)
          rcases guard_split hsim h with ⟨hw,env',hs',h⟩ | ⟨hw,env',hs',h⟩
          ·rw [eops] at hw
           split at h
           ·rename_i q' hx
            obtain ⟨ad,rfl,h⟩:=onSome_out h
            cases hf:kdFit P T with
            | false=>simp [hf,onSome] at h
            | true=>
              simp only [hf,cond_true] at h
              obtain ⟨t,t1,t2,t3,hr,h⟩:=exK_out _ _ h
              refine go S env' t.enc t (.inr ⟨hlo,λ_ h=>h⟩) he hSw hs' (λ_=>rfl) (.inl ⟨hw,λw' hSw=>?_⟩) h
              have:=run_loadVar (P:=P) hf t1 t2 t3 (hLD _ _ hr w' hSw)
              simp [execOp,hop,hs'.is hx rfl,TV.enc,Instr.loadAt,Instr.sureAddr,this]
           ·exact h.elim
          ·rw [eops] at hw
           exact go S env' undef (.tup []) (.inr ⟨hlo,λ_ h=>h⟩) he hSw hs' (λ_=>rfl) (.inr ⟨hw,rfl⟩) h
         ·exact h.elim
 | .safe is q,f,listed,env,a,w,hsim,hd,hsame,hS,hcl,h=>by
   unfold denDraw at h
   cases hc:(safeOk P ops listed is&&incr is&&safeRng N ops is&&Nat.ble is.length f&&Nat.beq listed.size ops.size) with
   | false=>simp only [hc,cond_false] at h
   | true=>
     simp only [hc,cond_true] at h
     simp only [Bool.and_eq_true,Nat.ble_eq,Nat.beq_eq] at hc
     obtain ⟨⟨⟨⟨c1,c2⟩,c3⟩,c4⟩,c5⟩:=hc
     obtain ⟨Ts,hst,hSw,h⟩:=h
     have C:=safeC_of c1 c2
     have hunl : ∀ q∈is,listed.getD q.1 true=false:=λq hq=>by obtain ⟨_,_,_,_,_,h0,_⟩:=C.op q hq; exact h0
     have ht:=saf_tree (r:=r) (Q:=Q) (S:=S) (Ts:=Ts) (w0:=w) C hLD (END:=λa w=>∃ env,Sim N env a.tmps/\(a.tmps.size=N/\Same (opsWrite ops.toList) t0 a.tmps/\a.defers=d0)/\S w/\denDraw P N ops S LD pan k q (f - is.length) (setAll listed is) env w)
      (G:=λa=>a.tmps.size=N/\Same (opsWrite ops.toList) t0 a.tmps/\a.defers=d0) (λa d v hd ⟨g1,g2,g3⟩=>⟨(put_size _ _ _).trans g1,Same.trans g2 (Same.put a d v hd) (λ_ h=>h) (λ_ h=>h),(put_def _ _ _).trans g3⟩)
      (λc a w' ⟨g1,g2,g3⟩ h=>hp c a w' g1 g2 g3 h) (λenv a w h1 h2 _ h4 h5=>⟨env,h1,h2,h4,h5⟩) is [] env a (λ_ h=>h) C.inc hsim ⟨hsim.1,hsame,hd⟩ (by simp) h
     have:=safe_wAny C (Region.noSelect_spec hsel) c5 c3 hQ hst (f':=f - is.length) (λa w ⟨env,h1,⟨_,h2,h3⟩,h4,h5⟩=>denDraw_wp hsel hdf hLD hQ hp hn q (f - is.length) _ env a w h1 h3 h2 (.inl h4) (closed_setAll hcl c5 (λq hq=>by obtain ⟨o,h,_⟩:=C.op q hq; exact ⟨o,h⟩) C.from_) h5)
      is.length listed a w hsim.1 (unl_all is hunl) c5 (λ_ _=>rfl) (λq hq hl=>by rw [hunl q hq] at hl; cases hl) (Mod.refl _ _) hSw (λq hq hl=>by rw [hunl q hq] at hl; cases hl) ht
     rwa [Nat.add_sub_cancel' c4] at this
 | .all rs,0,listed,env,a,w,hsim,hd,hsame,hS,hcl,h=>by unfold denDraw at h; exact h.elim
 | .all rs,f+1,listed,env,a,w,hsim,hd,hsame,hS,hcl,h=>by
   unfold denDraw at h
   cases hc:(Region.ready .any ops listed==rs.map (·.1)&&!rs.isEmpty) with
   | false=>simp only [hc,cond_false] at h
   | true=>
     simp only [hc,cond_true] at h
     simp only [Bool.and_eq_true,beq_iff_eq] at hc
     have hne:rs.map (·.1)≠[]:=by
      intro e
      cases rs with
      | nil=>simp at hc
      | cons _ _=>simp at e
     refine wAny_all hc.1 hne ?_
     exact denDraws_wp hsel hdf hLD hQ hp hn rs f listed env a w hsim hd hsame hS hcl (λi hi=>by rw [hc.1]; exact hi) h
theorem denDraws_wp {r:Option Nat} {ops:Array Oper} {S:World->Prop} {LD:Addr->List Value->Prop} {pan:List PanicEntry->World->Prop} {k:Env->World->Prop} {Q:Exit->Act->World->Prop} {t0:Array Value} {d0:List Deferred}
 (hsel:Region.noSelect ops=true) (hdf : ∀ (j:Nat) (o:Oper),ops[j]? = some o->isDefer o.op=false) (hLD : ∀ ad cs,LD ad cs->∀ w',S w'->Rd w' ad cs) (hQ : ∀ c (a:Act) d v w,(∀ x,d=some x->x∈opsWrite ops.toList)->(Q (.panic c) (a.put d v) w↔Q (.panic c) a w))
 (hp : ∀ c a' w',a'.tmps.size=N->Same (opsWrite ops.toList) t0 a'.tmps->a'.defers=d0->pan c w'->Q (.panic c) a' w')
 (hn : ∀ env a' w',Sim N env a'.tmps->a'.defers=d0->Same (opsWrite ops.toList) t0 a'.tmps->k env w'->Q .normal a' w') :
 ∀ (rs:List (Nat×DS)) (f:Nat) (listed:Array Bool) (env:Env) (a:Act) (w:World),Sim N env a.tmps->a.defers=d0->Same (opsWrite ops.toList) t0 a.tmps->(S w\/allL ops listed)->Closed ops listed->(∀ i∈rs.map (·.1),i∈Region.ready .any ops listed)->denDraws P N ops S LD pan k rs f listed env w->
   ∀ i∈rs.map (·.1),wOp P ops r Q i (λa' w'=>((eff P ops i=true->late ops i=false->S w')/\(eff P ops i=false->w'=w))/\wAny P ops r Q S f (listed.setIfInBounds i true) a' w') a w
 | [],f,listed,env,a,w,hsim,hd,hsame,hS,hcl,hrd,h=>by simp
 | (i,q) :: rs,f,listed,env,a,w,hsim,hd,hsame,hS,hcl,hrd,h=>by
   unfold denDraws at h
   obtain ⟨h,hrest⟩:=h
   have ih:=denDraws_wp (r:=r) hsel hdf hLD hQ hp hn rs f listed env a w hsim hd hsame hS hcl (λi hi=>hrd i (by simp at hi ⊢; exact .inr hi)) hrest
   intro j hj
   simp only [List.map_cons,List.mem_cons] at hj
   rcases hj with rfl | hj
   ·have hjr:=hrd j (by simp)
    cases ho:ops[j]? with
    | none=>simp [ho] at h
    | some o=>
      simp only [ho] at h
      have hdst : ∀ x,o.dst=some x->x∈opsWrite ops.toList:=opsWrite_mem _ o (by
       have:=Array.mem_of_getElem? ho
       simpa using this)
      cases c1:inRange N o.dst with
      | false=>simp [c1] at h
      | true=>
        simp only [c1,cond_true] at h
        have go : ∀ (env':Env) (v:Value) (x:TV) (w':World),Sim N env' a.tmps->(x.isBad=false->v=x.enc)->(S w'\/allL ops (listed.setIfInBounds j true))->denDraw P N ops S LD pan k q f (listed.setIfInBounds j true) (putD env' o.dst x) w'->
         wAny P ops r Q S f (listed.setIfInBounds j true) (a.put o.dst v) w':=by
         intro env' v x w' hs hv hS' hden
         exact denDraw_wp hsel hdf hLD hQ hp hn q f _ _ (a.put o.dst v) w' (hs.putD' c1 hv) (by rw [put_defers,hd])
          (Same.trans hsame (Same.put a o.dst v hdst) (λ_ h=>h) (λ_ h=>h)) hS' (closed_set hcl hjr) hden
        have eops:ops.toList.toArray=ops:=by simp
        have same:S w\/allL ops (listed.setIfInBounds j true):=hS.imp id λh=>allL_set h j
        have fin : ∀ (env':Env) (v:Value) (x:TV) (w':World),Sim N env' a.tmps->(x.isBad=false->v=x.enc)->(eff P ops j=false->w'=w)->
         (bif eff P ops j&&!late ops j then S w'/\denDraw P N ops S LD pan k q f (listed.setIfInBounds j true) (putD env' o.dst x) w' else denDraw P N ops S LD pan k q f (listed.setIfInBounds j true) (putD env' o.dst x) w')->
         (((eff P ops j=true->late ops j=false->S w')/\(eff P ops j=false->w'=w))/\wAny P ops r Q S f (listed.setIfInBounds j true) (a.put o.dst v) w'):=by
         intro env' v x w' hs hv hww hk
         cases he:eff P ops j with
         | false=>
           rw [he] at hk
           simp only [Bool.false_and,cond_false] at hk
           obtain rfl:=hww he
           exact ⟨⟨λe=>(by cases e),λ_=>rfl⟩,go env' v x w' hs hv same hk⟩
         | true=>
           rw [he] at hk
           cases hl:late ops j with
           | true=>
             rw [hl] at hk
             simp only [Bool.not_true,Bool.and_false,cond_false] at hk
             exact ⟨⟨λ_ e=>(by cases e),λe=>(by cases e)⟩,go env' v x w' hs hv (.inr (allL_set (late_all hcl hl hjr) j)) hk⟩
           | false=>
             rw [hl] at hk
             simp only [Bool.not_false,Bool.and_true,cond_true] at hk
             exact ⟨⟨λ_ _=>hk.1,λe=>(by cases e)⟩,go env' v x w' hs hv (.inl hk.1) hk.2⟩
        unfold wOp wpOpIn
        simp only [ho]
        rcases guard_split hsim h with ⟨hw,env',hs',h⟩ | ⟨hw,env',hs',h⟩
        ·rw [eops] at hw
         rw [if_pos hw]
         cases hpu:isPure P o with
         | true=>
           unfold runOp at h
           simp only [hpu,cond_true] at h
           obtain ⟨t,v,hr,hv,h⟩:=pureK_run hs' h
           exact up_value (hdf _ _ ho) (hr w) (fin env' v t w hs' hv (λ_=>rfl) h)
         | false=>
           cases hlo:isLoadOp o with
           | true=>
             unfold runOp at h
             simp only [hpu,cond_false] at h
             cases hop:o.op <;> simp [isLoadOp,hop] at hlo
             rename_i T x
             unfold stateK at h
             simp only [hop] at h
             split at h
             ·rename_i q' hx
              obtain ⟨ad,rfl,h⟩:=onSome_out h
              cases hf:kdFit P T with
              | false=>simp [hf,onSome] at h
              | true=>
                simp only [hf,cond_true] at h
                obtain ⟨t,t1,t2,t3,hr,h⟩:=exK_out _ _ h
                refine up_value (hdf _ _ ho) (v:=t.enc) (w':=w) ?_ (fin env' t.enc t w hs' (λ_=>rfl) (λ_=>rfl) h)
                simp [execOp,hop,hs'.is hx rfl,TV.enc,Instr.loadAt,Instr.sureAddr,run_loadVar hf t1 t2 t3 hr]
             ·exact h.elim
           | false=>
             exact runOp_wp (hdf _ _ ho) hs' h (λt v w' hv hk=>fin env' v t w' hs' hv (λe=>by simp [eff,ho,hpu,hlo] at e) hk) (λc w' hc=>hp c a w' hs'.1 hsame hd hc)
        ·rw [eops] at hw
         rw [if_neg (by simp [hw])]
         exact ⟨λ_ _=>trivial,by simpa using fin env' undef (.tup []) w hs' (λ_=>rfl) (λ_=>rfl) h⟩
   ·exact ih j hj
end
end
end Go.Sh
end
