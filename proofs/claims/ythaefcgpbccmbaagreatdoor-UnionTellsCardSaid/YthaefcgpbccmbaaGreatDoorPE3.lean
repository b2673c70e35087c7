/- The forms of the translated functions,their contracts and the plain laws behind them,put together by a program. -/
import Derived.Test.YthaefcgpbccmbaaGreatDoorPE2
import Derived.Deep.LoopGhost
set_option linter.unusedSimpArgs false
set_option linter.unusedVariables false
set_option maxRecDepth 100000
set_option maxHeartbeats 4000000
section
namespace Go.Sh
open Go
def Same (ws:List Nat) (t0 t1:Array Value):Prop:=∀ t,t ∉ ws->t1[t]? = t0[t]?
theorem Same.refl (ws:List Nat) (t:Array Value):Same ws t t:=λ_ _=>rfl
theorem Same.trans {a b c:List Nat} {x y z:Array Value} (h:Same a x y) (h':Same b y z) (ha : ∀ t,t∈a->t∈c) (hb : ∀ t,t∈b->t∈c):Same c x z:=
 λt ht=>(h' t (λe=>ht (hb t e))).trans (h t (λe=>ht (ha t e)))
theorem Same.mono {a c:List Nat} {x y:Array Value} (h:Same a x y) (ha : ∀ t,t∈a->t∈c):Same c x y:=λt ht=>h t (λe=>ht (ha t e))
theorem Same.put (a:Act) (d:Option Tmp) (v:Value) {ws:List Nat} (h : ∀ x,d=some x->x∈ws):Same ws a.tmps (a.put d v).tmps:=by
 intro t ht
 cases d with
 | none=>rfl
 | some x=>
   have:x≠t:=λe=>ht (e ▸ h x rfl)
   simp [Act.put,Array.getElem?_setIfInBounds_ne this]
section
variable {P:Program} {N:Nat}
theorem put_defers (a:Act) (d:Option Tmp) (v:Value):(a.put d v).defers=a.defers:=by cases d <;> rfl
theorem iV {ops:List Oper} {o:Oper} {env:Env} {a:Act} {yes no:Env->Prop} (h9:Sim N env a.tmps) (h:pC ops o env yes no) :
 (Region.wanted o (yielded ops.toArray a.tmps)=true/\∃ env',Sim N env' a.tmps/\yes env')\/(Region.wanted o (yielded ops.toArray a.tmps)=false/\∃ env',Sim N env' a.tmps/\no env'):=by
 unfold pC at h
 unfold Region.wanted
 cases hg:o.guard with
 | none=>simp only [hg] at h; exact .inl ⟨rfl,env,h9,h⟩
 | some jw=>
   obtain ⟨j,want⟩:=jw
   simp only [hg] at h
   cases hs:wH ops j with
   | none=>simp [hs] at h
   | some d=>
     simp only [hs] at h
     split at h
     ·rename_i t hl
      have ht:a.tmps[d]? = some (.bool t):=by
       have:=h9.2 d (by rw [hl]; rfl)
       rw [hl] at this
       exact this
      have hy:yielded ops.toArray a.tmps j=some t:=by
       unfold yielded
       unfold wH at hs
       cases ho:ops[j]? with
       | none=>simp [ho] at hs
       | some oj=>
         simp [ho] at hs
         simp [ho,hs,ht]
      simp only [hy]
      have hsame:Sim N ((d,.b t) :: env) a.tmps:=h9.same hl
      cases t <;> cases want <;> simp only [aE,cond_true,cond_false] at h
      ·exact .inl ⟨rfl,_,hsame,h⟩
      ·exact .inr ⟨rfl,_,hsame,h⟩
      ·exact .inr ⟨rfl,_,hsame,h⟩
      ·exact .inl ⟨rfl,_,hsame,h⟩
     ·rename_i fs hl
      have ht:a.tmps[d]? = some (.tuple (dQ fs).toArray):=by
       have:=h9.2 d (by rw [hl]; rfl)
       rw [hl] at this
       exact this
      have hy:yielded ops.toArray a.tmps j=none:=by
       unfold yielded
       unfold wH at hs
       cases ho:ops[j]? with
       | none=>simp [ho] at hs
       | some oj=>
         simp [ho] at hs
         simp [ho,hs,ht]
      simp only [hy]
      exact .inr ⟨rfl,env,h9,h⟩
     ·exact h.elim
def kV (P:Program) (r:Option Nat) (ops:Array Oper) (Q:Exit->Act->World->Prop):List Oper->Act->World->Prop
 | [],a,w=>Q .normal a w
 | o :: q,a,w=>if Region.wanted o (yielded ops a.tmps) then o.wpIn (Fr r) 0 P a w (kV P r ops Q q) Q else kV P r ops Q q (a.put o.dst undef) w
theorem yH {r:Option Nat} {ops:List Oper} {Q:Exit->Act->World->Prop} : ∀ (suf pre:List Oper) (a:Act) (w:World),ops=pre++suf->kV P r ops.toArray Q suf a w->wpOpsIn (Fr r) 0 P ops.toArray Q (List.range' pre.length suf.length) a w
 | [],pre,a,w,_,h=>h
 | o :: q,pre,a,w,e,h=>by
   have ho:ops.toArray[pre.length]? = some o:=by simp [e]
   have ih : ∀ a w,kV P r ops.toArray Q q a w->wpOpsIn (Fr r) 0 P ops.toArray Q (List.range' (pre.length+1) q.length) a w:=λa w h=>by
    have:=yH q (pre++[o]) a w (by simp [e]) h
    simpa using this
   simp only [List.length_cons,List.range'_succ]
   rw [wpOpsIn_cons]
   unfold wpOpIn
   rw [ho]
   simp only
   unfold kV at h
   split
   ·next hw=>
    rw [if_pos hw] at h
    exact Oper.wpIn_mono (λa w=>ih a w) h
   ·next hw=>
    rw [if_neg hw] at h
    exact ⟨λ_ _=>trivial,ih _ _ h⟩
theorem qG {r:Option Nat} {id:Nat} {ops:List Oper} {Q:Exit->Act->World->Prop} {a:Act} {w:World} (h:kV P r ops.toArray Q ops a w):(Code.region id ops.toArray false).wpIn (Fr r) 0 P Q a w:=
 wpIn_region (by
  have:=yH ops [] a w rfl h
  simpa [List.range_eq_range'] using this)
theorem qFW {o:Oper} {env:Env} {a:Act} {w:World} {next:Deferred->Prop} {K:Act->World->Prop} {Q:Exit->Act->World->Prop} (h9:Sim N env a.tmps) (hd:o.dst=none) (h:qAM o env next)
 (hk : ∀ d,next d->K {a with defers:=d :: a.defers} w):o.wpIn (Fr none) 0 P a w K Q:=by
 unfold qAM at h
 split at h
 ·rename_i f args at_ k3
  cases hg:gW env args with
  | false=>simp [hg] at h
  | true=>
    simp only [hg,cond_true] at h
    split at h
    ·rename_i fn first cap hf
     have k4:=h9.is hf rfl
     have ea:=oI h9 hg
     unfold Oper.wpIn
     refine ⟨λ_ _=>trivial,?_⟩
     have:(o.semAt (Fr none).round a.eval).run P w = .ok (.defer {target:=.fn fn cap,args:=first++(evs env args).toArray}) w:=by
      rw [Oper.semAt_none]
      simp [execOp,k3,resolve,k4,TV.enc,ea,Deferred.ofValue]
     rw [this,Oper.uponIn_defer,hd]
     exact hk _ h
    ·exact h.elim
 ·exact h.elim
theorem pJ {r:Option Nat} {ops:List Oper} {pan:List Deferred->List PanicEntry->World->Prop} {k:List Deferred->Env->World->Prop} {Q:Exit->Act->World->Prop} {ws:List Nat} {t0:Array Value}
 (hp : ∀ c a' w',a'.tmps.size=N->Same ws t0 a'.tmps->pan a'.defers c w'->Q (.panic c) a' w') :
 ∀ (l:List Oper) (env:Env) (a:Act) (w:World),Sim N env a.tmps->Same ws t0 a.tmps->(∀ t,t∈aW l->t∈ws)->lG P N r ops pan l k a.defers env w->
   (∀ env a' w',Sim N env a'.tmps->(dB l=false->a'.defers=a.defers)->Same (aW l) a.tmps a'.tmps->k a'.defers env w'->Q .normal a' w')->kV P r ops.toArray Q l a w
 | [],env,a,w,h9,_,_,h,hn=>hn env a w h9 (λ_=>rfl) (Same.refl _ _) h
 | o :: q,env,a,w,h9,hsm,k5,h,hn=>by
   unfold lG at h
   cases hr:eH N o.dst with
   | false=>simp [hr] at h
   | true=>
     simp only [hr,cond_true] at h
     have hsub : ∀ t,t∈aW q->t∈aW (o :: q):=by
      intro t ht; unfold aW; cases o.dst <;> simp [ht]
     have k3 : ∀ x,o.dst=some x->x∈aW (o :: q):=by
      intro x hx; unfold aW; simp [hx]
     cases hdf:cG o.op with
     | true=>
       simp only [hdf,cond_true] at h
       cases hc:(o.guard.isNone&&r.isNone&&o.dst.isNone) with
       | false=>simp [hc] at h
       | true=>
         simp only [hc,cond_true] at h
         simp only [Bool.and_eq_true,Option.isNone_iff_eq_none] at hc
         obtain ⟨⟨c1,c2⟩,c3⟩:=hc
         subst c2
         unfold kV
         rw [if_pos (by unfold Region.wanted; rw [c1])]
         refine qFW h9 c3 h λd hd=>?_
         refine pJ hp q env {a with defers:=d :: a.defers} w h9 hsm (λt ht=>k5 t (hsub t ht)) hd λenv' a' w' h1 h2 h3 h4=>?_
         refine hn env' a' w' h1 (λe=>?_) (Same.mono h3 hsub) h4
         simp [dB,hdf] at e
     | false=>
       simp only [hdf,cond_false] at h
       have rest : ∀ (env:Env) (v:Value) (x:TV) (w':World),Sim N env a.tmps->(x.isBad=false->v=x.enc)->lG P N r ops pan q k a.defers (iK env o.dst x) w'->kV P r ops.toArray Q q (a.put o.dst v) w':=by
        intro env v x w' hs hv k6
        refine pJ hp q _ (a.put o.dst v) w' (hs.putD' hr hv) (Same.trans hsm (Same.put a o.dst v k3) (λ_ h=>h) k5) (λt ht=>k5 t (hsub t ht)) (by rw [put_defers]; exact k6) ?_
        intro env' a' w'' h1 h2 h3 h4
        refine hn env' a' w'' h1 (λe=>?_) (Same.trans (Same.put a o.dst v k3) h3 (λ_ h=>h) hsub) h4
        rw [h2 (by simp [dB] at e ⊢; exact e.2),put_defers]
       rcases iV h9 h with ⟨hw,env',k4,h⟩ | ⟨hw,env',k4,h⟩
       ·unfold kV
        rw [if_pos hw]
        exact sK hdf k4 h (λt v w' hv hk=>rest env' v t w' k4 hv hk) (λc w' hc=>hp c a w' k4.1 hsm hc)
       ·unfold kV
        rw [if_neg (by simp [hw])]
        exact rest env' undef (.tup []) w k4 (λ_=>rfl) h
def vW (ops:Array Oper) (listed:Array Bool):Prop:=∀ i x,ops[i]? = some x->dC x=true->listed.getD i false=true
theorem qY {ops:Array Oper} {listed:Array Bool} (h:vW ops listed) (j:Nat):vW ops (listed.setIfInBounds j true):=λi x hi hl=>getD_set_true (h i x hi hl)
theorem qJM {ops:Array Oper} {listed:Array Bool} {i:Nat} {o:Oper} (ho:ops[i]? = some o) (hl:dC o=true) (hr:(Region.ready .any ops listed).contains i=true) : ¬ vW ops listed:=λh=>by
 have h1:=h i o ho hl
 have h0:=(mem_ready.1 (show i∈Region.ready .any ops listed by simpa using hr)).1
 rcases Nat.lt_or_ge i listed.size with h' | h'
 ·simp [h'] at h0 h1; rw [h0] at h1; cases h1
 ·simp [Array.getElem?_eq_none h'] at h1
theorem qID {ops:Array Oper} {listed:Array Bool} {j:Nat} (hcl:Closed ops listed) (hl:late ops j=true) (hr:j∈Region.ready .any ops listed):vW ops listed:=λi x hi hx=>by
 obtain ⟨_,o,ho,hall⟩:=mem_ready.1 hr
 rcases uO hl ho hi hx with ⟨e,he,hb,h9⟩ | ⟨e,he,hb,y,hy,g,hg,hgb,h9⟩
 ·have:=hall e he hb
  rwa [h9] at this
 ·have:=hcl _ y hy (hall e he hb) g hg hgb
  rwa [h9] at this
theorem tM {ops:Array Oper} {listed:Array Bool} {is:List (Nat×Kd)} (hcl:Closed ops listed) (hsz:listed.size=ops.size) (h9 : ∀ q∈is,∃ o,ops[q.1]? = some o) (hf : ∀ q∈is,∀ o,ops[q.1]? = some o->∀ e∈o.after,Region.binds .any e=true->listed.getD e.on false=true\/∃ p∈is,p.1=e.on/\p.1<q.1):Closed ops (eE listed is):=by
 have get : ∀ k,k<listed.size->((eE listed is).getD k false=true↔(∃ q∈is,q.1=k)\/listed.getD k false=true):=λk hk=>by
  have h1:=mW is listed k hk
  have k3:k<(eE listed is).size:=by rw [lD]; exact hk
  have e1:(eE listed is).getD k false=(eE listed is).getD k true:=by simp [Array.getD,k3]
  have e2:listed.getD k false=listed.getD k true:=by simp [Array.getD,hk]
  rw [e1,e2,h1]
  split
  ·next h=>simp [h]
  ·next h=>simp [h]
 intro m om hm hl e he hb
 have k4:m<listed.size:=by rw [hsz]; exact (Array.getElem?_eq_some_iff.1 hm).1
 have key:listed.getD e.on false=true\/∃ p∈is,p.1=e.on:=by
  rcases (get m k4).1 hl with ⟨q,hq,rfl⟩ | h
  ·rcases hf q hq om hm e he hb with h | ⟨p,hp,h1,_⟩
   ·exact .inl h
   ·exact .inr ⟨p,hp,h1⟩
  ·exact .inl (hcl m om hm h e he hb)
 by_cases hk:e.on<listed.size
 ·rcases key with h | ⟨p,hp,h1⟩
  ·exact (get _ hk).2 (.inr h)
  ·exact (get _ hk).2 (.inl ⟨p,hp,h1⟩)
 ·exfalso
  rcases key with h | ⟨p,hp,h1⟩
  ·simp [Array.getD,hk] at h
  ·obtain ⟨o,ho⟩:=h9 p hp
   have:=(Array.getElem?_eq_some_iff.1 ho).1
   omega
mutual
theorem jW {r:Option Nat} {ops:Array Oper} {S:World->Prop} {LD:Addr->List Value->Prop} {pan:List PanicEntry->World->Prop} {k:Env->World->Prop} {Q:Exit->Act->World->Prop} {t0:Array Value} {d0:List Deferred}
 (hsel:Region.noSelect ops=true) (hdf : ∀ (j:Nat) (o:Oper),ops[j]? = some o->cG o.op=false) (k6 : ∀ ad cs,LD ad cs->∀ w',S w'->Rd w' ad cs) (hQ : ∀ c (a:Act) d v w,(∀ x,d=some x->x∈aW ops.toList)->(Q (.panic c) (a.put d v) w↔Q (.panic c) a w))
 (hp : ∀ c a' w',a'.tmps.size=N->Same (aW ops.toList) t0 a'.tmps->a'.defers=d0->pan c w'->Q (.panic c) a' w')
 (hn : ∀ env a' w',Sim N env a'.tmps->a'.defers=d0->Same (aW ops.toList) t0 a'.tmps->k env w'->Q .normal a' w') :
 ∀ (d:DS) (f:Nat) (listed:Array Bool) (env:Env) (a:Act) (w:World),Sim N env a.tmps->a.defers=d0->Same (aW ops.toList) t0 a.tmps->(S w\/vW ops listed)->Closed ops listed->bQ P N ops S LD pan k d f listed env w->
   lP P ops r Q S f listed a w
 | .done,f,listed,env,a,w,h9,hd,hsame,hS,hcl,h=>by
   unfold bQ at h
   cases hr:(Region.ready .any ops listed).isEmpty with
   | false=>simp [hr] at h
   | true=>
     simp only [hr,cond_true] at h
     exact qGP (by simpa using hr) (hn env a w h9 hd hsame h) f
 | .take i q,0,listed,env,a,w,h9,hd,hsame,hS,hcl,h=>by unfold bQ at h; exact h.elim
 | .take i q,f+1,listed,env,a,w,h9,hd,hsame,hS,hcl,h=>by
   unfold bQ at h
   cases ho:ops[i]? with
   | none=>simp [ho] at h
   | some o=>
     simp only [ho] at h
     have p8 : ∀ x,o.dst=some x->x∈aW ops.toList:=fK _ o (by
      have:=Array.mem_of_getElem? ho
      simpa using this)
     cases hc:(eH N o.dst&&Region.free .any ops listed i&&(Region.ready .any ops listed).contains i) with
     | false=>simp only [hc,cond_false] at h
     | true=>
       simp only [hc,cond_true] at h
       simp only [Bool.and_eq_true] at hc
       obtain ⟨⟨c1,c2⟩,c3⟩:=hc
       have t6:S w\/vW ops (listed.setIfInBounds i true):=hS.imp id λh=>qY h i
       have go : ∀ (S':World->Prop) (env':Env) (v:Value) (x:TV),(∀ w,S' w)\/(dC o=true/\∀ w,S w->S' w)->eff P ops i=false->S' w->Sim N env' a.tmps->(x.isBad=false->v=x.enc)->YieldsIf P ops S' o v a->bQ P N ops S LD pan k q f (listed.setIfInBounds i true) (iK env' o.dst x) w->
        lP P ops r Q S (f+1) listed a w:=by
        intro S' env' v x t7 he k4 hs hv hy p9
        refine qFH ho hsel hdf c2 c3 (λc a w=>(hQ c a o.dst v w p8).1) t7 he hy k4 hcl ?_
        exact jW hsel hdf k6 hQ hp hn q f _ _ (a.put o.dst v) w (hs.putD' c1 hv) (by rw [put_defers,hd])
         (Same.trans hsame (Same.put a o.dst v p8) (λ_ h=>h) (λ_ h=>h)) t6 (rZ hcl (by simpa using c3)) p9
       have eops:ops.toList.toArray=ops:=by simp
       cases q8:iR P o with
       | true=>
         have he:eff P ops i=false:=by simp [eff,ho,q8]
         simp only [q8,cond_true] at h
         rcases iV h9 h with ⟨hw,env',k3,h⟩ | ⟨hw,env',k3,h⟩
         ·rw [eops] at hw
          obtain ⟨t,v,hr,hv,h⟩:=jD k3 h
          exact go (λ_=>True) env' v t (.inl λ_=>trivial) he trivial k3 hv (.inl ⟨hw,λw _=>hr w⟩) h
         ·rw [eops] at hw
          exact go (λ_=>True) env' undef (.tup []) (.inl λ_=>trivial) he trivial k3 (λ_=>rfl) (.inr ⟨hw,rfl⟩) h
       | false=>
         simp only [q8,cond_false] at h
         split at h
         ·rename_i T x q9
          have hlo:dC o=true:=by simp [dC,q9]
          have he:eff P ops i=false:=by simp [eff,ho,hlo]
          have k4:S w:=hS.resolve_right (qJM ho hlo c3)
          rcases iV h9 h with ⟨hw,env',k3,h⟩ | ⟨hw,env',k3,h⟩
          ·rw [eops] at hw
           split at h
           ·rename_i q' hx
            obtain ⟨ad,rfl,h⟩:=cK h
            cases hf:gM P T with
            | false=>simp [hf,aA] at h
            | true=>
              simp only [hf,cond_true] at h
              obtain ⟨t,t1,t2,t3,hr,h⟩:=dL _ _ h
              refine go S env' t.enc t (.inr ⟨hlo,λ_ h=>h⟩) he k4 k3 (λ_=>rfl) (.inl ⟨hw,λw' k4=>?_⟩) h
              have:=fD (P:=P) hf t1 t2 t3 (k6 _ _ hr w' k4)
              simp [execOp,q9,k3.is hx rfl,TV.enc,Instr.loadAt,Instr.sureAddr,this]
           ·exact h.elim
          ·rw [eops] at hw
           exact go S env' undef (.tup []) (.inr ⟨hlo,λ_ h=>h⟩) he k4 k3 (λ_=>rfl) (.inr ⟨hw,rfl⟩) h
         ·exact h.elim
 | .safe is q,f,listed,env,a,w,h9,hd,hsame,hS,hcl,h=>by
   unfold bQ at h
   cases hc:(vA P ops listed is&&qEL is&&vV N ops is&&Nat.ble is.length f&&Nat.beq listed.size ops.size) with
   | false=>simp only [hc,cond_false] at h
   | true=>
     simp only [hc,cond_true] at h
     simp only [Bool.and_eq_true,Nat.ble_eq,Nat.beq_eq] at hc
     obtain ⟨⟨⟨⟨c1,c2⟩,c3⟩,c4⟩,c5⟩:=hc
     obtain ⟨Ts,hst,k4,h⟩:=h
     have C:=qHD c1 c2
     have k5 : ∀ q∈is,listed.getD q.1 true=false:=λq hq=>by obtain ⟨_,_,_,_,_,h0,_⟩:=C.op q hq; exact h0
     have ht:=sG (r:=r) (Q:=Q) (S:=S) (Ts:=Ts) (w0:=w) C k6 (END:=λa w=>∃ env,Sim N env a.tmps/\(a.tmps.size=N/\Same (aW ops.toList) t0 a.tmps/\a.defers=d0)/\S w/\bQ P N ops S LD pan k q (f - is.length) (eE listed is) env w)
      (G:=λa=>a.tmps.size=N/\Same (aW ops.toList) t0 a.tmps/\a.defers=d0) (λa d v hd ⟨g1,g2,g3⟩=>⟨(jO _ _ _).trans g1,Same.trans g2 (Same.put a d v hd) (λ_ h=>h) (λ_ h=>h),(wF _ _ _).trans g3⟩)
      (λc a w' ⟨g1,g2,g3⟩ h=>hp c a w' g1 g2 g3 h) (λenv a w h1 h2 _ h4 h5=>⟨env,h1,h2,h4,h5⟩) is [] env a (λ_ h=>h) C.inc h9 ⟨h9.1,hsame,hd⟩ (by simp) h
     have:=pB C (Region.noSelect_spec hsel) c5 c3 hQ hst (f':=f - is.length) (λa w ⟨env,h1,⟨_,h2,h3⟩,h4,h5⟩=>jW hsel hdf k6 hQ hp hn q (f - is.length) _ env a w h1 h3 h2 (.inl h4) (tM hcl c5 (λq hq=>by obtain ⟨o,h,_⟩:=C.op q hq; exact ⟨o,h⟩) C.from_) h5)
      is.length listed a w h9.1 (qCI is k5) c5 (λ_ _=>rfl) (λq hq hl=>by rw [k5 q hq] at hl; cases hl) (Mod.refl _ _) k4 (λq hq hl=>by rw [k5 q hq] at hl; cases hl) ht
     rwa [Nat.add_sub_cancel' c4] at this
 | .all rs,0,listed,env,a,w,h9,hd,hsame,hS,hcl,h=>by unfold bQ at h; exact h.elim
 | .all rs,f+1,listed,env,a,w,h9,hd,hsame,hS,hcl,h=>by
   unfold bQ at h
   cases hc:(Region.ready .any ops listed==rs.map (·.1)&&!rs.isEmpty) with
   | false=>simp only [hc,cond_false] at h
   | true=>
     simp only [hc,cond_true] at h
     simp only [Bool.and_eq_true,beq_iff_eq] at hc
     have hne:rs.map (·.1)≠[]:=by
      intro e
      cases rs with
      | nil=>simp at hc
      | cons _ _=>simp at e
     refine qKI hc.1 hne ?_
     exact pX hsel hdf k6 hQ hp hn rs f listed env a w h9 hd hsame hS hcl (λi hi=>by rw [hc.1]; exact hi) h
theorem pX {r:Option Nat} {ops:Array Oper} {S:World->Prop} {LD:Addr->List Value->Prop} {pan:List PanicEntry->World->Prop} {k:Env->World->Prop} {Q:Exit->Act->World->Prop} {t0:Array Value} {d0:List Deferred}
 (hsel:Region.noSelect ops=true) (hdf : ∀ (j:Nat) (o:Oper),ops[j]? = some o->cG o.op=false) (q8 : ∀ ad cs,LD ad cs->∀ w',S w'->Rd w' ad cs) (hQ : ∀ c (a:Act) d v w,(∀ x,d=some x->x∈aW ops.toList)->(Q (.panic c) (a.put d v) w↔Q (.panic c) a w))
 (hp : ∀ c a' w',a'.tmps.size=N->Same (aW ops.toList) t0 a'.tmps->a'.defers=d0->pan c w'->Q (.panic c) a' w')
 (hn : ∀ env a' w',Sim N env a'.tmps->a'.defers=d0->Same (aW ops.toList) t0 a'.tmps->k env w'->Q .normal a' w') :
 ∀ (rs:List (Nat×DS)) (f:Nat) (listed:Array Bool) (env:Env) (a:Act) (w:World),Sim N env a.tmps->a.defers=d0->Same (aW ops.toList) t0 a.tmps->(S w\/vW ops listed)->Closed ops listed->(∀ i∈rs.map (·.1),i∈Region.ready .any ops listed)->oK P N ops S LD pan k rs f listed env w->
   ∀ i∈rs.map (·.1),wOp P ops r Q i (λa' w'=>((eff P ops i=true->late ops i=false->S w')/\(eff P ops i=false->w'=w))/\lP P ops r Q S f (listed.setIfInBounds i true) a' w') a w
 | [],f,listed,env,a,w,k3,hd,hsame,hS,hcl,k4,h=>by simp
 | (i,q) :: rs,f,listed,env,a,w,k3,hd,hsame,hS,hcl,k4,h=>by
   unfold oK at h
   obtain ⟨h,hrest⟩:=h
   have ih:=pX (r:=r) hsel hdf q8 hQ hp hn rs f listed env a w k3 hd hsame hS hcl (λi hi=>k4 i (by simp at hi ⊢; exact .inr hi)) hrest
   intro j hj
   simp only [List.map_cons,List.mem_cons] at hj
   rcases hj with rfl | hj
   ·have hjr:=k4 j (by simp)
    cases ho:ops[j]? with
    | none=>simp [ho] at h
    | some o=>
      simp only [ho] at h
      have k5 : ∀ x,o.dst=some x->x∈aW ops.toList:=fK _ o (by
       have:=Array.mem_of_getElem? ho
       simpa using this)
      cases c1:eH N o.dst with
      | false=>simp [c1] at h
      | true=>
        simp only [c1,cond_true] at h
        have go : ∀ (env':Env) (v:Value) (x:TV) (w':World),Sim N env' a.tmps->(x.isBad=false->v=x.enc)->(S w'\/vW ops (listed.setIfInBounds j true))->bQ P N ops S LD pan k q f (listed.setIfInBounds j true) (iK env' o.dst x) w'->
         lP P ops r Q S f (listed.setIfInBounds j true) (a.put o.dst v) w':=by
         intro env' v x w' hs hv q9 k6
         exact jW hsel hdf q8 hQ hp hn q f _ _ (a.put o.dst v) w' (hs.putD' c1 hv) (by rw [put_defers,hd])
          (Same.trans hsame (Same.put a o.dst v k5) (λ_ h=>h) (λ_ h=>h)) q9 (rZ hcl hjr) k6
        have eops:ops.toList.toArray=ops:=by simp
        have same:S w\/vW ops (listed.setIfInBounds j true):=hS.imp id λh=>qY h j
        have fin : ∀ (env':Env) (v:Value) (x:TV) (w':World),Sim N env' a.tmps->(x.isBad=false->v=x.enc)->(eff P ops j=false->w'=w)->
         (bif eff P ops j&&!late ops j then S w'/\bQ P N ops S LD pan k q f (listed.setIfInBounds j true) (iK env' o.dst x) w' else bQ P N ops S LD pan k q f (listed.setIfInBounds j true) (iK env' o.dst x) w')->
         (((eff P ops j=true->late ops j=false->S w')/\(eff P ops j=false->w'=w))/\lP P ops r Q S f (listed.setIfInBounds j true) (a.put o.dst v) w'):=by
         intro env' v x w' hs hv t6 hk
         cases he:eff P ops j with
         | false=>
           rw [he] at hk
           simp only [Bool.false_and,cond_false] at hk
           obtain rfl:=t6 he
           exact ⟨⟨λe=>(by cases e),λ_=>rfl⟩,go env' v x w' hs hv same hk⟩
         | true=>
           rw [he] at hk
           cases hl:late ops j with
           | true=>
             rw [hl] at hk
             simp only [Bool.not_true,Bool.and_false,cond_false] at hk
             exact ⟨⟨λ_ e=>(by cases e),λe=>(by cases e)⟩,go env' v x w' hs hv (.inr (qY (qID hcl hl hjr) j)) hk⟩
           | false=>
             rw [hl] at hk
             simp only [Bool.not_false,Bool.and_true,cond_true] at hk
             exact ⟨⟨λ_ _=>hk.1,λe=>(by cases e)⟩,go env' v x w' hs hv (.inl hk.1) hk.2⟩
        unfold wOp wpOpIn
        simp only [ho]
        rcases iV k3 h with ⟨hw,env',h9,h⟩ | ⟨hw,env',h9,h⟩
        ·rw [eops] at hw
         rw [if_pos hw]
         cases p8:iR P o with
         | true=>
           unfold sN at h
           simp only [p8,cond_true] at h
           obtain ⟨t,v,hr,hv,h⟩:=jD h9 h
           exact iQ (hdf _ _ ho) (hr w) (fin env' v t w h9 hv (λ_=>rfl) h)
         | false=>
           cases hlo:dC o with
           | true=>
             unfold sN at h
             simp only [p8,cond_false] at h
             cases p9:o.op <;> simp [dC,p9] at hlo
             rename_i T x
             unfold nB at h
             simp only [p9] at h
             split at h
             ·rename_i q' hx
              obtain ⟨ad,rfl,h⟩:=cK h
              cases hf:gM P T with
              | false=>simp [hf,aA] at h
              | true=>
                simp only [hf,cond_true] at h
                obtain ⟨t,t1,t2,t3,hr,h⟩:=dL _ _ h
                refine iQ (hdf _ _ ho) (v:=t.enc) (w':=w) ?_ (fin env' t.enc t w h9 (λ_=>rfl) (λ_=>rfl) h)
                simp [execOp,p9,h9.is hx rfl,TV.enc,Instr.loadAt,Instr.sureAddr,fD hf t1 t2 t3 hr]
             ·exact h.elim
           | false=>
             exact sK (hdf _ _ ho) h9 h (λt v w' hv hk=>fin env' v t w' h9 hv (λe=>by simp [eff,ho,p8,hlo] at e) hk) (λc w' hc=>hp c a w' h9.1 hsame hd hc)
        ·rw [eops] at hw
         rw [if_neg (by simp [hw])]
         exact ⟨λ_ _=>trivial,by simpa using fin env' undef (.tup []) w h9 (λ_=>rfl) (λ_=>rfl) h⟩
   ·exact ih j hj
end
end
end Go.Sh
end
