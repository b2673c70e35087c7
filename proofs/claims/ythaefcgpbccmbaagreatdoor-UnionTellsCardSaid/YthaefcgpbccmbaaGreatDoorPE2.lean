/- The forms of the translated functions,their contracts and the plain laws behind them,put together by a program. -/
import Derived.Test.YthaefcgpbccmbaaGreatDoorPE1
import Derived.RangeFuncLeaves
import Derived.RangeFuncCalls
set_option linter.unusedSimpArgs false
set_option linter.unusedVariables false
set_option maxRecDepth 100000
set_option maxHeartbeats 4000000
section
namespace Go.Sh
open Go
abbrev Fr (r:Option Nat):Fence:={Fence.wide with round:=r}
theorem sD {r:Option Nat} {n:Nat} {P:Program} {f:FuncId} {args:Array Value} {w:World} {R:Ending->World->Prop} : CallsIn (Fr r) n P f args w R↔Calls P f args w R:=callsIn_wide
theorem semAt_plain {r:Option Nat} {o:Oper} {ρ:Operand->Value} (h:cG o.op=false):o.semAt r ρ=execOp ρ o:=
 Oper.semAt_eq r ρ o λc e=>by rw [e] at h; cases h
section
variable {P:Program} {ops:Array Oper} {Q:Exit->Act->World->Prop} {r:Option Nat} {S:World->Prop}
theorem uO {j i:Nat} {o x:Oper} (h:late ops j=true) (hj:ops[j]? = some o) (hi:ops[i]? = some x) (hl:dC x=true) :
 (∃ e∈o.after,Region.binds .any e=true/\e.on=i)\/∃ e∈o.after,Region.binds .any e=true/\∃ y,ops[e.on]? = some y/\∃ g∈y.after,Region.binds .any g=true/\g.on=i:=by
 unfold late at h
 rw [hj] at h
 simp only [List.all_eq_true,List.mem_range] at h
 have hlt:i<ops.size:=(Array.getElem?_eq_some_iff.1 hi).1
 have:=h i hlt
 rw [hi] at this
 simp only [hl,Bool.not_true,Bool.false_or,Bool.or_eq_true] at this
 rcases this with this | this
 ·simp only [Array.any_eq_true,Bool.and_eq_true,Nat.beq_eq] at this
  obtain ⟨k,hk,h1,h2⟩:=this
  exact .inl ⟨o.after[k],Array.getElem_mem _,h1,h2⟩
 ·simp only [Bool.and_eq_true] at this
  have h2:=this.2
  unfold jFZ at h2
  rw [Array.any_eq_true] at h2
  obtain ⟨k,hk,h2⟩:=h2
  rw [Bool.and_eq_true] at h2
  obtain ⟨h3,h4⟩:=h2
  cases hy:ops[(o.after[k]).on]? with
  | none=>rw [hy] at h4; cases h4
  | some y=>
    rw [hy] at h4
    simp only [Array.any_eq_true,Bool.and_eq_true,Nat.beq_eq] at h4
    obtain ⟨k2,hk2,h5,h6⟩:=h4
    exact .inr ⟨o.after[k],Array.getElem_mem _,h3,y,hy,y.after[k2],Array.getElem_mem _,h5,h6⟩
def Closed (ops:Array Oper) (listed:Array Bool):Prop:=∀ m om,ops[m]? = some om->listed.getD m false=true->∀ e∈om.after,Region.binds .any e=true->listed.getD e.on false=true
theorem xS (ops:Array Oper) (n:Nat):Closed ops (Array.replicate n false):=λm om _ h=>by
 simp [Array.getD] at h
theorem rZ {listed:Array Bool} {j:Nat} (h:Closed ops listed) (hj:j∈Region.ready .any ops listed):Closed ops (listed.setIfInBounds j true):=λm om hm hl e he hb=>by
 by_cases h9:j=m
 ·subst h9
  obtain ⟨_,o,ho,hall⟩:=mem_ready.1 hj
  rw [hm] at ho; cases ho
  exact getD_set_true (hall e he hb)
 ·rw [getD_set_ne false h9] at hl
  exact getD_set_true (h m om hm hl e he hb)
abbrev wOp (P:Program) (ops:Array Oper) (r:Option Nat) (Q:Exit->Act->World->Prop):=wpOpIn (Fr r) 0 P ops Q
def lP (P:Program) (ops:Array Oper) (r:Option Nat) (Q:Exit->Act->World->Prop) (S:World->Prop):Nat->Array Bool->Act->World->Prop
 | 0,listed,a,w=>Region.ready .any ops listed=[]/\Q .normal a w
 | fuel+1,listed,a,w=>
   (Region.ready .any ops listed=[]->Q .normal a w)/\
   ∀ i∈Region.ready .any ops listed,wOp P ops r Q i (λa' w'=>((eff P ops i=true->late ops i=false->S w')/\(eff P ops i=false->w'=w))/\lP P ops r Q S fuel (listed.setIfInBounds i true) a' w') a w
theorem qCA : ∀ (fuel:Nat) (listed:Array Bool) (a:Act) (w:World),lP P ops r Q S fuel listed a w->wpAnyIn (Fr r) 0 P .any ops Q fuel listed a w
 | 0,_,_,_,h=>h
 | fuel+1,_,_,_,h=>⟨h.1,λi hi=>wpOpIn_mono (λa' w' h'=>qCA fuel _ a' w' h'.2) (h.2 i hi)⟩
theorem YieldsIf.wOp {i:Nat} {o:Oper} {v:Value} {a:Act} (hi:ops[i]? = some o) (hd:cG o.op=false) (hy:YieldsIf P ops S o v a)
 {K:Act->World->Prop} {w:World} (hS:S w) (h:K (a.put o.dst v) w):wOp P ops r Q i K a w:=by
 unfold Sh.wOp wpOpIn
 simp only [hi]
 rcases hy with ⟨hw,hv⟩ | ⟨hw,rfl⟩
 ·simp only [hw,if_true,Oper.wpIn,semAt_plain hd,hv w hS,Oper.uponIn]
  exact ⟨λ_ _=>trivial,h⟩
 ·simp only [hw,Bool.false_eq_true,if_false]
  exact ⟨λ_ _=>trivial,h⟩
theorem qFX {j:Nat} {oi oj:Oper} {v:Value} (hj:ops[j]? = some oj) (h9:cG oj.op=false) (hap:oi.apart ops oj=true)
 (k3 : ∀ cs b,oi.op≠.select cs b) (k4 : ∀ cs b,oj.op≠.select cs b)
 (hQ : ∀ c a w,Q (.panic c) (a.put oi.dst v) w->Q (.panic c) a w) {K:Act->World->Prop} {a:Act} {w:World}
 (hy:YieldsIf P ops S oi v a) (h:wOp P ops r Q j K (a.put oi.dst v) w) :
 wOp P ops r Q j (λa' w'=>YieldsIf P ops S oi v a'/\K (a'.put oi.dst v) w') a w:=by
 obtain ⟨h1,h2,h3⟩:=Oper.apart_spec hap
 have keep : ∀ (a:Act),YieldsIf P ops S oi v a->∀ u,YieldsIf P ops S oi v (a.put oj.dst u):=λa hy u=>
  hy.of_same (execOp_put oi k3 a oj.dst u h3) (wanted_put oi a oj.dst u h3)
 unfold Sh.wOp wpOpIn at *
 simp only [hj] at *
 rw [wanted_put oj a oi.dst v h1] at h
 split
 ·rename_i hw
  simp only [hw,if_true] at h
  unfold Oper.wpIn at *
  refine ⟨λ_ _=>trivial,?_⟩
  have h:=h.2
  rw [semAt_plain h9,execOp_put oj k4 a oi.dst v h1] at h
  rw [semAt_plain h9]
  generalize (execOp a.eval oj).run P w=res at *
  cases res with
  | ok n w'=>
    cases n <;> simp only [Oper.uponIn] at h ⊢
    case value u=>exact ⟨keep a hy u,by rw [<-Act.put_comm a v u h2]; exact h⟩
    case skip=>exact ⟨keep a hy _,by rw [<-Act.put_comm a v undef h2]; exact h⟩
    case defer d=>
     refine ⟨(hy.of_same rfl rfl:YieldsIf P ops S oi v {a with defers:=d :: a.defers}) |> λk5=>keep _ k5 _,?_⟩
     rw [<-Act.put_comm _ v undef h2,<-Act.put_defers]
     exact h
    case enter f args=>
     refine ⟨h.1,CallsIn.mono h.2 λe w'' he=>?_⟩
     cases e with
     | returned u=>exact ⟨keep a hy u,by rw [<-Act.put_comm a v u h2]; exact he⟩
     | panicked c=>exact hQ _ _ _ he
     | outgrown=>exact he
    case row row args=>exact ⟨h.1,RowsIn.mono h.2 λu w'' he=>⟨keep a hy u,by rw [<-Act.put_comm a v u h2]; exact he⟩⟩
    case round l f tmps assign body=>
     refine ⟨h.1,RoundIn.mono h.2 λe w'' he=>?_⟩
     cases e with
     | returned u=>exact ⟨keep a hy u,by rw [<-Act.put_comm a v u h2]; exact he⟩
     | panicked c=>exact hQ _ _ _ he
     | outgrown=>exact he
  | halt x w'=>
    cases x <;> simp only [Oper.uponIn] at h ⊢
    case panic u=>exact hQ _ _ _ h
 ·rename_i hw
  simp only [hw] at h
  exact ⟨λ_ _=>trivial,keep a hy _,by rw [<-Act.put_comm a v undef h2]; exact h.2⟩
theorem qBD {i:Nat} {oi:Oper} {v:Value} {S':World->Prop} (hi:ops[i]? = some oi) (hsel : ∀ (j:Nat) (o:Oper) cs b,ops[j]? = some o->o.op≠.select cs b) (hdf : ∀ (j:Nat) (o:Oper),ops[j]? = some o->cG o.op=false)
 (hQ : ∀ c a w,Q (.panic c) (a.put oi.dst v) w->Q (.panic c) a w) (k5:(∀ w,S' w)\/(dC oi=true/\∀ w,S w->S' w)) (q8:eff P ops i=false) :
 ∀ (fuel:Nat) (listed:Array Bool) (a:Act) (w:World),
   (∀ j oj,ops[j]? = some oj->j≠i->listed.getD j true=false->(∀ e∈oj.after,Region.binds .any e=true->e.on≠i)->oi.apart ops oj=true)->
   (∀ m om,ops[m]? = some om->listed.getD m false=true->∀ e∈om.after,Region.binds .any e=true->e.on≠i)->
   i∈Region.ready .any ops listed->YieldsIf P ops S' oi v a->S' w->
   lP P ops r Q S fuel (listed.setIfInBounds i true) (a.put oi.dst v) w->lP P ops r Q S (fuel+1) listed a w:=by
 intro fuel
 induction fuel with
 | zero=>
   intro listed a w _ _ hr hy hS H
   refine ⟨λh=>(by rw [h] at hr; cases hr),λj hj=>?_⟩
   by_cases hji:j=i
   ·subst hji; exact YieldsIf.wOp hi (hdf _ _ hi) hy hS ⟨⟨λe=>by (rw [q8] at e; cases e),λ_=>rfl⟩,H⟩
   ·have:=ready_mono hj hji
    rw [H.1] at this
    cases this
 | succ fuel ih=>
   intro listed a w h9 hcl hr hy hS H
   refine ⟨λh=>(by rw [h] at hr; cases hr),λj hj=>?_⟩
   by_cases hji:j=i
   ·subst hji; exact YieldsIf.wOp hi (hdf _ _ hi) hy hS ⟨⟨λe=>by (rw [q8] at e; cases e),λ_=>rfl⟩,H⟩
   ·have h1:=H.2 j (ready_mono hj hji)
    obtain ⟨k6,oj,k4,hall⟩:=mem_ready.1 hj
    have hnot : ∀ e∈oj.after,Region.binds .any e=true->e.on≠i:=λe he hb heq=>by
     have h1:=hall e he hb
     have h0:=(mem_ready.1 hr).1
     rw [heq] at h1
     rcases Nat.lt_or_ge i listed.size with h' | h'
     ·simp [h'] at h0 h1; rw [h0] at h1; cases h1
     ·simp [Array.getElem?_eq_none h'] at h1
    have hnl:dC oi=true->late ops j=false:=λhl=>by
     cases hlt:late ops j with
     | false=>rfl
     | true=>
       rcases uO hlt k4 hi hl with ⟨e,he,hb,p8⟩ | ⟨e,he,hb,y,u0,g,hg,hgb,p8⟩
       ·exact absurd p8 (hnot e he hb)
       ·exact absurd p8 (hcl _ y u0 (hall e he hb) g hg hgb)
    have h2:=qFX k4 (hdf _ _ k4) (h9 j oj k4 hji k6 hnot) (λcs b=>hsel i oi cs b hi) (λcs b=>hsel j oj cs b k4) hQ hy h1
    have k3 : ∀ k ok,ops[k]? = some ok->k≠i->(listed.setIfInBounds j true).getD k true=false->
     (∀ e∈ok.after,Region.binds .any e=true->e.on≠i)->oi.apart ops ok=true:=λk ok hk u1 q9 hno=>by
     refine h9 k ok hk u1 ?_ hno
     by_cases hjk:j=k
     ·subst hjk; exact k6
     ·rw [getD_set_ne true hjk] at q9; exact q9
    refine wpOpIn_mono (λa' w' h3=>?_) h2
    have hS2:S' w':=by
     cases he:eff P ops j with
     | false=>rw [h3.2.1.2 he]; exact hS
     | true=>
       rcases k5 with k5 | ⟨hl,k5⟩
       ·exact k5 w'
       ·exact k5 w' (h3.2.1.1 he (hnl hl))
    have p9 : ∀ m om,ops[m]? = some om->(listed.setIfInBounds j true).getD m false=true->∀ e∈om.after,Region.binds .any e=true->e.on≠i:=λm om hm t6 e he hb=>by
     by_cases t7:j=m
     ·subst t7
      rw [k4] at hm; cases hm
      exact hnot e he hb
     ·rw [getD_set_ne false t7] at t6
      exact hcl m om hm t6 e he hb
    refine ⟨h3.2.1,ih (listed.setIfInBounds j true) a' w' k3 p9 (ready_mono hr (Ne.symm hji)) h3.1 hS2 ?_⟩
    rw [Array.setIfInBounds_comm _ _ hji]
    exact h3.2.2
theorem qFH {i:Nat} {oi:Oper} {v:Value} {S':World->Prop} {fuel:Nat} {listed:Array Bool} {a:Act} {w:World} (hi:ops[i]? = some oi)
 (hs:Region.noSelect ops=true) (hdf : ∀ (j:Nat) (o:Oper),ops[j]? = some o->cG o.op=false) (hf:Region.free .any ops listed i=true) (hr:(Region.ready .any ops listed).contains i=true)
 (hQ : ∀ c a w,Q (.panic c) (a.put oi.dst v) w->Q (.panic c) a w) (h9:(∀ w,S' w)\/(dC oi=true/\∀ w,S w->S' w)) (k3:eff P ops i=false) (hy:YieldsIf P ops S' oi v a) (hS:S' w) (hcl:Closed ops listed)
 (h:lP P ops r Q S fuel (listed.setIfInBounds i true) (a.put oi.dst v) w):lP P ops r Q S (fuel+1) listed a w:=
 qBD hi (Region.noSelect_spec hs) hdf hQ h9 k3 fuel listed a w (Region.free_spec hi hf) (λm om hm hl e he hb heq=>by
  have h1:=hcl m om hm hl e he hb
  have h0:=(mem_ready.1 (show i∈Region.ready .any ops listed by simpa using hr)).1
  rw [heq] at h1
  rcases Nat.lt_or_ge i listed.size with h' | h'
  ·simp [h'] at h0 h1; rw [h0] at h1; cases h1
  ·simp [Array.getElem?_eq_none h'] at h1) (by simpa using hr) hy hS h
theorem qKI {rs:List Nat} {fuel:Nat} {listed:Array Bool} {a:Act} {w:World} (hr:Region.ready .any ops listed=rs) (hne:rs≠[])
 (h : ∀ i∈rs,wOp P ops r Q i (λa' w'=>((eff P ops i=true->late ops i=false->S w')/\(eff P ops i=false->w'=w))/\lP P ops r Q S fuel (listed.setIfInBounds i true) a' w') a w):lP P ops r Q S (fuel+1) listed a w:=
 ⟨λh0=>absurd (hr ▸ h0) hne,hr ▸ h⟩
theorem qGP {listed:Array Bool} {a:Act} {w:World} (hr:Region.ready .any ops listed=[]) (h:Q .normal a w) : ∀ fuel,lP P ops r Q S fuel listed a w
 | 0=>⟨hr,h⟩
 | _+1=>⟨λ_=>h,by rw [hr]; simp⟩
theorem oV {id:Nat} {a:Act} {w:World} (hm:P.follows .mixedOrders=true)
 (h:lP P ops r Q S ops.size (Array.replicate ops.size false) a w.drew):(Code.region id ops true).wpIn (Fr r) 0 P Q a w:=
 wpIn_region_any hm (qCA _ _ _ _ h)
end
section
variable {P:Program} {N:Nat} {env:Env} {a:Act} {w:World} {o:Oper} {K:Act->World->Prop} {Q:Exit->Act->World->Prop} {r:Option Nat}
theorem iQ (hdf:cG o.op=false) {v:Value} {w':World} (h:(execOp a.eval o).run P w = .ok (.value v) w') (hk:K (a.put o.dst v) w'):o.wpIn (Fr r) 0 P a w K Q:=by
 unfold Oper.wpIn; rw [semAt_plain hdf,h]; exact ⟨λ_ _=>trivial,hk⟩
theorem qSP (hdf:cG o.op=false) {w':World} (h:(execOp a.eval o).run P w = .ok .skip w') (hk:K (a.put o.dst undef) w'):o.wpIn (Fr r) 0 P a w K Q:=by
 unfold Oper.wpIn; rw [semAt_plain hdf,h]; exact ⟨λ_ _=>trivial,hk⟩
theorem fD {T:TypeId} {ad:Addr} {t:TV} (hf:gM P T=true) (hl:t.cells.length=kM (kindOf P 20 T)) (h9:t.isAgg=qDF (kindOf P 20 T)) (hb:t.isBad=false) (hr:Rd w ad t.cells) :
 (loadVar T ad).run P w = .ok t.enc w:=by
 simp only [gM,Bool.and_eq_true,beq_iff_eq,Nat.beq_eq] at hf
 obtain ⟨⟨⟨k1,k2⟩,k3⟩,k4⟩:=hf
 unfold loadVar
 simp only [Sem.run_bind,uB (Option.some_get k4).symm,Result.andThen_ok]
 rw [<-k2,<-h9]
 cases hA:t.isAgg with
 | true=>
   simp only [↓reduceIte,Sem.run_bind,dJ k3,Result.andThen_ok,Sem.run_pure]
   rw [<-k1,<-hl,run_loadCells_list w ad t.cells hr]
   simp [qBS hA]
 | false=>
   have hc:=oQ hA hb
   have:=hr 0 t.enc (by rw [hc]; rfl)
   rw [Addr.add_zero'] at this
   simp [this]
theorem eB (hdf:cG o.op=false) {s:Sem Value} {κ:Kd} {next:TV->World->Prop} (he:execOp a.eval o=(do let x <-s; pure (Next.value x))) (h:aH P s w λv w'=>xE κ v λt=>next t w')
 (hn : ∀ t v w',(t.isBad=false->v=t.enc)->next t w'->K (a.put o.dst v) w'):o.wpIn (Fr r) 0 P a w K Q:=by
 obtain ⟨v,w',hr,h1⟩:=h
 have h2:exK κ λt=>v=t.enc/\next t w':=h1
 obtain ⟨t,_,_,_,hv,h3⟩:=dL _ _ h2
 exact iQ hdf (by rw [he]; simp [hr]) (hn t _ w' (λ_=>hv) h3)
theorem qO (hdf:cG o.op=false) {s:Sem Unit} {next:TV->World->Prop} (he:execOp a.eval o=(do s; pure Next.skip)) (h:aJ P s w λw'=>next .bad w')
 (hn : ∀ t v w',(t.isBad=false->v=t.enc)->next t w'->K (a.put o.dst v) w'):o.wpIn (Fr r) 0 P a w K Q:=by
 obtain ⟨w',hr,h⟩:=h
 exact qSP hdf (by rw [he]; simp [hr]) (hn .bad undef w' (λhb=>by simp [TV.isBad] at hb) h)
theorem rS (hdf:cG o.op=false) {f:FuncId} {args:List Value} {κ:Kd} {pan:List PanicEntry->World->Prop} {next:TV->World->Prop} (hr:(execOp a.eval o).run P w = .ok (.enter f args.toArray) w)
 (h:aD P f args w pan λv w'=>xE κ v λt=>next t w')
 (hn : ∀ t v w',(t.isBad=false->v=t.enc)->next t w'->K (a.put o.dst v) w') (hp : ∀ c w',pan c w'->Q (.panic c) a w'):o.wpIn (Fr r) 0 P a w K Q:=by
 unfold Oper.wpIn
 rw [semAt_plain hdf,hr,Oper.uponIn_enter]
 refine ⟨λ_ _=>trivial,λh=>by simp [Fence.wide] at h,sD.2 (Calls.mono h λe w' he=>?_)⟩
 cases e with
 | returned v=>
   have h9:exK κ λt=>v=t.enc/\next t w':=he
   obtain ⟨t,_,_,_,hv,h⟩:=dL _ _ h9
   exact hn t _ w' (λ_=>hv) h
 | panicked c=>exact hp c w' he
 | outgrown=>exact he.elim
theorem nG {f:FuncId} {args:Array Value} (h:enters P f=true) (w:World):(callFunc f args).run P w = .ok (.enter f args) w:=by
 unfold enters at h
 cases hf:P.funcs[f]? with
 | none=>simp [hf] at h
 | some fn=>
   simp only [hf,Bool.and_eq_true,Bool.not_eq_true'] at h
   unfold callFunc
   have h1 : ¬ fn.name = "runtime.NumGoroutine":=by simpa using h.1
   have hb : ¬ fn.body=none:=by intro e; simp [e] at h
   simp [hf,h1,hb]
theorem bV (h9:Sim N env a.tmps) {x:Operand} (h:(!(ev env x).isBad)=true):a.eval x=(ev env x).enc:=h9.eval x (by simpa using h)
theorem qFK (hdf:cG o.op=false) {l:Nat} {args:List Value} {κ:Kd} {next:TV->World->Prop} (hr : ∀ x,(Instr.yield l args.toArray).run P w = .ok x w->(execOp a.eval o).run P w = .ok x w)
 (h:eZ P l args w λv w'=>xE κ v λt=>next t w') (hn : ∀ t v w',(t.isBad=false->v=t.enc)->next t w'->K (a.put o.dst v) w'):o.wpIn (Fr r) 0 P a w K Q:=by
 obtain ⟨f,tmps,assign,body,h1,h2⟩:=h
 unfold Oper.wpIn
 rw [semAt_plain hdf,hr _ h1,Oper.uponIn_round]
 refine ⟨λ_ _=>trivial,λh=>by simp [Fence.wide] at h,?_⟩
 have h9:RoundIn (Fr r) (0 - 1) P l f tmps assign body w λe w'=>∃ v,e = .returned v/\xE κ v λt=>next t w':=h2
 refine RoundIn.mono h9 λe w' he=>?_
 obtain ⟨v,rfl,he⟩:=he
 have k3:exK κ λt=>v=t.enc/\next t w':=he
 obtain ⟨t,_,_,_,hv,h⟩:=dL _ _ k3
 exact hn t _ w' (λ_=>hv) h
theorem qGM (hdf:cG o.op=false) {pan:List PanicEntry->World->Prop} {next:TV->World->Prop} (h9:Sim N env a.tmps) (h:nB P o env w pan next)
 (hn : ∀ t v w',(t.isBad=false->v=t.enc)->next t w'->K (a.put o.dst v) w') (hp : ∀ c w',pan c w'->Q (.panic c) a w'):o.wpIn (Fr r) 0 P a w K Q:=by
 obtain ⟨dst,op,type,pos,after,guard⟩:=o
 unfold nB at h
 simp only at h
 cases op <;> (try simp only at h) <;> try (exact h.elim)
 case load T x=>
  split at h
  ·rename_i q hx
   obtain ⟨ad,rfl,h⟩:=cK h
   cases hf:gM P T with
   | false=>simp [hf,aA] at h
   | true=>
     simp only [hf,cond_true] at h
     obtain ⟨t,t1,t2,t3,hr,h⟩:=dL _ _ h
     refine iQ hdf (v:=t.enc) (w':=w) ?_ (hn t _ w (λ_=>rfl) h)
     simp [execOp,h9.is hx rfl,TV.enc,Instr.loadAt,Instr.sureAddr,fD hf t1 t2 t3 hr]
  ·exact h.elim
 case store T x y=>
  split at h
  ·rename_i q hx
   obtain ⟨ad,rfl,h⟩:=cK h
   cases hg:(!(ev env y).isBad) with
   | false=>simp [hg,aA] at h
   | true=>
     simp only [hg,cond_true] at h
     refine qO hdf ?_ h hn
     simp only [execOp,h9.is hx rfl,bV h9 hg,TV.enc]
     rfl
  ·exact h.elim
 case alloc T=>exact eB hdf rfl h hn
 case box T x=>
  cases hg:(!(ev env x).isBad) with
  | false=>simp [hg] at h
  | true=>
    simp only [hg,cond_true] at h
    exact eB hdf (by simp only [execOp,bV h9 hg]) h hn
 case buildSlice T n parts=>
  cases hg:(parts.toList.all λq=>!(ev env q.2).isBad) with
  | false=>simp [hg] at h
  | true=>
    simp only [hg,cond_true] at h
    refine eB hdf ?_ h hn
    have e:(parts.map λ(x:Nat×Operand)=>(x.1,a.eval x.2))=parts.map λ(x:Nat×Operand)=>(x.1,(ev env x.2).enc):=by
     apply Array.ext'
     simp only [Array.toList_map]
     apply List.map_congr_left
     intro x hx
     have:=List.all_eq_true.1 hg x hx
     rw [bV h9 this]
    simp only [execOp]
    rw [<-e]
 case insert T m k x=>
  cases hg:(!(ev env m).isBad&&!(ev env k).isBad&&!(ev env x).isBad) with
  | false=>simp [hg] at h
  | true=>
    simp only [hg,cond_true] at h
    simp only [Bool.and_eq_true] at hg
    exact qO hdf (by simp only [execOp,bV h9 hg.1.1,bV h9 hg.1.2,bV h9 hg.2]) h hn
 case mapUpdate T m k x=>
  cases hg:(!(ev env m).isBad&&!(ev env k).isBad&&!(ev env x).isBad) with
  | false=>simp [hg] at h
  | true=>
    simp only [hg,cond_true] at h
    simp only [Bool.and_eq_true] at hg
    exact qO hdf (by simp only [execOp,bV h9 hg.1.1,bV h9 hg.1.2,bV h9 hg.2]) h hn
 case entryStore T m k x=>
  cases hg:(!(ev env m).isBad&&!(ev env k).isBad&&!(ev env x).isBad) with
  | false=>simp [hg] at h
  | true=>
    simp only [hg,cond_true] at h
    simp only [Bool.and_eq_true] at hg
    exact qO hdf (by simp only [execOp,bV h9 hg.1.1,bV h9 hg.1.2,bV h9 hg.2]) h hn
 case mapEntry T m k=>
  cases hg:(!(ev env m).isBad&&!(ev env k).isBad) with
  | false=>simp [hg] at h
  | true=>
    simp only [hg,cond_true] at h
    simp only [Bool.and_eq_true] at hg
    exact eB hdf (by simp only [execOp,bV h9 hg.1,bV h9 hg.2]) h hn
 case lookup T m k ok=>
  cases hg:(!(ev env m).isBad&&!(ev env k).isBad) with
  | false=>simp [hg] at h
  | true=>
    simp only [hg,cond_true] at h
    simp only [Bool.and_eq_true] at hg
    exact eB hdf (by simp only [execOp,bV h9 hg.1,bV h9 hg.2]) h hn
 case makeSlice T m k=>
  cases hg:(!(ev env m).isBad&&!(ev env k).isBad) with
  | false=>simp [hg] at h
  | true=>
    simp only [hg,cond_true] at h
    simp only [Bool.and_eq_true] at hg
    exact eB hdf (by simp only [execOp,bV h9 hg.1,bV h9 hg.2]) h hn
 case convert s d x=>
  cases hg:(!(ev env x).isBad) with
  | false=>simp [hg] at h
  | true=>
    simp only [hg,cond_true] at h
    exact eB hdf (by simp only [execOp,bV h9 hg]) h hn
 case range T x=>
  cases hg:(!(ev env x).isBad) with
  | false=>simp [hg] at h
  | true=>
    simp only [hg,cond_true] at h
    exact eB hdf (by simp only [execOp,bV h9 hg]) h hn
 case next x b=>
  cases hg:(!(ev env x).isBad) with
  | false=>simp [hg] at h
  | true=>
    simp only [hg,cond_true] at h
    exact eB hdf (by simp only [execOp,bV h9 hg]) h hn
 case entry x=>
  cases hg:(!(ev env x).isBad) with
  | false=>simp [hg] at h
  | true=>
    simp only [hg,cond_true] at h
    exact eB hdf (by simp only [execOp,bV h9 hg]) h hn
 case typeAssert x T b ok=>
  cases hg:(!(ev env x).isBad) with
  | false=>simp [hg] at h
  | true=>
    simp only [hg,cond_true] at h
    exact eB hdf (by simp only [execOp,bV h9 hg]) h hn
 case makeMap T r=>
  cases r with
  | none=>exact eB hdf rfl h hn
  | some x=>
    simp only at h
    cases hg:(!(ev env x).isBad) with
    | false=>simp [hg] at h
    | true=>
      simp only [hg,cond_true] at h
      exact eB hdf (by simp only [execOp,Option.map_some,bV h9 hg]) h hn
 case panic x=>
  split at h
  ·rename_i z hx
   unfold zV at h
   split at h
   ·rename_i T y
    unfold Oper.wpIn
    have:(execOp a.eval {dst,op:=.panic x,type,pos,after,guard}).run P w = .halt (.panic (.iface T y)) w:=by
     simp [execOp,h9.is hx rfl,TV.enc,Instr.panic]
    rw [semAt_plain hdf,this]
    exact ⟨λ_ _=>trivial,hp _ _ h⟩
   ·exact h.elim
  ·exact h.elim
 case call c=>
  obtain ⟨callee,args,argTypes⟩:=c
  simp only at h
  cases hg:gW env args with
  | false=>simp [hg] at h
  | true=>
    simp only [hg,cond_true] at h
    have ea:=oI h9 hg
    cases callee with
    | builtin b=>
      cases b <;> (try simp only at h) <;> (try (exact h.elim)) <;>
       exact eB hdf (by simp only [execOp,resolve,ea,invoke,builtin,pure_bind]) h hn
    | value f=>
      simp only at h
      split at h
      ·rename_i fv hf
       have k3:=h9.is hf rfl
       unfold dY at h
       split at h
       ·rename_i fid first cap
        cases he:enters P fid with
        | true=>
          simp only [he,cond_true] at h
          refine rS hdf (args:=first.toList++evs env args++cap.toList) ?_ h hn hp
          have:(first.toList++evs env args++cap.toList).toArray=first++(evs env args).toArray++cap:=by apply Array.ext'; simp
          rw [this]
          simp [execOp,resolve,k3,TV.enc,ea,Deferred.ofValue,invoke,nG he]
        | false=>
          simp only [he,cond_false] at h
          obtain ⟨v,w',hr,h1⟩:=h
          have h2:exK (kindOf P 20 type) λt=>v=t.enc/\next t w':=h1
          obtain ⟨t,_,_,_,hv,h3⟩:=dL _ _ h2
          refine iQ hdf (v:=v) (w':=w') ?_ (hn t _ w' (λ_=>hv) h3)
          simp [execOp,resolve,k3,TV.enc,ea,Deferred.ofValue,invoke]
          simpa [TV.enc] using hr
       ·rename_i l first cap
        refine qFK hdf (λx hx=>?_) h hn
        have:(first.toList++evs env args).toArray=first++(evs env args).toArray:=by apply Array.ext'; simp
        rw [this] at hx
        simp only [execOp,resolve,k3,TV.enc,ea,Deferred.ofValue,Sem.run_bind,Sem.run_pure,Result.andThen_ok]
        simpa [invoke] using hx
       ·rename_i fn first cap _ _
        obtain ⟨f,args',hr,h⟩:=h
        refine rS hdf (args:=args'.toList) ?_ h hn hp
        simp only [execOp,resolve,k3,TV.enc,ea,Deferred.ofValue,Sem.run_bind,Sem.run_pure,Result.andThen_ok]
        simpa using hr
       ·exact h.elim
      ·exact h.elim
    | invoke r name=>
      simp only at h
      split at h
      ·rename_i rv hx
       obtain ⟨f,args',hr,h⟩:=h
       refine rS hdf (args:=args'.toList) ?_ h hn hp
       simp only [execOp,resolve,h9.is hx rfl,TV.enc,ea,Sem.run_bind,Sem.run_pure,Result.andThen_ok]
       simpa using hr
      ·exact h.elim
theorem sK (hdf:cG o.op=false) {pan:List PanicEntry->World->Prop} {next:TV->World->Prop} (h9:Sim N env a.tmps) (h:sN P o env w pan next)
 (hn : ∀ t v w',(t.isBad=false->v=t.enc)->next t w'->K (a.put o.dst v) w') (hp : ∀ c w',pan c w'->Q (.panic c) a w'):o.wpIn (Fr r) 0 P a w K Q:=by
 unfold sN at h
 cases hc:iR P o with
 | true=>
   simp only [hc,cond_true] at h
   obtain ⟨t,v,hr,hv,h⟩:=jD h9 h
   exact iQ hdf (hr w) (hn t v w hv h)
 | false=>
   simp only [hc,cond_false] at h
   exact qGM hdf h9 h hn hp
end
mutual
def qGW:Kd->TV
 | .i k=>.i k 0
 | .u8=>.u8 0
 | .u64=>.u64 0
 | .b=>.b false
 | .s=>.s []
 | .p=>.p none
 | .sl=>.sl ⟨none,0,0⟩
 | .m=>.m none
 | .v=>.v .nilFunc
 | .agg fs=>.agg (yY fs)
 | .tup fs=>.tup (yY fs)
 | .la _ _=>.bad
def yY:List Kd->List TV
 | []=>[]
 | k :: r=>qGW k :: yY r
end
mutual
theorem qEG : ∀ κ:Kd,pE κ=true->okK κ (qGW κ)=true
 | .i k,_=>by simp [okK,qGW]
 | .u8,_=>rfl
 | .u64,_=>rfl
 | .b,_=>rfl
 | .s,_=>rfl
 | .p,_=>rfl
 | .sl,_=>rfl
 | .m,_=>rfl
 | .v,_=>rfl
 | .agg fs,h=>by simp only [okK,qGW]; exact sF fs (by simpa [pE] using h)
 | .tup fs,h=>by simp only [okK,qGW]; exact sF fs (by simpa [pE] using h)
 | .la _ _,h=>by simp [pE] at h
theorem sF : ∀ κs:List Kd,nV κs=true->eP κs (yY κs)=true
 | [],_=>rfl
 | k :: r,h=>by
   simp only [nV,Bool.and_eq_true] at h
   simp [eP,yY,qEG k h.1,sF r h.2]
end
section
variable {P:Program} {N:Nat} {ops:Array Oper} {r:Option Nat} {Q:Exit->Act->World->Prop} {S:World->Prop} {Ts:Nat->Value->World->Prop} {w0:World}
def gN (ops:Array Oper) (a:Act) (j:Nat):Value:=match cT ops j with | some d=>a.tmps.getD d undef | none=>undef
theorem Sim.putD' {env:Env} {a:Act} (h:Sim N env a.tmps) {d:Option Tmp} (hd:eH N d=true) {x:TV} {v:Value} (hv:x.isBad=false->v=x.enc) :
 Sim N (Sh.iK env d x) (a.put d v).tmps:=by
 cases d with
 | none=>exact h
 | some d=>exact h.put (by simpa [eH] using hd) hv
theorem fK (l:List Oper) (o:Oper) (h:o∈l) (x:Nat) (hx:o.dst=some x):x∈aW l:=by
 induction l with
 | nil=>cases h
 | cons y r ih=>
   rcases List.mem_cons.1 h with e | e
   ·subst e; simp [aW,hx]
   ·have:=ih e
    unfold aW
    cases y.dst <;> simp [this]
theorem qJL {a b:Act} (h:a.tmps.size=b.tmps.size) {d:Option Tmp} {u v:Value} (e:a.put d u=a.put d v):b.put d u=b.put d v:=by
 cases d with
 | none=>rfl
 | some d=>
   have e':a.tmps.setIfInBounds d u=a.tmps.setIfInBounds d v:=congrArg Act.tmps e
   have:b.tmps.setIfInBounds d u=b.tmps.setIfInBounds d v:=by
    by_cases hd:d<a.tmps.size
    ·have h1:=congrArg (λx:Array Value=>x[d]?) e'
     simp [hd] at h1
     rw [h1]
    ·have hb : ¬ d<b.tmps.size:=by rw [<-h]; exact hd
     simp [Array.setIfInBounds,hb]
   show ({b with tmps:=_} : Act) = {b with tmps:=_}
   rw [this]
theorem jO (a:Act) (d:Option Tmp) (v:Value):(a.put d v).tmps.size=a.tmps.size:=by cases d <;> simp [Act.put]
theorem wF (a:Act) (d:Option Tmp) (v:Value):(a.put d v).defers=a.defers:=by cases d <;> rfl
theorem uG {o:Oper} {a b:Act} {w:World} {X:Value->World->Prop} (hdf:cG o.op=false) (he:execOp b.eval o=execOp a.eval o) (hsz:a.tmps.size=b.tmps.size) (h:o.wpIn (Fr r) 0 P a w (λa' w'=>∃ v,a'=a.put o.dst v/\X v w') Q)
 (hq : ∀ c w',Q (.panic c) a w'->Q (.panic c) b w'):o.wpIn (Fr r) 0 P b w (λb' w'=>∃ v,b'=b.put o.dst v/\X v w') Q:=by
 unfold Oper.wpIn at *
 refine ⟨λ_ _=>trivial,?_⟩
 have h:=h.2
 have hk : ∀ u w',(∃ v,a.put o.dst u=a.put o.dst v/\X v w')->∃ v,b.put o.dst u=b.put o.dst v/\X v w':=λu w' ⟨v,e,hx⟩=>⟨v,qJL hsz e,hx⟩
 rw [semAt_plain hdf] at h
 rw [semAt_plain hdf,he]
 generalize (execOp a.eval o).run P w=res at *
 cases res with
 | ok n w'=>
   cases n <;> simp only [Oper.uponIn] at h ⊢
   case value u=>exact hk _ _ h
   case skip=>exact hk _ _ h
   case defer d=>
    obtain ⟨v,e,_⟩:=h
    have:=congrArg (λx:Act=>x.defers.length) e
    simp [wF] at this
   case enter f args=>
    refine ⟨h.1,CallsIn.mono h.2 λe w'' he=>?_⟩
    cases e with
    | returned u=>exact hk _ _ he
    | panicked c=>exact hq _ _ he
    | outgrown=>exact he
   case row row args=>exact ⟨h.1,RowsIn.mono h.2 λu w'' he=>hk _ _ he⟩
   case round l f tmps assign body=>
    refine ⟨h.1,RoundIn.mono h.2 λe w'' he=>?_⟩
    cases e with
    | returned u=>exact hk _ _ he
    | panicked c=>exact hq _ _ he
    | outgrown=>exact he
 | halt x w'=>
   cases x <;> simp only [Oper.uponIn] at h ⊢
   case panic u=>exact hq _ _ h
def HT (ops:Array Oper) (Ts:Nat->Value->World->Prop) (j:Nat) (a:Act) (w:World):Prop:=Ts j (gN ops a j) w
def nP (P:Program) (r:Option Nat) (ops:Array Oper) (Q:Exit->Act->World->Prop) (S:World->Prop) (Ts:Nat->Value->World->Prop) (w0:World) (END:Act->World->Prop) (L:Array Bool):List (Nat×Kd)->List Nat->Act->Prop
 | [],hs,ac=>∀ w,Mod NoB w0 w->S w->(∀ q∈hs,HT ops Ts q ac w)->END ac w
 | (i,κ) :: js,hs,ac=>∃ o,ops[i]? = some o/\
    (gH P o=true->(L.getD i true=true->nP P r ops Q S Ts w0 END L js hs ac)/\
     (L.getD i true=false->∃ v,(∀ w,S w->(execOp ac.eval o).run P w = .ok (.value v) w)/\nP P r ops Q S Ts w0 END L js hs (ac.put o.dst v)))/\
    (gH P o=false->(L.getD i true=true->nP P r ops Q S Ts w0 END L js (i :: hs) ac)/\
     (L.getD i true=false->(∀ w,Mod NoB w0 w->S w->(∀ q∈hs,dA o q=true->HT ops Ts q ac w)->
      o.wpIn (Fr r) 0 P ac w (λa' w'=>∃ v,a'=ac.put o.dst v/\(∃ t,okK κ t=true/\v=t.enc)/\Mod NoB w w'/\S w'/\Ts i v w') Q)/\
      ∀ t,okK κ t=true->nP P r ops Q S Ts w0 END L js (i :: hs) (ac.put o.dst t.enc)))
structure qD (P:Program) (ops:Array Oper) (L0:Array Bool) (is:List (Nat×Kd)):Prop where
 inc:(is.map (·.1)).Pairwise (· < ·)
 op : ∀ q∈is,∃ o,ops[q.1]? = some o/\o.guard=none/\cG o.op=false/\(∃ d,o.dst=some d)/\L0.getD q.1 true=false/\(gH P o=true\/pE q.2=true)
 dst : ∀ q∈is,∀ p∈is,p.1≠q.1->cT ops p.1≠cT ops q.1
 reads : ∀ q∈is,∀ p∈is,∀ o,ops[q.1]? = some o->∀ d,cT ops p.1=some d->d∈o.looksAt ops->dA o p.1=true
 from_ : ∀ q∈is,∀ o,ops[q.1]? = some o->∀ e∈o.after,Region.binds .any e=true->L0.getD e.on false=true\/∃ p∈is,p.1=e.on/\p.1<q.1
 back : ∀ q∈is,∀ p∈is,∀ o,ops[q.1]? = some o->dA o p.1=true->p.1<q.1
 bar : ∀ k,k<ops.size->L0.getD k true=true\/(∃ q∈is,q.1=k)\/∃ o,ops[k]? = some o/\((∃ e,dA o e=true/\L0.getD e true=false/\∀ q∈is,q.1≠e)\/∀ q∈is,dA o q.1=true\/∃ p∈is,dA o p.1=true/\∀ x,ops[p.1]? = some x->dA x q.1=true)
theorem qCV : ∀ {is:List (Nat×Kd)},(is.map (·.1)).Pairwise (· < ·)->∀ {i:Nat} {κ κ':Kd},(i,κ)∈is->(i,κ')∈is->κ=κ'
 | [],_,_,_,_,h,_=>by cases h
 | q :: r,hp,i,κ,κ',h,h'=>by
   simp only [List.map_cons,List.pairwise_cons] at hp
   rcases List.mem_cons.1 h with e | h1
   ·rcases List.mem_cons.1 h' with e' | h2
    ·rw [<-e] at e'; cases e'; rfl
    ·have:=hp.1 i (List.mem_map.2 ⟨_,h2,rfl⟩); rw [<-e] at this; simp at this
   ·rcases List.mem_cons.1 h' with e' | h2
    ·have:=hp.1 i (List.mem_map.2 ⟨_,h1,rfl⟩); rw [<-e'] at this; simp at this
    ·exact qCV hp.2 h1 h2
theorem qD.uniq {L0:Array Bool} {is:List (Nat×Kd)} (C:qD P ops L0 is) {i:Nat} {κ κ':Kd} (h:(i,κ)∈is) (h':(i,κ')∈is):κ=κ':=qCV C.inc h h'
theorem qDX : ∀ is:List (Nat×Kd),qEL is=true->(is.map (·.1)).Pairwise (· < ·)
 | [],_=>by simp
 | [a],_=>by simp
 | a :: b :: r,h=>by
   simp only [qEL,Bool.and_eq_true] at h
   have ih:=qDX (b :: r) h.2
   have hab:a.1<b.1:=by simpa using h.1
   simp only [List.map_cons,List.pairwise_cons] at ih ⊢
   refine ⟨λx hx=>?_,ih⟩
   rcases List.mem_cons.1 hx with rfl | hx
   ·exact hab
   ·exact Nat.lt_trans hab (ih.1 x hx)
theorem tJ {o:Oper} {j:Nat} : dA o j=true↔∃ e∈o.after,Region.binds .any e=true/\e.on=j:=by
 unfold dA
 simp only [Array.any_eq_true,Bool.and_eq_true,Nat.beq_eq]
 constructor
 ·rintro ⟨i,hi,h1,h2⟩; exact ⟨_,Array.getElem_mem hi,h1,h2⟩
 ·rintro ⟨e,he,h1,h2⟩
  obtain ⟨i,hi,rfl⟩:=Array.getElem_of_mem he
  exact ⟨i,hi,h1,h2⟩
theorem qHD {L0:Array Bool} {is:List (Nat×Kd)} (h:vA P ops L0 is=true) (hi:qEL is=true):qD P ops L0 is:=by
 unfold vA at h
 simp only [Bool.and_eq_true,List.all_eq_true] at h
 obtain ⟨h1,h2⟩:=h
 have g : ∀ q∈is,∃ o,ops[q.1]? = some o/\(o.guard.isNone&&!cG o.op&&o.dst.isSome&&!(L0.getD q.1 true)&&(gH P o || pE q.2)
  && (is.all λp=>Nat.beq p.1 q.1 || !(cT ops p.1==o.dst))
  && (is.all λp=>dA o p.1 || !((o.looksAt ops).any λt=>cT ops p.1==some t))
  && (o.after.all λe=>!Region.binds .any e || (L0.getD e.on false || (is.any λp=>Nat.beq p.1 e.on&&Nat.blt p.1 q.1)))
  && (is.all λp=>Nat.blt p.1 q.1 || !dA o p.1))=true:=by
  intro q hq
  have:=h1 q hq
  cases ho:ops[q.1]? with
  | none=>rw [ho] at this; cases this
  | some o=>rw [ho] at this; exact ⟨o,rfl,this⟩
 have dsto : ∀ q o,ops[q]? = some o->cT ops q=o.dst:=λq o ho=>by simp [cT,ho]
 refine ⟨qDX is hi,?_,?_,?_,?_,?_,?_⟩
 ·intro q hq
  obtain ⟨o,ho,hh⟩:=g q hq
  simp only [Bool.and_eq_true,Bool.not_eq_true',Option.isNone_iff_eq_none,Option.isSome_iff_exists,Bool.or_eq_true] at hh
  obtain ⟨⟨⟨⟨⟨⟨⟨⟨a1,a2⟩,a3⟩,a4⟩,a5⟩,a6⟩,a7⟩,a8⟩,a9⟩:=hh
  exact ⟨o,ho,a1,a2,a3,a4,a5⟩
 ·intro q hq p hp hne
  obtain ⟨o,ho,hh⟩:=g q hq
  simp only [Bool.and_eq_true,List.all_eq_true] at hh
  have:=hh.1.1.1.2 p hp
  rw [dsto _ _ ho]
  simp only [Bool.or_eq_true,Nat.beq_eq,Bool.not_eq_true',beq_eq_false_iff_ne] at this
  exact this.resolve_left hne
 ·intro q hq p hp o ho d hd hmem
  obtain ⟨o',h9,hh⟩:=g q hq
  rw [ho] at h9; cases h9
  simp only [Bool.and_eq_true,List.all_eq_true] at hh
  have:=hh.1.1.2 p hp
  simp only [Bool.or_eq_true,Bool.not_eq_true',List.any_eq_false] at this
  rcases this with this | this
  ·exact this
  ·have:=this d hmem; rw [hd] at this; simp at this
 ·intro q hq o ho e he hb
  obtain ⟨o',h9,hh⟩:=g q hq
  rw [ho] at h9; cases h9
  simp only [Bool.and_eq_true] at hh
  have:=hh.1.2
  rw [Array.all_eq_true] at this
  obtain ⟨i,hi,rfl⟩:=Array.getElem_of_mem he
  have:=this i hi
  simp only [Bool.or_eq_true,Bool.not_eq_true',List.any_eq_true,Bool.and_eq_true,Nat.beq_eq,Nat.blt_eq] at this
  rcases this with h | h | ⟨p,h1,h2,h3⟩
  ·rw [hb] at h; cases h
  ·exact .inl h
  ·exact .inr ⟨p,h1,h2,h3⟩
 ·intro q hq p hp o ho hb
  obtain ⟨o',h9,hh⟩:=g q hq
  rw [ho] at h9; cases h9
  simp only [Bool.and_eq_true,List.all_eq_true] at hh
  have:=hh.2 p hp
  simp only [Bool.or_eq_true,Nat.blt_eq,Bool.not_eq_true'] at this
  rcases this with h | h
  ·exact h
  ·rw [hb] at h; cases h
 ·intro k hk
  have:=h2 k (by simpa using hk)
  simp only [Bool.or_eq_true,List.any_eq_true,Nat.beq_eq] at this
  rcases this with (h | ⟨q,hq,e⟩) | h
  ·exact .inl h
  ·exact .inr (.inl ⟨q,hq,e⟩)
  ·refine .inr (.inr ?_)
   cases ho:ops[k]? with
   | none=>rw [ho] at h; cases h
   | some o=>
     rw [ho] at h
     rw [Bool.or_eq_true] at h
     refine ⟨o,rfl,h.imp (λh=>?_) λh=>?_⟩
     ·simp only [Array.any_eq_true,Bool.and_eq_true,Bool.not_eq_true',List.any_eq_false,Nat.beq_eq] at h
      obtain ⟨n,hn,⟨h1,h2⟩,h3⟩:=h
      exact ⟨_,tJ.2 ⟨_,Array.getElem_mem hn,h1,rfl⟩,h2,λq hq e=>by have:=h3 q hq; simp [e] at this⟩
     ·simp only [List.all_eq_true,Bool.or_eq_true,List.any_eq_true,Bool.and_eq_true] at h
      refine λq hq=>(h q hq).imp id λ⟨p,hp,e1,e2⟩=>⟨p,hp,e1,λx hx=>?_⟩
      rw [hx] at e2; exact e2
def Rel (ops:Array Oper) (is:List (Nat×Kd)) (L:Array Bool) (ac a:Act):Prop:=
 ac.tmps.size=a.tmps.size/\ac.defers=a.defers/\∀ t,(∀ q∈is,L.getD q.1 true=false->cT ops q.1≠some t)->ac.tmps[t]? = a.tmps[t]?
theorem Rel.refl (is:List (Nat×Kd)) (L:Array Bool) (a:Act):Rel ops is L a a:=⟨rfl,rfl,λ_ _=>rfl⟩
theorem Rel.put {is:List (Nat×Kd)} {L:Array Bool} {ac a:Act} (h:Rel ops is L ac a) {q:Nat×Kd} (hq:q∈is) {o:Oper} (ho:ops[q.1]? = some o) (hl:L.getD q.1 true=false) (v:Value):Rel ops is L (ac.put o.dst v) a:=by
 refine ⟨(jO _ _ _).trans h.1,(wF _ _ _).trans h.2.1,λt ht=>?_⟩
 rw [<-h.2.2 t ht]
 have hd:cT ops q.1=o.dst:=by simp [cT,ho]
 have:=ht q hq hl
 rw [hd] at this
 cases hod:o.dst with
 | none=>rfl
 | some d=>
   rw [hod] at this
   have hne:d≠t:=λe=>this (by rw [e])
   simp [Act.put,Array.getElem?_setIfInBounds_ne hne]
theorem Rel.exec {L0:Array Bool} {is:List (Nat×Kd)} (C:qD P ops L0 is) (hsel : ∀ (j:Nat) (o:Oper) cs b,ops[j]? = some o->o.op≠.select cs b) {L:Array Bool} {ac a:Act} (h:Rel ops is L ac a) {q:Nat×Kd} (hq:q∈is) {o:Oper} (ho:ops[q.1]? = some o)
 (h9 : ∀ p∈is,dA o p.1=true->L.getD p.1 true=true):execOp ac.eval o=execOp a.eval o:=by
 refine execOp_congr o (λcs b=>hsel q.1 o cs b ho) λx hx=>?_
 cases x with
 | tmp t=>
   have:ac.tmps[t]? = a.tmps[t]?:=h.2.2 t λp hp hl hd=>by
    have hm:t∈o.looksAt ops:=List.mem_append_left _ (List.mem_filterMap.2 ⟨.tmp t,by simpa using hx,rfl⟩)
    have:=h9 p hp (C.reads q hq p hp o ho t hd hm)
    rw [hl] at this; cases this
   simp [Act.eval,Array.getD_eq_getD_getElem?,this]
 | const v=>rfl
 | global g=>rfl
 | func f=>rfl
theorem Rel.slot {L0:Array Bool} {is:List (Nat×Kd)} (C:qD P ops L0 is) {L:Array Bool} {ac a:Act} (h:Rel ops is L ac a) {p:Nat×Kd} (hp:p∈is) (hl:L.getD p.1 true=true):gN ops ac p.1=gN ops a p.1:=by
 unfold gN
 cases hd:cT ops p.1 with
 | none=>rfl
 | some d=>
   have:ac.tmps[d]? = a.tmps[d]?:=h.2.2 d λq hq h9 k3=>by
    refine C.dst p hp q hq (λe=>?_) (k3.trans hd.symm)
    rw [e] at h9; rw [hl] at h9; cases h9
   simp [Array.getD_eq_getD_getElem?,this]
theorem inh {κ:Kd} (h:pE κ=true) : ∃ t,okK κ t=true:=⟨_,qEG κ h⟩
section
variable {L0 L:Array Bool} {is:List (Nat×Kd)} (C:qD P ops L0 is) (hsel : ∀ (j:Nat) (o:Oper) cs b,ops[j]? = some o->o.op≠.select cs b) {END:Act->World->Prop} {a:Act} {i:Nat} {κ:Kd} {oi:Oper}
include C hsel
theorem nU (k4:ops[i]? = some oi) (k6:gH P oi=true) (hin:(i,κ)∈is) (hl:L.getD i true=false) (k3 : ∀ p∈is,dA oi p.1=true->L.getD p.1 true=true) :
 ∀ (js:List (Nat×Kd)) (hs:List Nat) (ac:Act),(∀ q∈js,q∈is)->(i,κ)∈js->Rel ops is L ac a->nP P r ops Q S Ts w0 END L js hs ac->∃ v,∀ w,S w->(execOp a.eval oi).run P w = .ok (.value v) w
 | [],hs,ac,_,hi,_,_=>by cases hi
 | (j,κj) :: js,hs,ac,hsub,hi,hr,h=>by
   obtain ⟨o,ho,h1,h2⟩:=h
   have h9 : ∀ q∈js,q∈is:=λq hq=>hsub q (by simp [hq])
   have hj:(j,κj)∈is:=hsub _ (by simp)
   by_cases e:j=i
   ·subst e
    rw [k4] at ho; cases ho
    obtain ⟨v,hv,_⟩:=(h1 k6).2 hl
    rw [Rel.exec C hsel hr hin k4 k3] at hv
    exact ⟨v,hv⟩
   ·have p8:(i,κ)∈js:=by
     rcases List.mem_cons.1 hi with h | h
     ·cases h; exact absurd rfl e
     ·exact h
    cases k5:L.getD j true with
    | true=>
      cases hp:gH P o with
      | true=>exact nU k4 k6 hin hl k3 js _ ac h9 p8 hr ((h1 hp).1 k5)
      | false=>exact nU k4 k6 hin hl k3 js _ ac h9 p8 hr ((h2 hp).1 k5)
    | false=>
      cases hp:gH P o with
      | true=>
        obtain ⟨v,_,ht⟩:=(h1 hp).2 k5
        exact nU k4 k6 hin hl k3 js _ _ h9 p8 (hr.put hj ho k5 v) ht
      | false=>
        obtain ⟨o',p9,_,_,_,_,hk⟩:=C.op _ hj
        rw [ho] at p9; cases p9
        obtain ⟨t,ht⟩:=inh (hk.resolve_left (by simp [hp]))
        exact nU k4 k6 hin hl k3 js _ _ h9 p8 (hr.put hj ho k5 _) (((h2 hp).2 k5).2 t ht)
theorem sS (hQ : ∀ c (a:Act) d v w,(∀ x,d=some x->x∈aW ops.toList)->(Q (.panic c) (a.put d v) w↔Q (.panic c) a w)) (k5:ops[i]? = some oi) (p8:gH P oi=false) (hin:(i,κ)∈is) (hl:L.getD i true=false) (k3 : ∀ p∈is,dA oi p.1=true->L.getD p.1 true=true)
 {w:World} (hm:Mod NoB w0 w) (hS:S w) (hT : ∀ p∈is,L.getD p.1 true=true->(∀ o,ops[p.1]? = some o->gH P o=false)->HT ops Ts p.1 a w) :
 ∀ (js:List (Nat×Kd)) (hs:List Nat) (ac:Act),(∀ q∈js,q∈is)->(i,κ)∈js->(∀ q∈hs,∃ p∈is,p.1=q/\∀ o,ops[p.1]? = some o->gH P o=false)->Rel ops is L ac a->(∀ c w',Q (.panic c) ac w'->Q (.panic c) a w')->nP P r ops Q S Ts w0 END L js hs ac->
   oi.wpIn (Fr r) 0 P a w (λa' w'=>∃ v,a'=a.put oi.dst v/\(∃ t,okK κ t=true/\v=t.enc)/\Mod NoB w w'/\S w'/\Ts i v w') Q
 | [],hs,ac,_,hi,_,_,_,_=>by cases hi
 | (j,κj) :: js,hs,ac,hsub,hi,p9,hr,hq,h=>by
   obtain ⟨o,ho,h1,h2⟩:=h
   have h9 : ∀ q∈js,q∈is:=λq hq=>hsub q (by simp [hq])
   have hj:(j,κj)∈is:=hsub _ (by simp)
   have q8 : ∀ x,o.dst=some x->x∈aW ops.toList:=λx hx=>fK _ o (by have:=Array.mem_of_getElem? ho; simpa using this) x hx
   by_cases e:j=i
   ·subst e
    rw [k5] at ho; cases ho
    have hkk:κj=κ:=C.uniq hj hin
    subst hkk
    obtain ⟨o',k4,_,hdf,_⟩:=C.op _ hin
    rw [k5] at k4; cases k4
    have hh:=((h2 p8).2 hl).1 w hm hS λq hqm hb=>by
     obtain ⟨p,hp,rfl,t6⟩:=p9 q hqm
     have hlp:=k3 p hp hb
     unfold HT
     rw [Rel.slot C hr hp hlp]
     exact hT p hp hlp t6
    exact uG hdf (Rel.exec C hsel hr hin k5 k3).symm hr.1 hh hq
   ·have q9:(i,κ)∈js:=by
     rcases List.mem_cons.1 hi with h | h
     ·cases h; exact absurd rfl e
     ·exact h
    cases k6:L.getD j true with
    | true=>
      cases hp:gH P o with
      | true=>exact sS hQ k5 p8 hin hl k3 hm hS hT js _ ac h9 q9 p9 hr hq ((h1 hp).1 k6)
      | false=>exact sS hQ k5 p8 hin hl k3 hm hS hT js _ ac h9 q9 (λq hqm=>by
         rcases List.mem_cons.1 hqm with rfl | hqm
         ·exact ⟨_,hj,rfl,λo' k4=>by rw [ho] at k4; cases k4; exact hp⟩
         ·exact p9 q hqm) hr hq ((h2 hp).1 k6)
    | false=>
      cases hp:gH P o with
      | true=>
        obtain ⟨v,_,ht⟩:=(h1 hp).2 k6
        exact sS hQ k5 p8 hin hl k3 hm hS hT js _ _ h9 q9 p9 (hr.put hj ho k6 v) (λc w' h=>hq c w' ((hQ c ac o.dst v w' q8).1 h)) ht
      | false=>
        obtain ⟨o',k4,_,_,_,_,hk⟩:=C.op _ hj
        rw [ho] at k4; cases k4
        obtain ⟨t,ht⟩:=inh (hk.resolve_left (by simp [hp]))
        exact sS hQ k5 p8 hin hl k3 hm hS hT js _ _ h9 q9 (λq hqm=>by
         rcases List.mem_cons.1 hqm with rfl | hqm
         ·exact ⟨_,hj,rfl,λo' k4=>by rw [ho] at k4; cases k4; exact hp⟩
         ·exact p9 q hqm) (hr.put hj ho k6 _) (λc w' h=>hq c w' ((hQ c ac o.dst _ w' q8).1 h)) (((h2 hp).2 k6).2 t ht)
omit C hsel in
theorem fE {i:Nat} : ∀ (js:List (Nat×Kd)) (hs:List Nat) (ac:Act),(∀ q∈js,q.1≠i)->nP P r ops Q S Ts w0 END L js hs ac->nP P r ops Q S Ts w0 END (L.setIfInBounds i true) js hs ac
 | [],hs,ac,_,h=>h
 | (j,κj) :: js,hs,ac,hne,h=>by
   obtain ⟨o,ho,h1,h2⟩:=h
   have hj:i≠j:=λe=>hne (j,κj) (by simp) e.symm
   have h9 : ∀ q∈js,q.1≠i:=λq hq=>hne q (by simp [hq])
   refine ⟨o,ho,λhp=>?_,λhp=>?_⟩
   ·rw [getD_set_ne true hj]
    exact ⟨λe=>fE js _ ac h9 ((h1 hp).1 e),λe=>let ⟨v,hv,ht⟩:=(h1 hp).2 e; ⟨v,hv,fE js _ _ h9 ht⟩⟩
   ·rw [getD_set_ne true hj]
    exact ⟨λe=>fE js _ ac h9 ((h2 hp).1 e),λe=>⟨((h2 hp).2 e).1,λt ht=>fE js _ _ h9 (((h2 hp).2 e).2 t ht)⟩⟩
theorem jG {wS:World} (p9:S wS) (hQ : ∀ c (a:Act) d v w,(∀ x,d=some x->x∈aW ops.toList)->(Q (.panic c) (a.put d v) w↔Q (.panic c) a w)) (k5:ops[i]? = some oi) (hin:(i,κ)∈is) (hl:L.getD i true=false) (k3 : ∀ p∈is,dA oi p.1=true->L.getD p.1 true=true) {v:Value}
 (hv:(gH P oi=true/\∀ w,S w->(execOp a.eval oi).run P w = .ok (.value v) w)\/(gH P oi=false/\∃ t,okK κ t=true/\v=t.enc)) :
 ∀ (js:List (Nat×Kd)) (hs:List Nat) (ac:Act),(∀ q∈js,q∈is)->(js.map (·.1)).Pairwise (· < ·)->(i,κ)∈js->(∀ q∈hs,∃ p∈is,p.1=q/\p.1≠i)->Rel ops is L ac a->nP P r ops Q S Ts w0 END L js hs ac->
   nP P r ops Q S Ts w0 END (L.setIfInBounds i true) js hs (ac.put oi.dst v)
 | [],hs,ac,_,_,hi,_,_,_=>by cases hi
 | (j,κj) :: js,hs,ac,hsub,p8,hi,t7,hr,h=>by
   obtain ⟨o,ho,h1,h2⟩:=h
   have h9 : ∀ q∈js,q∈is:=λq hq=>hsub q (by simp [hq])
   have hj:(j,κj)∈is:=hsub _ (by simp)
   have hlt:i<L.size:=by
    rcases Nat.lt_or_ge i L.size with h | h
    ·exact h
    ·simp [Array.getD_eq_getD_getElem?,Array.getElem?_eq_none h] at hl
   have hset:(L.setIfInBounds i true).getD i true=true:=by simp [hlt]
   simp only [List.map_cons,List.pairwise_cons] at p8
   by_cases e:j=i
   ·subst e
    rw [k5] at ho; cases ho
    have hkk:κj=κ:=C.uniq hj hin
    subst hkk
    have hne : ∀ q∈js,q.1≠j:=λq hq=>by have:=p8.1 q.1 (List.mem_map.2 ⟨q,hq,rfl⟩); omega
    refine ⟨oi,k5,λhp=>⟨λ_=>?_,λe=>by rw [hset] at e; cases e⟩,λhp=>⟨λ_=>?_,λe=>by rw [hset] at e; cases e⟩⟩
    ·obtain ⟨u,hu,ht⟩:=(h1 hp).2 hl
     rcases hv with ⟨_,hv⟩ | ⟨hf,_⟩
     ·have:=hu wS p9
      rw [Rel.exec C hsel hr hin k5 k3,hv wS p9] at this
      simp at this
      subst this
      exact fE js _ _ hne ht
     ·rw [hp] at hf; cases hf
    ·rcases hv with ⟨hf,_⟩ | ⟨_,t,ht,rfl⟩
     ·rw [hp] at hf; cases hf
     ·exact fE js _ _ hne (((h2 hp).2 hl).2 t ht)
   ·have q8:(i,κ)∈js:=by
     rcases List.mem_cons.1 hi with h | h
     ·cases h; exact absurd rfl e
     ·exact h
    have hji:j<i:=p8.1 i (List.mem_map.2 ⟨_,q8,rfl⟩)
    have u2:(L.setIfInBounds i true).getD j true=L.getD j true:=getD_set_ne true (by omega)
    have u0:cT ops i=oi.dst:=by simp [cT,k5]
    have u4:cT ops j=o.dst:=by simp [cT,ho]
    have k6 : ∀ (x:Act) (u:Value),(x.put oi.dst v).put o.dst u=(x.put o.dst u).put oi.dst v:=λx u=>Act.put_comm x v u λd hd u5=>by
     refine C.dst _ hj _ hin (λe'=>e e'.symm) ?_
     show cT ops i=cT ops j
     rw [u0,u4,hd,u5]
    have hex:execOp (ac.put oi.dst v).eval o=execOp ac.eval o:=execOp_put (ops:=ops) o (λcs b=>hsel j o cs b ho) ac oi.dst v λd hd hm=>by
     have:=C.reads _ hj _ hin o ho d (by show cT ops i=some d; rw [u0]; exact hd) hm
     have:=C.back _ hj _ hin o ho this
     have:i<j:=this
     omega
    refine ⟨o,ho,λhp=>?_,λhp=>?_⟩
    ·rw [u2]
     refine ⟨λk4=>jG p9 hQ k5 hin hl k3 hv js _ ac h9 p8.2 q8 t7 hr ((h1 hp).1 k4),λk4=>?_⟩
     obtain ⟨u,hu,ht⟩:=(h1 hp).2 k4
     refine ⟨u,by rw [hex]; exact hu,?_⟩
     rw [k6]
     exact jG p9 hQ k5 hin hl k3 hv js _ _ h9 p8.2 q8 t7 (hr.put hj ho k4 u) ht
    ·rw [u2]
     have q9 : ∀ q∈j :: hs,∃ p∈is,p.1=q/\p.1≠i:=λq hq=>by
      rcases List.mem_cons.1 hq with rfl | hq
      ·exact ⟨_,hj,rfl,e⟩
      ·exact t7 q hq
     refine ⟨λk4=>jG p9 hQ k5 hin hl k3 hv js _ ac h9 p8.2 q8 q9 hr ((h2 hp).1 k4),λk4=>⟨λw hm hS hT=>?_,λt ht=>?_⟩⟩
     ·obtain ⟨o',u3,_,hdf,_⟩:=C.op _ hj
      rw [ho] at u3; cases u3
      have t6 : ∀ x,oi.dst=some x->x∈aW ops.toList:=λx hx=>fK _ oi (by have:=Array.mem_of_getElem? k5; simpa using this) x hx
      refine uG hdf hex (jO _ _ _).symm (((h2 hp).2 k4).1 w hm hS λq hq hb=>?_) λc w' h=>(hQ c ac oi.dst v w' t6).2 h
      have:=hT q hq hb
      obtain ⟨p,u6,rfl,hpi⟩:=t7 q hq
      have hsl:gN ops (ac.put oi.dst v) p.1=gN ops ac p.1:=by
       unfold gN
       cases hd:cT ops p.1 with
       | none=>rfl
       | some d=>
         have hne:oi.dst≠some d:=λe'=>C.dst _ u6 _ hin (λe''=>hpi e''.symm) (by show cT ops i=cT ops p.1; rw [u0,e',hd])
         cases u1:oi.dst with
         | none=>rfl
         | some d'=>
           have:d'≠d:=λe'=>hne (by rw [u1,e'])
           simp [Act.put,Array.getD_eq_getD_getElem?,Array.getElem?_setIfInBounds_ne this]
      unfold HT at this ⊢
      rw [hsl] at this
      exact this
     ·rw [k6]
      exact jG p9 hQ k5 hin hl k3 hv js _ _ h9 p8.2 q8 q9 (hr.put hj ho k4 _) (((h2 hp).2 k4).2 t ht)
omit C hsel in
theorem sW : ∀ (js:List (Nat×Kd)) (hs:List Nat) (ac:Act),(∀ q∈js,L.getD q.1 true=true)->nP P r ops Q S Ts w0 END L js hs ac->∀ w,Mod NoB w0 w->S w->(∀ q∈hs,HT ops Ts q ac w)->(∀ q∈js,(∀ o,ops[q.1]? = some o->gH P o=false)->HT ops Ts q.1 ac w)->END ac w
 | [],hs,ac,_,h,w,hm,hS,hh,_=>h w hm hS hh
 | (j,κj) :: js,hs,ac,hall,h,w,hm,hS,hh,hj=>by
   obtain ⟨o,ho,h1,h2⟩:=h
   have h9:=hall (j,κj) (by simp)
   cases hp:gH P o with
   | true=>exact sW js _ ac (λq hq=>hall q (by simp [hq])) ((h1 hp).1 h9) w hm hS hh λq hq=>hj q (by simp [hq])
   | false=>
     refine sW js _ ac (λq hq=>hall q (by simp [hq])) ((h2 hp).1 h9) w hm hS (λq hq=>?_) λq hq=>hj q (by simp [hq])
     rcases List.mem_cons.1 hq with rfl | hq
     ·exact hj (q,κj) (by simp) λo' k3=>by rw [show ops[q]? = some o from ho] at k3; cases k3; exact hp
     ·exact hh q hq
end
theorem pM {Ts:Nat->Value->World->Prop} {w:World} {X:Prop} : ∀ (hs:List (Nat×TV)),qCY Ts w hs X->(∀ q∈hs,Ts q.1 q.2.enc w)->X
 | [],h,_=>h
 | q :: r,h,hh=>pM r (h (hh q (by simp))) λp hp=>hh p (by simp [hp])
theorem qZO {κ:Kd} {t:TV} (h:okK κ t=true):t.isBad=false:=by cases κ <;> cases t <;> simp_all [okK,TV.isBad]
theorem sG {L0:Array Bool} {is:List (Nat×Kd)} (C:qD P ops L0 is) {END:Act->World->Prop} {pan:List PanicEntry->World->Prop} {fin:Env->World->Prop} {G:Act->Prop} {LD:Addr->List Value->Prop} (t6 : ∀ ad cs,LD ad cs->∀ w',S w'->Rd w' ad cs)
 (hG : ∀ (a:Act) d v,(∀ x,d=some x->x∈aW ops.toList)->G a->G (a.put d v)) (hp : ∀ c a w',G a->pan c w'->Q (.panic c) a w') (hend : ∀ env a w,Sim N env a.tmps->G a->Mod NoB w0 w->S w->fin env w->END a w) :
 ∀ (js:List (Nat×Kd)) (hs:List (Nat×TV)) (env:Env) (ac:Act),(∀ q∈js,q∈is)->(js.map (·.1)).Pairwise (· < ·)->Sim N env ac.tmps->G ac->(∀ q∈hs,gN ops ac q.1=q.2.enc/\(∃ p∈is,p.1=q.1)/\∀ p∈js,p.1≠q.1)->
   qAK P N ops S LD Ts pan w0 fin js hs env->nP P r ops Q S Ts w0 END L0 js (hs.map (·.1)) ac
 | [],hs,env,ac,_,_,h9,hg,p9,h=>λw hm hS hT=>hend env ac w h9 hg hm hS (pM hs (h w hm hS) λq hq=>by
    have:=hT q.1 (List.mem_map.2 ⟨q,hq,rfl⟩)
    unfold HT at this
    rw [(p9 q hq).1] at this
    exact this)
 | (j,κ) :: js,hs,env,ac,hsub,q8,h9,hg,p9,h=>by
   have hj:(j,κ)∈is:=hsub _ (by simp)
   obtain ⟨o,ho,hgd,hdf,⟨d,hd⟩,hL0,hk⟩:=C.op _ hj
   have k5:ops[j]? = some o:=ho
   have k4 : ∀ q∈js,q∈is:=λq hq=>hsub q (by simp [hq])
   simp only [List.map_cons,List.pairwise_cons] at q8
   unfold qAK at h
   rw [k5] at h
   simp only at h
   cases hr:eH N o.dst with
   | false=>simp [hr] at h
   | true=>
     simp only [hr,cond_true] at h
     have hdw : ∀ x,o.dst=some x->x∈aW ops.toList:=λx hx=>fK _ o (by have:=Array.mem_of_getElem? k5; simpa using this) x hx
     have k6:L0.getD j true=false:=hL0
     have keep : ∀ (v:Value) (q:Nat×TV),q∈hs->gN ops (ac.put o.dst v) q.1=q.2.enc/\(∃ p∈is,p.1=q.1)/\∀ p∈js,p.1≠q.1:=λv q hq=>by
      obtain ⟨g1,⟨p,hp,t7⟩,g3⟩:=p9 q hq
      refine ⟨?_,⟨p,hp,t7⟩,λp' u0=>g3 p' (by simp [u0])⟩
      rw [<-g1]
      unfold gN
      cases u2:cT ops q.1 with
      | none=>rfl
      | some d'=>
        have hne:d≠d':=λe=>C.dst _ hj p hp (λe'=>g3 (j,κ) (by simp) (by rw [<-t7,e'])) (by rw [t7,u2]; simp [cT,k5,hd,e])
        simp [hd,Act.put,Array.getD_eq_getD_getElem?,Array.getElem?_setIfInBounds_ne hne]
     have pl : ∀ (t:TV) (v:Value),(∀ w,S w->(execOp ac.eval o).run P w = .ok (.value v) w)->(t.isBad=false->v=t.enc)->gH P o=true->qAK P N ops S LD Ts pan w0 fin js hs (iK env o.dst t)->
      nP P r ops Q S Ts w0 END L0 ((j,κ) :: js) (hs.map (·.1)) ac:=λt v hrun hv u1 h=>by
      refine ⟨o,k5,λ_=>⟨λe=>(by rw [k6] at e; cases e),λ_=>⟨v,hrun,?_⟩⟩,λe=>(by rw [u1] at e; cases e)⟩
      exact sG C t6 hG hp hend js hs _ _ k4 q8.2 (h9.putD' hr hv) (hG _ _ _ hdw hg) (keep v) h
     cases k3:iR P o with
     | true=>
       simp only [k3,cond_true] at h
       obtain ⟨t,v,hrun,hv,h⟩:=jD h9 h
       exact pl t v (λw _=>hrun w) hv (by simp [gH,k3]) h
     | false=>
     simp only [k3,cond_false] at h
     cases hlo:dC o with
     | true=>
       simp only [hlo,cond_true] at h
       split at h
       ·rename_i T x u3
        split at h
        ·rename_i q' hx
         obtain ⟨ad,rfl,h⟩:=cK h
         cases hf:gM P T with
         | false=>simp [hf,aA] at h
         | true=>
           simp only [hf,cond_true] at h
           obtain ⟨t,t1,t2,t3,u4,h⟩:=dL _ _ h
           refine pl t t.enc (λw' u5=>?_) (λ_=>rfl) (by simp [gH,hlo]) h
           have:=fD (P:=P) hf t1 t2 t3 (t6 _ _ u4 w' u5)
           simp [execOp,u3,h9.is hx rfl,TV.enc,Instr.loadAt,Instr.sureAddr,this]
        ·exact h.elim
       ·exact h.elim
     | false=>
       simp only [hlo,cond_false] at h
       have u1:gH P o=false:=by simp [gH,k3,hlo]
       obtain ⟨h1,h2⟩:=h
       refine ⟨o,k5,λe=>(by rw [u1] at e; cases e),λ_=>⟨λe=>(by rw [k6] at e; cases e),λ_=>⟨λw hm hS hT=>?_,λt ht=>?_⟩⟩⟩
       ·refine sK hdf h9 (pM _ (h1 w hm hS) λq hq=>?_) (λt v w' hv hk=>?_) λc w' hc=>hp c ac w' hg hc
        ·simp only [List.mem_filter] at hq
         have:=hT q.1 (List.mem_map.2 ⟨q,hq.1,rfl⟩) hq.2
         unfold HT at this
         rw [(p9 q hq.1).1] at this
         exact this
        ·cases q9:okK κ t with
         | false=>simp [q9] at hk
         | true=>
           simp only [q9,cond_true] at hk
           have hv:=hv (qZO q9)
           exact ⟨v,rfl,⟨t,q9,hv⟩,hk.1,hk.2.1,by rw [hv]; exact hk.2.2⟩
       ·have p8:=qED _ _ t h2 ht
        refine sG C t6 hG hp hend js ((j,t) :: hs) _ _ k4 q8.2 (h9.putD' hr λ_=>rfl) (hG _ _ _ hdw hg) ?_ p8
        intro q hq
        rcases List.mem_cons.1 hq with rfl | hq
        ·refine ⟨?_,⟨_,hj,rfl⟩,λp u0 e=>?_⟩
         ·have hlt:d<ac.tmps.size:=by rw [h9.1]; rw [hd] at hr; simpa [eH] using hr
          simp [gN,cT,k5,hd,Act.put,hlt]
         ·have:=q8.1 p.1 (List.mem_map.2 ⟨p,u0,rfl⟩); omega
        ·exact keep _ q hq
def unl (L:Array Bool):List (Nat×Kd)->Nat
 | []=>0
 | q :: r=>(bif L.getD q.1 true then 0 else 1)+unl L r
theorem qKP {L:Array Bool} {i:Nat} : ∀ (js:List (Nat×Kd)),(∀ q∈js,q.1≠i)->unl (L.setIfInBounds i true) js=unl L js
 | [],_=>rfl
 | q :: r,h=>by
   unfold unl
   rw [getD_set_ne true (λe=>h q (by simp) e.symm),qKP r λp hp=>h p (by simp [hp])]
theorem qDR {L:Array Bool} {i:Nat} {κ:Kd} (hl:L.getD i true=false) : ∀ (js:List (Nat×Kd)),(js.map (·.1)).Pairwise (· < ·)->(i,κ)∈js->unl L js=unl (L.setIfInBounds i true) js+1
 | [],_,h=>by cases h
 | q :: r,hp,h=>by
   have hlt:i<L.size:=by
    rcases Nat.lt_or_ge i L.size with h | h
    ·exact h
    ·simp [Array.getD_eq_getD_getElem?,Array.getElem?_eq_none h] at hl
   simp only [List.map_cons,List.pairwise_cons] at hp
   unfold unl
   by_cases e:q.1=i
   ·have hne : ∀ p∈r,p.1≠i:=λp h9=>by have:=hp.1 p.1 (List.mem_map.2 ⟨p,h9,rfl⟩); omega
    rw [qKP r hne,e,hl]
    simp [hlt]
    omega
   ·have hr:(i,κ)∈r:=by
     rcases List.mem_cons.1 h with h | h
     ·rw [<-h] at e; exact absurd rfl e
     ·exact h
    rw [getD_set_ne true (λe'=>e e'.symm),qDR hl r hp.2 hr]
    omega
theorem wQ {L:Array Bool} : ∀ (js:List (Nat×Kd)),unl L js=0->∀ q∈js,L.getD q.1 true=true
 | [],_,q,h=>by cases h
 | p :: r,hz,q,h=>by
   unfold unl at hz
   have h1:L.getD p.1 true=true:=by cases hb:L.getD p.1 true with | true=>rfl | false=>rw [hb] at hz; simp at hz
   rcases List.mem_cons.1 h with rfl | h
   ·exact h1
   ·exact wQ r (by rw [h1] at hz; simpa using hz) q h
theorem qDS {L:Array Bool} : ∀ (js:List (Nat×Kd)),unl L js≠0->∃ q∈js,L.getD q.1 true=false
 | [],h=>absurd rfl h
 | p :: r,h=>by
   cases hb:L.getD p.1 true with
   | false=>exact ⟨p,by simp,hb⟩
   | true=>
     unfold unl at h
     rw [hb] at h
     obtain ⟨q,hq,e⟩:=qDS r (by simpa using h)
     exact ⟨q,by simp [hq],e⟩
theorem qQO {L:Array Bool} {js:List (Nat×Kd)} : ∀ (n:Nat) (q:Nat×Kd),q.1=n->q∈js->L.getD q.1 true=false->∃ q∈js,L.getD q.1 true=false/\∀ p∈js,p.1<q.1->L.getD p.1 true=true:=by
 intro n
 induction n using Nat.strongRecOn with
 | _ n ih=>
   intro q e hq hl
   by_cases h : ∀ p∈js,p.1<q.1->L.getD p.1 true=true
   ·exact ⟨q,hq,hl,h⟩
   ·have h' : ∃ p∈js,p.1<q.1/\L.getD p.1 true=false:=by
     false_or_by_contra
     rename_i hc
     refine h λp hp hlt=>?_
     cases hb:L.getD p.1 true with
     | true=>rfl
     | false=>exact (hc ⟨p,hp,hlt,hb⟩).elim
    obtain ⟨p,hp,hlt,h9⟩:=h'
    exact ih p.1 (by omega) p rfl hp h9
theorem lD (L:Array Bool) : ∀ is:List (Nat×Kd),(eE L is).size=L.size
 | []=>rfl
 | q :: r=>by unfold eE; rw [lD]; simp
theorem mW : ∀ (is:List (Nat×Kd)) (L:Array Bool) (k:Nat),k<L.size->(eE L is).getD k true=if ∃ q∈is,q.1=k then true else L.getD k true
 | [],L,k,_=>by simp [eE]
 | q :: r,L,k,hk=>by
   unfold eE
   rw [mW r _ k (by simpa using hk)]
   by_cases h : ∃ p∈r,p.1=k
   ·have : ∃ p∈q :: r,p.1=k:=let ⟨p,hp,e⟩:=h; ⟨p,by simp [hp],e⟩
    rw [if_pos h,if_pos this]
   ·rw [if_neg h]
    by_cases e:q.1=k
    ·rw [if_pos ⟨q,by simp,e⟩,e]
     simp [hk]
    ·rw [if_neg (by
      rintro ⟨p,hp,e'⟩
      rcases List.mem_cons.1 hp with rfl | hp
      ·exact e e'
      ·exact h ⟨p,hp,e'⟩),getD_set_ne true e]
theorem qCH {L:Array Bool} {k:Nat} (h:L.getD k false=true):k<L.size/\L.getD k true=true:=by
 rcases Nat.lt_or_ge k L.size with h' | h'
 ·exact ⟨h',by simpa [h'] using h⟩
 ·simp [Array.getD_eq_getD_getElem?,Array.getElem?_eq_none h'] at h
theorem qCX {L:Array Bool} {k:Nat} (h:L.getD k true=true) (hk:k<L.size):L.getD k false=true:=by simpa [hk] using h
theorem pB {L0:Array Bool} {is:List (Nat×Kd)} (C:qD P ops L0 is) (hsel : ∀ (j:Nat) (o:Oper) cs b,ops[j]? = some o->o.op≠.select cs b) (hL0:L0.size=ops.size) (k5:vV N ops is=true)
 (hQ : ∀ c (a:Act) d v w,(∀ x,d=some x->x∈aW ops.toList)->(Q (.panic c) (a.put d v) w↔Q (.panic c) a w)) (hst : ∀ i v w1 w2,Mod NoB w1 w2->Ts i v w1->Ts i v w2) {f':Nat} {END:Act->World->Prop}
 (hend : ∀ a w,END a w->lP P ops r Q S f' (eE L0 is) a w) :
 ∀ (m:Nat) (L:Array Bool) (a:Act) (w:World),a.tmps.size=N->unl L is=m->L.size=ops.size->(∀ k,(∀ q∈is,q.1≠k)->L.getD k true=L0.getD k true)->
   (∀ q∈is,L.getD q.1 true=true->∀ o,ops[q.1]? = some o->∀ p∈is,dA o p.1=true->L.getD p.1 true=true)->Mod NoB w0 w->S w->
   (∀ q∈is,L.getD q.1 true=true->(∀ o,ops[q.1]? = some o->gH P o=false)->HT ops Ts q.1 a w)->nP P r ops Q S Ts w0 END L is [] a->lP P ops r Q S (m+f') L a w
 | 0,L,a,w,hN,hu,hsz,hk,t6,hm,hS,hT,ht=>by
   have hall:=wQ is hu
   have hL:L=eE L0 is:=by
    apply Array.ext
    ·rw [lD]; omega
    ·intro k h1 h2
     have hk0:k<L0.size:=by omega
     have g1:L.getD k true=L[k]:=by simp [h1]
     have g2:(eE L0 is).getD k true=(eE L0 is)[k]:=by simp [h2]
     rw [<-g1,<-g2,mW is L0 k hk0]
     by_cases h : ∃ q∈is,q.1=k
     ·rw [if_pos h]
      obtain ⟨q,hq,rfl⟩:=h
      exact hall q hq
     ·rw [if_neg h]
      exact hk k λq hq e=>h ⟨q,hq,e⟩
   rw [Nat.zero_add,hL]
   exact hend a w (sW is [] a hall ht w hm hS (by simp) λq hq hp=>hT q hq (hall q hq) hp)
 | m+1,L,a,w,hN,hu,hsz,hk,t6,hm,hS,hT,ht=>by
   have hne:unl L is≠0:=by omega
   have hlist : ∀ e:Nat,L0.getD e false=true->L.getD e false=true:=λe he=>by
    obtain ⟨h1,h2⟩:=qCH he
    refine qCX ?_ (by omega)
    rw [hk e λq hq e'=>?_]
    ·exact h2
    ·obtain ⟨_,_,_,_,_,h0,_⟩:=C.op q hq
     rw [e'] at h0; rw [h2] at h0; cases h0
   rw [Nat.add_right_comm]
   refine ⟨λhempty=>?_,λi hi=>?_⟩
   ·obtain ⟨q0,u6,hl0⟩:=qDS is hne
    obtain ⟨q,hq,hl,hmin⟩:=qQO _ q0 rfl u6 hl0
    obtain ⟨o,ho,_⟩:=C.op q hq
    have:q.1∈Region.ready .any ops L:=mem_ready.2 ⟨hl,o,ho,λe he hb=>by
     rcases C.from_ q hq o ho e he hb with h | ⟨p,hp,e1,e2⟩
     ·exact hlist _ h
     ·rw [<-e1]
      have h1:=hmin p hp e2
      obtain ⟨op,u7,_⟩:=C.op p hp
      exact qCX h1 (by have:=(Array.getElem?_eq_some_iff.1 u7).1; omega)⟩
    rw [hempty] at this
    cases this
   ·obtain ⟨p8,o,ho,hall⟩:=mem_ready.1 hi
    have hil:i<ops.size:=(Array.getElem?_eq_some_iff.1 ho).1
    have h9 : ∀ p,dA o p=true->L.getD p true=true:=λp hp=>by
     obtain ⟨e,he,hb,rfl⟩:=tJ.1 hp
     exact (qCH (hall e he hb)).2
    have hin : ∃ κ,(i,κ)∈is:=by
     rcases C.bar i hil with h | ⟨q,hq,e⟩ | ⟨o',t7,h⟩
     ·by_cases hmem : ∃ q∈is,q.1=i
      ·obtain ⟨q,hq,rfl⟩:=hmem; exact ⟨q.2,hq⟩
      ·have:=hk i λq hq e=>hmem ⟨q,hq,e⟩
       rw [h] at this; rw [p8] at this; cases this
     ·exact ⟨q.2,by rw [<-e]; exact hq⟩
     ·rw [ho] at t7; cases t7
      refine absurd ?_ hne
      have h:=h.resolve_left λ⟨e,h1,h2,h3⟩=>by
       have g1:=h9 e h1
       have g2:=hk e h3
       rw [h2] at g2; rw [g1] at g2; cases g2
      have : ∀ q∈is,L.getD q.1 true=true:=λq hq=>by
       rcases h q hq with h | ⟨p,hp,h1,h2⟩
       ·exact h9 _ h
       ·obtain ⟨x,hx,_⟩:=C.op p hp
        exact t6 p hp (h9 _ h1) x hx q hq (h2 x hx)
      clear hk t6 hT ht
      revert this
      generalize is=js
      intro this
      induction js with
      | nil=>rfl
      | cons q r ih=>unfold unl; rw [this q (by simp),ih λp hp=>this p (by simp [hp])]; rfl
    obtain ⟨κ,hin⟩:=hin
    obtain ⟨o',t7,hg,hdf,_,_,_⟩:=C.op _ hin
    have ho'':ops[i]? = some o':=t7
    rw [ho] at ho''; cases ho''
    have k3 : ∀ p∈is,dA o p.1=true->L.getD p.1 true=true:=λp _ h=>h9 _ h
    have hlt:i<L.size:=by omega
    have hset:(L.setIfInBounds i true).getD i true=true:=by simp [hlt]
    have p9:unl (L.setIfInBounds i true) is=m:=by have:=qDR p8 is C.inc hin; omega
    have u1 : ∀ k,(∀ q∈is,q.1≠k)->(L.setIfInBounds i true).getD k true=L0.getD k true:=λk h=>by
     rw [getD_set_ne true (λe=>h _ hin e)]; exact hk k h
    have mono : ∀ k,L.getD k true=true->(L.setIfInBounds i true).getD k true=true:=λk h=>by
     by_cases e:i=k
     ·subst e; exact hset
     ·rw [getD_set_ne true e]; exact h
    have q8 : ∀ q∈is,(L.setIfInBounds i true).getD q.1 true=true->∀ o,ops[q.1]? = some o->∀ p∈is,dA o p.1=true->(L.setIfInBounds i true).getD p.1 true=true:=λq hq hl x hx p hp hb=>by
     by_cases e:q.1=i
     ·rw [e,ho] at hx; cases hx
      exact mono _ (h9 _ hb)
     ·rw [getD_set_ne true (λe'=>e e'.symm)] at hl
      exact mono _ (t6 q hq hl x hx p hp hb)
    have k4 : ∀ (v:Value) (q:Nat×Kd),q∈is->q.1≠i->gN ops (a.put o.dst v) q.1=gN ops a q.1:=λv q hq hne=>by
     unfold gN
     cases hd:cT ops q.1 with
     | none=>rfl
     | some d=>
       cases hod:o.dst with
       | none=>rfl
       | some d'=>
         have:d'≠d:=λe=>C.dst q hq _ hin (λe'=>hne e'.symm) (by show cT ops i=cT ops q.1; rw [hd]; simp [cT,ho,hod,e])
         simp [Act.put,Array.getD_eq_getD_getElem?,Array.getElem?_setIfInBounds_ne this]
    have q9:eff P ops i = !gH P o:=by simp [eff,ho,gH,Bool.not_or]
    unfold wOp wpOpIn
    simp only [ho]
    rw [if_pos (by unfold Region.wanted; rw [hg])]
    cases k6:gH P o with
    | true=>
      obtain ⟨v,hv⟩:=nU C hsel ho k6 hin p8 k3 is [] a (λ_ h=>h) hin (Rel.refl _ _ _) ht
      refine iQ hdf (hv w hS) ⟨⟨λe=>(by rw [q9,k6] at e; cases e),λ_=>rfl⟩,?_⟩
      refine pB C hsel hL0 k5 hQ hst hend m _ _ w (by rw [jO]; exact hN) p9 (by simpa using hsz) u1 q8 hm hS (λq hq hl hp=>?_) (jG C hsel hS hQ ho hin p8 k3 (.inl ⟨k6,hv⟩) is [] a (λ_ h=>h) C.inc hin (by simp) (Rel.refl _ _ _) ht)
      have hqi:q.1≠i:=λe=>by have:=hp o (by rw [e]; exact ho); rw [k6] at this; cases this
      rw [getD_set_ne true (λe=>hqi e.symm)] at hl
      unfold HT
      rw [k4 v q hq hqi]
      exact hT q hq hl hp
    | false=>
      refine Oper.wpIn_mono ?_ (sS C hsel hQ ho k6 hin p8 k3 hm hS hT is [] a (λ_ h=>h) hin (by simp) (Rel.refl _ _ _) (λ_ _ h=>h) ht)
      rintro a' w' ⟨v,rfl,u9,u2,u3,v1⟩
      refine ⟨⟨λ_ _=>u3,λe=>(by rw [q9,k6] at e; cases e)⟩,?_⟩
      refine pB C hsel hL0 k5 hQ hst hend m _ _ w' (by rw [jO]; exact hN) p9 (by simpa using hsz) u1 q8 (hm.trans u2 (λ_ _ h=>h) λ_ _ h=>h) u3 (λq hq hl hp=>?_) (jG C hsel hS hQ ho hin p8 k3 (.inr ⟨k6,u9⟩) is [] a (λ_ h=>h) C.inc hin (by simp) (Rel.refl _ _ _) ht)
      by_cases hqi:q.1=i
      ·unfold HT
       rw [hqi]
       obtain ⟨x,hx,_,_,⟨d,hd⟩,_⟩:=C.op _ hin
       have u4:ops[i]? = some x:=hx
       rw [ho] at u4; cases u4
       have u5:cT ops i=some d:=by simp [cT,ho,hd]
       have:=List.all_eq_true.1 k5 _ hin
       simp only [u5] at this
       have u0:d<a.tmps.size:=by rw [hN]; simpa using this
       have e2:gN ops (a.put o.dst v) i=v:=by simp [gN,u5,hd,Act.put,u0]
       rw [e2]
       exact v1
      ·rw [getD_set_ne true (λe=>hqi e.symm)] at hl
       unfold HT
       rw [k4 v q hq hqi]
       exact hst _ _ _ _ u2 (hT q hq hl hp)
theorem qCI {L:Array Bool} : ∀ (js:List (Nat×Kd)),(∀ q∈js,L.getD q.1 true=false)->unl L js=js.length
 | [],_=>rfl
 | q :: r,h=>by unfold unl; rw [h q (by simp),qCI r λp hp=>h p (by simp [hp])]; simp; omega
end
end Go.Sh
end
