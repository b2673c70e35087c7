/- The forms of the translated functions,their contracts and the plain laws behind them,put together by a program. -/
import Derived.Test.YtmgcoepbccgjfaaGreatDoorPB3
import Derived.RangeFuncLeaves
import Derived.RangeFuncCalls
set_option linter.unusedSimpArgs false
set_option linter.unusedVariables false
set_option maxRecDepth 1000000
set_option maxHeartbeats 8000000
section
namespace Go.Sh
open Go
abbrev Fr (r:Option Nat):Fence:={Fence.wide with round:=r}
theorem callsIn_fr {r:Option Nat} {n:Nat} {P:Program} {f:FuncId} {args:Array Value} {w:World} {R:Ending->World->Prop} : CallsIn (Fr r) n P f args w R↔Calls P f args w R:=callsIn_wide
theorem semAt_plain {r:Option Nat} {o:Oper} {ρ:Operand->Value} (h:isDefer o.op=false):o.semAt r ρ=execOp ρ o:=
 Oper.semAt_eq r ρ o λc e=>by rw [e] at h; cases h
section
variable {P:Program} {ops:Array Oper} {Q:Exit->Act->World->Prop} {r:Option Nat} {S:World->Prop}
theorem late_spec {j i:Nat} {o x:Oper} (h:late ops j=true) (hj:ops[j]? = some o) (hi:ops[i]? = some x) (hl:isLoadOp x=true) :
 (∃ e∈o.after,Region.binds .any e=true/\e.on=i)\/∃ e∈o.after,Region.binds .any e=true/\∃ y,ops[e.on]? = some y/\∃ g∈y.after,Region.binds .any g=true/\g.on=i:=by
 unfold late at h
 rw [hj] at h
 simp only [List.all_eq_true,List.mem_range] at h
 have hlt:i<ops.size:=(Array.getElem?_eq_some_iff.1 hi).1
 have:=h i hlt
 rw [hi] at this
 simp only [hl,Bool.not_true,Bool.false_or,Bool.or_eq_true] at this
 rcases this with this | this
 ·simp only [Array.any_eq_true,Bool.and_eq_true,Nat.beq_eq] at this
  obtain ⟨k,hk,h1,h2⟩:=this
  exact .inl ⟨o.after[k],Array.getElem_mem _,h1,h2⟩
 ·simp only [Bool.and_eq_true] at this
  have h2:=this.2
  unfold twoB at h2
  rw [Array.any_eq_true] at h2
  obtain ⟨k,hk,h2⟩:=h2
  rw [Bool.and_eq_true] at h2
  obtain ⟨h3,h4⟩:=h2
  cases hy:ops[(o.after[k]).on]? with
  | none=>rw [hy] at h4; cases h4
  | some y=>
    rw [hy] at h4
    simp only [Array.any_eq_true,Bool.and_eq_true,Nat.beq_eq] at h4
    obtain ⟨k2,hk2,h5,h6⟩:=h4
    exact .inr ⟨o.after[k],Array.getElem_mem _,h3,y,hy,y.after[k2],Array.getElem_mem _,h5,h6⟩
def Closed (ops:Array Oper) (listed:Array Bool):Prop:=∀ m om,ops[m]? = some om->listed.getD m false=true->∀ e∈om.after,Region.binds .any e=true->listed.getD e.on false=true
theorem closed_none (ops:Array Oper) (n:Nat):Closed ops (Array.replicate n false):=λm om _ h=>by
 simp [Array.getD] at h
theorem closed_set {listed:Array Bool} {j:Nat} (h:Closed ops listed) (hj:j∈Region.ready .any ops listed):Closed ops (listed.setIfInBounds j true):=λm om hm hl e he hb=>by
 by_cases hjm:j=m
 ·subst hjm
  obtain ⟨_,o,ho,hall⟩:=mem_ready.1 hj
  rw [hm] at ho; cases ho
  exact getD_set_true (hall e he hb)
 ·rw [getD_set_ne false hjm] at hl
  exact getD_set_true (h m om hm hl e he hb)
abbrev wOp (P:Program) (ops:Array Oper) (r:Option Nat) (Q:Exit->Act->World->Prop):=wpOpIn (Fr r) 0 P ops Q
def wAny (P:Program) (ops:Array Oper) (r:Option Nat) (Q:Exit->Act->World->Prop) (S:World->Prop):Nat->Array Bool->Act->World->Prop
 | 0,listed,a,w=>Region.ready .any ops listed=[]/\Q .normal a w
 | fuel+1,listed,a,w=>
   (Region.ready .any ops listed=[]->Q .normal a w)/\
   ∀ i∈Region.ready .any ops listed,wOp P ops r Q i (λa' w'=>((eff P ops i=true->late ops i=false->S w')/\(eff P ops i=false->w'=w))/\wAny P ops r Q S fuel (listed.setIfInBounds i true) a' w') a w
theorem wAny_in : ∀ (fuel:Nat) (listed:Array Bool) (a:Act) (w:World),wAny P ops r Q S fuel listed a w->wpAnyIn (Fr r) 0 P .any ops Q fuel listed a w
 | 0,_,_,_,h=>h
 | fuel+1,_,_,_,h=>⟨h.1,λi hi=>wpOpIn_mono (λa' w' h'=>wAny_in fuel _ a' w' h'.2) (h.2 i hi)⟩
theorem YieldsIf.wOp {i:Nat} {o:Oper} {v:Value} {a:Act} (hi:ops[i]? = some o) (hd:isDefer o.op=false) (hy:YieldsIf P ops S o v a)
 {K:Act->World->Prop} {w:World} (hS:S w) (h:K (a.put o.dst v) w):wOp P ops r Q i K a w:=by
 unfold Sh.wOp wpOpIn
 simp only [hi]
 rcases hy with ⟨hw,hv⟩ | ⟨hw,rfl⟩
 ·simp only [hw,if_true,Oper.wpIn,semAt_plain hd,hv w hS,Oper.uponIn]
  exact ⟨λ_ _=>trivial,h⟩
 ·simp only [hw,Bool.false_eq_true,if_false]
  exact ⟨λ_ _=>trivial,h⟩
theorem wOp_putIf {j:Nat} {oi oj:Oper} {v:Value} (hj:ops[j]? = some oj) (hdj:isDefer oj.op=false) (hap:oi.apart ops oj=true)
 (hsi : ∀ cs b,oi.op≠.select cs b) (hsj : ∀ cs b,oj.op≠.select cs b)
 (hQ : ∀ c a w,Q (.panic c) (a.put oi.dst v) w->Q (.panic c) a w) {K:Act->World->Prop} {a:Act} {w:World}
 (hy:YieldsIf P ops S oi v a) (h:wOp P ops r Q j K (a.put oi.dst v) w) :
 wOp P ops r Q j (λa' w'=>YieldsIf P ops S oi v a'/\K (a'.put oi.dst v) w') a w:=by
 obtain ⟨h1,h2,h3⟩:=Oper.apart_spec hap
 have keep : ∀ (a:Act),YieldsIf P ops S oi v a->∀ u,YieldsIf P ops S oi v (a.put oj.dst u):=λa hy u=>
  hy.of_same (execOp_put oi hsi a oj.dst u h3) (wanted_put oi a oj.dst u h3)
 unfold Sh.wOp wpOpIn at *
 simp only [hj] at *
 rw [wanted_put oj a oi.dst v h1] at h
 split
 ·rename_i hw
  simp only [hw,if_true] at h
  unfold Oper.wpIn at *
  refine ⟨λ_ _=>trivial,?_⟩
  have h:=h.2
  rw [semAt_plain hdj,execOp_put oj hsj a oi.dst v h1] at h
  rw [semAt_plain hdj]
  generalize (execOp a.eval oj).run P w=res at *
  cases res with
  | ok n w'=>
    cases n <;> simp only [Oper.uponIn] at h ⊢
    case value u=>exact ⟨keep a hy u,by rw [<-Act.put_comm a v u h2]; exact h⟩
    case skip=>exact ⟨keep a hy _,by rw [<-Act.put_comm a v undef h2]; exact h⟩
    case defer d=>
     refine ⟨(hy.of_same rfl rfl:YieldsIf P ops S oi v {a with defers:=d :: a.defers}) |> λhy'=>keep _ hy' _,?_⟩
     rw [<-Act.put_comm _ v undef h2,<-Act.put_defers]
     exact h
    case enter f args=>
     refine ⟨h.1,CallsIn.mono h.2 λe w'' he=>?_⟩
     cases e with
     | returned u=>exact ⟨keep a hy u,by rw [<-Act.put_comm a v u h2]; exact he⟩
     | panicked c=>exact hQ _ _ _ he
     | outgrown=>exact he
    case row row args=>exact ⟨h.1,RowsIn.mono h.2 λu w'' he=>⟨keep a hy u,by rw [<-Act.put_comm a v u h2]; exact he⟩⟩
    case round l f tmps assign body=>
     refine ⟨h.1,RoundIn.mono h.2 λe w'' he=>?_⟩
     cases e with
     | returned u=>exact ⟨keep a hy u,by rw [<-Act.put_comm a v u h2]; exact he⟩
     | panicked c=>exact hQ _ _ _ he
     | outgrown=>exact he
  | halt x w'=>
    cases x <;> simp only [Oper.uponIn] at h ⊢
    case panic u=>exact hQ _ _ _ h
 ·rename_i hw
  simp only [hw] at h
  exact ⟨λ_ _=>trivial,keep a hy _,by rw [<-Act.put_comm a v undef h2]; exact h.2⟩
theorem wAny_first {i:Nat} {oi:Oper} {v:Value} {S':World->Prop} (hi:ops[i]? = some oi) (hsel : ∀ (j:Nat) (o:Oper) cs b,ops[j]? = some o->o.op≠.select cs b) (hdf : ∀ (j:Nat) (o:Oper),ops[j]? = some o->isDefer o.op=false)
 (hQ : ∀ c a w,Q (.panic c) (a.put oi.dst v) w->Q (.panic c) a w) (hS':(∀ w,S' w)\/(isLoadOp oi=true/\∀ w,S w->S' w)) (hei:eff P ops i=false) :
 ∀ (fuel:Nat) (listed:Array Bool) (a:Act) (w:World),
   (∀ j oj,ops[j]? = some oj->j≠i->listed.getD j true=false->(∀ e∈oj.after,Region.binds .any e=true->e.on≠i)->oi.apart ops oj=true)->
   (∀ m om,ops[m]? = some om->listed.getD m false=true->∀ e∈om.after,Region.binds .any e=true->e.on≠i)->
   i∈Region.ready .any ops listed->YieldsIf P ops S' oi v a->S' w->
   wAny P ops r Q S fuel (listed.setIfInBounds i true) (a.put oi.dst v) w->wAny P ops r Q S (fuel+1) listed a w:=by
 intro fuel
 induction fuel with
 | zero=>
   intro listed a w _ _ hr hy hS H
   refine ⟨λh=>(by rw [h] at hr; cases hr),λj hj=>?_⟩
   by_cases hji:j=i
   ·subst hji; exact YieldsIf.wOp hi (hdf _ _ hi) hy hS ⟨⟨λe=>by (rw [hei] at e; cases e),λ_=>rfl⟩,H⟩
   ·have:=ready_mono hj hji
    rw [H.1] at this
    cases this
 | succ fuel ih=>
   intro listed a w hfree hcl hr hy hS H
   refine ⟨λh=>(by rw [h] at hr; cases hr),λj hj=>?_⟩
   by_cases hji:j=i
   ·subst hji; exact YieldsIf.wOp hi (hdf _ _ hi) hy hS ⟨⟨λe=>by (rw [hei] at e; cases e),λ_=>rfl⟩,H⟩
   ·have h1:=H.2 j (ready_mono hj hji)
    obtain ⟨hjun,oj,hoj,hall⟩:=mem_ready.1 hj
    have hnot : ∀ e∈oj.after,Region.binds .any e=true->e.on≠i:=λe he hb heq=>by
     have h1:=hall e he hb
     have h0:=(mem_ready.1 hr).1
     rw [heq] at h1
     rcases Nat.lt_or_ge i listed.size with h' | h'
     ·simp [h'] at h0 h1; rw [h0] at h1; cases h1
     ·simp [Array.getElem?_eq_none h'] at h1
    have hnl:isLoadOp oi=true->late ops j=false:=λhl=>by
     cases hlt:late ops j with
     | false=>rfl
     | true=>
       rcases late_spec hlt hoj hi hl with ⟨e,he,hb,hon⟩ | ⟨e,he,hb,y,hy',g,hg,hgb,hon⟩
       ·exact absurd hon (hnot e he hb)
       ·exact absurd hon (hcl _ y hy' (hall e he hb) g hg hgb)
    have h2:=wOp_putIf hoj (hdf _ _ hoj) (hfree j oj hoj hji hjun hnot) (λcs b=>hsel i oi cs b hi) (λcs b=>hsel j oj cs b hoj) hQ hy h1
    have hfree' : ∀ k ok,ops[k]? = some ok->k≠i->(listed.setIfInBounds j true).getD k true=false->
     (∀ e∈ok.after,Region.binds .any e=true->e.on≠i)->oi.apart ops ok=true:=λk ok hk hki hun hno=>by
     refine hfree k ok hk hki ?_ hno
     by_cases hjk:j=k
     ·subst hjk; exact hjun
     ·rw [getD_set_ne true hjk] at hun; exact hun
    refine wpOpIn_mono (λa' w' h3=>?_) h2
    have hS2:S' w':=by
     cases he:eff P ops j with
     | false=>rw [h3.2.1.2 he]; exact hS
     | true=>
       rcases hS' with hS' | ⟨hl,hS'⟩
       ·exact hS' w'
       ·exact hS' w' (h3.2.1.1 he (hnl hl))
    have hcl' : ∀ m om,ops[m]? = some om->(listed.setIfInBounds j true).getD m false=true->∀ e∈om.after,Region.binds .any e=true->e.on≠i:=λm om hm hml e he hb=>by
     by_cases hjm:j=m
     ·subst hjm
      rw [hoj] at hm; cases hm
      exact hnot e he hb
     ·rw [getD_set_ne false hjm] at hml
      exact hcl m om hm hml e he hb
    refine ⟨h3.2.1,ih (listed.setIfInBounds j true) a' w' hfree' hcl' (ready_mono hr (Ne.symm hji)) h3.1 hS2 ?_⟩
    rw [Array.setIfInBounds_comm _ _ hji]
    exact h3.2.2
theorem wAny_take {i:Nat} {oi:Oper} {v:Value} {S':World->Prop} {fuel:Nat} {listed:Array Bool} {a:Act} {w:World} (hi:ops[i]? = some oi)
 (hs:Region.noSelect ops=true) (hdf : ∀ (j:Nat) (o:Oper),ops[j]? = some o->isDefer o.op=false) (hf:Region.free .any ops listed i=true) (hr:(Region.ready .any ops listed).contains i=true)
 (hQ : ∀ c a w,Q (.panic c) (a.put oi.dst v) w->Q (.panic c) a w) (hS':(∀ w,S' w)\/(isLoadOp oi=true/\∀ w,S w->S' w)) (hei:eff P ops i=false) (hy:YieldsIf P ops S' oi v a) (hS:S' w) (hcl:Closed ops listed)
 (h:wAny P ops r Q S fuel (listed.setIfInBounds i true) (a.put oi.dst v) w):wAny P ops r Q S (fuel+1) listed a w:=
 wAny_first hi (Region.noSelect_spec hs) hdf hQ hS' hei fuel listed a w (Region.free_spec hi hf) (λm om hm hl e he hb heq=>by
  have h1:=hcl m om hm hl e he hb
  have h0:=(mem_ready.1 (show i∈Region.ready .any ops listed by simpa using hr)).1
  rw [heq] at h1
  rcases Nat.lt_or_ge i listed.size with h' | h'
  ·simp [h'] at h0 h1; rw [h0] at h1; cases h1
  ·simp [Array.getElem?_eq_none h'] at h1) (by simpa using hr) hy hS h
theorem wAny_all {rs:List Nat} {fuel:Nat} {listed:Array Bool} {a:Act} {w:World} (hr:Region.ready .any ops listed=rs) (hne:rs≠[])
 (h : ∀ i∈rs,wOp P ops r Q i (λa' w'=>((eff P ops i=true->late ops i=false->S w')/\(eff P ops i=false->w'=w))/\wAny P ops r Q S fuel (listed.setIfInBounds i true) a' w') a w):wAny P ops r Q S (fuel+1) listed a w:=
 ⟨λh0=>absurd (hr ▸ h0) hne,hr ▸ h⟩
theorem wAny_done {listed:Array Bool} {a:Act} {w:World} (hr:Region.ready .any ops listed=[]) (h:Q .normal a w) : ∀ fuel,wAny P ops r Q S fuel listed a w
 | 0=>⟨hr,h⟩
 | _+1=>⟨λ_=>h,by rw [hr]; simp⟩
theorem wpIn_region_any' {id:Nat} {a:Act} {w:World} (hm:P.follows .mixedOrders=true)
 (h:wAny P ops r Q S ops.size (Array.replicate ops.size false) a w.drew):(Code.region id ops true).wpIn (Fr r) 0 P Q a w:=
 wpIn_region_any hm (wAny_in _ _ _ _ h)
end
section
variable {P:Program} {N:Nat} {env:Env} {a:Act} {w:World} {o:Oper} {K:Act->World->Prop} {Q:Exit->Act->World->Prop} {r:Option Nat}
theorem up_value (hdf:isDefer o.op=false) {v:Value} {w':World} (h:(execOp a.eval o).run P w = .ok (.value v) w') (hk:K (a.put o.dst v) w'):o.wpIn (Fr r) 0 P a w K Q:=by
 unfold Oper.wpIn; rw [semAt_plain hdf,h]; exact ⟨λ_ _=>trivial,hk⟩
theorem up_skip (hdf:isDefer o.op=false) {w':World} (h:(execOp a.eval o).run P w = .ok .skip w') (hk:K (a.put o.dst undef) w'):o.wpIn (Fr r) 0 P a w K Q:=by
 unfold Oper.wpIn; rw [semAt_plain hdf,h]; exact ⟨λ_ _=>trivial,hk⟩
theorem run_loadVar {T:TypeId} {ad:Addr} {t:TV} (hf:kdFit P T=true) (hl:t.cells.length=kdSize (kindOf P 20 T)) (hag:t.isAgg=kdAgg (kindOf P 20 T)) (hb:t.isBad=false) (hr:Rd w ad t.cells) :
 (loadVar T ad).run P w = .ok t.enc w:=by
 simp only [kdFit,Bool.and_eq_true,beq_iff_eq,Nat.beq_eq] at hf
 obtain ⟨⟨⟨k1,k2⟩,k3⟩,k4⟩:=hf
 unfold loadVar
 simp only [Sem.run_bind,run_isAgg (Option.some_get k4).symm,Result.andThen_ok]
 rw [<-k2,<-hag]
 cases hA:t.isAgg with
 | true=>
   simp only [↓reduceIte,Sem.run_bind,run_sizeAt k3,Result.andThen_ok,Sem.run_pure]
   rw [<-k1,<-hl,run_loadCells_list w ad t.cells hr]
   simp [enc_agg hA]
 | false=>
   have hc:=cells_single hA hb
   have:=hr 0 t.enc (by rw [hc]; rfl)
   rw [Addr.add_zero'] at this
   simp [this]
theorem semK_up (hdf:isDefer o.op=false) {s:Sem Value} {κ:Kd} {next:TV->World->Prop} (he:execOp a.eval o=(do let x <-s; pure (Next.value x))) (h:semK P s w λv w'=>resK κ v λt=>next t w')
 (hn : ∀ t v w',(t.isBad=false->v=t.enc)->next t w'->K (a.put o.dst v) w'):o.wpIn (Fr r) 0 P a w K Q:=by
 obtain ⟨v,w',hr,h1⟩:=h
 have h2:exK κ λt=>v=t.enc/\next t w':=h1
 obtain ⟨t,_,_,_,hv,h3⟩:=exK_out _ _ h2
 exact up_value hdf (by rw [he]; simp [hr]) (hn t _ w' (λ_=>hv) h3)
theorem semU_up (hdf:isDefer o.op=false) {s:Sem Unit} {next:TV->World->Prop} (he:execOp a.eval o=(do s; pure Next.skip)) (h:semU P s w λw'=>next .bad w')
 (hn : ∀ t v w',(t.isBad=false->v=t.enc)->next t w'->K (a.put o.dst v) w'):o.wpIn (Fr r) 0 P a w K Q:=by
 obtain ⟨w',hr,h⟩:=h
 exact up_skip hdf (by rw [he]; simp [hr]) (hn .bad undef w' (λhb=>by simp [TV.isBad] at hb) h)
theorem callK_up (hdf:isDefer o.op=false) {f:FuncId} {args:List Value} {κ:Kd} {pan:List PanicEntry->World->Prop} {next:TV->World->Prop} (hr:(execOp a.eval o).run P w = .ok (.enter f args.toArray) w)
 (h:callK P f args w pan λv w'=>resK κ v λt=>next t w')
 (hn : ∀ t v w',(t.isBad=false->v=t.enc)->next t w'->K (a.put o.dst v) w') (hp : ∀ c w',pan c w'->Q (.panic c) a w'):o.wpIn (Fr r) 0 P a w K Q:=by
 unfold Oper.wpIn
 rw [semAt_plain hdf,hr,Oper.uponIn_enter]
 refine ⟨λ_ _=>trivial,λh=>by simp [Fence.wide] at h,callsIn_fr.2 (Calls.mono h λe w' he=>?_)⟩
 cases e with
 | returned v=>
   have he':exK κ λt=>v=t.enc/\next t w':=he
   obtain ⟨t,_,_,_,hv,h⟩:=exK_out _ _ he'
   exact hn t _ w' (λ_=>hv) h
 | panicked c=>exact hp c w' he
 | outgrown=>exact he.elim
theorem enters_run {f:FuncId} {args:Array Value} (h:enters P f=true) (w:World):(callFunc f args).run P w = .ok (.enter f args) w:=by
 unfold enters at h
 cases hf:P.funcs[f]? with
 | none=>simp [hf] at h
 | some fn=>
   simp only [hf,Bool.and_eq_true,Bool.not_eq_true'] at h
   unfold callFunc
   have h1 : ¬ fn.name = "runtime.NumGoroutine":=by simpa using h.1
   have hb : ¬ fn.body=none:=by intro e; simp [e] at h
   simp [hf,h1,hb]
theorem good_is (hsim:Sim N env a.tmps) {x:Operand} (h:(!(ev env x).isBad)=true):a.eval x=(ev env x).enc:=hsim.eval x (by simpa using h)
theorem yieldK_up (hdf:isDefer o.op=false) {l:Nat} {args:List Value} {κ:Kd} {next:TV->World->Prop} (hr : ∀ x,(Instr.yield l args.toArray).run P w = .ok x w->(execOp a.eval o).run P w = .ok x w)
 (h:yieldK P l args w λv w'=>resK κ v λt=>next t w') (hn : ∀ t v w',(t.isBad=false->v=t.enc)->next t w'->K (a.put o.dst v) w'):o.wpIn (Fr r) 0 P a w K Q:=by
 obtain ⟨f,tmps,assign,body,h1,h2⟩:=h
 unfold Oper.wpIn
 rw [semAt_plain hdf,hr _ h1,Oper.uponIn_round]
 refine ⟨λ_ _=>trivial,λh=>by simp [Fence.wide] at h,?_⟩
 have h2':RoundIn (Fr r) (0 - 1) P l f tmps assign body w λe w'=>∃ v,e = .returned v/\resK κ v λt=>next t w':=h2
 refine RoundIn.mono h2' λe w' he=>?_
 obtain ⟨v,rfl,he⟩:=he
 have he':exK κ λt=>v=t.enc/\next t w':=he
 obtain ⟨t,_,_,_,hv,h⟩:=exK_out _ _ he'
 exact hn t _ w' (λ_=>hv) h
theorem stateK_wp (hdf:isDefer o.op=false) {pan:List PanicEntry->World->Prop} {next:TV->World->Prop} (hsim:Sim N env a.tmps) (h:stateK P o env w pan next)
 (hn : ∀ t v w',(t.isBad=false->v=t.enc)->next t w'->K (a.put o.dst v) w') (hp : ∀ c w',pan c w'->Q (.panic c) a w'):o.wpIn (Fr r) 0 P a w K Q:=by
 obtain ⟨dst,op,type,pos,after,guard⟩:=o
 unfold stateK at h
 simp only at h
 cases op <;> (try simp only at h) <;> try (exact h.elim)
 case load T x=>
  split at h
  ·rename_i q hx
   obtain ⟨ad,rfl,h⟩:=onSome_out h
   cases hf:kdFit P T with
   | false=>simp [hf,onSome] at h
   | true=>
     simp only [hf,cond_true] at h
     obtain ⟨t,t1,t2,t3,hr,h⟩:=exK_out _ _ h
     refine up_value hdf (v:=t.enc) (w':=w) ?_ (hn t _ w (λ_=>rfl) h)
     simp [execOp,hsim.is hx rfl,TV.enc,Instr.loadAt,Instr.sureAddr,run_loadVar hf t1 t2 t3 hr]
  ·exact h.elim
 case store T x y=>
  split at h
  ·rename_i q hx
   obtain ⟨ad,rfl,h⟩:=onSome_out h
   cases hg:(!(ev env y).isBad) with
   | false=>simp [hg,onSome] at h
   | true=>
     simp only [hg,cond_true] at h
     refine semU_up hdf ?_ h hn
     simp only [execOp,hsim.is hx rfl,good_is hsim hg,TV.enc]
     rfl
  ·exact h.elim
 case alloc T=>exact semK_up hdf rfl h hn
 case box T x=>
  cases hg:(!(ev env x).isBad) with
  | false=>simp [hg] at h
  | true=>
    simp only [hg,cond_true] at h
    exact semK_up hdf (by simp only [execOp,good_is hsim hg]) h hn
 case buildSlice T n parts=>
  cases hg:(parts.toList.all λq=>!(ev env q.2).isBad) with
  | false=>simp [hg] at h
  | true=>
    simp only [hg,cond_true] at h
    refine semK_up hdf ?_ h hn
    have e:(parts.map λ(x:Nat×Operand)=>(x.1,a.eval x.2))=parts.map λ(x:Nat×Operand)=>(x.1,(ev env x.2).enc):=by
     apply Array.ext'
     simp only [Array.toList_map]
     apply List.map_congr_left
     intro x hx
     have:=List.all_eq_true.1 hg x hx
     rw [good_is hsim this]
    simp only [execOp]
    rw [<-e]
 case insert T m k x=>
  cases hg:(!(ev env m).isBad&&!(ev env k).isBad&&!(ev env x).isBad) with
  | false=>simp [hg] at h
  | true=>
    simp only [hg,cond_true] at h
    simp only [Bool.and_eq_true] at hg
    exact semU_up hdf (by simp only [execOp,good_is hsim hg.1.1,good_is hsim hg.1.2,good_is hsim hg.2]) h hn
 case mapUpdate T m k x=>
  cases hg:(!(ev env m).isBad&&!(ev env k).isBad&&!(ev env x).isBad) with
  | false=>simp [hg] at h
  | true=>
    simp only [hg,cond_true] at h
    simp only [Bool.and_eq_true] at hg
    exact semU_up hdf (by simp only [execOp,good_is hsim hg.1.1,good_is hsim hg.1.2,good_is hsim hg.2]) h hn
 case entryStore T m k x=>
  cases hg:(!(ev env m).isBad&&!(ev env k).isBad&&!(ev env x).isBad) with
  | false=>simp [hg] at h
  | true=>
    simp only [hg,cond_true] at h
    simp only [Bool.and_eq_true] at hg
    exact semU_up hdf (by simp only [execOp,good_is hsim hg.1.1,good_is hsim hg.1.2,good_is hsim hg.2]) h hn
 case mapEntry T m k=>
  cases hg:(!(ev env m).isBad&&!(ev env k).isBad) with
  | false=>simp [hg] at h
  | true=>
    simp only [hg,cond_true] at h
    simp only [Bool.and_eq_true] at hg
    exact semK_up hdf (by simp only [execOp,good_is hsim hg.1,good_is hsim hg.2]) h hn
 case lookup T m k ok=>
  cases hg:(!(ev env m).isBad&&!(ev env k).isBad) with
  | false=>simp [hg] at h
  | true=>
    simp only [hg,cond_true] at h
    simp only [Bool.and_eq_true] at hg
    exact semK_up hdf (by simp only [execOp,good_is hsim hg.1,good_is hsim hg.2]) h hn
 case makeSlice T m k=>
  cases hg:(!(ev env m).isBad&&!(ev env k).isBad) with
  | false=>simp [hg] at h
  | true=>
    simp only [hg,cond_true] at h
    simp only [Bool.and_eq_true] at hg
    exact semK_up hdf (by simp only [execOp,good_is hsim hg.1,good_is hsim hg.2]) h hn
 case convert s d x=>
  cases hg:(!(ev env x).isBad) with
  | false=>simp [hg] at h
  | true=>
    simp only [hg,cond_true] at h
    exact semK_up hdf (by simp only [execOp,good_is hsim hg]) h hn
 case range T x=>
  cases hg:(!(ev env x).isBad) with
  | false=>simp [hg] at h
  | true=>
    simp only [hg,cond_true] at h
    exact semK_up hdf (by simp only [execOp,good_is hsim hg]) h hn
 case next x b=>
  cases hg:(!(ev env x).isBad) with
  | false=>simp [hg] at h
  | true=>
    simp only [hg,cond_true] at h
    exact semK_up hdf (by simp only [execOp,good_is hsim hg]) h hn
 case entry x=>
  cases hg:(!(ev env x).isBad) with
  | false=>simp [hg] at h
  | true=>
    simp only [hg,cond_true] at h
    exact semK_up hdf (by simp only [execOp,good_is hsim hg]) h hn
 case typeAssert x T b ok=>
  cases hg:(!(ev env x).isBad) with
  | false=>simp [hg] at h
  | true=>
    simp only [hg,cond_true] at h
    exact semK_up hdf (by simp only [execOp,good_is hsim hg]) h hn
 case makeMap T r=>
  cases r with
  | none=>exact semK_up hdf rfl h hn
  | some x=>
    simp only at h
    cases hg:(!(ev env x).isBad) with
    | false=>simp [hg] at h
    | true=>
      simp only [hg,cond_true] at h
      exact semK_up hdf (by simp only [execOp,Option.map_some,good_is hsim hg]) h hn
 case panic x=>
  split at h
  ·rename_i z hx
   unfold panV at h
   split at h
   ·rename_i T y
    unfold Oper.wpIn
    have:(execOp a.eval {dst,op:=.panic x,type,pos,after,guard}).run P w = .halt (.panic (.iface T y)) w:=by
     simp [execOp,hsim.is hx rfl,TV.enc,Instr.panic]
    rw [semAt_plain hdf,this]
    exact ⟨λ_ _=>trivial,hp _ _ h⟩
   ·exact h.elim
  ·exact h.elim
 case call c=>
  obtain ⟨callee,args,argTypes⟩:=c
  simp only at h
  cases hg:allGood env args with
  | false=>simp [hg] at h
  | true=>
    simp only [hg,cond_true] at h
    have ea:=good_evs hsim hg
    cases callee with
    | builtin b=>
      cases b <;> (try simp only at h) <;> (try (exact h.elim)) <;>
       exact semK_up hdf (by simp only [execOp,resolve,ea,invoke,builtin,pure_bind]) h hn
    | value f=>
      simp only at h
      split at h
      ·rename_i fv hf
       have hfe:=hsim.is hf rfl
       unfold callFV at h
       split at h
       ·rename_i fid first cap
        cases he:enters P fid with
        | true=>
          simp only [he,cond_true] at h
          refine callK_up hdf (args:=first.toList++evs env args++cap.toList) ?_ h hn hp
          have:(first.toList++evs env args++cap.toList).toArray=first++(evs env args).toArray++cap:=by apply Array.ext'; simp
          rw [this]
          simp [execOp,resolve,hfe,TV.enc,ea,Deferred.ofValue,invoke,enters_run he]
        | false=>
          simp only [he,cond_false] at h
          obtain ⟨v,w',hr,h1⟩:=h
          have h2:exK (kindOf P 20 type) λt=>v=t.enc/\next t w':=h1
          obtain ⟨t,_,_,_,hv,h3⟩:=exK_out _ _ h2
          refine up_value hdf (v:=v) (w':=w') ?_ (hn t _ w' (λ_=>hv) h3)
          simp [execOp,resolve,hfe,TV.enc,ea,Deferred.ofValue,invoke]
          simpa [TV.enc] using hr
       ·rename_i l first cap
        refine yieldK_up hdf (λx hx=>?_) h hn
        have:(first.toList++evs env args).toArray=first++(evs env args).toArray:=by apply Array.ext'; simp
        rw [this] at hx
        simp only [execOp,resolve,hfe,TV.enc,ea,Deferred.ofValue,Sem.run_bind,Sem.run_pure,Result.andThen_ok]
        simpa [invoke] using hx
       ·rename_i fn first cap _ _
        obtain ⟨f,args',hr,h⟩:=h
        refine callK_up hdf (args:=args'.toList) ?_ h hn hp
        simp only [execOp,resolve,hfe,TV.enc,ea,Deferred.ofValue,Sem.run_bind,Sem.run_pure,Result.andThen_ok]
        simpa using hr
       ·exact h.elim
      ·exact h.elim
    | invoke r name=>
      simp only at h
      split at h
      ·rename_i rv hx
       obtain ⟨f,args',hr,h⟩:=h
       refine callK_up hdf (args:=args'.toList) ?_ h hn hp
       simp only [execOp,resolve,hsim.is hx rfl,TV.enc,ea,Sem.run_bind,Sem.run_pure,Result.andThen_ok]
       simpa using hr
      ·exact h.elim
theorem runOp_wp (hdf:isDefer o.op=false) {pan:List PanicEntry->World->Prop} {next:TV->World->Prop} (hsim:Sim N env a.tmps) (h:runOp P o env w pan next)
 (hn : ∀ t v w',(t.isBad=false->v=t.enc)->next t w'->K (a.put o.dst v) w') (hp : ∀ c w',pan c w'->Q (.panic c) a w'):o.wpIn (Fr r) 0 P a w K Q:=by
 unfold runOp at h
 cases hc:isPure P o with
 | true=>
   simp only [hc,cond_true] at h
   obtain ⟨t,v,hr,hv,h⟩:=pureK_run hsim h
   exact up_value hdf (hr w) (hn t v w hv h)
 | false=>
   simp only [hc,cond_false] at h
   exact stateK_wp hdf hsim h hn hp
end
mutual
def dflt:Kd->TV
 | .i k=>.i k 0
 | .u8=>.u8 0
 | .u64=>.u64 0
 | .b=>.b false
 | .s=>.s []
 | .p=>.p none
 | .sl=>.sl ⟨none,0,0⟩
 | .m=>.m none
 | .v=>.v .nilFunc
 | .agg fs=>.agg (dflts fs)
 | .tup fs=>.tup (dflts fs)
 | .la _ _=>.bad
def dflts:List Kd->List TV
 | []=>[]
 | k :: r=>dflt k :: dflts r
end
mutual
theorem dflt_ok : ∀ κ:Kd,noLa κ=true->okK κ (dflt κ)=true
 | .i k,_=>by simp [okK,dflt]
 | .u8,_=>rfl
 | .u64,_=>rfl
 | .b,_=>rfl
 | .s,_=>rfl
 | .p,_=>rfl
 | .sl,_=>rfl
 | .m,_=>rfl
 | .v,_=>rfl
 | .agg fs,h=>by simp only [okK,dflt]; exact dflts_ok fs (by simpa [noLa] using h)
 | .tup fs,h=>by simp only [okK,dflt]; exact dflts_ok fs (by simpa [noLa] using h)
 | .la _ _,h=>by simp [noLa] at h
theorem dflts_ok : ∀ κs:List Kd,noLas κs=true->okKs κs (dflts κs)=true
 | [],_=>rfl
 | k :: r,h=>by
   simp only [noLas,Bool.and_eq_true] at h
   simp [okKs,dflts,dflt_ok k h.1,dflts_ok r h.2]
end
section
variable {P:Program} {N:Nat} {ops:Array Oper} {r:Option Nat} {Q:Exit->Act->World->Prop} {S:World->Prop} {Ts:Nat->Value->World->Prop} {w0:World}
def slotV (ops:Array Oper) (a:Act) (j:Nat):Value:=match dstAt ops j with | some d=>a.tmps.getD d undef | none=>undef
theorem Sim.putD' {env:Env} {a:Act} (h:Sim N env a.tmps) {d:Option Tmp} (hd:inRange N d=true) {x:TV} {v:Value} (hv:x.isBad=false->v=x.enc) :
 Sim N (Sh.putD env d x) (a.put d v).tmps:=by
 cases d with
 | none=>exact h
 | some d=>exact h.put (by simpa [inRange] using hd) hv
theorem opsWrite_mem (l:List Oper) (o:Oper) (h:o∈l) (x:Nat) (hx:o.dst=some x):x∈opsWrite l:=by
 induction l with
 | nil=>cases h
 | cons y r ih=>
   rcases List.mem_cons.1 h with e | e
   ·subst e; simp [opsWrite,hx]
   ·have:=ih e
    unfold opsWrite
    cases y.dst <;> simp [this]
theorem put_same {a b:Act} (h:a.tmps.size=b.tmps.size) {d:Option Tmp} {u v:Value} (e:a.put d u=a.put d v):b.put d u=b.put d v:=by
 cases d with
 | none=>rfl
 | some d=>
   have e':a.tmps.setIfInBounds d u=a.tmps.setIfInBounds d v:=congrArg Act.tmps e
   have:b.tmps.setIfInBounds d u=b.tmps.setIfInBounds d v:=by
    by_cases hd:d<a.tmps.size
    ·have h1:=congrArg (λx:Array Value=>x[d]?) e'
     simp [hd] at h1
     rw [h1]
    ·have hb : ¬ d<b.tmps.size:=by rw [<-h]; exact hd
     simp [Array.setIfInBounds,hb]
   show ({b with tmps:=_} : Act) = {b with tmps:=_}
   rw [this]
theorem put_size (a:Act) (d:Option Tmp) (v:Value):(a.put d v).tmps.size=a.tmps.size:=by cases d <;> simp [Act.put]
theorem put_def (a:Act) (d:Option Tmp) (v:Value):(a.put d v).defers=a.defers:=by cases d <;> rfl
theorem wpIn_swap {o:Oper} {a b:Act} {w:World} {X:Value->World->Prop} (hdf:isDefer o.op=false) (he:execOp b.eval o=execOp a.eval o) (hsz:a.tmps.size=b.tmps.size) (h:o.wpIn (Fr r) 0 P a w (λa' w'=>∃ v,a'=a.put o.dst v/\X v w') Q)
 (hq : ∀ c w',Q (.panic c) a w'->Q (.panic c) b w'):o.wpIn (Fr r) 0 P b w (λb' w'=>∃ v,b'=b.put o.dst v/\X v w') Q:=by
 unfold Oper.wpIn at *
 refine ⟨λ_ _=>trivial,?_⟩
 have h:=h.2
 have hk : ∀ u w',(∃ v,a.put o.dst u=a.put o.dst v/\X v w')->∃ v,b.put o.dst u=b.put o.dst v/\X v w':=λu w' ⟨v,e,hx⟩=>⟨v,put_same hsz e,hx⟩
 rw [semAt_plain hdf] at h
 rw [semAt_plain hdf,he]
 generalize (execOp a.eval o).run P w=res at *
 cases res with
 | ok n w'=>
   cases n <;> simp only [Oper.uponIn] at h ⊢
   case value u=>exact hk _ _ h
   case skip=>exact hk _ _ h
   case defer d=>
    obtain ⟨v,e,_⟩:=h
    have:=congrArg (λx:Act=>x.defers.length) e
    simp [put_def] at this
   case enter f args=>
    refine ⟨h.1,CallsIn.mono h.2 λe w'' he=>?_⟩
    cases e with
    | returned u=>exact hk _ _ he
    | panicked c=>exact hq _ _ he
    | outgrown=>exact he
   case row row args=>exact ⟨h.1,RowsIn.mono h.2 λu w'' he=>hk _ _ he⟩
   case round l f tmps assign body=>
    refine ⟨h.1,RoundIn.mono h.2 λe w'' he=>?_⟩
    cases e with
    | returned u=>exact hk _ _ he
    | panicked c=>exact hq _ _ he
    | outgrown=>exact he
 | halt x w'=>
   cases x <;> simp only [Oper.uponIn] at h ⊢
   case panic u=>exact hq _ _ h
def HT (ops:Array Oper) (Ts:Nat->Value->World->Prop) (j:Nat) (a:Act) (w:World):Prop:=Ts j (slotV ops a j) w
def Tree (P:Program) (r:Option Nat) (ops:Array Oper) (Q:Exit->Act->World->Prop) (S:World->Prop) (Ts:Nat->Value->World->Prop) (w0:World) (END:Act->World->Prop) (L:Array Bool):List (Nat×Kd)->List Nat->Act->Prop
 | [],hs,ac=>∀ w,Mod NoB w0 w->S w->(∀ q∈hs,HT ops Ts q ac w)->END ac w
 | (i,κ) :: js,hs,ac=>∃ o,ops[i]? = some o/\
    (isPL P o=true->(L.getD i true=true->Tree P r ops Q S Ts w0 END L js hs ac)/\
     (L.getD i true=false->∃ v,(∀ w,S w->(execOp ac.eval o).run P w = .ok (.value v) w)/\Tree P r ops Q S Ts w0 END L js hs (ac.put o.dst v)))/\
    (isPL P o=false->(L.getD i true=true->Tree P r ops Q S Ts w0 END L js (i :: hs) ac)/\
     (L.getD i true=false->(∀ w,Mod NoB w0 w->S w->(∀ q∈hs,bafter o q=true->HT ops Ts q ac w)->
      o.wpIn (Fr r) 0 P ac w (λa' w'=>∃ v,a'=ac.put o.dst v/\(∃ t,okK κ t=true/\v=t.enc)/\Mod NoB w w'/\S w'/\Ts i v w') Q)/\
      ∀ t,okK κ t=true->Tree P r ops Q S Ts w0 END L js (i :: hs) (ac.put o.dst t.enc)))
structure SafeC (P:Program) (ops:Array Oper) (L0:Array Bool) (is:List (Nat×Kd)):Prop where
 inc:(is.map (·.1)).Pairwise (· < ·)
 op : ∀ q∈is,∃ o,ops[q.1]? = some o/\o.guard=none/\isDefer o.op=false/\(∃ d,o.dst=some d)/\L0.getD q.1 true=false/\(isPL P o=true\/noLa q.2=true)
 dst : ∀ q∈is,∀ p∈is,p.1≠q.1->dstAt ops p.1≠dstAt ops q.1
 reads : ∀ q∈is,∀ p∈is,∀ o,ops[q.1]? = some o->∀ d,dstAt ops p.1=some d->d∈o.looksAt ops->bafter o p.1=true
 from_ : ∀ q∈is,∀ o,ops[q.1]? = some o->∀ e∈o.after,Region.binds .any e=true->L0.getD e.on false=true\/∃ p∈is,p.1=e.on/\p.1<q.1
 back : ∀ q∈is,∀ p∈is,∀ o,ops[q.1]? = some o->bafter o p.1=true->p.1<q.1
 bar : ∀ k,k<ops.size->L0.getD k true=true\/(∃ q∈is,q.1=k)\/∃ o,ops[k]? = some o/\((∃ e,bafter o e=true/\L0.getD e true=false/\∀ q∈is,q.1≠e)\/∀ q∈is,bafter o q.1=true\/∃ p∈is,bafter o p.1=true/\∀ x,ops[p.1]? = some x->bafter x q.1=true)
theorem pw_uniq : ∀ {is:List (Nat×Kd)},(is.map (·.1)).Pairwise (· < ·)->∀ {i:Nat} {κ κ':Kd},(i,κ)∈is->(i,κ')∈is->κ=κ'
 | [],_,_,_,_,h,_=>by cases h
 | q :: r,hp,i,κ,κ',h,h'=>by
   simp only [List.map_cons,List.pairwise_cons] at hp
   rcases List.mem_cons.1 h with e | h1
   ·rcases List.mem_cons.1 h' with e' | h2
    ·rw [<-e] at e'; cases e'; rfl
    ·have:=hp.1 i (List.mem_map.2 ⟨_,h2,rfl⟩); rw [<-e] at this; simp at this
   ·rcases List.mem_cons.1 h' with e' | h2
    ·have:=hp.1 i (List.mem_map.2 ⟨_,h1,rfl⟩); rw [<-e'] at this; simp at this
    ·exact pw_uniq hp.2 h1 h2
theorem SafeC.uniq {L0:Array Bool} {is:List (Nat×Kd)} (C:SafeC P ops L0 is) {i:Nat} {κ κ':Kd} (h:(i,κ)∈is) (h':(i,κ')∈is):κ=κ':=pw_uniq C.inc h h'
theorem incr_pw : ∀ is:List (Nat×Kd),incr is=true->(is.map (·.1)).Pairwise (· < ·)
 | [],_=>by simp
 | [a],_=>by simp
 | a :: b :: r,h=>by
   simp only [incr,Bool.and_eq_true] at h
   have ih:=incr_pw (b :: r) h.2
   have hab:a.1<b.1:=by simpa using h.1
   simp only [List.map_cons,List.pairwise_cons] at ih ⊢
   refine ⟨λx hx=>?_,ih⟩
   rcases List.mem_cons.1 hx with rfl | hx
   ·exact hab
   ·exact Nat.lt_trans hab (ih.1 x hx)
theorem bafter_iff {o:Oper} {j:Nat} : bafter o j=true↔∃ e∈o.after,Region.binds .any e=true/\e.on=j:=by
 unfold bafter
 simp only [Array.any_eq_true,Bool.and_eq_true,Nat.beq_eq]
 constructor
 ·rintro ⟨i,hi,h1,h2⟩; exact ⟨_,Array.getElem_mem hi,h1,h2⟩
 ·rintro ⟨e,he,h1,h2⟩
  obtain ⟨i,hi,rfl⟩:=Array.getElem_of_mem he
  exact ⟨i,hi,h1,h2⟩
theorem safeC_of {L0:Array Bool} {is:List (Nat×Kd)} (h:safeOk P ops L0 is=true) (hi:incr is=true):SafeC P ops L0 is:=by
 unfold safeOk at h
 simp only [Bool.and_eq_true,List.all_eq_true] at h
 obtain ⟨h1,h2⟩:=h
 have g : ∀ q∈is,∃ o,ops[q.1]? = some o/\(o.guard.isNone&&!isDefer o.op&&o.dst.isSome&&!(L0.getD q.1 true)&&(isPL P o || noLa q.2)
  && (is.all λp=>Nat.beq p.1 q.1 || !(dstAt ops p.1==o.dst))
  && (is.all λp=>bafter o p.1 || !((o.looksAt ops).any λt=>dstAt ops p.1==some t))
  && (o.after.all λe=>!Region.binds .any e || (L0.getD e.on false || (is.any λp=>Nat.beq p.1 e.on&&Nat.blt p.1 q.1)))
  && (is.all λp=>Nat.blt p.1 q.1 || !bafter o p.1))=true:=by
  intro q hq
  have:=h1 q hq
  cases ho:ops[q.1]? with
  | none=>rw [ho] at this; cases this
  | some o=>rw [ho] at this; exact ⟨o,rfl,this⟩
 have dsto : ∀ q o,ops[q]? = some o->dstAt ops q=o.dst:=λq o ho=>by simp [dstAt,ho]
 refine ⟨incr_pw is hi,?_,?_,?_,?_,?_,?_⟩
 ·intro q hq
  obtain ⟨o,ho,hh⟩:=g q hq
  simp only [Bool.and_eq_true,Bool.not_eq_true',Option.isNone_iff_eq_none,Option.isSome_iff_exists,Bool.or_eq_true] at hh
  obtain ⟨⟨⟨⟨⟨⟨⟨⟨a1,a2⟩,a3⟩,a4⟩,a5⟩,a6⟩,a7⟩,a8⟩,a9⟩:=hh
  exact ⟨o,ho,a1,a2,a3,a4,a5⟩
 ·intro q hq p hp hne
  obtain ⟨o,ho,hh⟩:=g q hq
  simp only [Bool.and_eq_true,List.all_eq_true] at hh
  have:=hh.1.1.1.2 p hp
  rw [dsto _ _ ho]
  simp only [Bool.or_eq_true,Nat.beq_eq,Bool.not_eq_true',beq_eq_false_iff_ne] at this
  exact this.resolve_left hne
 ·intro q hq p hp o ho d hd hmem
  obtain ⟨o',ho',hh⟩:=g q hq
  rw [ho] at ho'; cases ho'
  simp only [Bool.and_eq_true,List.all_eq_true] at hh
  have:=hh.1.1.2 p hp
  simp only [Bool.or_eq_true,Bool.not_eq_true',List.any_eq_false] at this
  rcases this with this | this
  ·exact this
  ·have:=this d hmem; rw [hd] at this; simp at this
 ·intro q hq o ho e he hb
  obtain ⟨o',ho',hh⟩:=g q hq
  rw [ho] at ho'; cases ho'
  simp only [Bool.and_eq_true] at hh
  have:=hh.1.2
  rw [Array.all_eq_true] at this
  obtain ⟨i,hi,rfl⟩:=Array.getElem_of_mem he
  have:=this i hi
  simp only [Bool.or_eq_true,Bool.not_eq_true',List.any_eq_true,Bool.and_eq_true,Nat.beq_eq,Nat.blt_eq] at this
  rcases this with h | h | ⟨p,h1,h2,h3⟩
  ·rw [hb] at h; cases h
  ·exact .inl h
  ·exact .inr ⟨p,h1,h2,h3⟩
 ·intro q hq p hp o ho hb
  obtain ⟨o',ho',hh⟩:=g q hq
  rw [ho] at ho'; cases ho'
  simp only [Bool.and_eq_true,List.all_eq_true] at hh
  have:=hh.2 p hp
  simp only [Bool.or_eq_true,Nat.blt_eq,Bool.not_eq_true'] at this
  rcases this with h | h
  ·exact h
  ·rw [hb] at h; cases h
 ·intro k hk
  have:=h2 k (by simpa using hk)
  simp only [Bool.or_eq_true,List.any_eq_true,Nat.beq_eq] at this
  rcases this with (h | ⟨q,hq,e⟩) | h
  ·exact .inl h
  ·exact .inr (.inl ⟨q,hq,e⟩)
  ·refine .inr (.inr ?_)
   cases ho:ops[k]? with
   | none=>rw [ho] at h; cases h
   | some o=>
     rw [ho] at h
     rw [Bool.or_eq_true] at h
     refine ⟨o,rfl,h.imp (λh=>?_) λh=>?_⟩
     ·simp only [Array.any_eq_true,Bool.and_eq_true,Bool.not_eq_true',List.any_eq_false,Nat.beq_eq] at h
      obtain ⟨n,hn,⟨h1,h2⟩,h3⟩:=h
      exact ⟨_,bafter_iff.2 ⟨_,Array.getElem_mem hn,h1,rfl⟩,h2,λq hq e=>by have:=h3 q hq; simp [e] at this⟩
     ·simp only [List.all_eq_true,Bool.or_eq_true,List.any_eq_true,Bool.and_eq_true] at h
      refine λq hq=>(h q hq).imp id λ⟨p,hp,e1,e2⟩=>⟨p,hp,e1,λx hx=>?_⟩
      rw [hx] at e2; exact e2
def Rel (ops:Array Oper) (is:List (Nat×Kd)) (L:Array Bool) (ac a:Act):Prop:=
 ac.tmps.size=a.tmps.size/\ac.defers=a.defers/\∀ t,(∀ q∈is,L.getD q.1 true=false->dstAt ops q.1≠some t)->ac.tmps[t]? = a.tmps[t]?
theorem Rel.refl (is:List (Nat×Kd)) (L:Array Bool) (a:Act):Rel ops is L a a:=⟨rfl,rfl,λ_ _=>rfl⟩
theorem Rel.put {is:List (Nat×Kd)} {L:Array Bool} {ac a:Act} (h:Rel ops is L ac a) {q:Nat×Kd} (hq:q∈is) {o:Oper} (ho:ops[q.1]? = some o) (hl:L.getD q.1 true=false) (v:Value):Rel ops is L (ac.put o.dst v) a:=by
 refine ⟨(put_size _ _ _).trans h.1,(put_def _ _ _).trans h.2.1,λt ht=>?_⟩
 rw [<-h.2.2 t ht]
 have hd:dstAt ops q.1=o.dst:=by simp [dstAt,ho]
 have:=ht q hq hl
 rw [hd] at this
 cases hod:o.dst with
 | none=>rfl
 | some d=>
   rw [hod] at this
   have hne:d≠t:=λe=>this (by rw [e])
   simp [Act.put,Array.getElem?_setIfInBounds_ne hne]
theorem Rel.exec {L0:Array Bool} {is:List (Nat×Kd)} (C:SafeC P ops L0 is) (hsel : ∀ (j:Nat) (o:Oper) cs b,ops[j]? = some o->o.op≠.select cs b) {L:Array Bool} {ac a:Act} (h:Rel ops is L ac a) {q:Nat×Kd} (hq:q∈is) {o:Oper} (ho:ops[q.1]? = some o)
 (hdep : ∀ p∈is,bafter o p.1=true->L.getD p.1 true=true):execOp ac.eval o=execOp a.eval o:=by
 refine execOp_congr o (λcs b=>hsel q.1 o cs b ho) λx hx=>?_
 cases x with
 | tmp t=>
   have:ac.tmps[t]? = a.tmps[t]?:=h.2.2 t λp hp hl hd=>by
    have hm:t∈o.looksAt ops:=List.mem_append_left _ (List.mem_filterMap.2 ⟨.tmp t,by simpa using hx,rfl⟩)
    have:=hdep p hp (C.reads q hq p hp o ho t hd hm)
    rw [hl] at this; cases this
   simp [Act.eval,Array.getD_eq_getD_getElem?,this]
 | const v=>rfl
 | global g=>rfl
 | func f=>rfl
theorem Rel.slot {L0:Array Bool} {is:List (Nat×Kd)} (C:SafeC P ops L0 is) {L:Array Bool} {ac a:Act} (h:Rel ops is L ac a) {p:Nat×Kd} (hp:p∈is) (hl:L.getD p.1 true=true):slotV ops ac p.1=slotV ops a p.1:=by
 unfold slotV
 cases hd:dstAt ops p.1 with
 | none=>rfl
 | some d=>
   have:ac.tmps[d]? = a.tmps[d]?:=h.2.2 d λq hq hlq hdq=>by
    refine C.dst p hp q hq (λe=>?_) (hdq.trans hd.symm)
    rw [e] at hlq; rw [hl] at hlq; cases hlq
   simp [Array.getD_eq_getD_getElem?,this]
theorem inh {κ:Kd} (h:noLa κ=true) : ∃ t,okK κ t=true:=⟨_,dflt_ok κ h⟩
section
variable {L0 L:Array Bool} {is:List (Nat×Kd)} (C:SafeC P ops L0 is) (hsel : ∀ (j:Nat) (o:Oper) cs b,ops[j]? = some o->o.op≠.select cs b) {END:Act->World->Prop} {a:Act} {i:Nat} {κ:Kd} {oi:Oper}
include C hsel
theorem get_run (hoi:ops[i]? = some oi) (hpu:isPL P oi=true) (hin:(i,κ)∈is) (hl:L.getD i true=false) (hdep : ∀ p∈is,bafter oi p.1=true->L.getD p.1 true=true) :
 ∀ (js:List (Nat×Kd)) (hs:List Nat) (ac:Act),(∀ q∈js,q∈is)->(i,κ)∈js->Rel ops is L ac a->Tree P r ops Q S Ts w0 END L js hs ac->∃ v,∀ w,S w->(execOp a.eval oi).run P w = .ok (.value v) w
 | [],hs,ac,_,hi,_,_=>by cases hi
 | (j,κj) :: js,hs,ac,hsub,hi,hr,h=>by
   obtain ⟨o,ho,h1,h2⟩:=h
   have hsub' : ∀ q∈js,q∈is:=λq hq=>hsub q (by simp [hq])
   have hj:(j,κj)∈is:=hsub _ (by simp)
   by_cases e:j=i
   ·subst e
    rw [hoi] at ho; cases ho
    obtain ⟨v,hv,_⟩:=(h1 hpu).2 hl
    rw [Rel.exec C hsel hr hin hoi hdep] at hv
    exact ⟨v,hv⟩
   ·have hi':(i,κ)∈js:=by
     rcases List.mem_cons.1 hi with h | h
     ·cases h; exact absurd rfl e
     ·exact h
    cases hlj:L.getD j true with
    | true=>
      cases hp:isPL P o with
      | true=>exact get_run hoi hpu hin hl hdep js _ ac hsub' hi' hr ((h1 hp).1 hlj)
      | false=>exact get_run hoi hpu hin hl hdep js _ ac hsub' hi' hr ((h2 hp).1 hlj)
    | false=>
      cases hp:isPL P o with
      | true=>
        obtain ⟨v,_,ht⟩:=(h1 hp).2 hlj
        exact get_run hoi hpu hin hl hdep js _ _ hsub' hi' (hr.put hj ho hlj v) ht
      | false=>
        obtain ⟨o',ho',_,_,_,_,hk⟩:=C.op _ hj
        rw [ho] at ho'; cases ho'
        obtain ⟨t,ht⟩:=inh (hk.resolve_left (by simp [hp]))
        exact get_run hoi hpu hin hl hdep js _ _ hsub' hi' (hr.put hj ho hlj _) (((h2 hp).2 hlj).2 t ht)
theorem get_wp (hQ : ∀ c (a:Act) d v w,(∀ x,d=some x->x∈opsWrite ops.toList)->(Q (.panic c) (a.put d v) w↔Q (.panic c) a w)) (hoi:ops[i]? = some oi) (hpu:isPL P oi=false) (hin:(i,κ)∈is) (hl:L.getD i true=false) (hdep : ∀ p∈is,bafter oi p.1=true->L.getD p.1 true=true)
 {w:World} (hm:Mod NoB w0 w) (hS:S w) (hT : ∀ p∈is,L.getD p.1 true=true->(∀ o,ops[p.1]? = some o->isPL P o=false)->HT ops Ts p.1 a w) :
 ∀ (js:List (Nat×Kd)) (hs:List Nat) (ac:Act),(∀ q∈js,q∈is)->(i,κ)∈js->(∀ q∈hs,∃ p∈is,p.1=q/\∀ o,ops[p.1]? = some o->isPL P o=false)->Rel ops is L ac a->(∀ c w',Q (.panic c) ac w'->Q (.panic c) a w')->Tree P r ops Q S Ts w0 END L js hs ac->
   oi.wpIn (Fr r) 0 P a w (λa' w'=>∃ v,a'=a.put oi.dst v/\(∃ t,okK κ t=true/\v=t.enc)/\Mod NoB w w'/\S w'/\Ts i v w') Q
 | [],hs,ac,_,hi,_,_,_,_=>by cases hi
 | (j,κj) :: js,hs,ac,hsub,hi,hhs,hr,hq,h=>by
   obtain ⟨o,ho,h1,h2⟩:=h
   have hsub' : ∀ q∈js,q∈is:=λq hq=>hsub q (by simp [hq])
   have hj:(j,κj)∈is:=hsub _ (by simp)
   have hdst : ∀ x,o.dst=some x->x∈opsWrite ops.toList:=λx hx=>opsWrite_mem _ o (by have:=Array.mem_of_getElem? ho; simpa using this) x hx
   by_cases e:j=i
   ·subst e
    rw [hoi] at ho; cases ho
    have hkk:κj=κ:=C.uniq hj hin
    subst hkk
    obtain ⟨o',ho',_,hdf,_⟩:=C.op _ hin
    rw [hoi] at ho'; cases ho'
    have hh:=((h2 hpu).2 hl).1 w hm hS λq hqm hb=>by
     obtain ⟨p,hp,rfl,hpe⟩:=hhs q hqm
     have hlp:=hdep p hp hb
     unfold HT
     rw [Rel.slot C hr hp hlp]
     exact hT p hp hlp hpe
    exact wpIn_swap hdf (Rel.exec C hsel hr hin hoi hdep).symm hr.1 hh hq
   ·have hi':(i,κ)∈js:=by
     rcases List.mem_cons.1 hi with h | h
     ·cases h; exact absurd rfl e
     ·exact h
    cases hlj:L.getD j true with
    | true=>
      cases hp:isPL P o with
      | true=>exact get_wp hQ hoi hpu hin hl hdep hm hS hT js _ ac hsub' hi' hhs hr hq ((h1 hp).1 hlj)
      | false=>exact get_wp hQ hoi hpu hin hl hdep hm hS hT js _ ac hsub' hi' (λq hqm=>by
         rcases List.mem_cons.1 hqm with rfl | hqm
         ·exact ⟨_,hj,rfl,λo' ho'=>by rw [ho] at ho'; cases ho'; exact hp⟩
         ·exact hhs q hqm) hr hq ((h2 hp).1 hlj)
    | false=>
      cases hp:isPL P o with
      | true=>
        obtain ⟨v,_,ht⟩:=(h1 hp).2 hlj
        exact get_wp hQ hoi hpu hin hl hdep hm hS hT js _ _ hsub' hi' hhs (hr.put hj ho hlj v) (λc w' h=>hq c w' ((hQ c ac o.dst v w' hdst).1 h)) ht
      | false=>
        obtain ⟨o',ho',_,_,_,_,hk⟩:=C.op _ hj
        rw [ho] at ho'; cases ho'
        obtain ⟨t,ht⟩:=inh (hk.resolve_left (by simp [hp]))
        exact get_wp hQ hoi hpu hin hl hdep hm hS hT js _ _ hsub' hi' (λq hqm=>by
         rcases List.mem_cons.1 hqm with rfl | hqm
         ·exact ⟨_,hj,rfl,λo' ho'=>by rw [ho] at ho'; cases ho'; exact hp⟩
         ·exact hhs q hqm) (hr.put hj ho hlj _) (λc w' h=>hq c w' ((hQ c ac o.dst _ w' hdst).1 h)) (((h2 hp).2 hlj).2 t ht)
omit C hsel in
theorem tree_notmem {i:Nat} : ∀ (js:List (Nat×Kd)) (hs:List Nat) (ac:Act),(∀ q∈js,q.1≠i)->Tree P r ops Q S Ts w0 END L js hs ac->Tree P r ops Q S Ts w0 END (L.setIfInBounds i true) js hs ac
 | [],hs,ac,_,h=>h
 | (j,κj) :: js,hs,ac,hne,h=>by
   obtain ⟨o,ho,h1,h2⟩:=h
   have hj:i≠j:=λe=>hne (j,κj) (by simp) e.symm
   have hne' : ∀ q∈js,q.1≠i:=λq hq=>hne q (by simp [hq])
   refine ⟨o,ho,λhp=>?_,λhp=>?_⟩
   ·rw [getD_set_ne true hj]
    exact ⟨λe=>tree_notmem js _ ac hne' ((h1 hp).1 e),λe=>let ⟨v,hv,ht⟩:=(h1 hp).2 e; ⟨v,hv,tree_notmem js _ _ hne' ht⟩⟩
   ·rw [getD_set_ne true hj]
    exact ⟨λe=>tree_notmem js _ ac hne' ((h2 hp).1 e),λe=>⟨((h2 hp).2 e).1,λt ht=>tree_notmem js _ _ hne' (((h2 hp).2 e).2 t ht)⟩⟩
theorem tree_upd {wS:World} (hwS:S wS) (hQ : ∀ c (a:Act) d v w,(∀ x,d=some x->x∈opsWrite ops.toList)->(Q (.panic c) (a.put d v) w↔Q (.panic c) a w)) (hoi:ops[i]? = some oi) (hin:(i,κ)∈is) (hl:L.getD i true=false) (hdep : ∀ p∈is,bafter oi p.1=true->L.getD p.1 true=true) {v:Value}
 (hv:(isPL P oi=true/\∀ w,S w->(execOp a.eval oi).run P w = .ok (.value v) w)\/(isPL P oi=false/\∃ t,okK κ t=true/\v=t.enc)) :
 ∀ (js:List (Nat×Kd)) (hs:List Nat) (ac:Act),(∀ q∈js,q∈is)->(js.map (·.1)).Pairwise (· < ·)->(i,κ)∈js->(∀ q∈hs,∃ p∈is,p.1=q/\p.1≠i)->Rel ops is L ac a->Tree P r ops Q S Ts w0 END L js hs ac->
   Tree P r ops Q S Ts w0 END (L.setIfInBounds i true) js hs (ac.put oi.dst v)
 | [],hs,ac,_,_,hi,_,_,_=>by cases hi
 | (j,κj) :: js,hs,ac,hsub,hpw,hi,hhs,hr,h=>by
   obtain ⟨o,ho,h1,h2⟩:=h
   have hsub' : ∀ q∈js,q∈is:=λq hq=>hsub q (by simp [hq])
   have hj:(j,κj)∈is:=hsub _ (by simp)
   have hlt:i<L.size:=by
    rcases Nat.lt_or_ge i L.size with h | h
    ·exact h
    ·simp [Array.getD_eq_getD_getElem?,Array.getElem?_eq_none h] at hl
   have hset:(L.setIfInBounds i true).getD i true=true:=by simp [hlt]
   simp only [List.map_cons,List.pairwise_cons] at hpw
   by_cases e:j=i
   ·subst e
    rw [hoi] at ho; cases ho
    have hkk:κj=κ:=C.uniq hj hin
    subst hkk
    have hne : ∀ q∈js,q.1≠j:=λq hq=>by have:=hpw.1 q.1 (List.mem_map.2 ⟨q,hq,rfl⟩); omega
    refine ⟨oi,hoi,λhp=>⟨λ_=>?_,λe=>by rw [hset] at e; cases e⟩,λhp=>⟨λ_=>?_,λe=>by rw [hset] at e; cases e⟩⟩
    ·obtain ⟨u,hu,ht⟩:=(h1 hp).2 hl
     rcases hv with ⟨_,hv⟩ | ⟨hf,_⟩
     ·have:=hu wS hwS
      rw [Rel.exec C hsel hr hin hoi hdep,hv wS hwS] at this
      simp at this
      subst this
      exact tree_notmem js _ _ hne ht
     ·rw [hp] at hf; cases hf
    ·rcases hv with ⟨hf,_⟩ | ⟨_,t,ht,rfl⟩
     ·rw [hp] at hf; cases hf
     ·exact tree_notmem js _ _ hne (((h2 hp).2 hl).2 t ht)
   ·have hi':(i,κ)∈js:=by
     rcases List.mem_cons.1 hi with h | h
     ·cases h; exact absurd rfl e
     ·exact h
    have hji:j<i:=hpw.1 i (List.mem_map.2 ⟨_,hi',rfl⟩)
    have hLj:(L.setIfInBounds i true).getD j true=L.getD j true:=getD_set_ne true (by omega)
    have hdi:dstAt ops i=oi.dst:=by simp [dstAt,hoi]
    have hdj:dstAt ops j=o.dst:=by simp [dstAt,ho]
    have hcomm : ∀ (x:Act) (u:Value),(x.put oi.dst v).put o.dst u=(x.put o.dst u).put oi.dst v:=λx u=>Act.put_comm x v u λd hd hd'=>by
     refine C.dst _ hj _ hin (λe'=>e e'.symm) ?_
     show dstAt ops i=dstAt ops j
     rw [hdi,hdj,hd,hd']
    have hex:execOp (ac.put oi.dst v).eval o=execOp ac.eval o:=execOp_put (ops:=ops) o (λcs b=>hsel j o cs b ho) ac oi.dst v λd hd hm=>by
     have:=C.reads _ hj _ hin o ho d (by show dstAt ops i=some d; rw [hdi]; exact hd) hm
     have:=C.back _ hj _ hin o ho this
     have:i<j:=this
     omega
    refine ⟨o,ho,λhp=>?_,λhp=>?_⟩
    ·rw [hLj]
     refine ⟨λhlj=>tree_upd hwS hQ hoi hin hl hdep hv js _ ac hsub' hpw.2 hi' hhs hr ((h1 hp).1 hlj),λhlj=>?_⟩
     obtain ⟨u,hu,ht⟩:=(h1 hp).2 hlj
     refine ⟨u,by rw [hex]; exact hu,?_⟩
     rw [hcomm]
     exact tree_upd hwS hQ hoi hin hl hdep hv js _ _ hsub' hpw.2 hi' hhs (hr.put hj ho hlj u) ht
    ·rw [hLj]
     have hhs' : ∀ q∈j :: hs,∃ p∈is,p.1=q/\p.1≠i:=λq hq=>by
      rcases List.mem_cons.1 hq with rfl | hq
      ·exact ⟨_,hj,rfl,e⟩
      ·exact hhs q hq
     refine ⟨λhlj=>tree_upd hwS hQ hoi hin hl hdep hv js _ ac hsub' hpw.2 hi' hhs' hr ((h2 hp).1 hlj),λhlj=>⟨λw hm hS hT=>?_,λt ht=>?_⟩⟩
     ·obtain ⟨o',ho',_,hdf,_⟩:=C.op _ hj
      rw [ho] at ho'; cases ho'
      have hdsti : ∀ x,oi.dst=some x->x∈opsWrite ops.toList:=λx hx=>opsWrite_mem _ oi (by have:=Array.mem_of_getElem? hoi; simpa using this) x hx
      refine wpIn_swap hdf hex (put_size _ _ _).symm (((h2 hp).2 hlj).1 w hm hS λq hq hb=>?_) λc w' h=>(hQ c ac oi.dst v w' hdsti).2 h
      have:=hT q hq hb
      obtain ⟨p,hp',rfl,hpi⟩:=hhs q hq
      have hsl:slotV ops (ac.put oi.dst v) p.1=slotV ops ac p.1:=by
       unfold slotV
       cases hd:dstAt ops p.1 with
       | none=>rfl
       | some d=>
         have hne:oi.dst≠some d:=λe'=>C.dst _ hp' _ hin (λe''=>hpi e''.symm) (by show dstAt ops i=dstAt ops p.1; rw [hdi,e',hd])
         cases hoid:oi.dst with
         | none=>rfl
         | some d'=>
           have:d'≠d:=λe'=>hne (by rw [hoid,e'])
           simp [Act.put,Array.getD_eq_getD_getElem?,Array.getElem?_setIfInBounds_ne this]
      unfold HT at this ⊢
      rw [hsl] at this
      exact this
     ·rw [hcomm]
      exact tree_upd hwS hQ hoi hin hl hdep hv js _ _ hsub' hpw.2 hi' hhs' (hr.put hj ho hlj _) (((h2 hp).2 hlj).2 t ht)
omit C hsel in
theorem tree_end : ∀ (js:List (Nat×Kd)) (hs:List Nat) (ac:Act),(∀ q∈js,L.getD q.1 true=true)->Tree P r ops Q S Ts w0 END L js hs ac->∀ w,Mod NoB w0 w->S w->(∀ q∈hs,HT ops Ts q ac w)->(∀ q∈js,(∀ o,ops[q.1]? = some o->isPL P o=false)->HT ops Ts q.1 ac w)->END ac w
 | [],hs,ac,_,h,w,hm,hS,hh,_=>h w hm hS hh
 | (j,κj) :: js,hs,ac,hall,h,w,hm,hS,hh,hj=>by
   obtain ⟨o,ho,h1,h2⟩:=h
   have hlj:=hall (j,κj) (by simp)
   cases hp:isPL P o with
   | true=>exact tree_end js _ ac (λq hq=>hall q (by simp [hq])) ((h1 hp).1 hlj) w hm hS hh λq hq=>hj q (by simp [hq])
   | false=>
     refine tree_end js _ ac (λq hq=>hall q (by simp [hq])) ((h2 hp).1 hlj) w hm hS (λq hq=>?_) λq hq=>hj q (by simp [hq])
     rcases List.mem_cons.1 hq with rfl | hq
     ·exact hj (q,κj) (by simp) λo' ho'=>by rw [show ops[q]? = some o from ho] at ho'; cases ho'; exact hp
     ·exact hh q hq
end
theorem hypsK_out {Ts:Nat->Value->World->Prop} {w:World} {X:Prop} : ∀ (hs:List (Nat×TV)),hypsK Ts w hs X->(∀ q∈hs,Ts q.1 q.2.enc w)->X
 | [],h,_=>h
 | q :: r,h,hh=>hypsK_out r (h (hh q (by simp))) λp hp=>hh p (by simp [hp])
theorem okK_nb {κ:Kd} {t:TV} (h:okK κ t=true):t.isBad=false:=by cases κ <;> cases t <;> simp_all [okK,TV.isBad]
theorem saf_tree {L0:Array Bool} {is:List (Nat×Kd)} (C:SafeC P ops L0 is) {END:Act->World->Prop} {pan:List PanicEntry->World->Prop} {fin:Env->World->Prop} {G:Act->Prop} {LD:Addr->List Value->Prop} (hLD : ∀ ad cs,LD ad cs->∀ w',S w'->Rd w' ad cs)
 (hG : ∀ (a:Act) d v,(∀ x,d=some x->x∈opsWrite ops.toList)->G a->G (a.put d v)) (hp : ∀ c a w',G a->pan c w'->Q (.panic c) a w') (hend : ∀ env a w,Sim N env a.tmps->G a->Mod NoB w0 w->S w->fin env w->END a w) :
 ∀ (js:List (Nat×Kd)) (hs:List (Nat×TV)) (env:Env) (ac:Act),(∀ q∈js,q∈is)->(js.map (·.1)).Pairwise (· < ·)->Sim N env ac.tmps->G ac->(∀ q∈hs,slotV ops ac q.1=q.2.enc/\(∃ p∈is,p.1=q.1)/\∀ p∈js,p.1≠q.1)->
   safK P N ops S LD Ts pan w0 fin js hs env->Tree P r ops Q S Ts w0 END L0 js (hs.map (·.1)) ac
 | [],hs,env,ac,_,_,hsim,hg,hhs,h=>λw hm hS hT=>hend env ac w hsim hg hm hS (hypsK_out hs (h w hm hS) λq hq=>by
    have:=hT q.1 (List.mem_map.2 ⟨q,hq,rfl⟩)
    unfold HT at this
    rw [(hhs q hq).1] at this
    exact this)
 | (j,κ) :: js,hs,env,ac,hsub,hpw,hsim,hg,hhs,h=>by
   have hj:(j,κ)∈is:=hsub _ (by simp)
   obtain ⟨o,ho,hgd,hdf,⟨d,hd⟩,hL0,hk⟩:=C.op _ hj
   have ho':ops[j]? = some o:=ho
   have hsub' : ∀ q∈js,q∈is:=λq hq=>hsub q (by simp [hq])
   simp only [List.map_cons,List.pairwise_cons] at hpw
   unfold safK at h
   rw [ho'] at h
   simp only at h
   cases hr:inRange N o.dst with
   | false=>simp [hr] at h
   | true=>
     simp only [hr,cond_true] at h
     have hdw : ∀ x,o.dst=some x->x∈opsWrite ops.toList:=λx hx=>opsWrite_mem _ o (by have:=Array.mem_of_getElem? ho'; simpa using this) x hx
     have hL0':L0.getD j true=false:=hL0
     have keep : ∀ (v:Value) (q:Nat×TV),q∈hs->slotV ops (ac.put o.dst v) q.1=q.2.enc/\(∃ p∈is,p.1=q.1)/\∀ p∈js,p.1≠q.1:=λv q hq=>by
      obtain ⟨g1,⟨p,hp,hpq⟩,g3⟩:=hhs q hq
      refine ⟨?_,⟨p,hp,hpq⟩,λp' hp'=>g3 p' (by simp [hp'])⟩
      rw [<-g1]
      unfold slotV
      cases hq':dstAt ops q.1 with
      | none=>rfl
      | some d'=>
        have hne:d≠d':=λe=>C.dst _ hj p hp (λe'=>g3 (j,κ) (by simp) (by rw [<-hpq,e'])) (by rw [hpq,hq']; simp [dstAt,ho',hd,e])
        simp [hd,Act.put,Array.getD_eq_getD_getElem?,Array.getElem?_setIfInBounds_ne hne]
     have pl : ∀ (t:TV) (v:Value),(∀ w,S w->(execOp ac.eval o).run P w = .ok (.value v) w)->(t.isBad=false->v=t.enc)->isPL P o=true->safK P N ops S LD Ts pan w0 fin js hs (putD env o.dst t)->
      Tree P r ops Q S Ts w0 END L0 ((j,κ) :: js) (hs.map (·.1)) ac:=λt v hrun hv hpu h=>by
      refine ⟨o,ho',λ_=>⟨λe=>(by rw [hL0'] at e; cases e),λ_=>⟨v,hrun,?_⟩⟩,λe=>(by rw [hpu] at e; cases e)⟩
      exact saf_tree C hLD hG hp hend js hs _ _ hsub' hpw.2 (hsim.putD' hr hv) (hG _ _ _ hdw hg) (keep v) h
     cases hpu':isPure P o with
     | true=>
       simp only [hpu',cond_true] at h
       obtain ⟨t,v,hrun,hv,h⟩:=pureK_run hsim h
       exact pl t v (λw _=>hrun w) hv (by simp [isPL,hpu']) h
     | false=>
     simp only [hpu',cond_false] at h
     cases hlo:isLoadOp o with
     | true=>
       simp only [hlo,cond_true] at h
       split at h
       ·rename_i T x hop
        split at h
        ·rename_i q' hx
         obtain ⟨ad,rfl,h⟩:=onSome_out h
         cases hf:kdFit P T with
         | false=>simp [hf,onSome] at h
         | true=>
           simp only [hf,cond_true] at h
           obtain ⟨t,t1,t2,t3,hr',h⟩:=exK_out _ _ h
           refine pl t t.enc (λw' hSw=>?_) (λ_=>rfl) (by simp [isPL,hlo]) h
           have:=run_loadVar (P:=P) hf t1 t2 t3 (hLD _ _ hr' w' hSw)
           simp [execOp,hop,hsim.is hx rfl,TV.enc,Instr.loadAt,Instr.sureAddr,this]
        ·exact h.elim
       ·exact h.elim
     | false=>
       simp only [hlo,cond_false] at h
       have hpu:isPL P o=false:=by simp [isPL,hpu',hlo]
       obtain ⟨h1,h2⟩:=h
       refine ⟨o,ho',λe=>(by rw [hpu] at e; cases e),λ_=>⟨λe=>(by rw [hL0'] at e; cases e),λ_=>⟨λw hm hS hT=>?_,λt ht=>?_⟩⟩⟩
       ·refine runOp_wp hdf hsim (hypsK_out _ (h1 w hm hS) λq hq=>?_) (λt v w' hv hk=>?_) λc w' hc=>hp c ac w' hg hc
        ·simp only [List.mem_filter] at hq
         have:=hT q.1 (List.mem_map.2 ⟨q,hq.1,rfl⟩) hq.2
         unfold HT at this
         rw [(hhs q hq.1).1] at this
         exact this
        ·cases hok:okK κ t with
         | false=>simp [hok] at hk
         | true=>
           simp only [hok,cond_true] at hk
           have hv:=hv (okK_nb hok)
           exact ⟨v,rfl,⟨t,hok,hv⟩,hk.1,hk.2.1,by rw [hv]; exact hk.2.2⟩
       ·have hnext:=allK_in _ _ t h2 ht
        refine saf_tree C hLD hG hp hend js ((j,t) :: hs) _ _ hsub' hpw.2 (hsim.putD' hr λ_=>rfl) (hG _ _ _ hdw hg) ?_ hnext
        intro q hq
        rcases List.mem_cons.1 hq with rfl | hq
        ·refine ⟨?_,⟨_,hj,rfl⟩,λp hp' e=>?_⟩
         ·have hlt:d<ac.tmps.size:=by rw [hsim.1]; rw [hd] at hr; simpa [inRange] using hr
          simp [slotV,dstAt,ho',hd,Act.put,hlt]
         ·have:=hpw.1 p.1 (List.mem_map.2 ⟨p,hp',rfl⟩); omega
        ·exact keep _ q hq
def unl (L:Array Bool):List (Nat×Kd)->Nat
 | []=>0
 | q :: r=>(bif L.getD q.1 true then 0 else 1)+unl L r
theorem unl_ne {L:Array Bool} {i:Nat} : ∀ (js:List (Nat×Kd)),(∀ q∈js,q.1≠i)->unl (L.setIfInBounds i true) js=unl L js
 | [],_=>rfl
 | q :: r,h=>by
   unfold unl
   rw [getD_set_ne true (λe=>h q (by simp) e.symm),unl_ne r λp hp=>h p (by simp [hp])]
theorem unl_set {L:Array Bool} {i:Nat} {κ:Kd} (hl:L.getD i true=false) : ∀ (js:List (Nat×Kd)),(js.map (·.1)).Pairwise (· < ·)->(i,κ)∈js->unl L js=unl (L.setIfInBounds i true) js+1
 | [],_,h=>by cases h
 | q :: r,hp,h=>by
   have hlt:i<L.size:=by
    rcases Nat.lt_or_ge i L.size with h | h
    ·exact h
    ·simp [Array.getD_eq_getD_getElem?,Array.getElem?_eq_none h] at hl
   simp only [List.map_cons,List.pairwise_cons] at hp
   unfold unl
   by_cases e:q.1=i
   ·have hne : ∀ p∈r,p.1≠i:=λp hp'=>by have:=hp.1 p.1 (List.mem_map.2 ⟨p,hp',rfl⟩); omega
    rw [unl_ne r hne,e,hl]
    simp [hlt]
    omega
   ·have hr:(i,κ)∈r:=by
     rcases List.mem_cons.1 h with h | h
     ·rw [<-h] at e; exact absurd rfl e
     ·exact h
    rw [getD_set_ne true (λe'=>e e'.symm),unl_set hl r hp.2 hr]
    omega
theorem unl_zero {L:Array Bool} : ∀ (js:List (Nat×Kd)),unl L js=0->∀ q∈js,L.getD q.1 true=true
 | [],_,q,h=>by cases h
 | p :: r,hz,q,h=>by
   unfold unl at hz
   have h1:L.getD p.1 true=true:=by cases hb:L.getD p.1 true with | true=>rfl | false=>rw [hb] at hz; simp at hz
   rcases List.mem_cons.1 h with rfl | h
   ·exact h1
   ·exact unl_zero r (by rw [h1] at hz; simpa using hz) q h
theorem unl_pos {L:Array Bool} : ∀ (js:List (Nat×Kd)),unl L js≠0->∃ q∈js,L.getD q.1 true=false
 | [],h=>absurd rfl h
 | p :: r,h=>by
   cases hb:L.getD p.1 true with
   | false=>exact ⟨p,by simp,hb⟩
   | true=>
     unfold unl at h
     rw [hb] at h
     obtain ⟨q,hq,e⟩:=unl_pos r (by simpa using h)
     exact ⟨q,by simp [hq],e⟩
theorem unl_min {L:Array Bool} {js:List (Nat×Kd)} : ∀ (n:Nat) (q:Nat×Kd),q.1=n->q∈js->L.getD q.1 true=false->∃ q∈js,L.getD q.1 true=false/\∀ p∈js,p.1<q.1->L.getD p.1 true=true:=by
 intro n
 induction n using Nat.strongRecOn with
 | _ n ih=>
   intro q e hq hl
   by_cases h : ∀ p∈js,p.1<q.1->L.getD p.1 true=true
   ·exact ⟨q,hq,hl,h⟩
   ·have h' : ∃ p∈js,p.1<q.1/\L.getD p.1 true=false:=by
     false_or_by_contra
     rename_i hc
     refine h λp hp hlt=>?_
     cases hb:L.getD p.1 true with
     | true=>rfl
     | false=>exact (hc ⟨p,hp,hlt,hb⟩).elim
    obtain ⟨p,hp,hlt,hl'⟩:=h'
    exact ih p.1 (by omega) p rfl hp hl'
theorem setAll_size (L:Array Bool) : ∀ is:List (Nat×Kd),(setAll L is).size=L.size
 | []=>rfl
 | q :: r=>by unfold setAll; rw [setAll_size]; simp
theorem setAll_get : ∀ (is:List (Nat×Kd)) (L:Array Bool) (k:Nat),k<L.size->(setAll L is).getD k true=if ∃ q∈is,q.1=k then true else L.getD k true
 | [],L,k,_=>by simp [setAll]
 | q :: r,L,k,hk=>by
   unfold setAll
   rw [setAll_get r _ k (by simpa using hk)]
   by_cases h : ∃ p∈r,p.1=k
   ·have : ∃ p∈q :: r,p.1=k:=let ⟨p,hp,e⟩:=h; ⟨p,by simp [hp],e⟩
    rw [if_pos h,if_pos this]
   ·rw [if_neg h]
    by_cases e:q.1=k
    ·rw [if_pos ⟨q,by simp,e⟩,e]
     simp [hk]
    ·rw [if_neg (by
      rintro ⟨p,hp,e'⟩
      rcases List.mem_cons.1 hp with rfl | hp
      ·exact e e'
      ·exact h ⟨p,hp,e'⟩),getD_set_ne true e]
theorem getD_ft {L:Array Bool} {k:Nat} (h:L.getD k false=true):k<L.size/\L.getD k true=true:=by
 rcases Nat.lt_or_ge k L.size with h' | h'
 ·exact ⟨h',by simpa [h'] using h⟩
 ·simp [Array.getD_eq_getD_getElem?,Array.getElem?_eq_none h'] at h
theorem getD_tf {L:Array Bool} {k:Nat} (h:L.getD k true=true) (hk:k<L.size):L.getD k false=true:=by simpa [hk] using h
theorem safe_wAny {L0:Array Bool} {is:List (Nat×Kd)} (C:SafeC P ops L0 is) (hsel : ∀ (j:Nat) (o:Oper) cs b,ops[j]? = some o->o.op≠.select cs b) (hL0:L0.size=ops.size) (hrng:safeRng N ops is=true)
 (hQ : ∀ c (a:Act) d v w,(∀ x,d=some x->x∈opsWrite ops.toList)->(Q (.panic c) (a.put d v) w↔Q (.panic c) a w)) (hst : ∀ i v w1 w2,Mod NoB w1 w2->Ts i v w1->Ts i v w2) {f':Nat} {END:Act->World->Prop}
 (hend : ∀ a w,END a w->wAny P ops r Q S f' (setAll L0 is) a w) :
 ∀ (m:Nat) (L:Array Bool) (a:Act) (w:World),a.tmps.size=N->unl L is=m->L.size=ops.size->(∀ k,(∀ q∈is,q.1≠k)->L.getD k true=L0.getD k true)->
   (∀ q∈is,L.getD q.1 true=true->∀ o,ops[q.1]? = some o->∀ p∈is,bafter o p.1=true->L.getD p.1 true=true)->Mod NoB w0 w->S w->
   (∀ q∈is,L.getD q.1 true=true->(∀ o,ops[q.1]? = some o->isPL P o=false)->HT ops Ts q.1 a w)->Tree P r ops Q S Ts w0 END L is [] a->wAny P ops r Q S (m+f') L a w
 | 0,L,a,w,hN,hu,hsz,hk,hdc,hm,hS,hT,ht=>by
   have hall:=unl_zero is hu
   have hL:L=setAll L0 is:=by
    apply Array.ext
    ·rw [setAll_size]; omega
    ·intro k h1 h2
     have hk0:k<L0.size:=by omega
     have g1:L.getD k true=L[k]:=by simp [h1]
     have g2:(setAll L0 is).getD k true=(setAll L0 is)[k]:=by simp [h2]
     rw [<-g1,<-g2,setAll_get is L0 k hk0]
     by_cases h : ∃ q∈is,q.1=k
     ·rw [if_pos h]
      obtain ⟨q,hq,rfl⟩:=h
      exact hall q hq
     ·rw [if_neg h]
      exact hk k λq hq e=>h ⟨q,hq,e⟩
   rw [Nat.zero_add,hL]
   exact hend a w (tree_end is [] a hall ht w hm hS (by simp) λq hq hp=>hT q hq (hall q hq) hp)
 | m+1,L,a,w,hN,hu,hsz,hk,hdc,hm,hS,hT,ht=>by
   have hne:unl L is≠0:=by omega
   have hlist : ∀ e:Nat,L0.getD e false=true->L.getD e false=true:=λe he=>by
    obtain ⟨h1,h2⟩:=getD_ft he
    refine getD_tf ?_ (by omega)
    rw [hk e λq hq e'=>?_]
    ·exact h2
    ·obtain ⟨_,_,_,_,_,h0,_⟩:=C.op q hq
     rw [e'] at h0; rw [h2] at h0; cases h0
   rw [Nat.add_right_comm]
   refine ⟨λhempty=>?_,λi hi=>?_⟩
   ·obtain ⟨q0,hq0,hl0⟩:=unl_pos is hne
    obtain ⟨q,hq,hl,hmin⟩:=unl_min _ q0 rfl hq0 hl0
    obtain ⟨o,ho,_⟩:=C.op q hq
    have:q.1∈Region.ready .any ops L:=mem_ready.2 ⟨hl,o,ho,λe he hb=>by
     rcases C.from_ q hq o ho e he hb with h | ⟨p,hp,e1,e2⟩
     ·exact hlist _ h
     ·rw [<-e1]
      have h1:=hmin p hp e2
      obtain ⟨op,hop,_⟩:=C.op p hp
      exact getD_tf h1 (by have:=(Array.getElem?_eq_some_iff.1 hop).1; omega)⟩
    rw [hempty] at this
    cases this
   ·obtain ⟨hun,o,ho,hall⟩:=mem_ready.1 hi
    have hil:i<ops.size:=(Array.getElem?_eq_some_iff.1 ho).1
    have hdepL : ∀ p,bafter o p=true->L.getD p true=true:=λp hp=>by
     obtain ⟨e,he,hb,rfl⟩:=bafter_iff.1 hp
     exact (getD_ft (hall e he hb)).2
    have hin : ∃ κ,(i,κ)∈is:=by
     rcases C.bar i hil with h | ⟨q,hq,e⟩ | ⟨o',ho',h⟩
     ·by_cases hmem : ∃ q∈is,q.1=i
      ·obtain ⟨q,hq,rfl⟩:=hmem; exact ⟨q.2,hq⟩
      ·have:=hk i λq hq e=>hmem ⟨q,hq,e⟩
       rw [h] at this; rw [hun] at this; cases this
     ·exact ⟨q.2,by rw [<-e]; exact hq⟩
     ·rw [ho] at ho'; cases ho'
      refine absurd ?_ hne
      have h:=h.resolve_left λ⟨e,h1,h2,h3⟩=>by
       have g1:=hdepL e h1
       have g2:=hk e h3
       rw [h2] at g2; rw [g1] at g2; cases g2
      have : ∀ q∈is,L.getD q.1 true=true:=λq hq=>by
       rcases h q hq with h | ⟨p,hp,h1,h2⟩
       ·exact hdepL _ h
       ·obtain ⟨x,hx,_⟩:=C.op p hp
        exact hdc p hp (hdepL _ h1) x hx q hq (h2 x hx)
      clear hk hdc hT ht
      revert this
      generalize is=js
      intro this
      induction js with
      | nil=>rfl
      | cons q r ih=>unfold unl; rw [this q (by simp),ih λp hp=>this p (by simp [hp])]; rfl
    obtain ⟨κ,hin⟩:=hin
    obtain ⟨o',ho',hg,hdf,_,_,_⟩:=C.op _ hin
    have ho'':ops[i]? = some o':=ho'
    rw [ho] at ho''; cases ho''
    have hdep : ∀ p∈is,bafter o p.1=true->L.getD p.1 true=true:=λp _ h=>hdepL _ h
    have hlt:i<L.size:=by omega
    have hset:(L.setIfInBounds i true).getD i true=true:=by simp [hlt]
    have hunl:unl (L.setIfInBounds i true) is=m:=by have:=unl_set hun is C.inc hin; omega
    have hk' : ∀ k,(∀ q∈is,q.1≠k)->(L.setIfInBounds i true).getD k true=L0.getD k true:=λk h=>by
     rw [getD_set_ne true (λe=>h _ hin e)]; exact hk k h
    have mono : ∀ k,L.getD k true=true->(L.setIfInBounds i true).getD k true=true:=λk h=>by
     by_cases e:i=k
     ·subst e; exact hset
     ·rw [getD_set_ne true e]; exact h
    have hdc' : ∀ q∈is,(L.setIfInBounds i true).getD q.1 true=true->∀ o,ops[q.1]? = some o->∀ p∈is,bafter o p.1=true->(L.setIfInBounds i true).getD p.1 true=true:=λq hq hl x hx p hp hb=>by
     by_cases e:q.1=i
     ·rw [e,ho] at hx; cases hx
      exact mono _ (hdepL _ hb)
     ·rw [getD_set_ne true (λe'=>e e'.symm)] at hl
      exact mono _ (hdc q hq hl x hx p hp hb)
    have hslot : ∀ (v:Value) (q:Nat×Kd),q∈is->q.1≠i->slotV ops (a.put o.dst v) q.1=slotV ops a q.1:=λv q hq hne=>by
     unfold slotV
     cases hd:dstAt ops q.1 with
     | none=>rfl
     | some d=>
       cases hod:o.dst with
       | none=>rfl
       | some d'=>
         have:d'≠d:=λe=>C.dst q hq _ hin (λe'=>hne e'.symm) (by show dstAt ops i=dstAt ops q.1; rw [hd]; simp [dstAt,ho,hod,e])
         simp [Act.put,Array.getD_eq_getD_getElem?,Array.getElem?_setIfInBounds_ne this]
    have heff:eff P ops i = !isPL P o:=by simp [eff,ho,isPL,Bool.not_or]
    unfold wOp wpOpIn
    simp only [ho]
    rw [if_pos (by unfold Region.wanted; rw [hg])]
    cases hpu:isPL P o with
    | true=>
      obtain ⟨v,hv⟩:=get_run C hsel ho hpu hin hun hdep is [] a (λ_ h=>h) hin (Rel.refl _ _ _) ht
      refine up_value hdf (hv w hS) ⟨⟨λe=>(by rw [heff,hpu] at e; cases e),λ_=>rfl⟩,?_⟩
      refine safe_wAny C hsel hL0 hrng hQ hst hend m _ _ w (by rw [put_size]; exact hN) hunl (by simpa using hsz) hk' hdc' hm hS (λq hq hl hp=>?_) (tree_upd C hsel hS hQ ho hin hun hdep (.inl ⟨hpu,hv⟩) is [] a (λ_ h=>h) C.inc hin (by simp) (Rel.refl _ _ _) ht)
      have hqi:q.1≠i:=λe=>by have:=hp o (by rw [e]; exact ho); rw [hpu] at this; cases this
      rw [getD_set_ne true (λe=>hqi e.symm)] at hl
      unfold HT
      rw [hslot v q hq hqi]
      exact hT q hq hl hp
    | false=>
      refine Oper.wpIn_mono ?_ (get_wp C hsel hQ ho hpu hin hun hdep hm hS hT is [] a (λ_ h=>h) hin (by simp) (Rel.refl _ _ _) (λ_ _ h=>h) ht)
      rintro a' w' ⟨v,rfl,htv,hm',hS',hTv⟩
      refine ⟨⟨λ_ _=>hS',λe=>(by rw [heff,hpu] at e; cases e)⟩,?_⟩
      refine safe_wAny C hsel hL0 hrng hQ hst hend m _ _ w' (by rw [put_size]; exact hN) hunl (by simpa using hsz) hk' hdc' (hm.trans hm' (λ_ _ h=>h) λ_ _ h=>h) hS' (λq hq hl hp=>?_) (tree_upd C hsel hS hQ ho hin hun hdep (.inr ⟨hpu,htv⟩) is [] a (λ_ h=>h) C.inc hin (by simp) (Rel.refl _ _ _) ht)
      by_cases hqi:q.1=i
      ·unfold HT
       rw [hqi]
       obtain ⟨x,hx,_,_,⟨d,hd⟩,_⟩:=C.op _ hin
       have hx':ops[i]? = some x:=hx
       rw [ho] at hx'; cases hx'
       have hd':dstAt ops i=some d:=by simp [dstAt,ho,hd]
       have:=List.all_eq_true.1 hrng _ hin
       simp only [hd'] at this
       have hlt':d<a.tmps.size:=by rw [hN]; simpa using this
       have e2:slotV ops (a.put o.dst v) i=v:=by simp [slotV,hd',hd,Act.put,hlt']
       rw [e2]
       exact hTv
      ·rw [getD_set_ne true (λe=>hqi e.symm)] at hl
       unfold HT
       rw [hslot v q hq hqi]
       exact hst _ _ _ _ hm' (hT q hq hl hp)
theorem unl_all {L:Array Bool} : ∀ (js:List (Nat×Kd)),(∀ q∈js,L.getD q.1 true=false)->unl L js=js.length
 | [],_=>rfl
 | q :: r,h=>by unfold unl; rw [h q (by simp),unl_all r λp hp=>h p (by simp [hp])]; simp; omega
end
end Go.Sh
end
