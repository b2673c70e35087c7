/- The forms of the translated functions,their contracts and the plain laws behind them,put together by a program. -/
import Derived.Test.YtahjmeegfkfokaaGreatDoorPT1
import Derived.RangeFuncLeaves
import Derived.RangeFuncCalls
set_option linter.unusedSimpArgs false
set_option linter.unusedVariables false
set_option maxRecDepth 100000
set_option maxHeartbeats 4000000
section
namespace Go.Sh
open Go
abbrev Fr (r:Option Nat):Fence:={Fence.wide with round:=r}
theorem pU {r:Option Nat} {n:Nat} {P:Program} {f:FuncId} {args:Array Value} {w:World} {R:Ending→World→Prop} : CallsIn (Fr r) n P f args w R↔Calls P f args w R:=callsIn_wide
theorem semAt_plain {r:Option Nat} {o:Oper} {ρ:Operand→Value} (h:bU o.op=false):o.semAt r ρ=execOp ρ o:=
 Oper.semAt_eq r ρ o fun c e=>by rw [e] at h; cases h
section
variable {P:Program} {ops:Array Oper} {Q:Exit→Act→World→Prop} {r:Option Nat} {S:World→Prop}
theorem sW {j i:Nat} {o x:Oper} (h:late ops j=true) (hj:ops[j]? = some o) (hi:ops[i]? = some x) (hl:cL x=true) :
 (∃ e∈o.after,Region.binds .any e=true∧e.on=i)∨∃ e∈o.after,Region.binds .any e=true∧∃ y,ops[e.on]? = some y∧∃ g∈y.after,Region.binds .any g=true∧g.on=i:=by
 unfold late at h
 rw [hj] at h
 simp only [List.all_eq_true,List.mem_range] at h
 have hlt:i<ops.size:=(Array.getElem?_eq_some_iff.1 hi).1
 have:=h i hlt
 rw [hi] at this
 simp only [hl,Bool.not_true,Bool.false_or,Bool.or_eq_true] at this
 rcases this with this | this
 ·simp only [Array.any_eq_true,Bool.and_eq_true,Nat.beq_eq] at this
  obtain ⟨k,hk,h1,h2⟩:=this
  exact .inl ⟨o.after[k],Array.getElem_mem _,h1,h2⟩
 ·simp only [Bool.and_eq_true] at this
  have h2:=this.2
  unfold jAA at h2
  rw [Array.any_eq_true] at h2
  obtain ⟨k,hk,h2⟩:=h2
  rw [Bool.and_eq_true] at h2
  obtain ⟨h3,h4⟩:=h2
  cases hy:ops[(o.after[k]).on]? with
  | none=>rw [hy] at h4; cases h4
  | some y=>
    rw [hy] at h4
    simp only [Array.any_eq_true,Bool.and_eq_true,Nat.beq_eq] at h4
    obtain ⟨k2,hk2,h5,h6⟩:=h4
    exact .inr ⟨o.after[k],Array.getElem_mem _,h3,y,hy,y.after[k2],Array.getElem_mem _,h5,h6⟩
def Closed (ops:Array Oper) (listed:Array Bool):Prop:=∀ m om,ops[m]? = some om→listed.getD m false=true→∀ e∈om.after,Region.binds .any e=true→listed.getD e.on false=true
theorem wZ (ops:Array Oper) (n:Nat):Closed ops (Array.replicate n false):=fun m om _ h=>by
 simp [Array.getD] at h
theorem qM {listed:Array Bool} {j:Nat} (h:Closed ops listed) (hj:j∈Region.ready .any ops listed):Closed ops (listed.setIfInBounds j true):=fun m om hm hl e he hb=>by
 by_cases hjm:j=m
 ·subst hjm
  obtain ⟨_,o,ho,hall⟩:=mem_ready.1 hj
  rw [hm] at ho; cases ho
  exact getD_set_true (hall e he hb)
 ·rw [getD_set_ne false hjm] at hl
  exact getD_set_true (h m om hm hl e he hb)
abbrev wOp (P:Program) (ops:Array Oper) (r:Option Nat) (Q:Exit→Act→World→Prop):=wpOpIn (Fr r) 0 P ops Q
def kS (P:Program) (ops:Array Oper) (r:Option Nat) (Q:Exit→Act→World→Prop) (S:World→Prop):Nat→Array Bool→Act→World→Prop
 | 0,listed,a,w=>Region.ready .any ops listed=[]∧Q .normal a w
 | fuel+1,listed,a,w=>
   (Region.ready .any ops listed=[]→Q .normal a w)∧
   ∀ i∈Region.ready .any ops listed,wOp P ops r Q i (fun a' w'=>((eff P ops i=true→late ops i=false→S w')∧(eff P ops i=false→w'=w))∧kS P ops r Q S fuel (listed.setIfInBounds i true) a' w') a w
theorem qBE : ∀ (fuel:Nat) (listed:Array Bool) (a:Act) (w:World),kS P ops r Q S fuel listed a w→wpAnyIn (Fr r) 0 P .any ops Q fuel listed a w
 | 0,_,_,_,h=>h
 | fuel+1,_,_,_,h=>⟨h.1,fun i hi=>wpOpIn_mono (fun a' w' h'=>qBE fuel _ a' w' h'.2) (h.2 i hi)⟩
theorem YieldsIf.wOp {i:Nat} {o:Oper} {v:Value} {a:Act} (hi:ops[i]? = some o) (hd:bU o.op=false) (hy:YieldsIf P ops S o v a)
 {K:Act→World→Prop} {w:World} (hS:S w) (h:K (a.put o.dst v) w):wOp P ops r Q i K a w:=by
 unfold Sh.wOp wpOpIn
 simp only [hi]
 rcases hy with ⟨hw,hv⟩ | ⟨hw,rfl⟩
 ·simp only [hw,if_true,Oper.wpIn,semAt_plain hd,hv w hS,Oper.uponIn]
  exact ⟨fun _ _=>trivial,h⟩
 ·simp only [hw,Bool.false_eq_true,if_false]
  exact ⟨fun _ _=>trivial,h⟩
theorem qCF {j:Nat} {oi oj:Oper} {v:Value} (hj:ops[j]? = some oj) (hdj:bU oj.op=false) (hap:oi.apart ops oj=true)
 (hsi : ∀ cs b,oi.op≠.select cs b) (hsj : ∀ cs b,oj.op≠.select cs b)
 (hQ : ∀ c a w,Q (.panic c) (a.put oi.dst v) w→Q (.panic c) a w) {K:Act→World→Prop} {a:Act} {w:World}
 (hy:YieldsIf P ops S oi v a) (h:wOp P ops r Q j K (a.put oi.dst v) w) :
 wOp P ops r Q j (fun a' w'=>YieldsIf P ops S oi v a'∧K (a'.put oi.dst v) w') a w:=by
 obtain ⟨h1,h2,h3⟩:=Oper.apart_spec hap
 have keep : ∀ (a:Act),YieldsIf P ops S oi v a→∀ u,YieldsIf P ops S oi v (a.put oj.dst u):=fun a hy u=>
  hy.of_same (execOp_put oi hsi a oj.dst u h3) (wanted_put oi a oj.dst u h3)
 unfold Sh.wOp wpOpIn at *
 simp only [hj] at *
 rw [wanted_put oj a oi.dst v h1] at h
 split
 ·rename_i hw
  simp only [hw,if_true] at h
  unfold Oper.wpIn at *
  refine ⟨fun _ _=>trivial,?_⟩
  have h:=h.2
  rw [semAt_plain hdj,execOp_put oj hsj a oi.dst v h1] at h
  rw [semAt_plain hdj]
  generalize (execOp a.eval oj).run P w=res at *
  cases res with
  | ok n w'=>
    cases n <;> simp only [Oper.uponIn] at h ⊢
    case value u=>exact ⟨keep a hy u,by rw [← Act.put_comm a v u h2]; exact h⟩
    case skip=>exact ⟨keep a hy _,by rw [← Act.put_comm a v undef h2]; exact h⟩
    case defer d=>
     refine ⟨(hy.of_same rfl rfl:YieldsIf P ops S oi v {a with defers:=d :: a.defers}) |> fun hy'=>keep _ hy' _,?_⟩
     rw [← Act.put_comm _ v undef h2,← Act.put_defers]
     exact h
    case enter f args=>
     refine ⟨h.1,CallsIn.mono h.2 fun e w'' he=>?_⟩
     cases e with
     | returned u=>exact ⟨keep a hy u,by rw [← Act.put_comm a v u h2]; exact he⟩
     | panicked c=>exact hQ _ _ _ he
     | outgrown=>exact he
    case row row args=>exact ⟨h.1,RowsIn.mono h.2 fun u w'' he=>⟨keep a hy u,by rw [← Act.put_comm a v u h2]; exact he⟩⟩
    case round l f tmps assign body=>
     refine ⟨h.1,RoundIn.mono h.2 fun e w'' he=>?_⟩
     cases e with
     | returned u=>exact ⟨keep a hy u,by rw [← Act.put_comm a v u h2]; exact he⟩
     | panicked c=>exact hQ _ _ _ he
     | outgrown=>exact he
  | halt x w'=>
    cases x <;> simp only [Oper.uponIn] at h ⊢
    case panic u=>exact hQ _ _ _ h
 ·rename_i hw
  simp only [hw] at h
  exact ⟨fun _ _=>trivial,keep a hy _,by rw [← Act.put_comm a v undef h2]; exact h.2⟩
theorem yM {i:Nat} {oi:Oper} {v:Value} {S':World→Prop} (hi:ops[i]? = some oi) (hsel : ∀ (j:Nat) (o:Oper) cs b,ops[j]? = some o→o.op≠.select cs b) (hdf : ∀ (j:Nat) (o:Oper),ops[j]? = some o→bU o.op=false)
 (hQ : ∀ c a w,Q (.panic c) (a.put oi.dst v) w→Q (.panic c) a w) (hS':(∀ w,S' w)∨(cL oi=true∧∀ w,S w→S' w)) (hei:eff P ops i=false) :
 ∀ (fuel:Nat) (listed:Array Bool) (a:Act) (w:World),
   (∀ j oj,ops[j]? = some oj→j≠i→listed.getD j true=false→(∀ e∈oj.after,Region.binds .any e=true→e.on≠i)→oi.apart ops oj=true)→
   (∀ m om,ops[m]? = some om→listed.getD m false=true→∀ e∈om.after,Region.binds .any e=true→e.on≠i)→
   i∈Region.ready .any ops listed→YieldsIf P ops S' oi v a→S' w→
   kS P ops r Q S fuel (listed.setIfInBounds i true) (a.put oi.dst v) w→kS P ops r Q S (fuel+1) listed a w:=by
 intro fuel
 induction fuel with
 | zero=>
   intro listed a w _ _ hr hy hS H
   refine ⟨fun h=>(by rw [h] at hr; cases hr),fun j hj=>?_⟩
   by_cases hji:j=i
   ·subst hji; exact YieldsIf.wOp hi (hdf _ _ hi) hy hS ⟨⟨fun e=>by (rw [hei] at e; cases e),fun _=>rfl⟩,H⟩
   ·have:=ready_mono hj hji
    rw [H.1] at this
    cases this
 | succ fuel ih=>
   intro listed a w hfree hcl hr hy hS H
   refine ⟨fun h=>(by rw [h] at hr; cases hr),fun j hj=>?_⟩
   by_cases hji:j=i
   ·subst hji; exact YieldsIf.wOp hi (hdf _ _ hi) hy hS ⟨⟨fun e=>by (rw [hei] at e; cases e),fun _=>rfl⟩,H⟩
   ·have h1:=H.2 j (ready_mono hj hji)
    obtain ⟨hjun,oj,hoj,hall⟩:=mem_ready.1 hj
    have hnot : ∀ e∈oj.after,Region.binds .any e=true→e.on≠i:=fun e he hb heq=>by
     have h1:=hall e he hb
     have h0:=(mem_ready.1 hr).1
     rw [heq] at h1
     rcases Nat.lt_or_ge i listed.size with h' | h'
     ·simp [h'] at h0 h1; rw [h0] at h1; cases h1
     ·simp [Array.getElem?_eq_none h'] at h1
    have hnl:cL oi=true→late ops j=false:=fun hl=>by
     cases hlt:late ops j with
     | false=>rfl
     | true=>
       rcases sW hlt hoj hi hl with ⟨e,he,hb,hon⟩ | ⟨e,he,hb,y,hy',g,hg,hgb,hon⟩
       ·exact absurd hon (hnot e he hb)
       ·exact absurd hon (hcl _ y hy' (hall e he hb) g hg hgb)
    have h2:=qCF hoj (hdf _ _ hoj) (hfree j oj hoj hji hjun hnot) (fun cs b=>hsel i oi cs b hi) (fun cs b=>hsel j oj cs b hoj) hQ hy h1
    have hfree' : ∀ k ok,ops[k]? = some ok→k≠i→(listed.setIfInBounds j true).getD k true=false→
     (∀ e∈ok.after,Region.binds .any e=true→e.on≠i)→oi.apart ops ok=true:=fun k ok hk hki hun hno=>by
     refine hfree k ok hk hki ?_ hno
     by_cases hjk:j=k
     ·subst hjk; exact hjun
     ·rw [getD_set_ne true hjk] at hun; exact hun
    refine wpOpIn_mono (fun a' w' h3=>?_) h2
    have hS2:S' w':=by
     cases he:eff P ops j with
     | false=>rw [h3.2.1.2 he]; exact hS
     | true=>
       rcases hS' with hS' | ⟨hl,hS'⟩
       ·exact hS' w'
       ·exact hS' w' (h3.2.1.1 he (hnl hl))
    have hcl' : ∀ m om,ops[m]? = some om→(listed.setIfInBounds j true).getD m false=true→∀ e∈om.after,Region.binds .any e=true→e.on≠i:=fun m om hm hml e he hb=>by
     by_cases hjm:j=m
     ·subst hjm
      rw [hoj] at hm; cases hm
      exact hnot e he hb
     ·rw [getD_set_ne false hjm] at hml
      exact hcl m om hm hml e he hb
    refine ⟨h3.2.1,ih (listed.setIfInBounds j true) a' w' hfree' hcl' (ready_mono hr (Ne.symm hji)) h3.1 hS2 ?_⟩
    rw [Array.setIfInBounds_comm _ _ hji]
    exact h3.2.2
theorem qDL {i:Nat} {oi:Oper} {v:Value} {S':World→Prop} {fuel:Nat} {listed:Array Bool} {a:Act} {w:World} (hi:ops[i]? = some oi)
 (hs:Region.noSelect ops=true) (hdf : ∀ (j:Nat) (o:Oper),ops[j]? = some o→bU o.op=false) (hf:Region.free .any ops listed i=true) (hr:(Region.ready .any ops listed).contains i=true)
 (hQ : ∀ c a w,Q (.panic c) (a.put oi.dst v) w→Q (.panic c) a w) (hS':(∀ w,S' w)∨(cL oi=true∧∀ w,S w→S' w)) (hei:eff P ops i=false) (hy:YieldsIf P ops S' oi v a) (hS:S' w) (hcl:Closed ops listed)
 (h:kS P ops r Q S fuel (listed.setIfInBounds i true) (a.put oi.dst v) w):kS P ops r Q S (fuel+1) listed a w:=
 yM hi (Region.noSelect_spec hs) hdf hQ hS' hei fuel listed a w (Region.free_spec hi hf) (fun m om hm hl e he hb heq=>by
  have h1:=hcl m om hm hl e he hb
  have h0:=(mem_ready.1 (show i∈Region.ready .any ops listed by simpa using hr)).1
  rw [heq] at h1
  rcases Nat.lt_or_ge i listed.size with h' | h'
  ·simp [h'] at h0 h1; rw [h0] at h1; cases h1
  ·simp [Array.getElem?_eq_none h'] at h1) (by simpa using hr) hy hS h
theorem qGY {rs:List Nat} {fuel:Nat} {listed:Array Bool} {a:Act} {w:World} (hr:Region.ready .any ops listed=rs) (hne:rs≠[])
 (h : ∀ i∈rs,wOp P ops r Q i (fun a' w'=>((eff P ops i=true→late ops i=false→S w')∧(eff P ops i=false→w'=w))∧kS P ops r Q S fuel (listed.setIfInBounds i true) a' w') a w):kS P ops r Q S (fuel+1) listed a w:=
 ⟨fun h0=>absurd (hr ▸ h0) hne,hr ▸ h⟩
theorem qCL {listed:Array Bool} {a:Act} {w:World} (hr:Region.ready .any ops listed=[]) (h:Q .normal a w) : ∀ fuel,kS P ops r Q S fuel listed a w
 | 0=>⟨hr,h⟩
 | _+1=>⟨fun _=>h,by rw [hr]; simp⟩
theorem oK {id:Nat} {a:Act} {w:World} (hm:P.follows .mixedOrders=true)
 (h:kS P ops r Q S ops.size (Array.replicate ops.size false) a w.drew):(Code.region id ops true).wpIn (Fr r) 0 P Q a w:=
 wpIn_region_any hm (qBE _ _ _ _ h)
end
section
variable {P:Program} {N:Nat} {env:Env} {a:Act} {w:World} {o:Oper} {K:Act→World→Prop} {Q:Exit→Act→World→Prop} {r:Option Nat}
theorem gU (hdf:bU o.op=false) {v:Value} {w':World} (h:(execOp a.eval o).run P w = .ok (.value v) w') (hk:K (a.put o.dst v) w'):o.wpIn (Fr r) 0 P a w K Q:=by
 unfold Oper.wpIn; rw [semAt_plain hdf,h]; exact ⟨fun _ _=>trivial,hk⟩
theorem qJU (hdf:bU o.op=false) {w':World} (h:(execOp a.eval o).run P w = .ok .skip w') (hk:K (a.put o.dst undef) w'):o.wpIn (Fr r) 0 P a w K Q:=by
 unfold Oper.wpIn; rw [semAt_plain hdf,h]; exact ⟨fun _ _=>trivial,hk⟩
theorem eT {T:TypeId} {ad:Addr} {t:TV} (hf:fX P T=true) (hl:t.cells.length=jM (kindOf P 20 T)) (hag:t.isAgg=qBM (kindOf P 20 T)) (hb:t.isBad=false) (hr:Rd w ad t.cells) :
 (loadVar T ad).run P w = .ok t.enc w:=by
 simp only [fX,Bool.and_eq_true,beq_iff_eq,Nat.beq_eq] at hf
 obtain ⟨⟨⟨k1,k2⟩,k3⟩,k4⟩:=hf
 unfold loadVar
 simp only [Sem.run_bind,sN (Option.some_get k4).symm,Result.andThen_ok]
 rw [← k2,← hag]
 cases hA:t.isAgg with
 | true=>
   simp only [↓reduceIte,Sem.run_bind,cX k3,Result.andThen_ok,Sem.run_pure]
   rw [← k1,← hl,run_loadCells_list w ad t.cells hr]
   simp [qAS hA]
 | false=>
   have hc:=nX hA hb
   have:=hr 0 t.enc (by rw [hc]; rfl)
   rw [Addr.add_zero'] at this
   simp [this]
theorem dS (hdf:bU o.op=false) {s:Sem Value} {κ:Kd} {next:TV→World→Prop} (he:execOp a.eval o=(do let x ← s; pure (Next.value x))) (h:aI P s w fun v w'=>xI κ v fun t=>next t w')
 (hn : ∀ t v w',(t.isBad=false→v=t.enc)→next t w'→K (a.put o.dst v) w'):o.wpIn (Fr r) 0 P a w K Q:=by
 obtain ⟨v,w',hr,h1⟩:=h
 have h2:exK κ fun t=>v=t.enc∧next t w':=h1
 obtain ⟨t,_,_,_,hv,h3⟩:=dI _ _ h2
 exact gU hdf (by rw [he]; simp [hr]) (hn t _ w' (fun _=>hv) h3)
theorem pJ (hdf:bU o.op=false) {s:Sem Unit} {next:TV→World→Prop} (he:execOp a.eval o=(do s; pure Next.skip)) (h:aJ P s w fun w'=>next .bad w')
 (hn : ∀ t v w',(t.isBad=false→v=t.enc)→next t w'→K (a.put o.dst v) w'):o.wpIn (Fr r) 0 P a w K Q:=by
 obtain ⟨w',hr,h⟩:=h
 exact qJU hdf (by rw [he]; simp [hr]) (hn .bad undef w' (fun hb=>by simp [TV.isBad] at hb) h)
theorem qA (hdf:bU o.op=false) {f:FuncId} {args:List Value} {κ:Kd} {pan:List PanicEntry→World→Prop} {next:TV→World→Prop} (hr:(execOp a.eval o).run P w = .ok (.enter f args.toArray) w)
 (h:aD P f args w pan fun v w'=>xI κ v fun t=>next t w')
 (hn : ∀ t v w',(t.isBad=false→v=t.enc)→next t w'→K (a.put o.dst v) w') (hp : ∀ c w',pan c w'→Q (.panic c) a w'):o.wpIn (Fr r) 0 P a w K Q:=by
 unfold Oper.wpIn
 rw [semAt_plain hdf,hr,Oper.uponIn_enter]
 refine ⟨fun _ _=>trivial,fun h=>by simp [Fence.wide] at h,pU.2 (Calls.mono h fun e w' he=>?_)⟩
 cases e with
 | returned v=>
   have he':exK κ fun t=>v=t.enc∧next t w':=he
   obtain ⟨t,_,_,_,hv,h⟩:=dI _ _ he'
   exact hn t _ w' (fun _=>hv) h
 | panicked c=>exact hp c w' he
 | outgrown=>exact he.elim
theorem lV {f:FuncId} {args:Array Value} (h:enters P f=true) (w:World):(callFunc f args).run P w = .ok (.enter f args) w:=by
 unfold enters at h
 cases hf:P.funcs[f]? with
 | none=>simp [hf] at h
 | some fn=>
   simp only [hf,Bool.and_eq_true,Bool.not_eq_true'] at h
   unfold callFunc
   have h1 : ¬ fn.name = "runtime.NumGoroutine":=by simpa using h.1
   have hb : ¬ fn.body=none:=by intro e; simp [e] at h
   simp [hf,h1,hb]
theorem bO (hsim:Sim N env a.tmps) {x:Operand} (h:(!(ev env x).isBad)=true):a.eval x=(ev env x).enc:=hsim.eval x (by simpa using h)
theorem qCZ (hdf:bU o.op=false) {l:Nat} {args:List Value} {κ:Kd} {next:TV→World→Prop} (hr : ∀ x,(Instr.yield l args.toArray).run P w = .ok x w→(execOp a.eval o).run P w = .ok x w)
 (h:fF P l args w fun v w'=>xI κ v fun t=>next t w') (hn : ∀ t v w',(t.isBad=false→v=t.enc)→next t w'→K (a.put o.dst v) w'):o.wpIn (Fr r) 0 P a w K Q:=by
 obtain ⟨f,tmps,assign,body,h1,h2⟩:=h
 unfold Oper.wpIn
 rw [semAt_plain hdf,hr _ h1,Oper.uponIn_round]
 refine ⟨fun _ _=>trivial,fun h=>by simp [Fence.wide] at h,?_⟩
 have h2':RoundIn (Fr r) (0 - 1) P l f tmps assign body w fun e w'=>∃ v,e = .returned v∧xI κ v fun t=>next t w':=h2
 refine RoundIn.mono h2' fun e w' he=>?_
 obtain ⟨v,rfl,he⟩:=he
 have he':exK κ fun t=>v=t.enc∧next t w':=he
 obtain ⟨t,_,_,_,hv,h⟩:=dI _ _ he'
 exact hn t _ w' (fun _=>hv) h
theorem qDF (hdf:bU o.op=false) {pan:List PanicEntry→World→Prop} {next:TV→World→Prop} (hsim:Sim N env a.tmps) (h:mH P o env w pan next)
 (hn : ∀ t v w',(t.isBad=false→v=t.enc)→next t w'→K (a.put o.dst v) w') (hp : ∀ c w',pan c w'→Q (.panic c) a w'):o.wpIn (Fr r) 0 P a w K Q:=by
 obtain ⟨dst,op,type,pos,after,guard⟩:=o
 unfold mH at h
 simp only at h
 cases op <;> (try simp only at h) <;> try (exact h.elim)
 case load T x=>
  split at h
  ·rename_i q hx
   obtain ⟨ad,rfl,h⟩:=cB h
   cases hf:fX P T with
   | false=>simp [hf,aA] at h
   | true=>
     simp only [hf,cond_true] at h
     obtain ⟨t,t1,t2,t3,hr,h⟩:=dI _ _ h
     refine gU hdf (v:=t.enc) (w':=w) ?_ (hn t _ w (fun _=>rfl) h)
     simp [execOp,hsim.is hx rfl,TV.enc,Instr.loadAt,Instr.sureAddr,eT hf t1 t2 t3 hr]
  ·exact h.elim
 case store T x y=>
  split at h
  ·rename_i q hx
   obtain ⟨ad,rfl,h⟩:=cB h
   cases hg:(!(ev env y).isBad) with
   | false=>simp [hg,aA] at h
   | true=>
     simp only [hg,cond_true] at h
     refine pJ hdf ?_ h hn
     simp only [execOp,hsim.is hx rfl,bO hsim hg,TV.enc]
     rfl
  ·exact h.elim
 case alloc T=>exact dS hdf rfl h hn
 case box T x=>
  cases hg:(!(ev env x).isBad) with
  | false=>simp [hg] at h
  | true=>
    simp only [hg,cond_true] at h
    exact dS hdf (by simp only [execOp,bO hsim hg]) h hn
 case buildSlice T n parts=>
  cases hg:(parts.toList.all fun q=>!(ev env q.2).isBad) with
  | false=>simp [hg] at h
  | true=>
    simp only [hg,cond_true] at h
    refine dS hdf ?_ h hn
    have e:(parts.map fun (x:Nat×Operand)=>(x.1,a.eval x.2))=parts.map fun (x:Nat×Operand)=>(x.1,(ev env x.2).enc):=by
     apply Array.ext'
     simp only [Array.toList_map]
     apply List.map_congr_left
     intro x hx
     have:=List.all_eq_true.1 hg x hx
     rw [bO hsim this]
    simp only [execOp]
    rw [← e]
 case insert T m k x=>
  cases hg:(!(ev env m).isBad&&!(ev env k).isBad&&!(ev env x).isBad) with
  | false=>simp [hg] at h
  | true=>
    simp only [hg,cond_true] at h
    simp only [Bool.and_eq_true] at hg
    exact pJ hdf (by simp only [execOp,bO hsim hg.1.1,bO hsim hg.1.2,bO hsim hg.2]) h hn
 case mapUpdate T m k x=>
  cases hg:(!(ev env m).isBad&&!(ev env k).isBad&&!(ev env x).isBad) with
  | false=>simp [hg] at h
  | true=>
    simp only [hg,cond_true] at h
    simp only [Bool.and_eq_true] at hg
    exact pJ hdf (by simp only [execOp,bO hsim hg.1.1,bO hsim hg.1.2,bO hsim hg.2]) h hn
 case entryStore T m k x=>
  cases hg:(!(ev env m).isBad&&!(ev env k).isBad&&!(ev env x).isBad) with
  | false=>simp [hg] at h
  | true=>
    simp only [hg,cond_true] at h
    simp only [Bool.and_eq_true] at hg
    exact pJ hdf (by simp only [execOp,bO hsim hg.1.1,bO hsim hg.1.2,bO hsim hg.2]) h hn
 case mapEntry T m k=>
  cases hg:(!(ev env m).isBad&&!(ev env k).isBad) with
  | false=>simp [hg] at h
  | true=>
    simp only [hg,cond_true] at h
    simp only [Bool.and_eq_true] at hg
    exact dS hdf (by simp only [execOp,bO hsim hg.1,bO hsim hg.2]) h hn
 case lookup T m k ok=>
  cases hg:(!(ev env m).isBad&&!(ev env k).isBad) with
  | false=>simp [hg] at h
  | true=>
    simp only [hg,cond_true] at h
    simp only [Bool.and_eq_true] at hg
    exact dS hdf (by simp only [execOp,bO hsim hg.1,bO hsim hg.2]) h hn
 case makeSlice T m k=>
  cases hg:(!(ev env m).isBad&&!(ev env k).isBad) with
  | false=>simp [hg] at h
  | true=>
    simp only [hg,cond_true] at h
    simp only [Bool.and_eq_true] at hg
    exact dS hdf (by simp only [execOp,bO hsim hg.1,bO hsim hg.2]) h hn
 case convert s d x=>
  cases hg:(!(ev env x).isBad) with
  | false=>simp [hg] at h
  | true=>
    simp only [hg,cond_true] at h
    exact dS hdf (by simp only [execOp,bO hsim hg]) h hn
 case range T x=>
  cases hg:(!(ev env x).isBad) with
  | false=>simp [hg] at h
  | true=>
    simp only [hg,cond_true] at h
    exact dS hdf (by simp only [execOp,bO hsim hg]) h hn
 case next x b=>
  cases hg:(!(ev env x).isBad) with
  | false=>simp [hg] at h
  | true=>
    simp only [hg,cond_true] at h
    exact dS hdf (by simp only [execOp,bO hsim hg]) h hn
 case entry x=>
  cases hg:(!(ev env x).isBad) with
  | false=>simp [hg] at h
  | true=>
    simp only [hg,cond_true] at h
    exact dS hdf (by simp only [execOp,bO hsim hg]) h hn
 case typeAssert x T b ok=>
  cases hg:(!(ev env x).isBad) with
  | false=>simp [hg] at h
  | true=>
    simp only [hg,cond_true] at h
    exact dS hdf (by simp only [execOp,bO hsim hg]) h hn
 case makeMap T r=>
  cases r with
  | none=>exact dS hdf rfl h hn
  | some x=>
    simp only at h
    cases hg:(!(ev env x).isBad) with
    | false=>simp [hg] at h
    | true=>
      simp only [hg,cond_true] at h
      exact dS hdf (by simp only [execOp,Option.map_some,bO hsim hg]) h hn
 case panic x=>
  split at h
  ·rename_i z hx
   unfold xK at h
   split at h
   ·rename_i T y
    unfold Oper.wpIn
    have:(execOp a.eval {dst,op:=.panic x,type,pos,after,guard}).run P w = .halt (.panic (.iface T y)) w:=by
     simp [execOp,hsim.is hx rfl,TV.enc,Instr.panic]
    rw [semAt_plain hdf,this]
    exact ⟨fun _ _=>trivial,hp _ _ h⟩
   ·exact h.elim
  ·exact h.elim
 case call c=>
  obtain ⟨callee,args,argTypes⟩:=c
  simp only at h
  cases hg:gB env args with
  | false=>simp [hg] at h
  | true=>
    simp only [hg,cond_true] at h
    have ea:=mP hsim hg
    cases callee with
    | builtin b=>
      cases b <;> (try simp only at h) <;> (try (exact h.elim)) <;>
       exact dS hdf (by simp only [execOp,resolve,ea,invoke,builtin,pure_bind]) h hn
    | value f=>
      simp only at h
      split at h
      ·rename_i fv hf
       have hfe:=hsim.is hf rfl
       unfold dM at h
       split at h
       ·rename_i fid first cap
        cases he:enters P fid with
        | true=>
          simp only [he,cond_true] at h
          refine qA hdf (args:=first.toList++evs env args++cap.toList) ?_ h hn hp
          have:(first.toList++evs env args++cap.toList).toArray=first++(evs env args).toArray++cap:=by apply Array.ext'; simp
          rw [this]
          simp [execOp,resolve,hfe,TV.enc,ea,Deferred.ofValue,invoke,lV he]
        | false=>
          simp only [he,cond_false] at h
          obtain ⟨v,w',hr,h1⟩:=h
          have h2:exK (kindOf P 20 type) fun t=>v=t.enc∧next t w':=h1
          obtain ⟨t,_,_,_,hv,h3⟩:=dI _ _ h2
          refine gU hdf (v:=v) (w':=w') ?_ (hn t _ w' (fun _=>hv) h3)
          simp [execOp,resolve,hfe,TV.enc,ea,Deferred.ofValue,invoke]
          simpa [TV.enc] using hr
       ·rename_i l first cap
        refine qCZ hdf (fun x hx=>?_) h hn
        have:(first.toList++evs env args).toArray=first++(evs env args).toArray:=by apply Array.ext'; simp
        rw [this] at hx
        simp only [execOp,resolve,hfe,TV.enc,ea,Deferred.ofValue,Sem.run_bind,Sem.run_pure,Result.andThen_ok]
        simpa [invoke] using hx
       ·rename_i fn first cap _ _
        obtain ⟨f,args',hr,h⟩:=h
        refine qA hdf (args:=args'.toList) ?_ h hn hp
        simp only [execOp,resolve,hfe,TV.enc,ea,Deferred.ofValue,Sem.run_bind,Sem.run_pure,Result.andThen_ok]
        simpa using hr
       ·exact h.elim
      ·exact h.elim
    | invoke r name=>
      simp only at h
      split at h
      ·rename_i rv hx
       obtain ⟨f,args',hr,h⟩:=h
       refine qA hdf (args:=args'.toList) ?_ h hn hp
       simp only [execOp,resolve,hsim.is hx rfl,TV.enc,ea,Sem.run_bind,Sem.run_pure,Result.andThen_ok]
       simpa using hr
      ·exact h.elim
theorem pR (hdf:bU o.op=false) {pan:List PanicEntry→World→Prop} {next:TV→World→Prop} (hsim:Sim N env a.tmps) (h:qO P o env w pan next)
 (hn : ∀ t v w',(t.isBad=false→v=t.enc)→next t w'→K (a.put o.dst v) w') (hp : ∀ c w',pan c w'→Q (.panic c) a w'):o.wpIn (Fr r) 0 P a w K Q:=by
 unfold qO at h
 cases hc:gT P o with
 | true=>
   simp only [hc,cond_true] at h
   obtain ⟨t,v,hr,hv,h⟩:=iS hsim h
   exact gU hdf (hr w) (hn t v w hv h)
 | false=>
   simp only [hc,cond_false] at h
   exact qDF hdf hsim h hn hp
end
mutual
def qIE:Kd→TV
 | .i k=>.i k 0
 | .u8=>.u8 0
 | .u64=>.u64 0
 | .b=>.b false
 | .s=>.s []
 | .p=>.p none
 | .sl=>.sl ⟨none,0,0⟩
 | .m=>.m none
 | .v=>.v .nilFunc
 | .agg fs=>.agg (uR fs)
 | .tup fs=>.tup (uR fs)
 | .la _ _=>.bad
def uR:List Kd→List TV
 | []=>[]
 | k :: r=>qIE k :: uR r
end
mutual
theorem qAL : ∀ κ:Kd,oB κ=true→okK κ (qIE κ)=true
 | .i k,_=>by simp [okK,qIE]
 | .u8,_=>rfl
 | .u64,_=>rfl
 | .b,_=>rfl
 | .s,_=>rfl
 | .p,_=>rfl
 | .sl,_=>rfl
 | .m,_=>rfl
 | .v,_=>rfl
 | .agg fs,h=>by simp only [okK,qIE]; exact rL fs (by simpa [oB] using h)
 | .tup fs,h=>by simp only [okK,qIE]; exact rL fs (by simpa [oB] using h)
 | .la _ _,h=>by simp [oB] at h
theorem rL : ∀ κs:List Kd,mW κs=true→eE κs (uR κs)=true
 | [],_=>rfl
 | k :: r,h=>by
   simp only [mW,Bool.and_eq_true] at h
   simp [eE,uR,qAL k h.1,rL r h.2]
end
section
variable {P:Program} {N:Nat} {ops:Array Oper} {r:Option Nat} {Q:Exit→Act→World→Prop} {S:World→Prop} {Ts:Nat→Value→World→Prop} {w0:World}
def fY (ops:Array Oper) (a:Act) (j:Nat):Value:=match cJ ops j with | some d=>a.tmps.getD d undef | none=>undef
theorem Sim.putD' {env:Env} {a:Act} (h:Sim N env a.tmps) {d:Option Tmp} (hd:eB N d=true) {x:TV} {v:Value} (hv:x.isBad=false→v=x.enc) :
 Sim N (Sh.gP env d x) (a.put d v).tmps:=by
 cases d with
 | none=>exact h
 | some d=>exact h.put (by simpa [eB] using hd) hv
theorem fE (l:List Oper) (o:Oper) (h:o∈l) (x:Nat) (hx:o.dst=some x):x∈aQ l:=by
 induction l with
 | nil=>cases h
 | cons y r ih=>
   rcases List.mem_cons.1 h with e | e
   ·subst e; simp [aQ,hx]
   ·have:=ih e
    unfold aQ
    cases y.dst <;> simp [this]
theorem qHJ {a b:Act} (h:a.tmps.size=b.tmps.size) {d:Option Tmp} {u v:Value} (e:a.put d u=a.put d v):b.put d u=b.put d v:=by
 cases d with
 | none=>rfl
 | some d=>
   have e':a.tmps.setIfInBounds d u=a.tmps.setIfInBounds d v:=congrArg Act.tmps e
   have:b.tmps.setIfInBounds d u=b.tmps.setIfInBounds d v:=by
    by_cases hd:d<a.tmps.size
    ·have h1:=congrArg (fun x:Array Value=>x[d]?) e'
     simp [hd] at h1
     rw [h1]
    ·have hb : ¬ d<b.tmps.size:=by rw [← h]; exact hd
     simp [Array.setIfInBounds,hb]
   show ({b with tmps:=_} : Act) = {b with tmps:=_}
   rw [this]
theorem iY (a:Act) (d:Option Tmp) (v:Value):(a.put d v).tmps.size=a.tmps.size:=by cases d <;> simp [Act.put]
theorem tO (a:Act) (d:Option Tmp) (v:Value):(a.put d v).defers=a.defers:=by cases d <;> rfl
theorem sV {o:Oper} {a b:Act} {w:World} {X:Value→World→Prop} (hdf:bU o.op=false) (he:execOp b.eval o=execOp a.eval o) (hsz:a.tmps.size=b.tmps.size) (h:o.wpIn (Fr r) 0 P a w (fun a' w'=>∃ v,a'=a.put o.dst v∧X v w') Q)
 (hq : ∀ c w',Q (.panic c) a w'→Q (.panic c) b w'):o.wpIn (Fr r) 0 P b w (fun b' w'=>∃ v,b'=b.put o.dst v∧X v w') Q:=by
 unfold Oper.wpIn at *
 refine ⟨fun _ _=>trivial,?_⟩
 have h:=h.2
 have hk : ∀ u w',(∃ v,a.put o.dst u=a.put o.dst v∧X v w')→∃ v,b.put o.dst u=b.put o.dst v∧X v w':=fun u w' ⟨v,e,hx⟩=>⟨v,qHJ hsz e,hx⟩
 rw [semAt_plain hdf] at h
 rw [semAt_plain hdf,he]
 generalize (execOp a.eval o).run P w=res at *
 cases res with
 | ok n w'=>
   cases n <;> simp only [Oper.uponIn] at h ⊢
   case value u=>exact hk _ _ h
   case skip=>exact hk _ _ h
   case defer d=>
    obtain ⟨v,e,_⟩:=h
    have:=congrArg (fun x:Act=>x.defers.length) e
    simp [tO] at this
   case enter f args=>
    refine ⟨h.1,CallsIn.mono h.2 fun e w'' he=>?_⟩
    cases e with
    | returned u=>exact hk _ _ he
    | panicked c=>exact hq _ _ he
    | outgrown=>exact he
   case row row args=>exact ⟨h.1,RowsIn.mono h.2 fun u w'' he=>hk _ _ he⟩
   case round l f tmps assign body=>
    refine ⟨h.1,RoundIn.mono h.2 fun e w'' he=>?_⟩
    cases e with
    | returned u=>exact hk _ _ he
    | panicked c=>exact hq _ _ he
    | outgrown=>exact he
 | halt x w'=>
   cases x <;> simp only [Oper.uponIn] at h ⊢
   case panic u=>exact hq _ _ h
def HT (ops:Array Oper) (Ts:Nat→Value→World→Prop) (j:Nat) (a:Act) (w:World):Prop:=Ts j (fY ops a j) w
def nS (P:Program) (r:Option Nat) (ops:Array Oper) (Q:Exit→Act→World→Prop) (S:World→Prop) (Ts:Nat→Value→World→Prop) (w0:World) (END:Act→World→Prop) (L:Array Bool):List (Nat×Kd)→List Nat→Act→Prop
 | [],hs,ac=>∀ w,Mod NoB w0 w→S w→(∀ q∈hs,HT ops Ts q ac w)→END ac w
 | (i,κ) :: js,hs,ac=>∃ o,ops[i]? = some o∧
    (fU P o=true→(L.getD i true=true→nS P r ops Q S Ts w0 END L js hs ac)∧
     (L.getD i true=false→∃ v,(∀ w,S w→(execOp ac.eval o).run P w = .ok (.value v) w)∧nS P r ops Q S Ts w0 END L js hs (ac.put o.dst v)))∧
    (fU P o=false→(L.getD i true=true→nS P r ops Q S Ts w0 END L js (i :: hs) ac)∧
     (L.getD i true=false→(∀ w,Mod NoB w0 w→S w→(∀ q∈hs,cK o q=true→HT ops Ts q ac w)→
      o.wpIn (Fr r) 0 P ac w (fun a' w'=>∃ v,a'=ac.put o.dst v∧(∃ t,okK κ t=true∧v=t.enc)∧Mod NoB w w'∧S w'∧Ts i v w') Q)∧
      ∀ t,okK κ t=true→nS P r ops Q S Ts w0 END L js (i :: hs) (ac.put o.dst t.enc)))
structure oX (P:Program) (ops:Array Oper) (L0:Array Bool) (is:List (Nat×Kd)):Prop where
 inc:(is.map (·.1)).Pairwise (· < ·)
 op : ∀ q∈is,∃ o,ops[q.1]? = some o∧o.guard=none∧bU o.op=false∧(∃ d,o.dst=some d)∧L0.getD q.1 true=false∧(fU P o=true∨oB q.2=true)
 dst : ∀ q∈is,∀ p∈is,p.1≠q.1→cJ ops p.1≠cJ ops q.1
 reads : ∀ q∈is,∀ p∈is,∀ o,ops[q.1]? = some o→∀ d,cJ ops p.1=some d→d∈o.looksAt ops→cK o p.1=true
 from_ : ∀ q∈is,∀ o,ops[q.1]? = some o→∀ e∈o.after,Region.binds .any e=true→L0.getD e.on false=true∨∃ p∈is,p.1=e.on∧p.1<q.1
 back : ∀ q∈is,∀ p∈is,∀ o,ops[q.1]? = some o→cK o p.1=true→p.1<q.1
 bar : ∀ k,k<ops.size→L0.getD k true=true∨(∃ q∈is,q.1=k)∨∃ o,ops[k]? = some o∧((∃ e,cK o e=true∧L0.getD e true=false∧∀ q∈is,q.1≠e)∨∀ q∈is,cK o q.1=true∨∃ p∈is,cK o p.1=true∧∀ x,ops[p.1]? = some x→cK x q.1=true)
theorem qAN : ∀ {is:List (Nat×Kd)},(is.map (·.1)).Pairwise (· < ·)→∀ {i:Nat} {κ κ':Kd},(i,κ)∈is→(i,κ')∈is→κ=κ'
 | [],_,_,_,_,h,_=>by cases h
 | q :: r,hp,i,κ,κ',h,h'=>by
   simp only [List.map_cons,List.pairwise_cons] at hp
   rcases List.mem_cons.1 h with e | h1
   ·rcases List.mem_cons.1 h' with e' | h2
    ·rw [← e] at e'; cases e'; rfl
    ·have:=hp.1 i (List.mem_map.2 ⟨_,h2,rfl⟩); rw [← e] at this; simp at this
   ·rcases List.mem_cons.1 h' with e' | h2
    ·have:=hp.1 i (List.mem_map.2 ⟨_,h1,rfl⟩); rw [← e'] at this; simp at this
    ·exact qAN hp.2 h1 h2
theorem oX.uniq {L0:Array Bool} {is:List (Nat×Kd)} (C:oX P ops L0 is) {i:Nat} {κ κ':Kd} (h:(i,κ)∈is) (h':(i,κ')∈is):κ=κ':=qAN C.inc h h'
theorem qBO : ∀ is:List (Nat×Kd),qCB is=true→(is.map (·.1)).Pairwise (· < ·)
 | [],_=>by simp
 | [a],_=>by simp
 | a :: b :: r,h=>by
   simp only [qCB,Bool.and_eq_true] at h
   have ih:=qBO (b :: r) h.2
   have hab:a.1<b.1:=by simpa using h.1
   simp only [List.map_cons,List.pairwise_cons] at ih ⊢
   refine ⟨fun x hx=>?_,ih⟩
   rcases List.mem_cons.1 hx with rfl | hx
   ·exact hab
   ·exact Nat.lt_trans hab (ih.1 x hx)
theorem rH {o:Oper} {j:Nat} : cK o j=true↔∃ e∈o.after,Region.binds .any e=true∧e.on=j:=by
 unfold cK
 simp only [Array.any_eq_true,Bool.and_eq_true,Nat.beq_eq]
 constructor
 ·rintro ⟨i,hi,h1,h2⟩; exact ⟨_,Array.getElem_mem hi,h1,h2⟩
 ·rintro ⟨e,he,h1,h2⟩
  obtain ⟨i,hi,rfl⟩:=Array.getElem_of_mem he
  exact ⟨i,hi,h1,h2⟩
theorem qHP {L0:Array Bool} {is:List (Nat×Kd)} (h:tB P ops L0 is=true) (hi:qCB is=true):oX P ops L0 is:=by
 unfold tB at h
 simp only [Bool.and_eq_true,List.all_eq_true] at h
 obtain ⟨h1,h2⟩:=h
 have g : ∀ q∈is,∃ o,ops[q.1]? = some o∧(o.guard.isNone&&!bU o.op&&o.dst.isSome&&!(L0.getD q.1 true)&&(fU P o || oB q.2)
  && (is.all fun p=>Nat.beq p.1 q.1 || !(cJ ops p.1==o.dst))
  && (is.all fun p=>cK o p.1 || !((o.looksAt ops).any fun t=>cJ ops p.1==some t))
  && (o.after.all fun e=>!Region.binds .any e || (L0.getD e.on false || (is.any fun p=>Nat.beq p.1 e.on&&Nat.blt p.1 q.1)))
  && (is.all fun p=>Nat.blt p.1 q.1 || !cK o p.1))=true:=by
  intro q hq
  have:=h1 q hq
  cases ho:ops[q.1]? with
  | none=>rw [ho] at this; cases this
  | some o=>rw [ho] at this; exact ⟨o,rfl,this⟩
 have dsto : ∀ q o,ops[q]? = some o→cJ ops q=o.dst:=fun q o ho=>by simp [cJ,ho]
 refine ⟨qBO is hi,?_,?_,?_,?_,?_,?_⟩
 ·intro q hq
  obtain ⟨o,ho,hh⟩:=g q hq
  simp only [Bool.and_eq_true,Bool.not_eq_true',Option.isNone_iff_eq_none,Option.isSome_iff_exists,Bool.or_eq_true] at hh
  obtain ⟨⟨⟨⟨⟨⟨⟨⟨a1,a2⟩,a3⟩,a4⟩,a5⟩,a6⟩,a7⟩,a8⟩,a9⟩:=hh
  exact ⟨o,ho,a1,a2,a3,a4,a5⟩
 ·intro q hq p hp hne
  obtain ⟨o,ho,hh⟩:=g q hq
  simp only [Bool.and_eq_true,List.all_eq_true] at hh
  have:=hh.1.1.1.2 p hp
  rw [dsto _ _ ho]
  simp only [Bool.or_eq_true,Nat.beq_eq,Bool.not_eq_true',beq_eq_false_iff_ne] at this
  exact this.resolve_left hne
 ·intro q hq p hp o ho d hd hmem
  obtain ⟨o',ho',hh⟩:=g q hq
  rw [ho] at ho'; cases ho'
  simp only [Bool.and_eq_true,List.all_eq_true] at hh
  have:=hh.1.1.2 p hp
  simp only [Bool.or_eq_true,Bool.not_eq_true',List.any_eq_false] at this
  rcases this with this | this
  ·exact this
  ·have:=this d hmem; rw [hd] at this; simp at this
 ·intro q hq o ho e he hb
  obtain ⟨o',ho',hh⟩:=g q hq
  rw [ho] at ho'; cases ho'
  simp only [Bool.and_eq_true] at hh
  have:=hh.1.2
  rw [Array.all_eq_true] at this
  obtain ⟨i,hi,rfl⟩:=Array.getElem_of_mem he
  have:=this i hi
  simp only [Bool.or_eq_true,Bool.not_eq_true',List.any_eq_true,Bool.and_eq_true,Nat.beq_eq,Nat.blt_eq] at this
  rcases this with h | h | ⟨p,h1,h2,h3⟩
  ·rw [hb] at h; cases h
  ·exact .inl h
  ·exact .inr ⟨p,h1,h2,h3⟩
 ·intro q hq p hp o ho hb
  obtain ⟨o',ho',hh⟩:=g q hq
  rw [ho] at ho'; cases ho'
  simp only [Bool.and_eq_true,List.all_eq_true] at hh
  have:=hh.2 p hp
  simp only [Bool.or_eq_true,Nat.blt_eq,Bool.not_eq_true'] at this
  rcases this with h | h
  ·exact h
  ·rw [hb] at h; cases h
 ·intro k hk
  have:=h2 k (by simpa using hk)
  simp only [Bool.or_eq_true,List.any_eq_true,Nat.beq_eq] at this
  rcases this with (h | ⟨q,hq,e⟩) | h
  ·exact .inl h
  ·exact .inr (.inl ⟨q,hq,e⟩)
  ·refine .inr (.inr ?_)
   cases ho:ops[k]? with
   | none=>rw [ho] at h; cases h
   | some o=>
     rw [ho] at h
     rw [Bool.or_eq_true] at h
     refine ⟨o,rfl,h.imp (fun h=>?_) fun h=>?_⟩
     ·simp only [Array.any_eq_true,Bool.and_eq_true,Bool.not_eq_true',List.any_eq_false,Nat.beq_eq] at h
      obtain ⟨n,hn,⟨h1,h2⟩,h3⟩:=h
      exact ⟨_,rH.2 ⟨_,Array.getElem_mem hn,h1,rfl⟩,h2,fun q hq e=>by have:=h3 q hq; simp [e] at this⟩
     ·simp only [List.all_eq_true,Bool.or_eq_true,List.any_eq_true,Bool.and_eq_true] at h
      refine fun q hq=>(h q hq).imp id fun ⟨p,hp,e1,e2⟩=>⟨p,hp,e1,fun x hx=>?_⟩
      rw [hx] at e2; exact e2
def Rel (ops:Array Oper) (is:List (Nat×Kd)) (L:Array Bool) (ac a:Act):Prop:=
 ac.tmps.size=a.tmps.size∧ac.defers=a.defers∧∀ t,(∀ q∈is,L.getD q.1 true=false→cJ ops q.1≠some t)→ac.tmps[t]? = a.tmps[t]?
theorem Rel.refl (is:List (Nat×Kd)) (L:Array Bool) (a:Act):Rel ops is L a a:=⟨rfl,rfl,fun _ _=>rfl⟩
theorem Rel.put {is:List (Nat×Kd)} {L:Array Bool} {ac a:Act} (h:Rel ops is L ac a) {q:Nat×Kd} (hq:q∈is) {o:Oper} (ho:ops[q.1]? = some o) (hl:L.getD q.1 true=false) (v:Value):Rel ops is L (ac.put o.dst v) a:=by
 refine ⟨(iY _ _ _).trans h.1,(tO _ _ _).trans h.2.1,fun t ht=>?_⟩
 rw [← h.2.2 t ht]
 have hd:cJ ops q.1=o.dst:=by simp [cJ,ho]
 have:=ht q hq hl
 rw [hd] at this
 cases hod:o.dst with
 | none=>rfl
 | some d=>
   rw [hod] at this
   have hne:d≠t:=fun e=>this (by rw [e])
   simp [Act.put,Array.getElem?_setIfInBounds_ne hne]
theorem Rel.exec {L0:Array Bool} {is:List (Nat×Kd)} (C:oX P ops L0 is) (hsel : ∀ (j:Nat) (o:Oper) cs b,ops[j]? = some o→o.op≠.select cs b) {L:Array Bool} {ac a:Act} (h:Rel ops is L ac a) {q:Nat×Kd} (hq:q∈is) {o:Oper} (ho:ops[q.1]? = some o)
 (hdep : ∀ p∈is,cK o p.1=true→L.getD p.1 true=true):execOp ac.eval o=execOp a.eval o:=by
 refine execOp_congr o (fun cs b=>hsel q.1 o cs b ho) fun x hx=>?_
 cases x with
 | tmp t=>
   have:ac.tmps[t]? = a.tmps[t]?:=h.2.2 t fun p hp hl hd=>by
    have hm:t∈o.looksAt ops:=List.mem_append_left _ (List.mem_filterMap.2 ⟨.tmp t,by simpa using hx,rfl⟩)
    have:=hdep p hp (C.reads q hq p hp o ho t hd hm)
    rw [hl] at this; cases this
   simp [Act.eval,Array.getD_eq_getD_getElem?,this]
 | const v=>rfl
 | global g=>rfl
 | func f=>rfl
theorem Rel.slot {L0:Array Bool} {is:List (Nat×Kd)} (C:oX P ops L0 is) {L:Array Bool} {ac a:Act} (h:Rel ops is L ac a) {p:Nat×Kd} (hp:p∈is) (hl:L.getD p.1 true=true):fY ops ac p.1=fY ops a p.1:=by
 unfold fY
 cases hd:cJ ops p.1 with
 | none=>rfl
 | some d=>
   have:ac.tmps[d]? = a.tmps[d]?:=h.2.2 d fun q hq hlq hdq=>by
    refine C.dst p hp q hq (fun e=>?_) (hdq.trans hd.symm)
    rw [e] at hlq; rw [hl] at hlq; cases hlq
   simp [Array.getD_eq_getD_getElem?,this]
theorem inh {κ:Kd} (h:oB κ=true) : ∃ t,okK κ t=true:=⟨_,qAL κ h⟩
section
variable {L0 L:Array Bool} {is:List (Nat×Kd)} (C:oX P ops L0 is) (hsel : ∀ (j:Nat) (o:Oper) cs b,ops[j]? = some o→o.op≠.select cs b) {END:Act→World→Prop} {a:Act} {i:Nat} {κ:Kd} {oi:Oper}
include C hsel
theorem nH (hoi:ops[i]? = some oi) (hpu:fU P oi=true) (hin:(i,κ)∈is) (hl:L.getD i true=false) (hdep : ∀ p∈is,cK oi p.1=true→L.getD p.1 true=true) :
 ∀ (js:List (Nat×Kd)) (hs:List Nat) (ac:Act),(∀ q∈js,q∈is)→(i,κ)∈js→Rel ops is L ac a→nS P r ops Q S Ts w0 END L js hs ac→∃ v,∀ w,S w→(execOp a.eval oi).run P w = .ok (.value v) w
 | [],hs,ac,_,hi,_,_=>by cases hi
 | (j,κj) :: js,hs,ac,hsub,hi,hr,h=>by
   obtain ⟨o,ho,h1,h2⟩:=h
   have hsub' : ∀ q∈js,q∈is:=fun q hq=>hsub q (by simp [hq])
   have hj:(j,κj)∈is:=hsub _ (by simp)
   by_cases e:j=i
   ·subst e
    rw [hoi] at ho; cases ho
    obtain ⟨v,hv,_⟩:=(h1 hpu).2 hl
    rw [Rel.exec C hsel hr hin hoi hdep] at hv
    exact ⟨v,hv⟩
   ·have hi':(i,κ)∈js:=by
     rcases List.mem_cons.1 hi with h | h
     ·cases h; exact absurd rfl e
     ·exact h
    cases hlj:L.getD j true with
    | true=>
      cases hp:fU P o with
      | true=>exact nH hoi hpu hin hl hdep js _ ac hsub' hi' hr ((h1 hp).1 hlj)
      | false=>exact nH hoi hpu hin hl hdep js _ ac hsub' hi' hr ((h2 hp).1 hlj)
    | false=>
      cases hp:fU P o with
      | true=>
        obtain ⟨v,_,ht⟩:=(h1 hp).2 hlj
        exact nH hoi hpu hin hl hdep js _ _ hsub' hi' (hr.put hj ho hlj v) ht
      | false=>
        obtain ⟨o',ho',_,_,_,_,hk⟩:=C.op _ hj
        rw [ho] at ho'; cases ho'
        obtain ⟨t,ht⟩:=inh (hk.resolve_left (by simp [hp]))
        exact nH hoi hpu hin hl hdep js _ _ hsub' hi' (hr.put hj ho hlj _) (((h2 hp).2 hlj).2 t ht)
theorem pQ (hQ : ∀ c (a:Act) d v w,(∀ x,d=some x→x∈aQ ops.toList)→(Q (.panic c) (a.put d v) w↔Q (.panic c) a w)) (hoi:ops[i]? = some oi) (hpu:fU P oi=false) (hin:(i,κ)∈is) (hl:L.getD i true=false) (hdep : ∀ p∈is,cK oi p.1=true→L.getD p.1 true=true)
 {w:World} (hm:Mod NoB w0 w) (hS:S w) (hT : ∀ p∈is,L.getD p.1 true=true→(∀ o,ops[p.1]? = some o→fU P o=false)→HT ops Ts p.1 a w) :
 ∀ (js:List (Nat×Kd)) (hs:List Nat) (ac:Act),(∀ q∈js,q∈is)→(i,κ)∈js→(∀ q∈hs,∃ p∈is,p.1=q∧∀ o,ops[p.1]? = some o→fU P o=false)→Rel ops is L ac a→(∀ c w',Q (.panic c) ac w'→Q (.panic c) a w')→nS P r ops Q S Ts w0 END L js hs ac→
   oi.wpIn (Fr r) 0 P a w (fun a' w'=>∃ v,a'=a.put oi.dst v∧(∃ t,okK κ t=true∧v=t.enc)∧Mod NoB w w'∧S w'∧Ts i v w') Q
 | [],hs,ac,_,hi,_,_,_,_=>by cases hi
 | (j,κj) :: js,hs,ac,hsub,hi,hhs,hr,hq,h=>by
   obtain ⟨o,ho,h1,h2⟩:=h
   have hsub' : ∀ q∈js,q∈is:=fun q hq=>hsub q (by simp [hq])
   have hj:(j,κj)∈is:=hsub _ (by simp)
   have hdst : ∀ x,o.dst=some x→x∈aQ ops.toList:=fun x hx=>fE _ o (by have:=Array.mem_of_getElem? ho; simpa using this) x hx
   by_cases e:j=i
   ·subst e
    rw [hoi] at ho; cases ho
    have hkk:κj=κ:=C.uniq hj hin
    subst hkk
    obtain ⟨o',ho',_,hdf,_⟩:=C.op _ hin
    rw [hoi] at ho'; cases ho'
    have hh:=((h2 hpu).2 hl).1 w hm hS fun q hqm hb=>by
     obtain ⟨p,hp,rfl,hpe⟩:=hhs q hqm
     have hlp:=hdep p hp hb
     unfold HT
     rw [Rel.slot C hr hp hlp]
     exact hT p hp hlp hpe
    exact sV hdf (Rel.exec C hsel hr hin hoi hdep).symm hr.1 hh hq
   ·have hi':(i,κ)∈js:=by
     rcases List.mem_cons.1 hi with h | h
     ·cases h; exact absurd rfl e
     ·exact h
    cases hlj:L.getD j true with
    | true=>
      cases hp:fU P o with
      | true=>exact pQ hQ hoi hpu hin hl hdep hm hS hT js _ ac hsub' hi' hhs hr hq ((h1 hp).1 hlj)
      | false=>exact pQ hQ hoi hpu hin hl hdep hm hS hT js _ ac hsub' hi' (fun q hqm=>by
         rcases List.mem_cons.1 hqm with rfl | hqm
         ·exact ⟨_,hj,rfl,fun o' ho'=>by rw [ho] at ho'; cases ho'; exact hp⟩
         ·exact hhs q hqm) hr hq ((h2 hp).1 hlj)
    | false=>
      cases hp:fU P o with
      | true=>
        obtain ⟨v,_,ht⟩:=(h1 hp).2 hlj
        exact pQ hQ hoi hpu hin hl hdep hm hS hT js _ _ hsub' hi' hhs (hr.put hj ho hlj v) (fun c w' h=>hq c w' ((hQ c ac o.dst v w' hdst).1 h)) ht
      | false=>
        obtain ⟨o',ho',_,_,_,_,hk⟩:=C.op _ hj
        rw [ho] at ho'; cases ho'
        obtain ⟨t,ht⟩:=inh (hk.resolve_left (by simp [hp]))
        exact pQ hQ hoi hpu hin hl hdep hm hS hT js _ _ hsub' hi' (fun q hqm=>by
         rcases List.mem_cons.1 hqm with rfl | hqm
         ·exact ⟨_,hj,rfl,fun o' ho'=>by rw [ho] at ho'; cases ho'; exact hp⟩
         ·exact hhs q hqm) (hr.put hj ho hlj _) (fun c w' h=>hq c w' ((hQ c ac o.dst _ w' hdst).1 h)) (((h2 hp).2 hlj).2 t ht)
omit C hsel in
theorem eQ {i:Nat} : ∀ (js:List (Nat×Kd)) (hs:List Nat) (ac:Act),(∀ q∈js,q.1≠i)→nS P r ops Q S Ts w0 END L js hs ac→nS P r ops Q S Ts w0 END (L.setIfInBounds i true) js hs ac
 | [],hs,ac,_,h=>h
 | (j,κj) :: js,hs,ac,hne,h=>by
   obtain ⟨o,ho,h1,h2⟩:=h
   have hj:i≠j:=fun e=>hne (j,κj) (by simp) e.symm
   have hne' : ∀ q∈js,q.1≠i:=fun q hq=>hne q (by simp [hq])
   refine ⟨o,ho,fun hp=>?_,fun hp=>?_⟩
   ·rw [getD_set_ne true hj]
    exact ⟨fun e=>eQ js _ ac hne' ((h1 hp).1 e),fun e=>let ⟨v,hv,ht⟩:=(h1 hp).2 e; ⟨v,hv,eQ js _ _ hne' ht⟩⟩
   ·rw [getD_set_ne true hj]
    exact ⟨fun e=>eQ js _ ac hne' ((h2 hp).1 e),fun e=>⟨((h2 hp).2 e).1,fun t ht=>eQ js _ _ hne' (((h2 hp).2 e).2 t ht)⟩⟩
theorem iQ {wS:World} (hwS:S wS) (hQ : ∀ c (a:Act) d v w,(∀ x,d=some x→x∈aQ ops.toList)→(Q (.panic c) (a.put d v) w↔Q (.panic c) a w)) (hoi:ops[i]? = some oi) (hin:(i,κ)∈is) (hl:L.getD i true=false) (hdep : ∀ p∈is,cK oi p.1=true→L.getD p.1 true=true) {v:Value}
 (hv:(fU P oi=true∧∀ w,S w→(execOp a.eval oi).run P w = .ok (.value v) w)∨(fU P oi=false∧∃ t,okK κ t=true∧v=t.enc)) :
 ∀ (js:List (Nat×Kd)) (hs:List Nat) (ac:Act),(∀ q∈js,q∈is)→(js.map (·.1)).Pairwise (· < ·)→(i,κ)∈js→(∀ q∈hs,∃ p∈is,p.1=q∧p.1≠i)→Rel ops is L ac a→nS P r ops Q S Ts w0 END L js hs ac→
   nS P r ops Q S Ts w0 END (L.setIfInBounds i true) js hs (ac.put oi.dst v)
 | [],hs,ac,_,_,hi,_,_,_=>by cases hi
 | (j,κj) :: js,hs,ac,hsub,hpw,hi,hhs,hr,h=>by
   obtain ⟨o,ho,h1,h2⟩:=h
   have hsub' : ∀ q∈js,q∈is:=fun q hq=>hsub q (by simp [hq])
   have hj:(j,κj)∈is:=hsub _ (by simp)
   have hlt:i<L.size:=by
    rcases Nat.lt_or_ge i L.size with h | h
    ·exact h
    ·simp [Array.getD_eq_getD_getElem?,Array.getElem?_eq_none h] at hl
   have hset:(L.setIfInBounds i true).getD i true=true:=by simp [hlt]
   simp only [List.map_cons,List.pairwise_cons] at hpw
   by_cases e:j=i
   ·subst e
    rw [hoi] at ho; cases ho
    have hkk:κj=κ:=C.uniq hj hin
    subst hkk
    have hne : ∀ q∈js,q.1≠j:=fun q hq=>by have:=hpw.1 q.1 (List.mem_map.2 ⟨q,hq,rfl⟩); omega
    refine ⟨oi,hoi,fun hp=>⟨fun _=>?_,fun e=>by rw [hset] at e; cases e⟩,fun hp=>⟨fun _=>?_,fun e=>by rw [hset] at e; cases e⟩⟩
    ·obtain ⟨u,hu,ht⟩:=(h1 hp).2 hl
     rcases hv with ⟨_,hv⟩ | ⟨hf,_⟩
     ·have:=hu wS hwS
      rw [Rel.exec C hsel hr hin hoi hdep,hv wS hwS] at this
      simp at this
      subst this
      exact eQ js _ _ hne ht
     ·rw [hp] at hf; cases hf
    ·rcases hv with ⟨hf,_⟩ | ⟨_,t,ht,rfl⟩
     ·rw [hp] at hf; cases hf
     ·exact eQ js _ _ hne (((h2 hp).2 hl).2 t ht)
   ·have hi':(i,κ)∈js:=by
     rcases List.mem_cons.1 hi with h | h
     ·cases h; exact absurd rfl e
     ·exact h
    have hji:j<i:=hpw.1 i (List.mem_map.2 ⟨_,hi',rfl⟩)
    have hLj:(L.setIfInBounds i true).getD j true=L.getD j true:=getD_set_ne true (by omega)
    have hdi:cJ ops i=oi.dst:=by simp [cJ,hoi]
    have hdj:cJ ops j=o.dst:=by simp [cJ,ho]
    have hcomm : ∀ (x:Act) (u:Value),(x.put oi.dst v).put o.dst u=(x.put o.dst u).put oi.dst v:=fun x u=>Act.put_comm x v u fun d hd hd'=>by
     refine C.dst _ hj _ hin (fun e'=>e e'.symm) ?_
     show cJ ops i=cJ ops j
     rw [hdi,hdj,hd,hd']
    have hex:execOp (ac.put oi.dst v).eval o=execOp ac.eval o:=execOp_put (ops:=ops) o (fun cs b=>hsel j o cs b ho) ac oi.dst v fun d hd hm=>by
     have:=C.reads _ hj _ hin o ho d (by show cJ ops i=some d; rw [hdi]; exact hd) hm
     have:=C.back _ hj _ hin o ho this
     have:i<j:=this
     omega
    refine ⟨o,ho,fun hp=>?_,fun hp=>?_⟩
    ·rw [hLj]
     refine ⟨fun hlj=>iQ hwS hQ hoi hin hl hdep hv js _ ac hsub' hpw.2 hi' hhs hr ((h1 hp).1 hlj),fun hlj=>?_⟩
     obtain ⟨u,hu,ht⟩:=(h1 hp).2 hlj
     refine ⟨u,by rw [hex]; exact hu,?_⟩
     rw [hcomm]
     exact iQ hwS hQ hoi hin hl hdep hv js _ _ hsub' hpw.2 hi' hhs (hr.put hj ho hlj u) ht
    ·rw [hLj]
     have hhs' : ∀ q∈j :: hs,∃ p∈is,p.1=q∧p.1≠i:=fun q hq=>by
      rcases List.mem_cons.1 hq with rfl | hq
      ·exact ⟨_,hj,rfl,e⟩
      ·exact hhs q hq
     refine ⟨fun hlj=>iQ hwS hQ hoi hin hl hdep hv js _ ac hsub' hpw.2 hi' hhs' hr ((h2 hp).1 hlj),fun hlj=>⟨fun w hm hS hT=>?_,fun t ht=>?_⟩⟩
     ·obtain ⟨o',ho',_,hdf,_⟩:=C.op _ hj
      rw [ho] at ho'; cases ho'
      have hdsti : ∀ x,oi.dst=some x→x∈aQ ops.toList:=fun x hx=>fE _ oi (by have:=Array.mem_of_getElem? hoi; simpa using this) x hx
      refine sV hdf hex (iY _ _ _).symm (((h2 hp).2 hlj).1 w hm hS fun q hq hb=>?_) fun c w' h=>(hQ c ac oi.dst v w' hdsti).2 h
      have:=hT q hq hb
      obtain ⟨p,hp',rfl,hpi⟩:=hhs q hq
      have hsl:fY ops (ac.put oi.dst v) p.1=fY ops ac p.1:=by
       unfold fY
       cases hd:cJ ops p.1 with
       | none=>rfl
       | some d=>
         have hne:oi.dst≠some d:=fun e'=>C.dst _ hp' _ hin (fun e''=>hpi e''.symm) (by show cJ ops i=cJ ops p.1; rw [hdi,e',hd])
         cases hoid:oi.dst with
         | none=>rfl
         | some d'=>
           have:d'≠d:=fun e'=>hne (by rw [hoid,e'])
           simp [Act.put,Array.getD_eq_getD_getElem?,Array.getElem?_setIfInBounds_ne this]
      unfold HT at this ⊢
      rw [hsl] at this
      exact this
     ·rw [hcomm]
      exact iQ hwS hQ hoi hin hl hdep hv js _ _ hsub' hpw.2 hi' hhs' (hr.put hj ho hlj _) (((h2 hp).2 hlj).2 t ht)
omit C hsel in
theorem qF : ∀ (js:List (Nat×Kd)) (hs:List Nat) (ac:Act),(∀ q∈js,L.getD q.1 true=true)→nS P r ops Q S Ts w0 END L js hs ac→∀ w,Mod NoB w0 w→S w→(∀ q∈hs,HT ops Ts q ac w)→(∀ q∈js,(∀ o,ops[q.1]? = some o→fU P o=false)→HT ops Ts q.1 ac w)→END ac w
 | [],hs,ac,_,h,w,hm,hS,hh,_=>h w hm hS hh
 | (j,κj) :: js,hs,ac,hall,h,w,hm,hS,hh,hj=>by
   obtain ⟨o,ho,h1,h2⟩:=h
   have hlj:=hall (j,κj) (by simp)
   cases hp:fU P o with
   | true=>exact qF js _ ac (fun q hq=>hall q (by simp [hq])) ((h1 hp).1 hlj) w hm hS hh fun q hq=>hj q (by simp [hq])
   | false=>
     refine qF js _ ac (fun q hq=>hall q (by simp [hq])) ((h2 hp).1 hlj) w hm hS (fun q hq=>?_) fun q hq=>hj q (by simp [hq])
     rcases List.mem_cons.1 hq with rfl | hq
     ·exact hj (q,κj) (by simp) fun o' ho'=>by rw [show ops[q]? = some o from ho] at ho'; cases ho'; exact hp
     ·exact hh q hq
end
theorem nZ {Ts:Nat→Value→World→Prop} {w:World} {X:Prop} : ∀ (hs:List (Nat×TV)),qBR Ts w hs X→(∀ q∈hs,Ts q.1 q.2.enc w)→X
 | [],h,_=>h
 | q :: r,h,hh=>nZ r (h (hh q (by simp))) fun p hp=>hh p (by simp [hp])
theorem qWI {κ:Kd} {t:TV} (h:okK κ t=true):t.isBad=false:=by cases κ <;> cases t <;> simp_all [okK,TV.isBad]
theorem pY {L0:Array Bool} {is:List (Nat×Kd)} (C:oX P ops L0 is) {END:Act→World→Prop} {pan:List PanicEntry→World→Prop} {fin:Env→World→Prop} {G:Act→Prop} {LD:Addr→List Value→Prop} (hLD : ∀ ad cs,LD ad cs→∀ w',S w'→Rd w' ad cs)
 (hG : ∀ (a:Act) d v,(∀ x,d=some x→x∈aQ ops.toList)→G a→G (a.put d v)) (hp : ∀ c a w',G a→pan c w'→Q (.panic c) a w') (hend : ∀ env a w,Sim N env a.tmps→G a→Mod NoB w0 w→S w→fin env w→END a w) :
 ∀ (js:List (Nat×Kd)) (hs:List (Nat×TV)) (env:Env) (ac:Act),(∀ q∈js,q∈is)→(js.map (·.1)).Pairwise (· < ·)→Sim N env ac.tmps→G ac→(∀ q∈hs,fY ops ac q.1=q.2.enc∧(∃ p∈is,p.1=q.1)∧∀ p∈js,p.1≠q.1)→
   yA P N ops S LD Ts pan w0 fin js hs env→nS P r ops Q S Ts w0 END L0 js (hs.map (·.1)) ac
 | [],hs,env,ac,_,_,hsim,hg,hhs,h=>fun w hm hS hT=>hend env ac w hsim hg hm hS (nZ hs (h w hm hS) fun q hq=>by
    have:=hT q.1 (List.mem_map.2 ⟨q,hq,rfl⟩)
    unfold HT at this
    rw [(hhs q hq).1] at this
    exact this)
 | (j,κ) :: js,hs,env,ac,hsub,hpw,hsim,hg,hhs,h=>by
   have hj:(j,κ)∈is:=hsub _ (by simp)
   obtain ⟨o,ho,hgd,hdf,⟨d,hd⟩,hL0,hk⟩:=C.op _ hj
   have ho':ops[j]? = some o:=ho
   have hsub' : ∀ q∈js,q∈is:=fun q hq=>hsub q (by simp [hq])
   simp only [List.map_cons,List.pairwise_cons] at hpw
   unfold yA at h
   rw [ho'] at h
   simp only at h
   cases hr:eB N o.dst with
   | false=>simp [hr] at h
   | true=>
     simp only [hr,cond_true] at h
     have hdw : ∀ x,o.dst=some x→x∈aQ ops.toList:=fun x hx=>fE _ o (by have:=Array.mem_of_getElem? ho'; simpa using this) x hx
     have hL0':L0.getD j true=false:=hL0
     have keep : ∀ (v:Value) (q:Nat×TV),q∈hs→fY ops (ac.put o.dst v) q.1=q.2.enc∧(∃ p∈is,p.1=q.1)∧∀ p∈js,p.1≠q.1:=fun v q hq=>by
      obtain ⟨g1,⟨p,hp,hpq⟩,g3⟩:=hhs q hq
      refine ⟨?_,⟨p,hp,hpq⟩,fun p' hp'=>g3 p' (by simp [hp'])⟩
      rw [← g1]
      unfold fY
      cases hq':cJ ops q.1 with
      | none=>rfl
      | some d'=>
        have hne:d≠d':=fun e=>C.dst _ hj p hp (fun e'=>g3 (j,κ) (by simp) (by rw [← hpq,e'])) (by rw [hpq,hq']; simp [cJ,ho',hd,e])
        simp [hd,Act.put,Array.getD_eq_getD_getElem?,Array.getElem?_setIfInBounds_ne hne]
     have pl : ∀ (t:TV) (v:Value),(∀ w,S w→(execOp ac.eval o).run P w = .ok (.value v) w)→(t.isBad=false→v=t.enc)→fU P o=true→yA P N ops S LD Ts pan w0 fin js hs (gP env o.dst t)→
      nS P r ops Q S Ts w0 END L0 ((j,κ) :: js) (hs.map (·.1)) ac:=fun t v hrun hv hpu h=>by
      refine ⟨o,ho',fun _=>⟨fun e=>(by rw [hL0'] at e; cases e),fun _=>⟨v,hrun,?_⟩⟩,fun e=>(by rw [hpu] at e; cases e)⟩
      exact pY C hLD hG hp hend js hs _ _ hsub' hpw.2 (hsim.putD' hr hv) (hG _ _ _ hdw hg) (keep v) h
     cases hpu':gT P o with
     | true=>
       simp only [hpu',cond_true] at h
       obtain ⟨t,v,hrun,hv,h⟩:=iS hsim h
       exact pl t v (fun w _=>hrun w) hv (by simp [fU,hpu']) h
     | false=>
     simp only [hpu',cond_false] at h
     cases hlo:cL o with
     | true=>
       simp only [hlo,cond_true] at h
       split at h
       ·rename_i T x hop
        split at h
        ·rename_i q' hx
         obtain ⟨ad,rfl,h⟩:=cB h
         cases hf:fX P T with
         | false=>simp [hf,aA] at h
         | true=>
           simp only [hf,cond_true] at h
           obtain ⟨t,t1,t2,t3,hr',h⟩:=dI _ _ h
           refine pl t t.enc (fun w' hSw=>?_) (fun _=>rfl) (by simp [fU,hlo]) h
           have:=eT (P:=P) hf t1 t2 t3 (hLD _ _ hr' w' hSw)
           simp [execOp,hop,hsim.is hx rfl,TV.enc,Instr.loadAt,Instr.sureAddr,this]
        ·exact h.elim
       ·exact h.elim
     | false=>
       simp only [hlo,cond_false] at h
       have hpu:fU P o=false:=by simp [fU,hpu',hlo]
       obtain ⟨h1,h2⟩:=h
       refine ⟨o,ho',fun e=>(by rw [hpu] at e; cases e),fun _=>⟨fun e=>(by rw [hL0'] at e; cases e),fun _=>⟨fun w hm hS hT=>?_,fun t ht=>?_⟩⟩⟩
       ·refine pR hdf hsim (nZ _ (h1 w hm hS) fun q hq=>?_) (fun t v w' hv hk=>?_) fun c w' hc=>hp c ac w' hg hc
        ·simp only [List.mem_filter] at hq
         have:=hT q.1 (List.mem_map.2 ⟨q,hq.1,rfl⟩) hq.2
         unfold HT at this
         rw [(hhs q hq.1).1] at this
         exact this
        ·cases hok:okK κ t with
         | false=>simp [hok] at hk
         | true=>
           simp only [hok,cond_true] at hk
           have hv:=hv (qWI hok)
           exact ⟨v,rfl,⟨t,hok,hv⟩,hk.1,hk.2.1,by rw [hv]; exact hk.2.2⟩
       ·have hnext:=qAX _ _ t h2 ht
        refine pY C hLD hG hp hend js ((j,t) :: hs) _ _ hsub' hpw.2 (hsim.putD' hr fun _=>rfl) (hG _ _ _ hdw hg) ?_ hnext
        intro q hq
        rcases List.mem_cons.1 hq with rfl | hq
        ·refine ⟨?_,⟨_,hj,rfl⟩,fun p hp' e=>?_⟩
         ·have hlt:d<ac.tmps.size:=by rw [hsim.1]; rw [hd] at hr; simpa [eB] using hr
          simp [fY,cJ,ho',hd,Act.put,hlt]
         ·have:=hpw.1 p.1 (List.mem_map.2 ⟨p,hp',rfl⟩); omega
        ·exact keep _ q hq
def unl (L:Array Bool):List (Nat×Kd)→Nat
 | []=>0
 | q :: r=>(bif L.getD q.1 true then 0 else 1)+unl L r
theorem qGQ {L:Array Bool} {i:Nat} : ∀ (js:List (Nat×Kd)),(∀ q∈js,q.1≠i)→unl (L.setIfInBounds i true) js=unl L js
 | [],_=>rfl
 | q :: r,h=>by
   unfold unl
   rw [getD_set_ne true (fun e=>h q (by simp) e.symm),qGQ r fun p hp=>h p (by simp [hp])]
theorem qAM {L:Array Bool} {i:Nat} {κ:Kd} (hl:L.getD i true=false) : ∀ (js:List (Nat×Kd)),(js.map (·.1)).Pairwise (· < ·)→(i,κ)∈js→unl L js=unl (L.setIfInBounds i true) js+1
 | [],_,h=>by cases h
 | q :: r,hp,h=>by
   have hlt:i<L.size:=by
    rcases Nat.lt_or_ge i L.size with h | h
    ·exact h
    ·simp [Array.getD_eq_getD_getElem?,Array.getElem?_eq_none h] at hl
   simp only [List.map_cons,List.pairwise_cons] at hp
   unfold unl
   by_cases e:q.1=i
   ·have hne : ∀ p∈r,p.1≠i:=fun p hp'=>by have:=hp.1 p.1 (List.mem_map.2 ⟨p,hp',rfl⟩); omega
    rw [qGQ r hne,e,hl]
    simp [hlt]
    omega
   ·have hr:(i,κ)∈r:=by
     rcases List.mem_cons.1 h with h | h
     ·rw [← h] at e; exact absurd rfl e
     ·exact h
    rw [getD_set_ne true (fun e'=>e e'.symm),qAM hl r hp.2 hr]
    omega
theorem vF {L:Array Bool} : ∀ (js:List (Nat×Kd)),unl L js=0→∀ q∈js,L.getD q.1 true=true
 | [],_,q,h=>by cases h
 | p :: r,hz,q,h=>by
   unfold unl at hz
   have h1:L.getD p.1 true=true:=by cases hb:L.getD p.1 true with | true=>rfl | false=>rw [hb] at hz; simp at hz
   rcases List.mem_cons.1 h with rfl | h
   ·exact h1
   ·exact vF r (by rw [h1] at hz; simpa using hz) q h
theorem zY {L:Array Bool} : ∀ (js:List (Nat×Kd)),unl L js≠0→∃ q∈js,L.getD q.1 true=false
 | [],h=>absurd rfl h
 | p :: r,h=>by
   cases hb:L.getD p.1 true with
   | false=>exact ⟨p,by simp,hb⟩
   | true=>
     unfold unl at h
     rw [hb] at h
     obtain ⟨q,hq,e⟩:=zY r (by simpa using h)
     exact ⟨q,by simp [hq],e⟩
theorem qKQ {L:Array Bool} {js:List (Nat×Kd)} : ∀ (n:Nat) (q:Nat×Kd),q.1=n→q∈js→L.getD q.1 true=false→∃ q∈js,L.getD q.1 true=false∧∀ p∈js,p.1<q.1→L.getD p.1 true=true:=by
 intro n
 induction n using Nat.strongRecOn with
 | _ n ih=>
   intro q e hq hl
   by_cases h : ∀ p∈js,p.1<q.1→L.getD p.1 true=true
   ·exact ⟨q,hq,hl,h⟩
   ·have h' : ∃ p∈js,p.1<q.1∧L.getD p.1 true=false:=by
     false_or_by_contra
     rename_i hc
     refine h fun p hp hlt=>?_
     cases hb:L.getD p.1 true with
     | true=>rfl
     | false=>exact (hc ⟨p,hp,hlt,hb⟩).elim
    obtain ⟨p,hp,hlt,hl'⟩:=h'
    exact ih p.1 (by omega) p rfl hp hl'
theorem kD (L:Array Bool) : ∀ is:List (Nat×Kd),(dY L is).size=L.size
 | []=>rfl
 | q :: r=>by unfold dY; rw [kD]; simp
theorem mB : ∀ (is:List (Nat×Kd)) (L:Array Bool) (k:Nat),k<L.size→(dY L is).getD k true=if ∃ q∈is,q.1=k then true else L.getD k true
 | [],L,k,_=>by simp [dY]
 | q :: r,L,k,hk=>by
   unfold dY
   rw [mB r _ k (by simpa using hk)]
   by_cases h : ∃ p∈r,p.1=k
   ·have : ∃ p∈q :: r,p.1=k:=let ⟨p,hp,e⟩:=h; ⟨p,by simp [hp],e⟩
    rw [if_pos h,if_pos this]
   ·rw [if_neg h]
    by_cases e:q.1=k
    ·rw [if_pos ⟨q,by simp,e⟩,e]
     simp [hk]
    ·rw [if_neg (by
      rintro ⟨p,hp,e'⟩
      rcases List.mem_cons.1 hp with rfl | hp
      ·exact e e'
      ·exact h ⟨p,hp,e'⟩),getD_set_ne true e]
theorem qBB {L:Array Bool} {k:Nat} (h:L.getD k false=true):k<L.size∧L.getD k true=true:=by
 rcases Nat.lt_or_ge k L.size with h' | h'
 ·exact ⟨h',by simpa [h'] using h⟩
 ·simp [Array.getD_eq_getD_getElem?,Array.getElem?_eq_none h'] at h
theorem qBA {L:Array Bool} {k:Nat} (h:L.getD k true=true) (hk:k<L.size):L.getD k false=true:=by simpa [hk] using h
theorem oN {L0:Array Bool} {is:List (Nat×Kd)} (C:oX P ops L0 is) (hsel : ∀ (j:Nat) (o:Oper) cs b,ops[j]? = some o→o.op≠.select cs b) (hL0:L0.size=ops.size) (hrng:tJ N ops is=true)
 (hQ : ∀ c (a:Act) d v w,(∀ x,d=some x→x∈aQ ops.toList)→(Q (.panic c) (a.put d v) w↔Q (.panic c) a w)) (hst : ∀ i v w1 w2,Mod NoB w1 w2→Ts i v w1→Ts i v w2) {f':Nat} {END:Act→World→Prop}
 (hend : ∀ a w,END a w→kS P ops r Q S f' (dY L0 is) a w) :
 ∀ (m:Nat) (L:Array Bool) (a:Act) (w:World),a.tmps.size=N→unl L is=m→L.size=ops.size→(∀ k,(∀ q∈is,q.1≠k)→L.getD k true=L0.getD k true)→
   (∀ q∈is,L.getD q.1 true=true→∀ o,ops[q.1]? = some o→∀ p∈is,cK o p.1=true→L.getD p.1 true=true)→Mod NoB w0 w→S w→
   (∀ q∈is,L.getD q.1 true=true→(∀ o,ops[q.1]? = some o→fU P o=false)→HT ops Ts q.1 a w)→nS P r ops Q S Ts w0 END L is [] a→kS P ops r Q S (m+f') L a w
 | 0,L,a,w,hN,hu,hsz,hk,hdc,hm,hS,hT,ht=>by
   have hall:=vF is hu
   have hL:L=dY L0 is:=by
    apply Array.ext
    ·rw [kD]; omega
    ·intro k h1 h2
     have hk0:k<L0.size:=by omega
     have g1:L.getD k true=L[k]:=by simp [h1]
     have g2:(dY L0 is).getD k true=(dY L0 is)[k]:=by simp [h2]
     rw [← g1,← g2,mB is L0 k hk0]
     by_cases h : ∃ q∈is,q.1=k
     ·rw [if_pos h]
      obtain ⟨q,hq,rfl⟩:=h
      exact hall q hq
     ·rw [if_neg h]
      exact hk k fun q hq e=>h ⟨q,hq,e⟩
   rw [Nat.zero_add,hL]
   exact hend a w (qF is [] a hall ht w hm hS (by simp) fun q hq hp=>hT q hq (hall q hq) hp)
 | m+1,L,a,w,hN,hu,hsz,hk,hdc,hm,hS,hT,ht=>by
   have hne:unl L is≠0:=by omega
   have hlist : ∀ e:Nat,L0.getD e false=true→L.getD e false=true:=fun e he=>by
    obtain ⟨h1,h2⟩:=qBB he
    refine qBA ?_ (by omega)
    rw [hk e fun q hq e'=>?_]
    ·exact h2
    ·obtain ⟨_,_,_,_,_,h0,_⟩:=C.op q hq
     rw [e'] at h0; rw [h2] at h0; cases h0
   rw [Nat.add_right_comm]
   refine ⟨fun hempty=>?_,fun i hi=>?_⟩
   ·obtain ⟨q0,hq0,hl0⟩:=zY is hne
    obtain ⟨q,hq,hl,hmin⟩:=qKQ _ q0 rfl hq0 hl0
    obtain ⟨o,ho,_⟩:=C.op q hq
    have:q.1∈Region.ready .any ops L:=mem_ready.2 ⟨hl,o,ho,fun e he hb=>by
     rcases C.from_ q hq o ho e he hb with h | ⟨p,hp,e1,e2⟩
     ·exact hlist _ h
     ·rw [← e1]
      have h1:=hmin p hp e2
      obtain ⟨op,hop,_⟩:=C.op p hp
      exact qBA h1 (by have:=(Array.getElem?_eq_some_iff.1 hop).1; omega)⟩
    rw [hempty] at this
    cases this
   ·obtain ⟨hun,o,ho,hall⟩:=mem_ready.1 hi
    have hil:i<ops.size:=(Array.getElem?_eq_some_iff.1 ho).1
    have hdepL : ∀ p,cK o p=true→L.getD p true=true:=fun p hp=>by
     obtain ⟨e,he,hb,rfl⟩:=rH.1 hp
     exact (qBB (hall e he hb)).2
    have hin : ∃ κ,(i,κ)∈is:=by
     rcases C.bar i hil with h | ⟨q,hq,e⟩ | ⟨o',ho',h⟩
     ·by_cases hmem : ∃ q∈is,q.1=i
      ·obtain ⟨q,hq,rfl⟩:=hmem; exact ⟨q.2,hq⟩
      ·have:=hk i fun q hq e=>hmem ⟨q,hq,e⟩
       rw [h] at this; rw [hun] at this; cases this
     ·exact ⟨q.2,by rw [← e]; exact hq⟩
     ·rw [ho] at ho'; cases ho'
      refine absurd ?_ hne
      have h:=h.resolve_left fun ⟨e,h1,h2,h3⟩=>by
       have g1:=hdepL e h1
       have g2:=hk e h3
       rw [h2] at g2; rw [g1] at g2; cases g2
      have : ∀ q∈is,L.getD q.1 true=true:=fun q hq=>by
       rcases h q hq with h | ⟨p,hp,h1,h2⟩
       ·exact hdepL _ h
       ·obtain ⟨x,hx,_⟩:=C.op p hp
        exact hdc p hp (hdepL _ h1) x hx q hq (h2 x hx)
      clear hk hdc hT ht
      revert this
      generalize is=js
      intro this
      induction js with
      | nil=>rfl
      | cons q r ih=>unfold unl; rw [this q (by simp),ih fun p hp=>this p (by simp [hp])]; rfl
    obtain ⟨κ,hin⟩:=hin
    obtain ⟨o',ho',hg,hdf,_,_,_⟩:=C.op _ hin
    have ho'':ops[i]? = some o':=ho'
    rw [ho] at ho''; cases ho''
    have hdep : ∀ p∈is,cK o p.1=true→L.getD p.1 true=true:=fun p _ h=>hdepL _ h
    have hlt:i<L.size:=by omega
    have hset:(L.setIfInBounds i true).getD i true=true:=by simp [hlt]
    have hunl:unl (L.setIfInBounds i true) is=m:=by have:=qAM hun is C.inc hin; omega
    have hk' : ∀ k,(∀ q∈is,q.1≠k)→(L.setIfInBounds i true).getD k true=L0.getD k true:=fun k h=>by
     rw [getD_set_ne true (fun e=>h _ hin e)]; exact hk k h
    have mono : ∀ k,L.getD k true=true→(L.setIfInBounds i true).getD k true=true:=fun k h=>by
     by_cases e:i=k
     ·subst e; exact hset
     ·rw [getD_set_ne true e]; exact h
    have hdc' : ∀ q∈is,(L.setIfInBounds i true).getD q.1 true=true→∀ o,ops[q.1]? = some o→∀ p∈is,cK o p.1=true→(L.setIfInBounds i true).getD p.1 true=true:=fun q hq hl x hx p hp hb=>by
     by_cases e:q.1=i
     ·rw [e,ho] at hx; cases hx
      exact mono _ (hdepL _ hb)
     ·rw [getD_set_ne true (fun e'=>e e'.symm)] at hl
      exact mono _ (hdc q hq hl x hx p hp hb)
    have hslot : ∀ (v:Value) (q:Nat×Kd),q∈is→q.1≠i→fY ops (a.put o.dst v) q.1=fY ops a q.1:=fun v q hq hne=>by
     unfold fY
     cases hd:cJ ops q.1 with
     | none=>rfl
     | some d=>
       cases hod:o.dst with
       | none=>rfl
       | some d'=>
         have:d'≠d:=fun e=>C.dst q hq _ hin (fun e'=>hne e'.symm) (by show cJ ops i=cJ ops q.1; rw [hd]; simp [cJ,ho,hod,e])
         simp [Act.put,Array.getD_eq_getD_getElem?,Array.getElem?_setIfInBounds_ne this]
    have heff:eff P ops i = !fU P o:=by simp [eff,ho,fU,Bool.not_or]
    unfold wOp wpOpIn
    simp only [ho]
    rw [if_pos (by unfold Region.wanted; rw [hg])]
    cases hpu:fU P o with
    | true=>
      obtain ⟨v,hv⟩:=nH C hsel ho hpu hin hun hdep is [] a (fun _ h=>h) hin (Rel.refl _ _ _) ht
      refine gU hdf (hv w hS) ⟨⟨fun e=>(by rw [heff,hpu] at e; cases e),fun _=>rfl⟩,?_⟩
      refine oN C hsel hL0 hrng hQ hst hend m _ _ w (by rw [iY]; exact hN) hunl (by simpa using hsz) hk' hdc' hm hS (fun q hq hl hp=>?_) (iQ C hsel hS hQ ho hin hun hdep (.inl ⟨hpu,hv⟩) is [] a (fun _ h=>h) C.inc hin (by simp) (Rel.refl _ _ _) ht)
      have hqi:q.1≠i:=fun e=>by have:=hp o (by rw [e]; exact ho); rw [hpu] at this; cases this
      rw [getD_set_ne true (fun e=>hqi e.symm)] at hl
      unfold HT
      rw [hslot v q hq hqi]
      exact hT q hq hl hp
    | false=>
      refine Oper.wpIn_mono ?_ (pQ C hsel hQ ho hpu hin hun hdep hm hS hT is [] a (fun _ h=>h) hin (by simp) (Rel.refl _ _ _) (fun _ _ h=>h) ht)
      rintro a' w' ⟨v,rfl,htv,hm',hS',hTv⟩
      refine ⟨⟨fun _ _=>hS',fun e=>(by rw [heff,hpu] at e; cases e)⟩,?_⟩
      refine oN C hsel hL0 hrng hQ hst hend m _ _ w' (by rw [iY]; exact hN) hunl (by simpa using hsz) hk' hdc' (hm.trans hm' (fun _ _ h=>h) fun _ _ h=>h) hS' (fun q hq hl hp=>?_) (iQ C hsel hS hQ ho hin hun hdep (.inr ⟨hpu,htv⟩) is [] a (fun _ h=>h) C.inc hin (by simp) (Rel.refl _ _ _) ht)
      by_cases hqi:q.1=i
      ·unfold HT
       rw [hqi]
       obtain ⟨x,hx,_,_,⟨d,hd⟩,_⟩:=C.op _ hin
       have hx':ops[i]? = some x:=hx
       rw [ho] at hx'; cases hx'
       have hd':cJ ops i=some d:=by simp [cJ,ho,hd]
       have:=List.all_eq_true.1 hrng _ hin
       simp only [hd'] at this
       have hlt':d<a.tmps.size:=by rw [hN]; simpa using this
       have e2:fY ops (a.put o.dst v) i=v:=by simp [fY,hd',hd,Act.put,hlt']
       rw [e2]
       exact hTv
      ·rw [getD_set_ne true (fun e=>hqi e.symm)] at hl
       unfold HT
       rw [hslot v q hq hqi]
       exact hst _ _ _ _ hm' (hT q hq hl hp)
theorem zV {L:Array Bool} : ∀ (js:List (Nat×Kd)),(∀ q∈js,L.getD q.1 true=false)→unl L js=js.length
 | [],_=>rfl
 | q :: r,h=>by unfold unl; rw [h q (by simp),zV r fun p hp=>h p (by simp [hp])]; simp; omega
end
end Go.Sh
end
