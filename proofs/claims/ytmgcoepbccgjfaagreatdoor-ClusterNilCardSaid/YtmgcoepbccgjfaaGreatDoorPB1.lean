/- The forms of the translated functions,their contracts and the plain laws behind them,put together by a program. -/
import Derived.Test.YtmgcoepbccgjfaaGreatDoorProg
import GoSem.ClaimGoes
import GoSem.ClaimJoined
import Derived.KernelRfl
set_option linter.unusedSimpArgs false
set_option linter.unusedVariables false
set_option maxRecDepth 1000000
set_option maxHeartbeats 8000000
section
namespace Go.Proofs.YtmgcoepbccgjfaaGreatDoor
open Go
theorem any_get {α:Type} {p:α->Bool} (a:Array α) (h:a.any p=false) (i:Nat):(a[i]?).any p=false:=by
 cases e:a[i]? with
 | none=>rfl
 | some x=>
   rw [Option.any_some]
   have hm:x∈a:=Array.mem_of_getElem? e
   rw [Array.any_eq_false] at h
   obtain ⟨j,hj,rfl⟩:=Array.mem_iff_getElem.1 hm
   simpa using h j hj
theorem goes_f {P:Program} (h:P.funcs.any Func.goes=false) (f:FuncId):P.goes f=false:=by
 unfold Program.goes
 rw [h,Bool.and_false,Bool.or_false]
 have key : ∀ g,(P.funcs[g]?).any Func.goes=false:=λg=>any_get _ h g
 first
  | (rw [List.any_eq_false]; intro g _; rw [key g]; simp)
  | (rw [Array.any_eq_false]; intro g _; rw [key]; simp)
theorem opt_any {α:Type} {p:α->Bool} (hp : ∀ x,p x=false) (o:Option α):o.any p=false:=by
 cases o with
 | none=>rfl
 | some x=>exact hp x
theorem goesBy_none {P:Program} (h:P.funcs.any Func.goes=false) (c:OpenClaim):c.goesBy P=false:=by
 unfold OpenClaim.goesBy Program.goesAt Program.goesFrom
 rw [opt_any (goes_f h),Bool.false_or]
 cases c.start <;> first | rfl | (rw [List.any_eq_false]; intro g _; rw [goes_f h]; simp)
theorem none_goes:Tryz.prog.funcs.any Func.goes=false:=by kernel_rfl
theorem goesBy_prog (c:OpenClaim):false=c.goesBy Tryz.prog:=(goesBy_none none_goes c).symm
end Go.Proofs.YtmgcoepbccgjfaaGreatDoor
end
section
namespace Go.X
open Go
noncomputable def closT (n:Nat):List (FuncId×List FuncId)->List FuncId->List FuncId->Option (List FuncId):=
 Nat.rec (motive:=λ_=>List (FuncId×List FuncId)->List FuncId->List FuncId->Option (List FuncId)) (λ_ _ seen=>some seen.reverse)
  (λ_ ih T todo seen=>match todo with
   | []=>some seen.reverse
   | f :: r=>match seen.contains f with
     | true=>ih T r seen
     | false=>match T with
       | []=>none
       | p :: T=>match Nat.beq p.1 f with
         | true=>ih T (p.2++r) (f :: seen)
         | false=>none) n
def leadsB (P:Program) (T:List (FuncId×List FuncId)):Bool:=T.all λp=>(P.funcs[p.1]?).elim [] P.leadsTo==p.2
theorem leadsB_app {P:Program} {S T:List (FuncId×List FuncId)} (h1:leadsB P S=true) (h2:leadsB P T=true):leadsB P (S++T)=true:=by
 unfold leadsB at *
 rw [List.all_append,h1,h2]; rfl
theorem via_tab {P:Program} : ∀ (n:Nat) (T:List (FuncId×List FuncId)) (todo seen:List FuncId) {L:List FuncId},leadsB P T=true->closT n T todo seen=some L->P.closureVia n todo seen=L
 | 0,T,todo,seen,L,hT,h=>by
   have h:some seen.reverse=some L:=h
   cases h
   simp [Program.closureVia]
 | n+1,T,[],seen,L,hT,h=>by
   have h:some seen.reverse=some L:=h
   cases h
   simp [Program.closureVia]
 | n+1,T,f :: r,seen,L,hT,h=>by
   have h:(match seen.contains f with
    | true=>closT n T r seen
    | false=>match (generalizing:=false) T with
      | []=>none
      | p :: T=>match Nat.beq p.1 f with
        | true=>closT n T (p.2++r) (f :: seen)
        | false=>none)=some L:=h
   unfold Program.closureVia
   cases hs:seen.contains f with
   | true=>
     rw [hs] at h
     rw [if_pos rfl]
     exact via_tab n T r seen hT h
   | false=>
     rw [hs] at h
     rw [if_neg (by simp)]
     cases T with
     | nil=>cases h
     | cons p T=>
       simp only at h
       cases hb:Nat.beq p.1 f with
       | false=>rw [hb] at h; cases h
       | true=>
         rw [hb] at h
         simp only at h
         have e:=Nat.eq_of_beq_eq_true hb
         unfold leadsB at hT
         rw [List.all_cons,Bool.and_eq_true] at hT
         have h1:=eq_of_beq hT.1
         rw [<-e,h1]
         rw [<-e] at h
         exact via_tab n T _ _ hT.2 h
end Go.X
end
