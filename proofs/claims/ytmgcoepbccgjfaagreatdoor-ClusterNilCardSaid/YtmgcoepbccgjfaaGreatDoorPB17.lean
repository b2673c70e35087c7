/- The forms of the translated functions,their contracts and the plain laws behind them,put together by a program. -/
import Derived.Test.YtmgcoepbccgjfaaGreatDoorPB16
set_option linter.unusedSimpArgs false
set_option linter.unusedVariables false
set_option maxRecDepth 1000000
set_option maxHeartbeats 8000000
section
namespace Go.X
open Go Go.Sh
inductive Out where
 | nrm (e:XE) (h:Hp)
 | ret (e:XE) (h:Hp)
 | ext (id:Nat) (e:XE) (h:Hp)
noncomputable def xloop (f:XE->Hp->Option Out):Nat->XE->Hp->Option Out:=Nat.rec (motive:=λ_=>XE->Hp->Option Out) (λ_ _=>none) (λ_ ih e h=>onO (f e h) λo=>match o with
 | .nrm e h=>ih e h
 | .ret e h=>some (.ret e h)
 | .ext i e h=>some (.ext i e h))
noncomputable def xrf (P:Program) (C:CallsX) (N:Nat) (ps:Array Tmp) (x y:Code) (e:XE) (h:Hp) (v:XV):Option Out:=match v with
 | .fn f a c=>br (enters P f) (onO (C.c f (app a (app [.yld h.n] c)) ⟨h.t.set (some (.loop true N e ps.toList x y)) h.n,Nat.succ h.n⟩) λq=>
    br (Nat.ble (Nat.succ h.n) q.2.n) (onO (q.2.t.get h.n) λo=>match o with
     | .loop st _ _ _ _ _=>br st (some (.nrm e ⟨q.2.t.set none h.n,q.2.n⟩)) none
     | _=>none) none) none
 | _=>none
noncomputable def xcode (P:Program) (D:FuncId->Bool) (C:CallsX) (N fuel:Nat) (top:Bool) (c:Code):XE->Hp->Option Out:=
 Code.rec (motive:=λ_=>XE->Hp->Option Out)
  (λe h=>some (.nrm e h))
  (λ_ ops draw e h=>br draw (onO (xdraw P C N ops.toList e h) λq=>some (.nrm q.1 q.2)) (onO (xops P D C N ops.toList ops.toList e h) λq=>some (.nrm q.1 q.2)))
  (λ_ _ iha ihb e h=>onO (iha e h) λo=>match o with
   | .nrm e h=>ihb e h
   | .ret e h=>some (.ret e h)
   | .ext i e h=>some (.ext i e h))
  (λc _ _ iht ihe e h=>onO (evX e c) λx=>match x with
   | .bool b=>br b (iht e h) (ihe e h)
   | _=>none)
  (λid _ ih e h=>onO (ih e h) λo=>match o with
   | .nrm e h=>some (.nrm e h)
   | .ret e h=>some (.ret e h)
   | .ext i e h=>br (Nat.beq i id) (some (.nrm e h)) (some (.ext i e h)))
  (λ_ ih e h=>xloop ih fuel e h)
  (λg ps x y _ _ e h=>br top (onO (evX e g) λv=>xrf P C N ps x y e h v) none)
  (λid e h=>some (.ext id e h))
  (λ_ _ _ _=>none)
  (λ_ _ _=>none)
  (λ_ _ _=>none)
  (λe h=>some (.ret e h))
  (λ_ _ _=>none) c
noncomputable def bindX (xs:List XV):Nat->XE->XE:=List.rec (motive:=λ_=>Nat->XE->XE) (λ_ e=>e) (λx _ ih i e=>ih (Nat.succ i) (e.set (some x) i)) xs
noncomputable def resX (P:Program) (e:XE) (h:Hp) (l:List ResultVar):Option (List XV):=mapO (λr=>match r with
 | .tmp t=>e.get t
 | .cell a T=>onO (e.get a) λp=>xload P h T p) l
noncomputable def packX1 (l:List XV):XV:=match l with
 | []=>.tup []
 | x :: r=>match r with
   | []=>x
   | _ :: _=>.tup l
noncomputable def noDf (_:FuncId):Bool:=false
noncomputable def bindE (N:Nat) (ps:List Tmp):List XV->XE->Option XE:=List.rec (motive:=λ_=>List XV->XE->Option XE) (λ_ e=>some e) (λt _ ih xs e=>match xs with
 | []=>none
 | x :: r=>onO (putE N e (some t) x) λe=>ih r e) ps
noncomputable def loopAt (h:Hp) (L:Nat) (st:Bool):Option XO:=onO (h.t.get L) λo=>match o with
 | .loop st' N E ps x y=>br st' (br st (some (.loop st' N E ps x y)) none) (br st none (some (.loop st' N E ps x y)))
 | _=>none
noncomputable def turnO (o:XO):XO:=match o with
 | .loop st N E ps x y=>.loop (br st false true) N E ps x y
 | o=>o
noncomputable def xyield (P:Program) (C:CallsX) (fuel:Nat) (L:Nat) (xs:List XV) (h:Hp):Option (XV×Hp):=onO (loopAt h L true) λo=>match o with
 | .loop _ N E ps x y=>br (Nat.beq (len xs) (len ps)) (onO (bindE N ps xs E) λe=>onO (xcode P noDf C N fuel false x e h) λr=>match r with
   | .nrm e1 h1=>onO (loopAt h1 L true) λo1=>onO (xcode P noDf C N fuel false y e1 ⟨h1.t.set (some (turnO o1)) L,h1.n⟩) λr=>match r with
     | .nrm _ h2=>onO (loopAt h2 L false) λo2=>some (.bool true,⟨h2.t.set (some (turnO o2)) L,h2.n⟩)
     | _=>none
   | _=>none) none
 | _=>none
noncomputable def xbody (P:Program) (D:FuncId->Bool) (C:CallsX) (fuel:Nat) (fn:Func) (xs:List XV) (h:Hp):Option (XV×Hp):=match fn.body with
 | none=>none
 | some c=>br (Nat.ble (len xs) fn.ntmps) (onO (xcode P D C fn.ntmps fuel true c (bindX xs 0 .lf) h) λo=>match o with
   | .nrm e h'=>onO (resX P e h' fn.results.toList) λl=>some (packX1 l,h')
   | .ret e h'=>onO (resX P e h' fn.results.toList) λl=>some (packX1 l,h')
   | .ext _ _ _=>none) none
noncomputable def xcalls (P:Program) (D:FuncId->Bool) (nat:CallsX) (fuel:Nat) (d:Nat):CallsX:=
 Nat.rec (motive:=λ_=>CallsX) nat (λ_ ih=>⟨λf xs h=>match nat.c f xs h with
  | some r=>some r
  | none=>onO (P.funcs[f]?) λfn=>xbody P D ih fuel fn xs h,nat.e,nat.g,nat.q,λL xs h=>xyield P ih fuel L xs h,nat.x⟩) d
section
variable {P:Program} {G:World->Prop} {C:CallsX} {D:FuncId->Bool} {N fuel:Nat} {S0:Nat->Prop} {w0 w:World} {ρ:Lab} {h h':Hp} {a:Act} {env:XE}
def Mk0 (S0:Nat->Prop) (w0:World) (b:Nat):Prop:=¬ S0 b/\w0.heap[b]? = some (.deferred (some []))
def MkN (w0:World) (ρ:Lab) (h:Hp) (w:World) (b:Nat):Prop:=w0.heap.size<=b/\w.heap[b]? = some (.deferred (some []))/\¬ Loc ρ h.t.get b
def colOf (d:Deferred):Option Nat:=match d.target with
 | .collected b=>some b
 | _=>none
def marks (ds:List Deferred):List Nat:=ds.filterMap colOf
def DefOk (D:FuncId->Bool) (M:Nat->Prop) (ds:List Deferred):Prop:=(∀ d∈ds,DefCall D d\/∃ b,d.target = .collected b/\M b)/\(marks ds).Nodup
theorem DefOk.mono {M M':Nat->Prop} {ds:List Deferred} (h:DefOk D M ds) (hm : ∀ b,M b->M' b):DefOk D M' ds:=⟨λd hd=>by
 rcases h.1 d hd with h | ⟨b,h1,h2⟩
 ·exact .inl h
 ·exact .inr ⟨b,h1,hm b h2⟩,h.2⟩
theorem DefCall.col {d:Deferred} (h:DefCall D d):colOf d=none:=by
 obtain ⟨f,cap,h1,_⟩:=h
 simp [colOf,h1]
theorem marks_call {d:Deferred} (h:DefCall D d) (ds:List Deferred):marks (d :: ds)=marks ds:=by
 simp [marks,List.filterMap_cons,h.col]
theorem marks_col {d:Deferred} {b:Nat} (h:d.target = .collected b) (ds:List Deferred):marks (d :: ds)=b :: marks ds:=by
 simp [marks,List.filterMap_cons,colOf,h]
theorem DefOk.of_marks {M:Nat->Prop} {ds:List Deferred} (h:DefOk D M ds) {b:Nat} (hb:b∈marks ds):M b:=by
 obtain ⟨d,h1,h2⟩:=List.mem_filterMap.1 hb
 rcases h.1 d h1 with h3 | ⟨b',h3,h4⟩
 ·rw [h3.col] at h2; cases h2
 ·simp only [colOf,h3] at h2
  cases h2
  exact h4
theorem defIs {M:Nat->Prop} {r:Option Nat} (h : ∀ f,D f=true->r=none):DefIs D r (DefOk D M):=
 ⟨λd ds h1 h2=>by
  refine ⟨λe he=>?_,by rw [marks_call h1]; exact h2.2⟩
  rcases List.mem_cons.1 he with rfl | he
  ·exact .inl h1
  ·exact h2.1 e he,h⟩
theorem defOk_nil {M:Nat->Prop} : DefOk D M []:=⟨λd hd=>(by cases hd),List.nodup_nil⟩
def EndX (D:FuncId->Bool) (N:Nat) (M:Nat->Prop) (S0:Nat->Prop) (w0:World) (ρ:Lab) (n:Nat) (e:XE) (h:Hp) (a:Act) (w:World):Prop:=
 n<=h.n/\∃ ρ',Lab.up n ρ ρ'/\Fit N ρ' e a/\DefOk D (λb=>M b\/MkN w0 ρ' h w b) a.defers/\Inv S0 w0 ρ' h w
def QX (D:FuncId->Bool) (N:Nat) (M:Nat->Prop) (S0:Nat->Prop) (w0:World) (ρ:Lab) (n:Nat) (o:Out):Exit->Act->World->Prop
 | .normal,a,w=>∃ e h,o = .nrm e h/\EndX D N M S0 w0 ρ n e h a w
 | .ret,a,w=>∃ e h,o = .ret e h/\EndX D N M S0 w0 ρ n e h a w
 | .exit i,a,w=>∃ e h,o = .ext i e h/\EndX D N M S0 w0 ρ n e h a w
 | _,_,_=>False
def MkU (M:Nat->Prop) (w0:World) (ρ:Lab) (h:Hp) (w:World) (b:Nat):Prop:=M b\/MkN w0 ρ h w b
theorem mk_step {M:Nat->Prop} {ρ1:Lab} {h1:Hp} {w1:World} (hM : ∀ b,M b->Mk0 S0 w0 b) (hi:Inv S0 w0 ρ1 h1 w1) : ∀ b,MkU M w0 ρ1 h1 w1 b->Mk0 (Loc ρ1 h1.t.get) w1 b:=λb hb=>by
 rcases hb with hb | ⟨h2,h3,h4⟩
 ·obtain ⟨g1,g2⟩:=hM b hb
  have hlt:=lt_of_get g2
  refine ⟨λhl=>?_,(hi.mod.block b hlt g1).trans g2⟩
  rcases (InvG.of hi).loc_le hl with e | e
  ·exact g1 e
  ·omega
 ·exact ⟨h4,h3⟩
theorem inv_back {ρ1 ρ2:Lab} {h1 h2:Hp} {w1 w2:World} (hi:Inv S0 w0 ρ1 h1 w1) (hl:Lab.le ρ1 ρ2) (h:Inv (Loc ρ1 h1.t.get) w1 ρ2 h2 w2):Inv S0 w0 ρ2 h2 w2:=
 (((InvG.of hi).frame (λ_ _ e=>e) (InvG.of h) hl).sub λL o e=>by simp only [e]).to
theorem not_loc {ρ1 ρ2:Lab} {h1 h2:Hp} {w1 w2:World} {b:Nat} (h:Inv (Loc ρ1 h1.t.get) w1 ρ2 h2 w2) (hb : ¬ Loc ρ1 h1.t.get b) (hlt:b<w1.heap.size) : ¬ Loc ρ2 h2.t.get b:=λhl=>by
 rcases (InvG.of h).loc_le hl with e | e
 ·exact hb e
 ·omega
theorem mk_back {M:Nat->Prop} {ρ1 ρ2:Lab} {h1 h2:Hp} {w1 w2:World} (hi:Inv S0 w0 ρ1 h1 w1) (h:Inv (Loc ρ1 h1.t.get) w1 ρ2 h2 w2) : ∀ b,(MkU M w0 ρ1 h1 w1 b\/MkN w1 ρ2 h2 w2 b)->MkU M w0 ρ2 h2 w2 b:=λb hb=>by
 rcases hb with (hb | ⟨g1,g2,g3⟩) | ⟨g1,g2,g3⟩
 ·exact .inl hb
 ·have hlt:=lt_of_get g2
  exact .inr ⟨g1,(h.mod.block b hlt g3).trans g2,not_loc h g3 hlt⟩
 ·exact .inr ⟨Nat.le_trans hi.mod.size g1,g2,g3⟩
theorem EndX.back {M:Nat->Prop} {ρ1:Lab} {n:Nat} {h1:Hp} {w1:World} (hi:Inv S0 w0 ρ1 h1 w1) (hl:Lab.up n ρ ρ1) (hn:n<=h1.n) {e:XE} {h:Hp} {a:Act} {w:World}
 (hq:EndX D N (MkU M w0 ρ1 h1 w1) (Loc ρ1 h1.t.get) w1 ρ1 h1.n e h a w):EndX D N M S0 w0 ρ n e h a w:=by
 obtain ⟨h2,ρ2,h3,h4,h5,h6⟩:=hq
 exact ⟨Nat.le_trans hn h2,ρ2,Lab.up_trans hl hn h3,h4,h5.mono (mk_back hi h6),inv_back hi h3.1 h6⟩
theorem QX.back {M:Nat->Prop} {ρ1:Lab} {n:Nat} {o:Out} {h1:Hp} {w1:World} (hi:Inv S0 w0 ρ1 h1 w1) (hl:Lab.up n ρ ρ1) (hn:n<=h1.n) : ∀ {e:Exit} {a:Act} {w:World},QX D N (MkU M w0 ρ1 h1 w1) (Loc ρ1 h1.t.get) w1 ρ1 h1.n o e a w->QX D N M S0 w0 ρ n o e a w:=λ{e a w} hq=>by
 cases e <;> first
  | (obtain ⟨e,h,h1,h2⟩:=hq; exact ⟨e,h,h1,h2.back hi hl hn⟩)
  | exact hq.elim
theorem EndX.here {M:Nat->Prop} (hi:Inv S0 w0 ρ h w) (he:Fit N ρ env a) (hd:DefOk D M a.defers):EndX D N M S0 w0 ρ h.n env h a w:=⟨Nat.le_refl _,ρ,Lab.up_refl _ _,he,hd.mono λ_=>.inl,hi⟩
theorem put_mod' {w:World} {b:Nat} {o:Obj} (hb:b<w.heap.size):Mod (λx=>x=b) w (w.putObj b o)/\(w.putObj b o).heap[b]? = some o/\(w.putObj b o).heap.size=w.heap.size:=by
 have hu:=upd_set (o':=o) (w:=w) (o:=w.heap[b]) (b:=b) (by rw [Array.getElem?_eq_getElem hb])
 exact ⟨hu.mod,hu.get,hu.size⟩
theorem Inv.objPut (hi:Inv S0 w0 ρ h w) {L b s:Nat} {o:XO} {o':Option XO} {ob:Obj} (hL:h.t.get L=some o) (hρ:ρ L=some (b,s)) (ho : ∀ x,o'=some x->ObjOk ρ (w.putObj b ob) b s x):Inv S0 w0 ρ ⟨h.t.set o' L,h.n⟩ (w.putObj b ob):=by
 obtain ⟨b',s',h1,h2,h3⟩:=hi.dom L o hL
 rw [hρ] at h1; cases h1
 obtain ⟨m1,m2,m3⟩:=put_mod' (o:=ob) h2.lt
 refine ⟨hi.fresh,λL' x e=>?_,λL1 L2 o1 o2 b1 s1 s2 e1 e2 e3 e4=>?_,hi.mod.trans m1 (λ_ _ h=>h) λx hx h=>?_⟩
 ·rw [Tr.get_set] at e
  by_cases hLL:L'=L
  ·rw [if_pos hLL] at e
   subst hLL
   exact ⟨b,s,hρ,ho x e,h3⟩
  ·rw [if_neg hLL] at e
   obtain ⟨b',s',g1,g2,g3⟩:=hi.dom L' x e
   exact ⟨b',s',g1,g2.mod m1 λeb=>hLL (hi.inj L' L x o b s' s e hL (by rw [g1,eb]) hρ),g3⟩
 ·rw [Tr.get_set] at e1 e2
  have old : ∀ L1 o1 b1 s1,(if L1=L then o' else h.t.get L1)=some o1->ρ L1=some (b1,s1)->∃ o,h.t.get L1=some o:=λL1 o1 b1 s1 e _=>by
   by_cases hLL:L1=L
   ·subst hLL; exact ⟨o,hL⟩
   ·rw [if_neg hLL] at e; exact ⟨o1,e⟩
  obtain ⟨x1,g1⟩:=old _ _ _ _ e1 e3
  obtain ⟨x2,g2⟩:=old _ _ _ _ e2 e4
  exact hi.inj L1 L2 x1 x2 b1 s1 s2 g1 g2 e3 e4
 ·subst h
  rcases h3 with h3 | h3
  ·exact h3
  ·omega
theorem xrf_wp (hC:CallsOk P G C) {M:Nat->Prop} (hG:GOk G S0 w0) (hM : ∀ b,M b->Mk0 S0 w0 b) (hi:Inv S0 w0 ρ h w) (he:Fit N ρ env a) (hd:DefOk D M a.defers) {g:Operand} {ps:Array Tmp} {x y:Code} {v:XV} {o:Out}
 (h2:evX env g=some v) (hr:xrf P C N ps x y env h v=some o):(Code.rangeFunc g ps x y).wpIn (Fr none) 0 P (QX D N M S0 w0 ρ h.n o) a w:=by
 have hv:=evX_ok he.1 h2
 unfold xrf at hr
 cases v with
 | fn f b c=>
   obtain ⟨h3,hr⟩:=br_some hr
   obtain ⟨⟨yv,h4⟩,h5,hr⟩:=onO_some hr
   obtain ⟨h6,hr⟩:=br_some hr
   obtain ⟨ob,h7,hr⟩:=onO_some hr
   simp only at hr h6 h7
   have h6:=Nat.le_of_ble_eq_true h6
   cases ob with
   | loop st N1 E1 ps1 x1 y1=>
     simp only at hr
     obtain ⟨hst,hr⟩:=br_some hr
     subst hst
     cases hr
     simp only [XR] at hv
     obtain ⟨us,vs,g1,g2,hge⟩:=hv
     refine wpIn_rangeFunc λfn hfn=>?_
     obtain ⟨W0,hW0⟩ : ∃ W0,W0=w.alloc (.deferred (some [])):=⟨_,rfl⟩
     have s0:W0.heap.size=w.heap.size+1:=by rw [hW0]; exact World.size_alloc _ _
     obtain ⟨W1,hW1⟩ : ∃ W1,W1=W0.alloc (.loop {state:=.ready,pending:=none,fn:=fn,tmps:=a.tmps,params:=ps,assign:=x,body:=y,defers:=w.heap.size}):=⟨_,rfl⟩
     have hi0:Inv S0 w0 ρ h W0:=hi.no (by rw [hW0]; exact alloc_mod _ _)
     have hn1:Mod NoB W0 W1:=by rw [hW1]; exact alloc_mod _ _
     have hl1:Lab.le ρ (λL=>if L=h.n then some (w.heap.size+1,0) else ρ L):=le_new hi _ _
     obtain ⟨ρ1,hρ1⟩ : ∃ ρ1:Lab,ρ1=(λL=>if L=h.n then some (w.heap.size+1,0) else ρ L):=⟨_,rfl⟩
     obtain ⟨h1,hh1⟩ : ∃ h1:Hp,h1=⟨h.t.set (some (.loop true N env ps.toList x y)) h.n,h.n+1⟩:=⟨_,rfl⟩
     have hi1:Inv S0 w0 ρ1 h1 W1:=by
      rw [hρ1,hh1]
      refine (hi0.new (o:=.loop true N env ps.toList x y) (b:=w.heap.size+1) (s:=0) s0.symm hn1 ⟨a.tmps,fn,w.heap.size,λt z hz=>?_,he.2,?_⟩).1
      ·obtain ⟨u,q1,q2⟩:=he.1 t z hz
       exact ⟨u,q1,XR.le hl1 _ _ q2⟩
      ·rw [hW1,<-s0]
       exact World.alloc_heap_new _ _
     have hl1':Lab.le ρ ρ1:=by rw [hρ1]; exact hl1
     have hh1':h1=⟨h.t.set (some (.loop true N env ps.toList x y)) h.n,Nat.succ h.n⟩:=hh1
     have hup:Lab.up h.n ρ ρ1:=by rw [hρ1]; exact Lab.up_new hl1
     have hL1:ρ1 h.n=some (w.heap.size+1,0):=by rw [hρ1]; simp
     have mk1:W1.heap[w.heap.size]? = some (.deferred (some [])):=by
      have e:W0.heap[w.heap.size]? = some (.deferred (some [])):=by rw [hW0]; exact World.alloc_heap_new _ _
      exact (hn1.block _ (by omega) λq=>q).trans e
     have nl1 : ¬ Loc ρ1 h1.t.get w.heap.size:=λ⟨L,z,s,q1,q2⟩=>by
      rw [hh1] at q1
      simp only [Tr.get_set] at q1
      rw [hρ1] at q2
      by_cases hL:L=h.n
      ·simp only [hL,↓reduceIte,Option.some.injEq,Prod.mk.injEq] at q2
       omega
      ·rw [if_neg hL] at q1
       simp only [hL,↓reduceIte] at q2
       obtain ⟨b',s',q3,q4,_⟩:=hi.dom L z q1
       rw [q2] at q3; cases q3
       have:=q4.lt
       omega
     refine ⟨w.heap.size+1,[mkD w.heap.size],W1,{target:=.fn (.func f) vs.toArray,args:=us.toArray++#[.func (.yield (w.heap.size+1)) #[] #[]]},W1,f,us.toArray++#[.func (.yield (w.heap.size+1)) #[] #[]]++vs.toArray,W1,
      by rw [hW1,hW0]; exact run_enterLoop_outer _ _ _ _ _,?_,λ_ _=>trivial,?_,λe=>by simp [Fence.wide] at e,?_⟩
     ·simp [resolve,hge,Deferred.ofValue]
      rfl
     ·simp only [invoke]
      exact enters_run h3 _
     ·have hargs:XRs ρ1 (app b (app [.yld h.n] c)) (us++([.func (.yield (w.heap.size+1)) #[] #[]]++vs)):=
       XRs_app (XRs.le hl1' _ _ g1) (XRs_app (xs:=[.yld h.n]) (us:=[.func (.yield (w.heap.size+1)) #[] #[]]) ⟨_,[],rfl,by simp only [XR]; exact ⟨_,_,hL1,rfl⟩,rfl⟩ (XRs.le hl1' _ _ g2))
      rw [<-hh1'] at h5
      have hcall:=hC.c _ _ _ _ _ h5 (Loc ρ1 h1.t.get) W1 ρ1 W1 _ (InvG.gok hG (InvG.of hi1)) (InvG.of hi1).loc.to hargs
      have e:(us++([Value.func (.yield (w.heap.size+1)) #[] #[]]++vs)).toArray=us.toArray++#[Value.func (.yield (w.heap.size+1)) #[] #[]]++vs.toArray:=by apply Array.ext'; simp
      rw [e] at hcall
      refine callsIn_fr.2 (Calls.mono hcall λe w2 hq=>?_)
      obtain ⟨u,ρ2,rfl,q1,_,q3⟩:=hq
      have hL2:ρ2 h.n=some (w.heap.size+1,0):=q1.1 _ _ hL1
      have hib:=inv_back hi1 q1.1 q3
      obtain ⟨b',s',r1,⟨tm,fn',d,r2,r3,r4⟩,_⟩:=q3.dom _ _ h7
      rw [hL2] at r1; cases r1
      have r4:w2.heap[w.heap.size+1]? = some (.loop {state:=.ready,pending:=none,fn:=fn',tmps:=tm,params:=ps1.toArray,assign:=x1,body:=y1,defers:=d}):=r4
      have lt1:w.heap.size<W1.heap.size:=lt_of_get mk1
      have mk2:w2.heap[w.heap.size]? = some (.deferred (some [])):=(q3.mod.block _ lt1 nl1).trans mk1
      have nl2:=not_loc q3 nl1 lt1
      refine ⟨none,_,run_endLoop r4 (by simp),_,_,rfl,Nat.le_trans (Nat.le_succ _) h6,ρ2,Lab.up_trans hup (Nat.le_succ _) (by rw [hh1] at q1; exact q1),⟨λt z hz=>?_,he.2⟩,?_,hib.objPut h7 hL2 (λ_ e=>by cases e)⟩
      ·obtain ⟨u,z1,z2⟩:=he.1 t z hz
       exact ⟨u,z1,XR.le (Lab.le_trans hup.1 q1.1) _ _ z2⟩
      ·refine ⟨λd hd'=>?_,?_⟩
       rotate_left
       ·show (marks (mkD w.heap.size :: a.defers)).Nodup
        rw [marks_col (b:=w.heap.size) rfl,List.nodup_cons]
        refine ⟨λhb=>?_,hd.2⟩
        have:=lt_of_get (hM _ (hd.of_marks hb)).2
        have:=hi.mod.size
        omega
       rcases List.mem_cons.1 hd' with rfl | hd'
       ·refine .inr ⟨w.heap.size,rfl,.inr ⟨hi.mod.size,?_,λ⟨L,z,s,z1,z2⟩=>?_⟩⟩
        ·refine ((put_mod' (lt_of_get r4)).1.block _ (lt_of_get mk2) ?_).trans mk2
         intro e
         simp at e
        ·simp only [Tr.get_set] at z1
         split at z1
         ·cases z1
         ·exact nl2 ⟨L,z,s,z1,z2⟩
       ·rcases hd.1 d hd' with z | ⟨b,z1,z2⟩
        ·exact .inl z
        ·exact .inr ⟨b,z1,.inl z2⟩
   | _=>cases hr
 | _=>cases hr
theorem xcode_wp (hm:P.follows .mixedOrders=true) (hC:CallsOk P G C) {top:Bool} {r:Option Nat} (htop:top=true->r=none) (hDr : ∀ f,D f=true->r=none) : ∀ (c:Code) {S0:Nat->Prop} {w0:World} {M:Nat->Prop} {ρ:Lab} {h:Hp} {w:World} {env:XE} {a:Act} {o:Out},GOk G S0 w0->(∀ b,M b->Mk0 S0 w0 b)->Inv S0 w0 ρ h w->Fit N ρ env a->DefOk D M a.defers->xcode P D C N fuel top c env h=some o->
 c.wpIn (Fr r) 0 P (QX D N M S0 w0 ρ h.n o) a w:=by
 intro c
 induction c with
 | skip=>
   intro S0 w0 M ρ h w env a o hG hM hi he hd hr
   cases hr
   exact wpIn_skip ⟨_,_,rfl,EndX.here hi he hd⟩
 | ret=>
   intro S0 w0 M ρ h w env a o hG hM hi he hd hr
   cases hr
   exact wpIn_ret ⟨_,_,rfl,EndX.here hi he hd⟩
 | exit id=>
   intro S0 w0 M ρ h w env a o hG hM hi he hd hr
   cases hr
   exact wpIn_exit ⟨_,_,rfl,EndX.here hi he hd⟩
 | region id ops draw=>
   intro S0 w0 M ρ h w env a o hG hM hi he hd hr
   have hr:br draw (onO (xdraw P C N ops.toList env h) λq=>some (.nrm q.1 q.2)) (onO (xops P D C N ops.toList ops.toList env h) λq=>some (.nrm q.1 q.2))=some o:=hr
   cases draw with
   | true=>
     rw [br_t] at hr
     obtain ⟨⟨e,h2⟩,h1,hr⟩:=onO_some hr
     cases hr
     have:=xdraw_wp (P:=P) (W:=DefOk D M) (r:=r) (id:=id) (Q:=QX D N M S0 w0 ρ h.n (.nrm e h2)) hm hC hG hi he hd h1 λa' w' ρ' g1 g2 g3 g4=>⟨_,_,rfl,xdraw_mono h1,ρ',g1,g2,g3.mono λ_=>.inl,g4⟩
     simpa using this
   | false=>
     rw [br_f] at hr
     obtain ⟨⟨e,h2⟩,h1,hr⟩:=onO_some hr
     cases hr
     have:=wp_region_list' (P:=P) (r:=r) (id:=id) (ops:=ops.toList) (Q:=QX D N M S0 w0 ρ h.n (.nrm e h2)) (a:=a) (w:=w)
      (xops_wp (W:=DefOk D M) (defIs hDr) hC hG ops.toList hi he hd h1 λa' w' ρ' g1 g2 g3 g4=>⟨_,_,rfl,xops_mono _ h1,ρ',g1,g2,g3.mono λ_=>.inl,g4⟩)
     simpa using this
 | seq x y ihx ihy=>
   intro S0 w0 M ρ h w env a o hG hM hi he hd hr
   have hr:(onO (xcode P D C N fuel top x env h) λo=>match o with
    | .nrm e h=>xcode P D C N fuel top y e h
    | .ret e h=>some (.ret e h)
    | .ext i e h=>some (.ext i e h))=some o:=hr
   obtain ⟨o1,h1,hr⟩:=onO_some hr
   refine wpIn_seq (wpIn_mono (ihx hG hM hi he hd h1) ?_)
   intro e a' w' hq
   cases e with
   | normal=>
     obtain ⟨e,h2,rfl,h3,ρ',h4,h5,h6,h7⟩:=hq
     exact wpIn_mono (ihy (InvG.gok hG (InvG.of h7)) (mk_step hM h7) (InvG.of h7).loc.to h5 h6 hr) λ_ _ _=>QX.back h7 h4 h3
   | ret=>
     obtain ⟨e,h2,rfl,h3⟩:=hq
     cases hr
     exact ⟨e,h2,rfl,h3⟩
   | exit i=>
     obtain ⟨e,h2,rfl,h3⟩:=hq
     cases hr
     exact ⟨e,h2,rfl,h3⟩
   | _=>exact hq.elim
 | cond c x y ihx ihy=>
   intro S0 w0 M ρ h w env a o hG hM hi he hd hr
   have hr:(onO (evX env c) λx'=>match x' with
    | .bool b=>br b (xcode P D C N fuel top x env h) (xcode P D C N fuel top y env h)
    | _=>none)=some o:=hr
   obtain ⟨v,h1,hr⟩:=onO_some hr
   have hv:=evX_ok he.1 h1
   cases v with
   | bool b=>
     simp only [XR] at hv
     cases b with
     | true=>exact wpIn_cond_true hv (ihx hG hM hi he hd hr)
     | false=>exact wpIn_cond_false hv (ihy hG hM hi he hd hr)
   | _=>cases hr
 | block id x ih=>
   intro S0 w0 M ρ h w env a o hG hM hi he hd hr
   have hr:(onO (xcode P D C N fuel top x env h) λo=>match o with
    | .nrm e h=>some (.nrm e h)
    | .ret e h=>some (.ret e h)
    | .ext i e h=>br (Nat.beq i id) (some (.nrm e h)) (some (.ext i e h)))=some o:=hr
   obtain ⟨o1,h1,hr⟩:=onO_some hr
   refine wpIn_block (wpIn_mono (ih hG hM hi he hd h1) ?_)
   intro e a' w' hq
   cases e with
   | normal=>
     obtain ⟨e,h2,rfl,h3⟩:=hq
     cases hr
     exact ⟨e,h2,rfl,h3⟩
   | ret=>
     obtain ⟨e,h2,rfl,h3⟩:=hq
     cases hr
     exact ⟨e,h2,rfl,h3⟩
   | exit i=>
     obtain ⟨e,h2,rfl,h3⟩:=hq
     simp only at hr
     rw [br_eq] at hr
     simp only [Exit.inBlock]
     by_cases hii:i=id
     ·subst hii
      rw [if_pos rfl]
      rw [if_pos (Nat.beq_refl i)] at hr
      cases hr
      exact ⟨e,h2,rfl,h3⟩
     ·rw [if_neg hii]
      rw [if_neg (λhb=>hii (Nat.eq_of_beq_eq_true hb))] at hr
      cases hr
      exact ⟨e,h2,rfl,h3⟩
   | _=>exact hq.elim
 | loop x ih=>
   intro S0 w0 M ρ h w env a o hG hM hi he hd hr
   have hr:xloop (xcode P D C N fuel top x) fuel env h=some o:=hr
   have key : ∀ (m:Nat) {S0:Nat->Prop} {w0:World} {M:Nat->Prop} {ρ:Lab} {h:Hp} {w:World} {env:XE} {a:Act},GOk G S0 w0->(∀ b,M b->Mk0 S0 w0 b)->Inv S0 w0 ρ h w->Fit N ρ env a->DefOk D M a.defers->xloop (xcode P D C N fuel top x) m env h=some o->Code.roundsIn (Fr r) 0 P x (QX D N M S0 w0 ρ h.n o) m a w:=by
    intro m
    induction m with
    | zero=>intro S0 w0 M ρ h w env a _ _ _ _ _ hr; cases hr
    | succ m ihm=>
      intro S0 w0 M ρ h w env a hG hM hi he hd hr
      have hr:(onO (xcode P D C N fuel top x env h) λo'=>match o' with
       | .nrm e h=>xloop (xcode P D C N fuel top x) m e h
       | .ret e h=>some (.ret e h)
       | .ext i e h=>some (.ext i e h))=some o:=hr
      obtain ⟨o1,h1,hr⟩:=onO_some hr
      rw [roundsIn_succ]
      refine wpIn_mono (ih hG hM hi he hd h1) ?_
      intro e a' w' hq
      cases e with
      | normal=>
        obtain ⟨e,h2,rfl,h3,ρ',h4,h5,h6,h7⟩:=hq
        have hmono : ∀ (m:Nat) (Q Q':Exit->Act->World->Prop) (a:Act) (w:World),(∀ e a w,Q e a w->Q' e a w)->Code.roundsIn (Fr r) 0 P x Q m a w->Code.roundsIn (Fr r) 0 P x Q' m a w:=by
         intro m
         induction m with
         | zero=>intro Q Q' a w _ h; exact h
         | succ m ihm=>
           intro Q Q' a w hQ h
           rw [roundsIn_succ] at h ⊢
           refine wpIn_mono h λe a w hh=>?_
           cases e with
           | normal=>exact ihm Q Q' a w hQ hh
           | _=>exact hQ _ _ _ hh
        exact hmono m _ _ _ _ (λ_ _ _=>QX.back h7 h4 h3) (ihm (InvG.gok hG (InvG.of h7)) (mk_step hM h7) (InvG.of h7).loc.to h5 h6 hr)
      | ret=>
        obtain ⟨e,h2,rfl,h3⟩:=hq
        cases hr
        exact ⟨e,h2,rfl,h3⟩
      | exit i=>
        obtain ⟨e,h2,rfl,h3⟩:=hq
        cases hr
        exact ⟨e,h2,rfl,h3⟩
      | _=>exact hq.elim
   exact wpIn_loop_rounds fuel (key fuel hG hM hi he hd hr)
 | rangeFunc g ps x y _ _=>
   intro S0 w0 M ρ h w env a o hG hM hi he hd hr
   have hr:br top (onO (evX env g) λv=>xrf P C N ps x y env h v) none=some o:=hr
   obtain ⟨h1,hr⟩:=br_some hr
   obtain ⟨v,h2,hr⟩:=onO_some hr
   have:=htop h1
   subst this
   exact xrf_wp hC hG hM hi he hd h2 hr
 | scope _ _=>intro S0 w0 M ρ h w env a o hG hM hi he hd hr; cases hr
 | label _=>intro S0 w0 M ρ h w env a o hG hM hi he hd hr; cases hr
 | goto _=>intro S0 w0 M ρ h w env a o hG hM hi he hd hr; cases hr
 | refuse _=>intro S0 w0 M ρ h w env a o hG hM hi he hd hr; cases hr
def DefFn (P:Program) (D:FuncId->Bool):Prop:=∀ f,D f=true->enters P f=true/\∀ (args:Array Value) (w:World),args.size<=3->callDK P f args .returning w λu w'=>u = .returning/\Mod NoB w w'
theorem bindX_get : ∀ (xs:List XV) (i:Nat) (e:XE) (t:Nat),(bindX xs i e).get t=if t<i then e.get t else (match xs[t - i]? with | some x=>some x | none=>e.get t)
 | [],i,e,t=>by
   show e.get t=_
   simp
 | x :: xs,i,e,t=>by
   show (bindX xs (i+1) (e.set (some x) i)).get t=_
   rw [bindX_get xs (i+1) _ t,Tr.get_set]
   by_cases h1:t<i
   ·rw [if_pos (by omega),if_neg (by omega),if_pos h1]
   ·by_cases h2:t=i
    ·subst h2
     rw [if_pos (by omega),if_pos rfl,if_neg (by omega)]
     simp
    ·rw [if_neg (by omega),if_neg h2,if_neg h1]
     obtain ⟨k,hk⟩ : ∃ k,t - i=k+1:=⟨t - i - 1,by omega⟩
     rw [hk,List.getElem?_cons_succ,show t - (i+1)=k by omega]
theorem XRs_at {ρ:Lab} : ∀ {xs:List XV} {vs:List Value} {i:Nat} {x:XV},XRs ρ xs vs->xs[i]? = some x->∃ v,vs[i]? = some v/\XR ρ x v
 | [],vs,i,x,h,hx=>by simp at hx
 | y :: xs,vs,i,x,h,hx=>by
   simp only [XRs] at h
   obtain ⟨v,vs',rfl,h1,h2⟩:=h
   cases i with
   | zero=>simp at hx; subst hx; exact ⟨v,rfl,h1⟩
   | succ i=>
     simp at hx
     obtain ⟨u,h3,h4⟩:=XRs_at h2 hx
     exact ⟨u,by simpa using h3,h4⟩
theorem enter_fit {ρ:Lab} {xs:List XV} {vs:List Value} {n:Nat} (h:XRs ρ xs vs) (hl:xs.length<=n):Fit n ρ (bindX xs 0 .lf) ⟨vs.toArray++Array.replicate (n - vs.toArray.size) undef,[]⟩:=by
 have hlen:=h.len
 refine ⟨λt x hx=>?_,by simp; omega⟩
 rw [bindX_get,if_neg (by omega),Nat.sub_zero] at hx
 cases hxs:xs[t]? with
 | none=>rw [hxs] at hx; cases hx
 | some y=>
   rw [hxs] at hx; cases hx
   obtain ⟨v,h1,h2⟩:=XRs_at h hxs
   refine ⟨v,?_,h2⟩
   have hlt:t<vs.length:=(List.getElem?_eq_some_iff.1 h1).1
   rw [Array.getElem?_append_left (by simpa using hlt)]
   simpa using h1
theorem resX_run (hi:Inv S0 w0 ρ h w) {tmps:Array Value} (he:EnvOk ρ env tmps) : ∀ {l:List ResultVar} {ys:List XV},resX P env h l=some ys->∃ vs:List Value,(l.mapM λ
 | .tmp t=>pure (tmps.getD t undef)
 | .cell a t=>do loadVar t (<-asAddr (tmps.getD a undef)):Sem (List Value)).run P w = .ok vs w/\XRs ρ ys vs
 | [],ys,hr=>by unfold resX at hr; rw [mapO_nil] at hr; cases hr; exact ⟨[],rfl,rfl⟩
 | r :: l,ys,hr=>by
   unfold resX at hr
   obtain ⟨y,ys',rfl,h1,h2⟩:=mapO_cons hr
   obtain ⟨vs,h3,h4⟩:=resX_run hi he h2
   cases r with
   | tmp t=>
     obtain ⟨v,h5,h6⟩:=he t y h1
     refine ⟨v :: vs,?_,v,vs,rfl,h6,h4⟩
     simp only [List.mapM_cons,Sem.run_bind,Sem.run_pure,Result.andThen_ok]
     rw [h3]
     simp [h5]
   | cell t T=>
     simp only at h1
     obtain ⟨p,h5,h6⟩:=onO_some h1
     obtain ⟨v,h7,h8⟩:=he t p h5
     obtain ⟨u,h9,h10⟩:=xload_run hi h6 h8
     refine ⟨u :: vs,?_,u,vs,rfl,h10,h4⟩
     have e:(do loadVar T (<-asAddr (tmps.getD t undef)):Sem Value).run P w = .ok u w:=by
      have hv : ∃ ad,v = .pointer (some ad):=by
       unfold xload at h6
       cases p with
       | ptr q=>
         cases q with
         | none=>cases h6
         | some q=>
           obtain ⟨L,o⟩:=q
           simp only [XR] at h8
           obtain ⟨b,s,_,rfl⟩:=h8
           exact ⟨_,rfl⟩
       | _=>cases h6
      obtain ⟨ad,rfl⟩:=hv
      have:(Instr.loadAt T (.pointer (some ad)))=loadVar T ad:=rfl
      rw [this] at h9
      simp [h7,asAddr,h9]
     simp only [List.mapM_cons]
     rw [Sem.run_bind,e]
     simp only [Result.andThen_ok,Sem.run_bind]
     rw [h3]
     simp
theorem results_run (hi:Inv S0 w0 ρ h w) {fn:Func} {tmps:Array Value} (he:EnvOk ρ env tmps) {l:List XV} (hr:resX P env h fn.results.toList=some l) : ∃ v,(results fn tmps).run P w = .ok v w/\XR ρ (packX1 l) v:=by
 obtain ⟨vs,h1,h2⟩:=resX_run hi he hr
 have key:(results fn tmps).run P w = .ok (if h:vs.toArray.size=1 then vs.toArray[0] else .tuple vs.toArray) w:=by
  unfold results
  rw [Array.mapM_eq_mapM_toList]
  simp only [Sem.run_bind,Sem.run_map]
  erw [h1]
  simp only [Result.andThen_ok,Sem.run_pure]
 refine ⟨_,key,?_⟩
 match l,vs,h2 with
 | [],vs,h2=>
   simp only [XRs] at h2; subst h2
   simp only [packX1,XR]
   exact ⟨[],rfl,rfl⟩
 | [x],vs,h2=>
   simp only [XRs] at h2
   obtain ⟨v,vs',rfl,h3,rfl⟩:=h2
   simpa [packX1] using h3
 | x :: y :: r,vs,h2=>
   have h2':=h2
   simp only [XRs] at h2
   obtain ⟨v,vs',rfl,h3,v2,vs2,rfl,h4,h5⟩:=h2
   simp only [packX1]
   have : ¬ ((v :: v2 :: vs2).toArray.size=1):=by simp
   rw [dif_neg this]
   simp only [XR]
   exact ⟨_,h2',rfl⟩
theorem Inv.offPut (hi:Inv S0 w0 ρ h w) {b:Nat} {ob:Obj} (hb:w0.heap.size<=b) (hlt:b<w.heap.size) (hl : ¬ Loc ρ h.t.get b):Inv S0 w0 ρ h (w.putObj b ob):=by
 obtain ⟨m1,m2,m3⟩:=put_mod' (o:=ob) hlt
 refine ⟨hi.fresh,λL o e=>?_,hi.inj,hi.mod.trans m1 (λ_ _ h=>h) λx hx h=>by omega⟩
 obtain ⟨b',s',g1,g2,g3⟩:=hi.dom L o e
 exact ⟨b',s',g1,g2.mod m1 λeb=>hl ⟨L,o,s',e,by rw [g1,eb]⟩,g3⟩
theorem leave_quiet (hD:DefFn P D) {fn:Func} {tmps:Array Value} {R:Ending->World->Prop} (ds:List Deferred) (w:World) (hi:Inv S0 w0 ρ h w) (hd:DefOk D (MkN w0 ρ h w) ds)
 (hR : ∀ w',Inv S0 w0 ρ h w'->∃ v,(results fn tmps).run P w' = .ok v w'/\R (.returned v) w'):LeavesInM Fence.wide 0 P fn tmps R ds .returning w:=by
 refine leave_ret (K:=λu w'=>u = .returning/\Inv S0 w0 ρ h w') (λu w' hk=>?_) ds .returning w (by simp) ?_
 ·obtain ⟨rfl,hm⟩:=hk
  exact hR w' hm
 ·have : ∀ (ds:List Deferred) (w1:World),Inv S0 w0 ρ h w1->DefOk D (MkN w0 ρ h w1) ds->leaveK P ds .returning w1 λu w'=>u = .returning/\Inv S0 w0 ρ h w':=by
   intro ds
   induction ds with
   | nil=>intro w1 hm _; exact ⟨rfl,hm⟩
   | cons d ds ih=>
     intro w1 hm hd
     rcases hd.1 d List.mem_cons_self with hc | ⟨b,hb,k1,k2,k3⟩
     ·have hmk:=marks_call hc ds
      obtain ⟨f,cap,h1,h2',h2⟩:=hc
      obtain ⟨h3,h4⟩:=hD f h2
      obtain ⟨tg,ar⟩:=d
      simp only at h1
      subst h1
      have key : ∀ w',Mod NoB w1 w'->leaveK P ds .returning w' λu w'=>u = .returning/\Inv S0 w0 ρ h w':=λw' g3=>
       ih w' (hm.no g3) ⟨λd' hd'=>by
        rcases hd.1 d' (List.mem_cons_of_mem _ hd') with q | ⟨b,q1,q2,q3,q4⟩
        ·exact .inl q
        ·exact .inr ⟨b,q1,q2,(g3.block _ (lt_of_get q3) λq=>q).trans q3,q4⟩,by have:=hd.2; rw [hmk] at this; exact this⟩
      unfold leaveK
      simp only [h3,cond_true]
      refine CallsDIn.mono (h4 (ar++cap) w1 h2') λe u' w' hr=>?_
      cases e with
      | returned v=>
        obtain ⟨g1,g2,g3⟩:=hr
        refine ⟨g1,?_⟩
        rw [g2]
        exact key w' g3
      | panicked c=>
        obtain ⟨g1,g2,g3⟩:=hr
        refine ⟨g1,?_⟩
        rw [g2]
        exact key w' g3
      | outgrown=>exact hr.elim
     ·have hmk:=marks_col hb ds
      obtain ⟨tg,ar⟩:=d
      simp only at hb
      subst hb
      unfold leaveK
      have hnd:=hd.2
      rw [hmk,List.nodup_cons] at hnd
      refine ⟨k2,ih _ (hm.offPut k1 (lt_of_get k2) k3) ⟨λd' hd'=>?_,hnd.2⟩⟩
      rcases hd.1 d' (List.mem_cons_of_mem _ hd') with q | ⟨b',q1,q2,q3,q4⟩
      ·exact .inl q
      ·refine .inr ⟨b',q1,q2,((put_mod' (lt_of_get k2)).1.block _ (lt_of_get q3) λe=>hnd.1 ?_).trans q3,q4⟩
       subst e
       exact List.mem_filterMap.2 ⟨d',hd',by simp [colOf,q1]⟩
  exact this ds w hi hd
theorem xbody_ok (hm:P.follows .mixedOrders=true) (hD:DefFn P D) (hC:CallsOk P G C) {f:FuncId} {fn:Func} (hf:P.funcs[f]? = some fn) {xs:List XV} {y:XV} (hr:xbody P D C fuel fn xs h=some (y,h')):CallOk P G f xs h y h':=by
 intro S0 w0 ρ w vs hG hi hxs
 unfold xbody at hr
 cases hb:fn.body with
 | none=>rw [hb] at hr; cases hr
 | some c=>
   rw [hb] at hr
   simp only at hr
   obtain ⟨h1,hr⟩:=br_some hr
   obtain ⟨o,h2,hr⟩:=onO_some hr
   rw [len_eq] at h1
   have hfit:=enter_fit hxs (Nat.le_of_ble_eq_true h1)
   refine callsIn_wide.1 (callsIn_of_wp_marks (F:=Fence.wide) (n:=0) hf hb trivial ?_)
   refine wpIn_mono (xcode_wp (r:=none) (M:=λ_=>False) hm hC (λ_=>rfl) (λ_ _=>rfl) c hG (λ_ e=>e.elim) hi hfit defOk_nil h2) ?_
   have fin : ∀ (e:XE) (h2:Hp) (a:Act) (w':World),(onO (resX P e h2 fn.results.toList) λl=>some (packX1 l,h2))=some (y,h')->EndX D fn.ntmps (λ_=>False) S0 w0 ρ h.n e h2 a w'->
    LeavesInM Fence.wide 0 P fn a.tmps (λe w'=>∃ v ρ',e = .returned v/\Lab.up h.n ρ ρ'/\XR ρ' y v/\Inv S0 w0 ρ' h' w') a.defers .returning w':=λe h2 a w' hr hq=>by
    obtain ⟨h3,ρ',h4,h5,h6,h7⟩:=hq
    obtain ⟨l,h8,h9⟩:=onO_some hr
    cases h9
    refine leave_quiet hD _ _ h7 (h6.mono λb hb=>hb.elim (λe=>e.elim) id) λw2 h7'=>?_
    obtain ⟨v,h10,h11⟩:=results_run h7' h5.1 h8
    exact ⟨v,h10,v,ρ',rfl,h4,h11,h7'⟩
   intro e a w' hq
   cases e with
   | normal=>
     obtain ⟨e,h3,rfl,h4⟩:=hq
     exact fin e h3 a w' hr h4
   | ret=>
     obtain ⟨e,h3,rfl,h4⟩:=hq
     exact fin e h3 a w' hr h4
   | exit i=>
     obtain ⟨e,h3,rfl,h4⟩:=hq
     cases hr
   | _=>exact hq.elim
theorem bindE_fit : ∀ {ps:List Tmp} {xs:List XV} {us:List Value} {e e':XE} {t0:Array Value},xs.length=ps.length->bindE N ps xs e=some e'->XRs ρ xs us->Fit N ρ e ⟨t0,[]⟩->
 Fit N ρ e' ⟨(ps.zip us).foldl (λt (q:Tmp×Value)=>t.setIfInBounds q.1 q.2) t0,[]⟩
 | [],xs,us,e,e',t0,_,hb,_,hf=>by cases hb; exact hf
 | t :: ps,[],us,e,e',t0,hl,_,_,_=>by cases hl
 | t :: ps,x :: xs,us,e,e',t0,hl,hb,hx,hf=>by
   simp only [XRs] at hx
   obtain ⟨u,us',rfl,h1,h2⟩:=hx
   have hb:(onO (putE N e (some t) x) λe=>bindE N ps xs e)=some e':=hb
   obtain ⟨e1,h3,h4⟩:=onO_some hb
   simp only [List.zip_cons_cons,List.foldl_cons]
   exact bindE_fit (by simpa using hl) h4 h2 (hf.put (a:=⟨t0,[]⟩) h3 h1)
theorem loopAt_some {L:Nat} {st:Bool} {o:XO} (h1:loopAt h L st=some o) : ∃ N E ps x y,o = .loop st N E ps x y/\h.t.get L=some (.loop st N E ps x y):=by
 unfold loopAt at h1
 obtain ⟨o',h2,h1⟩:=onO_some h1
 cases o' with
 | loop st' N E ps x y=>
   refine ⟨N,E,ps,x,y,?_⟩
   cases st' <;> cases st <;> first | (cases h1; done) | (cases h1; exact ⟨rfl,h2⟩)
 | _=>cases h1
theorem xyield_ok (hm:P.follows .mixedOrders=true) (hC:CallsOk P G C) {L:Nat} {xs:List XV} {y:XV} (hr:xyield P C fuel L xs h=some (y,h')):YieldOk P G L xs h y h':=by
 intro S0 w0 ρ w vs b s hG hi hxs hL
 unfold xyield at hr
 obtain ⟨o,h1,hr⟩:=onO_some hr
 obtain ⟨N,E,ps,cx,cy,rfl,h1'⟩:=loopAt_some h1
 simp only at hr
 obtain ⟨h2,hr⟩:=br_some hr
 obtain ⟨e,h3,hr⟩:=onO_some hr
 obtain ⟨o1,h4,hr⟩:=onO_some hr
 rw [len_eq,len_eq] at h2
 have h2:=Nat.eq_of_beq_eq_true h2
 cases o1 with
 | nrm e1 g1=>
   simp only at hr
   obtain ⟨ob1,h5,hr⟩:=onO_some hr
   obtain ⟨o2,h6,hr⟩:=onO_some hr
   cases o2 with
   | nrm e2 g2=>
     simp only at hr
     obtain ⟨ob2,h7,hr⟩:=onO_some hr
     cases hr
     obtain ⟨b',s',q1,⟨tm,fn,d,q2,q3,q4⟩,q5⟩:=hi.dom _ _ h1'
     rw [hL] at q1; cases q1
     have q4:w.heap[b]? = some (.loop {state:=.ready,pending:=none,fn:=fn,tmps:=tm,params:=ps.toArray,assign:=cx,body:=cy,defers:=d}):=q4
     refine ⟨fn,_,cx,cy,run_yield q4 (by simp [hxs.len,h2]),roundIn_of_wpIn (F:=Fence.wide) trivial ?_⟩
     have hfit:Fit N ρ e ⟨(ps.toArray.zip vs.toArray).foldl (λtmps (x:Tmp×Value)=>tmps.setIfInBounds x.1 x.2) tm,[]⟩:=by
      have:=bindE_fit (t0:=tm) h2 h3 hxs ⟨q2,q3⟩
      rw [<-Array.foldl_toList]
      simpa using this
     refine wpIn_mono (xcode_wp (D:=noDf) (r:=some b) (M:=λ_=>False) hm hC (λe=>by cases e) (λf e=>by cases e) cx hG (λ_ e=>e.elim) hi hfit defOk_nil h4) ?_
     intro ex a3 w3 hq
     cases ex with
     | normal=>
       obtain ⟨_,_,e4,hq⟩:=hq
       cases e4
       obtain ⟨k1,ρ1,k2,k3,k4,k5⟩:=hq
       obtain ⟨N1,E1,ps1,x1,y1,rfl,h5'⟩:=loopAt_some h5
       clear h5
       have h5:=h5'
       have hL1:=k2.1 _ _ hL
       obtain ⟨b',s',r1,⟨tm1,fn1,d1,r2,r3,r4⟩,r5⟩:=k5.dom _ _ h5
       rw [hL1] at r1; cases r1
       have r4:w3.heap[b]? = some (.loop {state:=.ready,pending:=none,fn:=fn1,tmps:=tm1,params:=ps1.toArray,assign:=x1,body:=y1,defers:=d1}):=r4
       refine ⟨_,run_beginRound r4 rfl,?_⟩
       have hnb : ¬ ∃ z,z∈marks a3.defers/\z=b:=λ⟨z,z1,z2⟩=>by
        subst z2
        rcases k4.of_marks z1 with e | e
        ·exact e
        ·exact e.2.2 ⟨_,_,_,h5,hL1⟩
       have k6:Inv S0 w0 ρ1 ⟨g1.t.set (some (turnO (.loop true N1 E1 ps1 x1 y1))) L,g1.n⟩ (w3.putObj b (.loop {state:=.busy,pending:=none,fn:=fn1,tmps:=tm1,params:=ps1.toArray,assign:=x1,body:=y1,defers:=d1})):=
        k5.objPut h5 hL1 λx e=>by
         cases e
         exact ⟨tm1,fn1,d1,r2,r3,(put_mod' (lt_of_get r4)).2.1⟩
       have k4':DefOk noDf (MkU (λ_=>False) w0 ρ1 ⟨g1.t.set (some (turnO (.loop true N1 E1 ps1 x1 y1))) L,g1.n⟩ (w3.putObj b (.loop {state:=.busy,pending:=none,fn:=fn1,tmps:=tm1,params:=ps1.toArray,assign:=x1,body:=y1,defers:=d1}))) a3.defers:=by
        refine k4.mono λz hz=>?_
        rcases hz with hz | ⟨z1,z2,z3⟩
        ·exact hz.elim
        ·have hzb:z≠b:=λe=>by
          subst e
          exact z3 ⟨_,_,_,h5,hL1⟩
         refine .inr ⟨z1,((put_mod' (lt_of_get r4)).1.block _ (lt_of_get z2) hzb).trans z2,λ⟨L',o',s',y1,y2⟩=>?_⟩
         simp only [Tr.get_set] at y1
         split at y1
         ·next hLL=>
          subst hLL
          rw [hL1] at y2; cases y2
          exact hzb rfl
         ·exact z3 ⟨_,_,_,y1,y2⟩
       refine wpIn_mono (xcode_wp (D:=noDf) (r:=some b) hm hC (λe=>by cases e) (λf e=>by cases e) cy (InvG.gok hG (InvG.of k6)) (mk_step (λ_ e=>e.elim) k6) (InvG.of k6).loc.to (by exact k3) k4' h6) ?_
       intro ex a4 w4 hq4
       cases ex with
       | normal=>
         obtain ⟨_,_,e4,hq4⟩:=hq4
         cases e4
         obtain ⟨j1,ρ2,j2,j3,j4,j5⟩:=hq4
         have j6:=inv_back k6 j2.1 j5
         obtain ⟨N2,E2,ps2,x2,y2,rfl,h7'⟩:=loopAt_some h7
         clear h7
         have h7:=h7'
         have hL2:=j2.1 _ _ hL1
         obtain ⟨b',s',t1,⟨tm2,fn2,d2,t2,t3,t4⟩,t5⟩:=j6.dom _ _ h7
         rw [hL2] at t1; cases t1
         have t4:w4.heap[b]? = some (.loop {state:=.busy,pending:=none,fn:=fn2,tmps:=tm2,params:=ps2.toArray,assign:=x2,body:=y2,defers:=d2}):=t4
         refine ⟨_,_,run_endRound none t4,_,rfl,ρ2,Lab.up_trans k2 k1 j2,rfl,j6.objPut h7 hL2 λx e=>?_⟩
         cases e
         exact ⟨tm2,fn2,d2,t2,t3,(put_mod' (lt_of_get t4)).2.1⟩
       | ret=>obtain ⟨_,_,e4,_⟩:=hq4; cases e4
       | exit i=>obtain ⟨_,_,e4,_⟩:=hq4; cases e4
       | _=>exact hq4.elim
     | ret=>obtain ⟨_,_,e4,_⟩:=hq; cases e4
     | exit i=>obtain ⟨_,_,e4,_⟩:=hq; cases e4
     | _=>exact hq.elim
   | _=>cases hr
 | _=>cases hr
theorem xcalls_ok (hm:P.follows .mixedOrders=true) (hD:DefFn P D) {nat:CallsX} (hn:CallsOk P G nat) : ∀ d,CallsOk P G (xcalls P D nat fuel d)
 | 0=>hn
 | d+1=>⟨λf xs h y h' hr=>by
   have hr:(match nat.c f xs h with
    | some r=>some r
    | none=>onO (P.funcs[f]?) λfn=>xbody P D (xcalls P D nat fuel d) fuel fn xs h)=some (y,h'):=hr
   cases hnat:nat.c f xs h with
   | some r=>
     rw [hnat] at hr
     cases hr
     exact hn.c f xs h y h' hnat
   | none=>
     rw [hnat] at hr
     simp only at hr
     obtain ⟨fn,h1,h2⟩:=onO_some hr
     exact xbody_ok hm hD (xcalls_ok hm hD hn d) h1 h2,hn.e,hn.g,hn.q,λL xs h y h' hr=>xyield_ok hm (xcalls_ok hm hD hn d) hr,hn.x⟩
end
noncomputable def ren1 (φ:Nat->Nat) (x:XV):Option XV:=match x with
 | .int k n=>some (.int k n)
 | .bool b=>some (.bool b)
 | .str l=>some (.str l)
 | .ptr p=>(match p with | none=>some (.ptr none) | some q=>some (.ptr (some (φ q.1,q.2))))
 | .sl p n c=>(match p with | none=>some (.sl none n c) | some q=>some (.sl (some (φ q.1,q.2)) n c))
 | .slu L o n k=>some (.slu (φ L) o n k)
 | .map p=>(match p with | none=>some (.map none) | some L=>some (.map (some (φ L))))
 | .em L=>some (.em (φ L))
 | .nilFn=>some .nilFn
 | .nilI=>some .nilI
 | _=>none
noncomputable def renS (φ:Nat->Nat) (f:XV->Option XV) (x:XV):Option XV:=match x with
 | .agg l=>onO (mapO f l) λm=>some (.agg m)
 | .tup l=>onO (mapO f l) λm=>some (.tup m)
 | .fn g a c=>onO (mapO f a) λb=>onO (mapO f c) λd=>some (.fn g b d)
 | .ifc T u=>onO (f u) λv=>some (.ifc T v)
 | x=>ren1 φ x
noncomputable def renX (φ:Nat->Nat) (x:XV):Option XV:=renS φ (renS φ (renS φ (ren1 φ))) x
noncomputable def renA (φ:Nat->Nat) (l:List XV):Option (List XV):=mapO (renX φ) l
noncomputable def renE (φ:Nat->Nat) (e:XV×XV×Nat):Option (XV×XV×Nat):=onO (renX φ e.1) λk=>onO (renX φ e.2.1) λv=>some (k,v,e.2.2)
noncomputable def renO (φ:Nat->Nat) (o:XO):Option XO:=match o with
 | .cells l=>onO (renA φ l) λm=>some (.cells m)
 | .row l=>onO (renA φ l) λm=>some (.row m)
 | .map es c=>onO (mapO (renE φ) es) λm=>some (.map m c)
 | _=>none
section
variable {φ:Nat->Nat} {ρ:Lab}
theorem ren1_iff {x y:XV} (h:ren1 φ x=some y) (v:Value):XR ρ y v↔XR (λL=>ρ (φ L)) x v:=by
 cases x with
 | ptr p=>cases p with
   | none=>cases h; simp only [XR]
   | some q=>obtain ⟨L,o⟩:=q; cases h; simp only [XR]
 | sl p n c=>cases p with
   | none=>cases h; simp only [XR]
   | some q=>obtain ⟨L,o⟩:=q; cases h; simp only [XR]
 | map p=>cases p with
   | none=>cases h; simp only [XR]
   | some q=>cases h; simp only [XR]
 | _=>first | (cases h; simp only [XR]; done) | (cases h; done)
theorem mapO_iff {f:XV->Option XV} {ρ':Lab} (hf : ∀ x y,f x=some y->∀ v,XR ρ y v↔XR ρ' x v) : ∀ {l m:List XV},mapO f l=some m->∀ vs,XRs ρ m vs↔XRs ρ' l vs
 | [],m,h,vs=>by rw [mapO_nil] at h; cases h; simp only [XRs]
 | x :: l,m,h,vs=>by
   obtain ⟨y,r,rfl,h1,h2⟩:=mapO_cons h
   simp only [XRs]
   constructor
   ·rintro ⟨v,vs',rfl,h3,h4⟩
    exact ⟨v,vs',rfl,(hf _ _ h1 v).1 h3,(mapO_iff hf h2 vs').1 h4⟩
   ·rintro ⟨v,vs',rfl,h3,h4⟩
    exact ⟨v,vs',rfl,(hf _ _ h1 v).2 h3,(mapO_iff hf h2 vs').2 h4⟩
theorem renS_iff {f:XV->Option XV} (hf : ∀ x y,f x=some y->∀ v,XR ρ y v↔XR (λL=>ρ (φ L)) x v) {x y:XV} (h:renS φ f x=some y) (v:Value):XR ρ y v↔XR (λL=>ρ (φ L)) x v:=by
 unfold renS at h
 split at h
 ·obtain ⟨m,h1,h2⟩:=onO_some h
  cases h2
  simp only [XR]
  exact ⟨λ⟨vs,a,b⟩=>⟨vs,(mapO_iff hf h1 vs).1 a,b⟩,λ⟨vs,a,b⟩=>⟨vs,(mapO_iff hf h1 vs).2 a,b⟩⟩
 ·obtain ⟨m,h1,h2⟩:=onO_some h
  cases h2
  simp only [XR]
  exact ⟨λ⟨vs,a,b⟩=>⟨vs,(mapO_iff hf h1 vs).1 a,b⟩,λ⟨vs,a,b⟩=>⟨vs,(mapO_iff hf h1 vs).2 a,b⟩⟩
 ·obtain ⟨m,h1,h2⟩:=onO_some h
  obtain ⟨m',h3,h4⟩:=onO_some h2
  cases h4
  simp only [XR]
  exact ⟨λ⟨us,vs,a,b,c⟩=>⟨us,vs,(mapO_iff hf h1 us).1 a,(mapO_iff hf h3 vs).1 b,c⟩,λ⟨us,vs,a,b,c⟩=>⟨us,vs,(mapO_iff hf h1 us).2 a,(mapO_iff hf h3 vs).2 b,c⟩⟩
 ·obtain ⟨m,h1,h2⟩:=onO_some h
  cases h2
  simp only [XR]
  exact ⟨λ⟨u,a,b⟩=>⟨u,(hf _ _ h1 u).1 a,b⟩,λ⟨u,a,b⟩=>⟨u,(hf _ _ h1 u).2 a,b⟩⟩
 ·exact ren1_iff h v
theorem renX_iff {x y:XV} (h:renX φ x=some y) (v:Value):XR ρ y v↔XR (λL=>ρ (φ L)) x v:=
 renS_iff (φ:=φ) (λ_ _ h v=>renS_iff (φ:=φ) (λ_ _ h v=>renS_iff (φ:=φ) (λ_ _ h v=>ren1_iff (φ:=φ) h v) h v) h v) h v
theorem renA_iff {l m:List XV} (h:renA φ l=some m) (vs:List Value):XRs ρ m vs↔XRs (λL=>ρ (φ L)) l vs:=mapO_iff (λ_ _ e v=>renX_iff e v) h vs
theorem renE_iff : ∀ {es es':List (XV×XV×Nat)},mapO (renE φ) es=some es'->∀ ms:List MapEntry,ERs ρ es' ms↔ERs (λL=>ρ (φ L)) es ms
 | [],es',h,ms=>by
   rw [mapO_nil] at h; cases h
   simp only [ERs]
 | e :: es,es',h,ms=>by
   obtain ⟨y,r,rfl,h1,h2⟩:=mapO_cons h
   unfold renE at h1
   obtain ⟨k,h3,h4⟩:=onO_some h1
   obtain ⟨v,h5,h6⟩:=onO_some h4
   cases h6
   simp only [ERs]
   constructor
   ·rintro ⟨m,ms',rfl,a,b,c,d⟩
    exact ⟨m,ms',rfl,(renX_iff h3 _).1 a,(renX_iff h5 _).1 b,c,(renE_iff h2 ms').1 d⟩
   ·rintro ⟨m,ms',rfl,a,b,c,d⟩
    exact ⟨m,ms',rfl,(renX_iff h3 _).2 a,(renX_iff h5 _).2 b,c,(renE_iff h2 ms').2 d⟩
theorem renO_iff {o o':XO} (h:renO φ o=some o') (w:World) (b s:Nat):ObjOk ρ w b s o'↔ObjOk (λL=>ρ (φ L)) w b s o:=by
 unfold renO at h
 split at h
 ·obtain ⟨m,h1,h2⟩:=onO_some h
  cases h2
  simp only [ObjOk]
  exact ⟨λ⟨vs,T,a,c⟩=>⟨vs,T,(renA_iff h1 vs).1 a,c⟩,λ⟨vs,T,a,c⟩=>⟨vs,T,(renA_iff h1 vs).2 a,c⟩⟩
 ·obtain ⟨m,h1,h2⟩:=onO_some h
  cases h2
  simp only [ObjOk]
  exact ⟨λ⟨vs,r,T,a,c⟩=>⟨vs,r,T,(renA_iff h1 vs).1 a,c⟩,λ⟨vs,r,T,a,c⟩=>⟨vs,r,T,(renA_iff h1 vs).2 a,c⟩⟩
 ·obtain ⟨m,h1,h2⟩:=onO_some h
  cases h2
  simp only [ObjOk]
  exact ⟨λ⟨ms,a,c⟩=>⟨ms,(renE_iff h1 ms).1 a,c⟩,λ⟨ms,a,c⟩=>⟨ms,(renE_iff h1 ms).2 a,c⟩⟩
 ·cases h
end
noncomputable def ph (l:List Nat) (n i:Nat):Nat:=match nth l i with
 | some M=>M
 | none=>Nat.add n (Nat.sub i (len l))
theorem ph_lt {l:List Nat} {n i M:Nat} (h:l[i]? = some M):ph l n i=M:=by unfold ph; rw [nth_eq,h]
theorem ph_ge {l:List Nat} {n i:Nat} (h:l.length<=i):ph l n i=n+(i - l.length):=by
 unfold ph; rw [nth_eq,List.getElem?_eq_none h,len_eq]; rfl
section
variable {P:Program} {G:World->Prop} {f:FuncId} {S0:Nat->Prop} {w0 w w':World} {ρ:Lab}
theorem GOk.mono (hG:GOk G S0 w0) {S:Nat->Prop} (hm : ∀ w',Mod S w w'->Mod S0 w0 w'):GOk G S w:=λw' h=>hG w' (hm w' h)
theorem fun_of {R:Nat->XO->Prop} (h : ∀ M a b,R M a->R M b->a=b) : ∃ f:Nat->Option XO,∀ M o,f M=some o↔R M o:=by
 refine ⟨λM=>open Classical in if hex : ∃ o,R M o then some (Classical.choose hex) else none,λM o=>⟨λe=>?_,λe=>?_⟩⟩
 ·simp only at e
  split at e
  ·next hex=>cases e; exact Classical.choose_spec hex
  ·cases e
 ·have hex : ∃ o,R M o:=⟨o,e⟩
  simp only [dif_pos hex]
  rw [h M _ o (Classical.choose_spec hex) e]
theorem call_frame {xs0 xs:List XV} {y0 y:XV} {h0 h0' h h':Hp} (hc:CallOk P G f xs0 h0 y0 h0') (l:List Nat) (hk:h0.n=l.length)
 (hlt : ∀ M∈l,M<h.n) (hnd:l.Nodup)
 (hxs:renA (ph l h.n) xs0=some xs) (hy:renX (ph l h.n) y0=some y)
 (hob : ∀ i o,h0.t.get i=some o->i<l.length/\∃ o',renO (ph l h.n) o=some o'/\h.t.get (ph l h.n i)=some o')
 (hn:h'.n=h.n+(h0'.n - l.length))
 (hup : ∀ M o,h'.t.get M=some o->(∃ i o0,M=ph l h.n i/\h0'.t.get i=some o0/\renO (ph l h.n) o0=some o)\/(h.t.get M=some o/\∀ i,h0.t.get i≠none->M≠ph l h.n i)) :
 CallOk P G f xs h y h':=by
 intro S0 w0 ρ w vs hG hi hvs
 have hgi:=InvG.of hi
 have pinj : ∀ i j,ph l h.n i=ph l h.n j->i=j:=λi j e=>by
  by_cases h1:i<l.length <;> by_cases h2:j<l.length
  ·have e1:l[i]? = some l[i]:=List.getElem?_eq_getElem h1
   have e2:l[j]? = some l[j]:=List.getElem?_eq_getElem h2
   rw [ph_lt e1,ph_lt e2] at e
   exact (List.getElem_inj hnd).1 e
  ·have e1:l[i]? = some l[i]:=List.getElem?_eq_getElem h1
   have:=hlt l[i] (List.getElem_mem h1)
   rw [ph_lt e1,ph_ge (by omega)] at e
   omega
  ·have e2:l[j]? = some l[j]:=List.getElem?_eq_getElem h2
   have:=hlt l[j] (List.getElem_mem h2)
   rw [ph_lt e2,ph_ge (by omega)] at e
   omega
  ·rw [ph_ge (by omega),ph_ge (by omega)] at e
   omega
 have small : ∀ i,i<l.length->ph l h.n i<h.n:=λi hi'=>by
  rw [ph_lt (List.getElem?_eq_getElem hi')]
  exact hlt _ (List.getElem_mem hi')
 have hi0:InvG (Loc (λi=>ρ (ph l h.n i)) h0.t.get) w (λi=>ρ (ph l h.n i)) h0.t.get h0.n w:=by
  refine InvG.loc (S0:=S0) (w0:=w0) ⟨λi hii=>?_,λi o e=>?_,λi j o o' b s s' e1 e2 e3 e4=>?_,hi.mod⟩
  ·rw [ph_ge (by omega)]
   exact hi.fresh _ (by omega)
  ·obtain ⟨_,o',h1,h2⟩:=hob i o e
   obtain ⟨b,s,h3,h4,h5⟩:=hi.dom _ _ h2
   exact ⟨b,s,h3,(renO_iff h1 w b s).1 h4,h5⟩
  ·obtain ⟨_,o1,_,h2⟩:=hob i o e1
   obtain ⟨_,o2,_,h4⟩:=hob j o' e2
   exact pinj i j (hi.inj _ _ _ _ _ _ _ h2 h4 e3 e4)
 have hpre : ∃ pre:Nat->Option XO,(∀ M o,pre M=some o->h.t.get M=some o)/\(∀ i,h0.t.get i≠none->pre (ph l h.n i)≠none)/\(∀ M,pre M≠none->∃ i,h0.t.get i≠none/\M=ph l h.n i):=by
  refine ⟨λM=>open Classical in if ∃ i,h0.t.get i≠none/\M=ph l h.n i then h.t.get M else none,λM o e=>?_,λi hh=>?_,λM hh=>?_⟩
  ·simp only at e; split at e
   ·exact e
   ·cases e
  ·have hex : ∃ j,h0.t.get j≠none/\ph l h.n i=ph l h.n j:=⟨i,hh,rfl⟩
   simp only [if_pos hex]
   cases ho:h0.t.get i with
   | none=>exact absurd ho hh
   | some o=>obtain ⟨_,o',_,h2⟩:=hob i o ho; rw [h2]; simp
  ·by_cases hex : ∃ i,h0.t.get i≠none/\M=ph l h.n i
   ·exact hex
   ·simp only [if_neg hex] at hh; exact absurd rfl hh
 obtain ⟨pre,p1,p2,p3⟩:=hpre
 have hloc : ∀ b,Loc (λi=>ρ (ph l h.n i)) h0.t.get b->Loc ρ pre b:=λb ⟨i,o,s,e1,e2⟩=>by
  have:=p2 i (by rw [e1]; simp)
  cases hp:pre (ph l h.n i) with
  | none=>exact absurd hp this
  | some o'=>exact ⟨_,o',s,hp,e2⟩
 have hpg:=hgi.sub p1
 have hG0:GOk G (Loc (λi=>ρ (ph l h.n i)) h0.t.get) w:=GOk.mono hG λw' hm=>hpg.loc_mod (hm.mono λx _ e=>hloc x e)
 have hxs0:=(renA_iff (ρ:=ρ) hxs vs).1 hvs
 refine Calls.mono (hc _ _ _ w vs hG0 hi0.to hxs0) λe w' hq=>?_
 obtain ⟨v,ρ1,rfl,h1,h2,h3⟩:=hq
 have hρ : ∀ i,(λM=>if M<h.n then ρ M else ρ1 (l.length+(M - h.n))) (ph l h.n i)=ρ1 i:=λi=>by
  by_cases hil:i<l.length
  ·simp only [small i hil,↓reduceIte]
   exact (h1.2 i (by omega)).symm
  ·have hge:=ph_ge (n:=h.n) (Nat.le_of_not_lt hil)
   have : ¬ ph l h.n i<h.n:=by omega
   simp only [this,↓reduceIte]
   congr 1; omega
 have hρ':(λi=>(λM=>if M<h.n then ρ M else ρ1 (l.length+(M - h.n))) (ph l h.n i))=ρ1:=funext hρ
 have hup':Lab.up h.n ρ (λM=>if M<h.n then ρ M else ρ1 (l.length+(M - h.n))):=by
  refine ⟨λL x e=>?_,λL hL=>by simp [hL]⟩
  by_cases hL:L<h.n
  ·simp [hL,e]
  ·rw [hi.fresh L (by omega)] at e; cases e
 refine ⟨v,_,rfl,hup',(renX_iff hy v).2 (by rw [hρ']; exact h2),?_⟩
 have h3g:=InvG.of h3
 have hpost : ∃ post:Nat->Option XO,(∀ M o,post M=some o->∃ i o0,M=ph l h.n i/\h0'.t.get i=some o0/\renO (ph l h.n) o0=some o)/\(∀ i o0 o,h0'.t.get i=some o0->renO (ph l h.n) o0=some o->post (ph l h.n i)=some o):=by
  obtain ⟨post,hp⟩:=fun_of (R:=λM o=>∃ i o0,M=ph l h.n i/\h0'.t.get i=some o0/\renO (ph l h.n) o0=some o) λM a b ⟨i,o0,e1,e2,e3⟩ ⟨j,o1,e4,e5,e6⟩=>by
   have:=pinj i j (e1.symm.trans e4)
   subst this
   rw [e2] at e5; cases e5
   rw [e3] at e6; exact Option.some.inj e6
  exact ⟨post,λM o e=>(hp M o).1 e,λi o0 o e1 e2=>(hp _ o).2 ⟨i,o0,rfl,e1,e2⟩⟩
 obtain ⟨post,q1,q2⟩:=hpost
 have hpo:InvG (Loc ρ pre) w (λM=>if M<h.n then ρ M else ρ1 (l.length+(M - h.n))) post h'.n w':=by
  refine ⟨λM hM=>?_,λM o e=>?_,λM M' o o' b s s' e1 e2 e3 e4=>?_,h3.mod.mono λx _ e=>hloc x e⟩
  ·have : ¬ M<h.n:=by omega
   simp only [this,↓reduceIte]
   exact h3.fresh _ (by omega)
  ·obtain ⟨i,o0,rfl,e1,e2⟩:=q1 M o e
   obtain ⟨b,s,g1,g2,g3⟩:=h3.dom i o0 e1
   refine ⟨b,s,(hρ i).trans g1,(renO_iff e2 w' b s).2 (by rw [hρ']; exact g2),?_⟩
   rcases g3 with g3 | g3
   ·exact .inl (hloc b g3)
   ·exact .inr g3
  ·obtain ⟨i,o0,rfl,g1,g2⟩:=q1 M o e1
   obtain ⟨j,o1,rfl,g3,g4⟩:=q1 M' o' e2
   have e3:=(hρ i).symm.trans e3
   have e4:=(hρ j).symm.trans e4
   rw [h3.inj i j o0 o1 b s s' g1 g3 e3 e4]
 have hfr:=hgi.frame p1 hpo hup'.1
 refine (hfr.sub λM o e=>?_).to
 rcases hup M o e with ⟨i,o0,e1,e2,e3⟩ | ⟨e1,e2⟩
 ·have:=q2 i o0 o e2 e3
  simp only [e1,this]
 ·have hpn:pre M=none:=by
   cases hp:pre M with
   | none=>rfl
   | some o'=>
     obtain ⟨i,h4,h5⟩:=p3 M (by rw [hp]; simp)
     exact absurd h5 (e2 i h4)
  cases hpo':post M with
  | none=>simp only [hpo',hpn]; exact e1
  | some o'=>
    exfalso
    obtain ⟨i,o0,e3,e4,e5⟩:=q1 M o' hpo'
    obtain ⟨b,s,g1,g2,g3⟩:=h3.dom i o0 e4
    have hMn:M<h.n:=by
     rcases Nat.lt_or_ge M h.n with h6 | h6
     ·exact h6
     ·obtain ⟨b2,s2,f1,_⟩:=hi.dom M o e1
      rw [hi.fresh M h6] at f1; cases f1
    have g1':ρ M=some (b,s):=by
     have:=(hρ i).trans g1
     rw [<-e3] at this
     simpa [hMn] using this
    obtain ⟨b2,s2,f1,f2,_⟩:=hi.dom M o e1
    rw [g1'] at f1; cases f1
    rcases g3 with ⟨j,o2,s2,k1,k2⟩ | g3
    ·obtain ⟨_,o3,_,k3⟩:=hob j o2 k1
     have:=hi.inj M _ _ _ _ _ _ e1 k3 g1' k2
     exact e2 j (by rw [k1]; simp) this
    ·have:=f2.lt
     omega
end
noncomputable def sameA (l m:List XV):Bool:=List.rec (motive:=λ_=>List XV->Bool) (λm=>match m with | []=>true | _=>false)
 (λx _ ih m=>match m with | []=>false | y :: r=>br (sameX x y) (ih r) false) l m
theorem sameA_eq : ∀ {l m:List XV},sameA l m=true->l=m
 | [],m,h=>by cases m <;> first | rfl | cases h
 | x :: l,m,h=>by
   cases m with
   | nil=>cases h
   | cons y r=>
     have h:br (sameX x y) (sameA l r) false=true:=h
     obtain ⟨h1,h2⟩:=br_and h
     rw [sameX_eq h1,sameA_eq h2]
noncomputable def sameEs (l m:List (XV×XV×Nat)):Bool:=List.rec (motive:=λ_=>List (XV×XV×Nat)->Bool) (λm=>match m with | []=>true | _=>false)
 (λx _ ih m=>match m with | []=>false | y :: r=>br (br (sameX x.1 y.1) (br (sameX x.2.1 y.2.1) (Nat.beq x.2.2 y.2.2) false) false) (ih r) false) l m
theorem sameEs_eq : ∀ {l m:List (XV×XV×Nat)},sameEs l m=true->l=m
 | [],m,h=>by cases m <;> first | rfl | cases h
 | x :: l,m,h=>by
   cases m with
   | nil=>cases h
   | cons y r=>
     have h:br (br (sameX x.1 y.1) (br (sameX x.2.1 y.2.1) (Nat.beq x.2.2 y.2.2) false) false) (sameEs l r) false=true:=h
     obtain ⟨h1,h2⟩:=br_and h
     obtain ⟨h3,h4⟩:=br_and h1
     obtain ⟨h5,h6⟩:=br_and h4
     rw [sameEs_eq h2]
     obtain ⟨a,b,c⟩:=x
     obtain ⟨a',b',c'⟩:=y
     have e1:=sameX_eq h3
     have e2:=sameX_eq h5
     have e3:=Nat.eq_of_beq_eq_true h6
     simp only at e1 e2 e3
     subst e1 e2 e3
     rfl
noncomputable def sameB (o o':XO):Bool:=match o with
 | .cells l=>(match o' with | .cells m=>sameA l m | _=>false)
 | .row l=>(match o' with | .row m=>sameA l m | _=>false)
 | .map l c=>(match o' with | .map m d=>br (Nat.beq c d) (sameEs l m) false | _=>false)
 | _=>false
theorem sameB_eq {o o':XO} (h:sameB o o'=true):o=o':=by
 cases o <;> cases o' <;> first | (cases h; done) | skip
 ·rw [sameA_eq (l:=_) (m:=_) h]
 ·rw [sameA_eq (l:=_) (m:=_) h]
 ·obtain ⟨h1,h2⟩:=br_and h
  rw [sameEs_eq h2,Nat.eq_of_beq_eq_true h1]
noncomputable def labOf (x:XV):Option Nat:=match x with
 | .ptr p=>(match p with | none=>none | some q=>some q.1)
 | .sl p _ _=>(match p with | none=>none | some q=>some q.1)
 | .slu L _ _ _=>some L
 | .em L=>some L
 | .map p=>p
 | _=>none
noncomputable def flatX (l:List XV):List XV:=List.rec (motive:=λ_=>List XV) [] (λx _ ih=>match x with
 | .agg m=>app m ih
 | .tup m=>app m ih
 | .fn _ a c=>app a (app c ih)
 | .ifc _ u=>u :: ih
 | x=>x :: ih) l
noncomputable def flat3 (l:List XV):List XV:=flatX (flatX (flatX l))
noncomputable def flatE (l:List (XV×XV×Nat)):List XV:=List.rec (motive:=λ_=>List XV) [] (λe _ ih=>e.1 :: e.2.1 :: ih) l
noncomputable def cellsOf (o:XO):List XV:=match o with
 | .cells l=>flat3 l
 | .row l=>flat3 l
 | .map es _=>flat3 (flatE es)
 | _=>[]
noncomputable def mkT (l:List XO):Nat->Tr XO->Tr XO:=List.rec (motive:=λ_=>Nat->Tr XO->Tr XO) (λ_ t=>t) (λo _ ih i t=>ih (Nat.succ i) (t.set (some o) i)) l
theorem mkT_get : ∀ (l:List XO) (i:Nat) (t:Tr XO) (j:Nat),(mkT l i t).get j=if j<i then t.get j else match l[j - i]? with | some o=>some o | none=>t.get j
 | [],i,t,j=>by
   show t.get j=_
   simp
 | o :: l,i,t,j=>by
   show (mkT l (i+1) (t.set (some o) i)).get j=_
   rw [mkT_get l (i+1) _ j,Tr.get_set]
   by_cases h1:j<i
   ·rw [if_pos (by omega),if_neg (by omega),if_pos h1]
   ·by_cases h2:j=i
    ·subst h2
     rw [if_pos (by omega),if_pos rfl,if_neg (by omega)]
     simp
    ·rw [if_neg (by omega),if_neg h2,if_neg h1]
     obtain ⟨k,hk⟩ : ∃ k,j - i=k+1:=⟨j - i - 1,by omega⟩
     rw [hk,List.getElem?_cons_succ,show j - (i+1)=k by omega]
structure Ent where
 f:FuncId
 paths:List (Option Nat×Nat)
 xs:List XV
 obs:List XO
 y:XV
 ups:List (Nat×Option XO)
 n:Nat
noncomputable def Ent.heap (e:Ent):Hp:=⟨mkT e.obs 0 .lf,len e.obs⟩
def EntOk (P:Program) (G:World->Prop) (e:Ent):Prop:=∃ h',CallOk P G e.f e.xs e.heap e.y h'/\h'.n=e.n/\(∀ q∈e.ups,h'.t.get q.1=q.2)/\∀ i,i<e.obs.length->(∀ q∈e.ups,q.1≠i)->h'.t.get i=e.heap.t.get i
noncomputable def entB (e:Ent) (r:Option (XV×Hp)):Bool:=match r with
 | none=>false
 | some q=>br (sameX q.1 e.y) (br (Nat.beq q.2.n e.n) (allX (λu=>match u.2 with
    | none=>(match q.2.t.get u.1 with | none=>true | some _=>false)
    | some o=>(match q.2.t.get u.1 with | none=>false | some o'=>sameB o o')) e.ups) false) false
noncomputable def keptB (e:Ent) (r:Option (XV×Hp)):Bool:=match r with
 | none=>false
 | some q=>List.rec (motive:=λ_=>Nat->Bool) (λ_=>true) (λo _ ih i=>br (br (allX (λu=>br (Nat.beq u.1 i) false true) e.ups) (match q.2.t.get i with | none=>false | some o'=>sameB o o') true) (ih (Nat.succ i)) false) e.obs 0
theorem keptB_spec {t:Tr XO} {ups:List (Nat×Option XO)} : ∀ (l:List XO) (i:Nat),List.rec (motive:=λ_=>Nat->Bool) (λ_=>true) (λo _ ih i=>br (br (allX (λu=>br (Nat.beq u.1 i) false true) ups) (match t.get i with | none=>false | some o'=>sameB o o') true) (ih (Nat.succ i)) false) l i=true->
 ∀ j o,l[j]? = some o->(∀ q∈ups,q.1≠i+j)->t.get (i+j)=some o
 | [],i,h,j,o,hj,_=>by simp at hj
 | o' :: l,i,h,j,o,hj,hq=>by
   obtain ⟨h1,h2⟩:=br_and h
   cases j with
   | zero=>
     simp only [List.getElem?_cons_zero,Option.some.injEq] at hj
     subst hj
     have:allX (λu=>br (Nat.beq u.1 i) false true) ups=true:=by
      rw [allX_eq,List.all_eq_true]
      intro u hu
      have:=hq u hu
      rw [br_not]
      cases hb:Nat.beq u.1 i with
      | false=>rfl
      | true=>exact absurd (Nat.eq_of_beq_eq_true hb) this
     rw [this,br_t] at h1
     cases ht:t.get i with
     | none=>rw [ht] at h1; cases h1
     | some o2=>rw [ht] at h1; rw [sameB_eq h1]
   | succ j=>
     simp only [List.getElem?_cons_succ] at hj
     have:=keptB_spec l (i+1) h2 j o hj λq hq'=>by have:=hq q hq'; omega
     rw [show i+(j+1)=i+1+j by omega]
     exact this
theorem ent_of {P:Program} {G:World->Prop} {C:CallsX} (hC:CallsOk P G C) {e:Ent} {r:Option (XV×Hp)} (he:C.c e.f e.xs e.heap=r) (h1:entB e r=true) (h2:keptB e r=true):EntOk P G e:=by
 cases r with
 | none=>cases h1
 | some q=>
   obtain ⟨y,h'⟩:=q
   obtain ⟨a1,a2⟩:=br_and h1
   obtain ⟨a2,a3⟩:=br_and a2
   have hy:=sameX_eq a1
   simp only at hy
   subst hy
   refine ⟨h',hC.c _ _ _ _ _ he,Nat.eq_of_beq_eq_true a2,λu hu=>?_,λi hi hq=>?_⟩
   ·rw [allX_eq,List.all_eq_true] at a3
    have:=a3 u hu
    obtain ⟨i,oo⟩:=u
    cases oo with
    | none=>
      simp only at this ⊢
      cases ht:h'.t.get i with
      | none=>rfl
      | some o=>rw [ht] at this; cases this
    | some o=>
      simp only at this ⊢
      cases ht:h'.t.get i with
      | none=>rw [ht] at this; cases this
      | some o'=>rw [ht] at this; rw [sameB_eq this]
   ·have h3:=keptB_spec e.obs 0 h2 i e.obs[i] (List.getElem?_eq_getElem hi) λq hq'=>by have:=hq q hq'; omega
    rw [Nat.zero_add] at h3
    rw [h3]
    show _=(mkT e.obs 0 .lf).get i
    rw [mkT_get,if_neg (by omega),Nat.sub_zero,List.getElem?_eq_getElem hi]
noncomputable def findL (h:Hp) (xs:List XV) (ps:List (Option Nat×Nat)):List Nat->Option (List Nat):=List.rec (motive:=λ_=>List Nat->Option (List Nat)) (λacc=>some acc) (λp _ ih acc=>
 onO (match p.1 with
  | none=>nth (flat3 xs) p.2
  | some i=>onO (nth acc i) λL=>onO (h.t.get L) λo=>nth (cellsOf o) p.2) λx=>onO (labOf x) λL=>ih (app acc [L])) ps
noncomputable def nodupX (l:List Nat):Bool:=List.rec (motive:=λ_=>Bool) true (λa r ih=>br (memN a r) false ih) l
theorem nodupX_ok : ∀ {l:List Nat},nodupX l=true->l.Nodup
 | [],_=>List.nodup_nil
 | a :: l,h=>by
   have h:br (memN a l) false (nodupX l)=true:=h
   cases hb:memN a l with
   | true=>rw [hb,br_t] at h; cases h
   | false=>
     rw [hb,br_f] at h
     rw [memN_eq] at hb
     refine List.nodup_cons.2 ⟨λhm=>?_,nodupX_ok h⟩
     have:l.contains a=true:=by simpa using hm
     rw [hb] at this; cases this
noncomputable def obsB (φ:Nat->Nat) (t:Tr XO) (l:List XO):Nat->Bool:=List.rec (motive:=λ_=>Nat->Bool) (λ_=>true) (λo _ ih i=>br (match renO φ o with
 | none=>false
 | some o'=>(match t.get (φ i) with | none=>false | some o2=>sameB o' o2)) (ih (Nat.succ i)) false) l
theorem obsB_ok {φ:Nat->Nat} {t:Tr XO} : ∀ {l:List XO} {i:Nat},obsB φ t l i=true->∀ j o,l[j]? = some o->∃ o',renO φ o=some o'/\t.get (φ (i+j))=some o'
 | [],i,h,j,o,hj=>by simp at hj
 | o1 :: l,i,h,j,o,hj=>by
   have h:br (match renO φ o1 with
    | none=>false
    | some o'=>(match t.get (φ i) with | none=>false | some o2=>sameB o' o2)) (obsB φ t l (i+1)) false=true:=h
   obtain ⟨h1,h2⟩:=br_and h
   cases j with
   | zero=>
     simp only [List.getElem?_cons_zero,Option.some.injEq] at hj
     subst hj
     cases hr:renO φ o1 with
     | none=>rw [hr] at h1; cases h1
     | some o'=>
       rw [hr] at h1
       simp only at h1
       cases ht:t.get (φ i) with
       | none=>rw [ht] at h1; cases h1
       | some o2=>rw [ht] at h1; exact ⟨o',rfl,by rw [sameB_eq h1]⟩
   | succ j=>
     simp only [List.getElem?_cons_succ] at hj
     obtain ⟨o',h3,h4⟩:=obsB_ok h2 j o hj
     exact ⟨o',h3,by rw [show i+(j+1)=i+1+j by omega]; exact h4⟩
noncomputable def upsX (φ:Nat->Nat) (l:List (Nat×Option XO)):Tr XO->Option (Tr XO):=List.rec (motive:=λ_=>Tr XO->Option (Tr XO)) (λt=>some t) (λu _ ih t=>match u.2 with
 | none=>ih (t.set none (φ u.1))
 | some o=>onO (renO φ o) λo'=>ih (t.set (some o') (φ u.1))) l
theorem upsX_ok {φ:Nat->Nat} : ∀ {l:List (Nat×Option XO)} {t t':Tr XO},upsX φ l t=some t'->∀ M o,t'.get M=some o->(∃ i o0,(i,some o0)∈l/\M=φ i/\renO φ o0=some o)\/(t.get M=some o/\∀ u∈l,M≠φ u.1)
 | [],t,t',h,M,o,hM=>by cases h; exact .inr ⟨hM,λu hu=>by cases hu⟩
 | u :: l,t,t',h,M,o,hM=>by
   obtain ⟨i,oo⟩:=u
   cases oo with
   | none=>
     have h:upsX φ l (t.set none (φ i))=some t':=h
     rcases upsX_ok h M o hM with ⟨j,o0,h1,h2⟩ | ⟨h1,h2⟩
     ·exact .inl ⟨j,o0,List.mem_cons_of_mem _ h1,h2⟩
     ·rw [Tr.get_set] at h1
      by_cases e:M=φ i
      ·rw [if_pos e] at h1; cases h1
      ·rw [if_neg e] at h1
       exact .inr ⟨h1,λu hu=>by rcases List.mem_cons.1 hu with rfl | hu; exact e; exact h2 u hu⟩
   | some o1=>
     have h:(onO (renO φ o1) λo'=>upsX φ l (t.set (some o') (φ i)))=some t':=h
     obtain ⟨o',h0,h⟩:=onO_some h
     rcases upsX_ok h M o hM with ⟨j,o0,h1,h2⟩ | ⟨h1,h2⟩
     ·exact .inl ⟨j,o0,List.mem_cons_of_mem _ h1,h2⟩
     ·rw [Tr.get_set] at h1
      by_cases e:M=φ i
      ·rw [if_pos e] at h1; cases h1
       exact .inl ⟨i,o1,List.mem_cons_self,e,h0⟩
      ·rw [if_neg e] at h1
       exact .inr ⟨h1,λu hu=>by rcases List.mem_cons.1 hu with rfl | hu; exact e; exact h2 u hu⟩
noncomputable def entC (e:Ent) (xs:List XV) (h:Hp):Option (XV×Hp):=
 onO (findL h xs e.paths []) λl=>br (br (Nat.beq (len l) (len e.obs)) (br (allX (λM=>Nat.blt M h.n) l) (br (nodupX l) (br (match renA (ph l h.n) e.xs with | none=>false | some xs'=>sameA xs' xs) (obsB (ph l h.n) h.t e.obs 0) false) false) false) false)
  (onO (renX (ph l h.n) e.y) λy=>onO (upsX (ph l h.n) e.ups h.t) λt=>some (y,⟨t,Nat.add h.n (Nat.sub e.n (len l))⟩)) none
theorem entC_ok {P:Program} {G:World->Prop} {e:Ent} (he:EntOk P G e) {xs:List XV} {h h':Hp} {y:XV} (hr:entC e xs h=some (y,h')):CallOk P G e.f xs h y h':=by
 unfold entC at hr
 obtain ⟨l,_,hr1⟩:=onO_some hr
 obtain ⟨h1,hr2⟩:=br_some hr1
 obtain ⟨y',h2,hr3⟩:=onO_some hr2
 obtain ⟨t,h3,hr4⟩:=onO_some hr3
 clear hr hr1 hr2 hr3
 cases hr4
 obtain ⟨a1,a2⟩:=br_and h1
 obtain ⟨a2,a3⟩:=br_and a2
 obtain ⟨a3,a4⟩:=br_and a3
 obtain ⟨a4,a5⟩:=br_and a4
 obtain ⟨h0',c1,c2,c3,c4⟩:=he
 have hll:=Nat.eq_of_beq_eq_true a1
 rw [len_eq,len_eq] at hll
 have hxs:renA (ph l h.n) e.xs=some xs:=by
  cases hq:renA (ph l h.n) e.xs with
  | none=>rw [hq] at a4; cases a4
  | some xs'=>rw [hq] at a4; rw [sameA_eq a4]
 have hget : ∀ i,e.heap.t.get i=e.obs[i]?:=λi=>by
  show (mkT e.obs 0 .lf).get i=_
  rw [mkT_get,if_neg (by omega),Nat.sub_zero]
  cases e.obs[i]? <;> rfl
 refine call_frame c1 l (by show len e.obs=_; rw [len_eq]; exact hll.symm) (λM hM=>?_) (nodupX_ok a3) hxs h2 (λi o hio=>?_) (by show h.n+(e.n - len l)=_; rw [c2,len_eq]) λM o hM=>?_
 ·rw [allX_eq,List.all_eq_true] at a2
  have:=a2 M hM
  simpa [Nat.blt_eq] using this
 ·rw [hget] at hio
  refine ⟨by rw [hll]; exact (List.getElem?_eq_some_iff.1 hio).1,?_⟩
  obtain ⟨o',g1,g2⟩:=obsB_ok a5 i o hio
  rw [Nat.zero_add] at g2
  exact ⟨o',g1,g2⟩
 ·rcases upsX_ok h3 M o hM with ⟨i,o0,g1,g2,g3⟩ | ⟨g1,g2⟩
  ·exact .inl ⟨i,o0,g2,c3 _ g1,g3⟩
  ·by_cases hex : ∃ i,e.heap.t.get i≠none/\M=ph l h.n i
   ·obtain ⟨i,g3,g4⟩:=hex
    rw [hget] at g3
    cases ho:e.obs[i]? with
    | none=>exact absurd ho g3
    | some o1=>
      have hil:=(List.getElem?_eq_some_iff.1 ho).1
      have hk:=c4 i hil λq hq hqi=>by
       have:=g2 q hq
       rw [hqi] at this
       exact this g4
      rw [hget,ho] at hk
      obtain ⟨o',g5,g6⟩:=obsB_ok a5 i o1 ho
      rw [Nat.zero_add,<-g4,g1] at g6
      cases g6
      exact .inl ⟨i,o1,g4,hk,g5⟩
   ·exact .inr ⟨g1,λi hi e=>hex ⟨i,hi,e⟩⟩
noncomputable def entsC (es:List Ent) (f:FuncId) (xs:List XV) (h:Hp):Option (XV×Hp):=List.rec (motive:=λ_=>Option (XV×Hp)) none (λe _ ih=>br (Nat.beq e.f f) (match entC e xs h with
 | some r=>some r
 | none=>ih) ih) es
theorem entsC_ok {P:Program} {G:World->Prop} : ∀ {es:List Ent},(∀ e∈es,EntOk P G e)->∀ {f:FuncId} {xs:List XV} {h h':Hp} {y:XV},entsC es f xs h=some (y,h')->CallOk P G f xs h y h'
 | [],_,f,xs,h,h',y,hr=>by cases hr
 | e :: es,he,f,xs,h,h',y,hr=>by
   have hr:br (Nat.beq e.f f) (match entC e xs h with
    | some r=>some r
    | none=>entsC es f xs h) (entsC es f xs h)=some (y,h'):=hr
   cases hb:Nat.beq e.f f with
   | false=>
     rw [hb,br_f] at hr
     exact entsC_ok (λe' h'=>he e' (List.mem_cons_of_mem _ h')) hr
   | true=>
     rw [hb,br_t] at hr
     have hf:=Nat.eq_of_beq_eq_true hb
     subst hf
     cases hc:entC e xs h with
     | none=>
       rw [hc] at hr
       exact entsC_ok (λe' h'=>he e' (List.mem_cons_of_mem _ h')) hr
     | some r=>
       rw [hc] at hr
       cases hr
       exact entC_ok (he e List.mem_cons_self) hc
noncomputable def orC (a b:FuncId->List XV->Hp->Option (XV×Hp)):FuncId->List XV->Hp->Option (XV×Hp):=λf xs h=>match a f xs h with
 | some r=>some r
 | none=>b f xs h
theorem orC_ok {P:Program} {G:World->Prop} {a b:FuncId->List XV->Hp->Option (XV×Hp)} (ha : ∀ f xs h y h',a f xs h=some (y,h')->CallOk P G f xs h y h') (hb : ∀ f xs h y h',b f xs h=some (y,h')->CallOk P G f xs h y h') :
 ∀ f xs h y h',orC a b f xs h=some (y,h')->CallOk P G f xs h y h':=λf xs h y h' hr=>by
 unfold orC at hr
 split at hr
 ·next r hr'=>cases hr; exact ha _ _ _ _ _ hr'
 ·exact hb _ _ _ _ _ hr
def DryX (x:XV):Prop:=∀ K:Nat,renX (λ_=>K) x=some x
def DryA (l:List XV):Prop:=∀ K:Nat,renA (λ_=>K) l=some l
def DryO (o:XO):Prop:=∀ K:Nat,renO (λ_=>K) o=some o
theorem DryX.any {x:XV} (h:DryX x) {ρ ρ':Lab} {K K':Nat} (h1:ρ K=none) (h2:ρ' K'=none) {v:Value} (hx:XR ρ x v):XR ρ' x v:=by
 have a:=(renX_iff (ρ:=ρ) (h K) v).1 hx
 refine (renX_iff (ρ:=ρ') (h K') v).2 ?_
 simp only [h1,h2] at a ⊢
 exact a
theorem DryA.any {x:List XV} (h:DryA x) {ρ ρ':Lab} {K K':Nat} (h1:ρ K=none) (h2:ρ' K'=none) {v:List Value} (hx:XRs ρ x v):XRs ρ' x v:=by
 have a:=(renA_iff (ρ:=ρ) (h K) v).1 hx
 refine (renA_iff (ρ:=ρ') (h K') v).2 ?_
 simp only [h1,h2] at a ⊢
 exact a
theorem DryO.any {o:XO} (h:DryO o) {ρ ρ':Lab} {K K':Nat} (h1:ρ K=none) (h2:ρ' K'=none) {w:World} {b s:Nat} (hx:ObjOk ρ w b s o):ObjOk ρ' w b s o:=by
 have a:=(renO_iff (ρ:=ρ) (h K) w b s).1 hx
 refine (renO_iff (ρ:=ρ') (h K') w b s).2 ?_
 simp only [h1,h2] at a ⊢
 exact a
section
variable {P:Program} {G:World->Prop} {f:FuncId}
theorem inv_none (S0:Nat->Prop) (w:World):Inv S0 w (λ_=>none) ⟨.lf,0⟩ w:=
 ⟨λ_ _=>rfl,λL o h=>(by cases h),λL L' o o' b s s' h=>(by cases h),Mod.refl _ _⟩
theorem quiet_dry {xs:List XV} {y:XV} {h0':Hp} (hc:CallOk P G f xs ⟨.lf,0⟩ y h0') (hxs:DryA xs) (hy:DryX y) (h:Hp):QuietOk P G f xs h y:=by
 intro S0 w0 ρ w vs hG hi hvs
 refine Calls.mono (hc NoB w (λ_=>none) w vs (GOk.mono hG λw' hm=>hi.mod.no' hm) (inv_none _ _) (hxs.any (hi.fresh h.n (Nat.le_refl _)) (K':=0) rfl hvs)) λe w' hq=>?_
 obtain ⟨v,ρ1,rfl,h1,h2,h3⟩:=hq
 exact ⟨v,rfl,hy.any (h3.fresh h0'.n (Nat.le_refl _)) (hi.fresh h.n (Nat.le_refl _)) h2,hi.no h3.mod⟩
theorem quiet_frame {xs0 xs:List XV} {y:XV} {h0 h0' h:Hp} (hc:CallOk P G f xs0 h0 y h0') (l:List Nat) (hk:h0.n=l.length)
 (hlt : ∀ M∈l,M<h.n) (hnd:l.Nodup) (hxs:renA (ph l h.n) xs0=some xs) (hy:DryX y)
 (hob : ∀ i o,h0.t.get i=some o->i<l.length/\DryO o/\h.t.get (ph l h.n i)=some o) (hkeep : ∀ i o,h0.t.get i=some o->h0'.t.get i=some o) :
 QuietOk P G f xs h y:=by
 intro S0 w0 ρ w vs hG hi hvs
 have hgi:=InvG.of hi
 have hfr0:=hi.fresh h.n (Nat.le_refl _)
 have pinj : ∀ i j,ph l h.n i=ph l h.n j->i=j:=λi j e=>by
  by_cases h1:i<l.length <;> by_cases h2:j<l.length
  ·have e1:l[i]? = some l[i]:=List.getElem?_eq_getElem h1
   have e2:l[j]? = some l[j]:=List.getElem?_eq_getElem h2
   rw [ph_lt e1,ph_lt e2] at e
   exact (List.getElem_inj hnd).1 e
  ·have e1:l[i]? = some l[i]:=List.getElem?_eq_getElem h1
   have:=hlt l[i] (List.getElem_mem h1)
   rw [ph_lt e1,ph_ge (by omega)] at e
   omega
  ·have e2:l[j]? = some l[j]:=List.getElem?_eq_getElem h2
   have:=hlt l[j] (List.getElem_mem h2)
   rw [ph_lt e2,ph_ge (by omega)] at e
   omega
  ·rw [ph_ge (by omega),ph_ge (by omega)] at e
   omega
 have hi0:InvG (Loc (λi=>ρ (ph l h.n i)) h0.t.get) w (λi=>ρ (ph l h.n i)) h0.t.get h0.n w:=by
  refine InvG.loc (S0:=S0) (w0:=w0) ⟨λi hii=>?_,λi o e=>?_,λi j o o' b s s' e1 e2 e3 e4=>?_,hi.mod⟩
  ·rw [ph_ge (by omega)]
   exact hi.fresh _ (by omega)
  ·obtain ⟨_,h1,h2⟩:=hob i o e
   obtain ⟨b,s,h3,h4,h5⟩:=hi.dom _ _ h2
   refine ⟨b,s,h3,h1.any hfr0 (K':=h0.n) ?_ h4,h5⟩
   rw [ph_ge (by omega)]
   exact hi.fresh _ (by omega)
  ·obtain ⟨_,_,h2⟩:=hob i o e1
   obtain ⟨_,_,h4⟩:=hob j o' e2
   exact pinj i j (hi.inj _ _ _ _ _ _ _ h2 h4 e3 e4)
 obtain ⟨pre,hpre⟩:=fun_of (R:=λM o=>h.t.get M=some o/\∃ i,h0.t.get i=some o/\M=ph l h.n i) λM a b ⟨e1,_⟩ ⟨e2,_⟩=>by rw [e1] at e2; exact Option.some.inj e2
 have p1 : ∀ M o,pre M=some o->h.t.get M=some o:=λM o e=>((hpre M o).1 e).1
 have hloc : ∀ b,Loc (λi=>ρ (ph l h.n i)) h0.t.get b->Loc ρ pre b:=λb ⟨i,o,s,e1,e2⟩=>by
  obtain ⟨_,_,h2⟩:=hob i o e1
  exact ⟨_,o,s,(hpre _ o).2 ⟨h2,i,e1,rfl⟩,e2⟩
 have hpg:=hgi.sub p1
 have hG0:GOk G (Loc (λi=>ρ (ph l h.n i)) h0.t.get) w:=GOk.mono hG λw' hm=>hpg.loc_mod (hm.mono λx _ e=>hloc x e)
 refine Calls.mono (hc _ _ _ w vs hG0 hi0.to ((renA_iff (ρ:=ρ) hxs vs).1 hvs)) λe w' hq=>?_
 obtain ⟨v,ρ1,rfl,h1,h2,h3⟩:=hq
 have hfr1:=h3.fresh h0'.n (Nat.le_refl _)
 refine ⟨v,rfl,hy.any hfr1 hfr0 h2,?_⟩
 have hpo:InvG (Loc ρ pre) w ρ pre h.n w':=by
  refine ⟨hi.fresh,λM o e=>?_,λM M' o o' b s s' e1 e2=>hpg.inj M M' o o' b s s' e1 e2,h3.mod.mono λx _ e=>hloc x e⟩
  obtain ⟨e1,i,e2,rfl⟩:=(hpre M o).1 e
  obtain ⟨hil,hd,_⟩:=hob i o e2
  obtain ⟨b,s,g1,g2,g3⟩:=h3.dom i o (hkeep i o e2)
  refine ⟨b,s,?_,hd.any hfr1 hfr0 g2,?_⟩
  ·exact (h1.2 i (by omega)).symm.trans g1
  ·rcases g3 with g3 | g3
   ·exact .inl (hloc b g3)
   ·exact .inr g3
 have hfr:=hgi.frame p1 hpo (Lab.le_refl _)
 refine (hfr.sub λM o e=>?_).to
 cases hp:pre M with
 | none=>simp only [hp]; exact e
 | some o'=>simp only [hp]; rw [<-e,p1 M o' hp]
end
end Go.X
end
