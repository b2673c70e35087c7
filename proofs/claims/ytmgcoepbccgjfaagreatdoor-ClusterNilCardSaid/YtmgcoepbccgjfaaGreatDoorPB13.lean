/- The forms of the translated functions,their contracts and the plain laws behind them,put together by a program. -/
import Derived.Test.YtmgcoepbccgjfaaGreatDoorPB12
import Derived.Laws.StructEq
set_option linter.unusedSimpArgs false
set_option linter.unusedVariables false
set_option maxRecDepth 1000000
set_option maxHeartbeats 8000000
section
namespace Go.X
open Go Go.Sh
noncomputable def isO {α:Type} (o:Option α):Bool:=Option.rec (motive:=λ_=>Bool) false (λ_=>true) o
theorem isO_eq {α:Type} (o:Option α):isO o=o.isSome:=by cases o <;> rfl
noncomputable def eq1 (d:Option TypeDesc) (x y:XV):Option Bool:=
 match d,x,y with
 | some (.int _),.int k a,.int k' b=>br (Nat.beq (idxK k) (idxK k')) (some (ieq a b)) none
 | some .bool,.bool a,.bool b=>some (br a b (br b false true))
 | some .string,.str l,.str m=>some (seq l m)
 | _,_,_=>none
theorem br_beq (a b:Bool):br a b (br b false true)=(a==b):=by cases a <;> cases b <;> rfl
theorem eq1_run {P:Program} {T:TypeId} {x y:XV} {b:Bool} (h:eq1 (P.underlying T) x y=some b) {ρ:Lab} {u v:Value} (hx:XR ρ x u) (hy:XR ρ y v) (n:Nat) (w:World) :
 (Op.equalIn (n+1) T u v).run P w = .ok b w:=by
 unfold eq1 at h
 split at h
 ·next k' k a k2 c hu=>
  obtain ⟨h1,h2⟩:=br_some h
  cases h2
  obtain rfl:=idxK_inj h1
  simp only [XR] at hx hy
  subst hx hy
  rw [run_equalIn_int w n T k k' a c hu,ieq_eq]
 ·next a c hu=>
  cases h
  simp only [XR] at hx hy
  subst hx hy
  rw [br_beq]
  exact eqIn_bool n hu w
 ·next l m hu=>
  cases h
  simp only [XR] at hx hy
  obtain ⟨hl,rfl⟩:=hx
  obtain ⟨hm,rfl⟩:=hy
  rw [strV,strV,run_equalIn_string w n T _ _ hu,toL,toL,beqL hl hm]
 ·cases h
noncomputable def eqF (P:Program) (l m:List XV) (fs:List Field):Option Bool:=
 List.rec (motive:=λ_=>Option Bool) (some true) (λf _ ih=>
  br (decide (f.name = "_")) none (onO (nth l f.offset) λx=>onO (nth m f.offset) λy=>onO (eq1 (P.underlying f.type) x y) λb=>onO ih λc=>some (br b c false))) fs
theorem part1 {P:Program} {T:TypeId} {l:List XV} {o:Nat} {x y:XV} {b:Bool} (hx:nth l o=some x) (he:eq1 (P.underlying T) x y=some b\/eq1 (P.underlying T) y x=some b) {ρ:Lab} {vs:List Value} (hl:XRs ρ l vs) :
 ∃ v,(∀ w,(part T vs.toArray o).run P w = .ok v w)/\XR ρ x v:=by
 obtain ⟨v,h1,h2⟩:=hl.at (by rw [<-nth_eq]; exact hx)
 refine ⟨v,λw=>?_,h2⟩
 have hA : ∃ d,P.underlying T=some d/\isAggT P T=false:=by
  cases hu:P.underlying T with
  | none=>rw [hu] at he; rcases he with he | he <;> cases he
  | some d=>
    refine ⟨d,rfl,?_⟩
    rw [hu] at he
    unfold isAggT
    rw [hu]
    cases d <;> first | rfl | (rcases he with he | he <;> cases he)
 obtain ⟨d,hu,hA⟩:=hA
 unfold part
 simp [run_isAgg hu,hA,h1]
theorem eqF_run {P:Program} {l m:List XV} {ρ:Lab} {us vs:List Value} (hl:XRs ρ l us) (hm:XRs ρ m vs) (n:Nat) (w:World) : ∀ (fs:List Field) (b:Bool),eqF P l m fs=some b->(Op.eqFields (n+1) us.toArray vs.toArray fs).run P w = .ok b w
 | [],b,h=>by
   have h:(some true:Option Bool)=some b:=h
   cases h; rfl
 | f :: fs,b,h=>by
   have h:br (decide (f.name = "_")) none (onO (nth l f.offset) λx=>onO (nth m f.offset) λy=>onO (eq1 (P.underlying f.type) x y) λb=>onO (eqF P l m fs) λc=>some (br b c false))=some b:=h
   obtain ⟨h0,h⟩:=br_none h
   obtain ⟨x,h1,h⟩:=onO_some h
   obtain ⟨y,h2,h⟩:=onO_some h
   obtain ⟨b1,h3,h⟩:=onO_some h
   obtain ⟨c,h4,h⟩:=onO_some h
   cases h
   obtain ⟨u,p1,q1⟩:=part1 h1 (.inl h3) hl
   obtain ⟨v,p2,q2⟩:=part1 h2 (.inr h3) hm
   have hn:f.name≠ "_":=by simpa using h0
   simp only [Op.eqFields,if_pos hn,Sem.run_bind,p1,p2,eq1_run h3 q1 q2,Result.andThen_ok]
   cases b1 with
   | true=>simpa [br] using eqF_run hl hm n w fs c h4
   | false=>simp [br]
noncomputable def ints (k:IntKind) (l:List XV):Option (List Int):=mapO (λx=>match x with
 | .int k' n=>br (Nat.beq (idxK k) (idxK k')) (some n) none
 | _=>none) l
theorem ints_ok {k:IntKind} {ρ:Lab} : ∀ {l:List XV} {ns:List Int} {vs:List Value},ints k l=some ns->XRs ρ l vs->vs=ns.map (Value.int k)
 | [],ns,vs,h,hl=>by unfold ints at h; rw [mapO_nil] at h; cases h; simp only [XRs] at hl; subst hl; rfl
 | x :: l,ns,vs,h,hl=>by
   unfold ints at h
   obtain ⟨n,r,rfl,h1,h2⟩:=mapO_cons h
   simp only [XRs] at hl
   obtain ⟨v,vs',rfl,h3,h4⟩:=hl
   split at h1
   ·obtain ⟨h5,h6⟩:=br_some h1
    cases h6
    obtain rfl:=idxK_inj h5
    simp only [XR] at h3
    rw [h3,ints_ok h2 h4]; rfl
   ·cases h1
noncomputable def ieqs (l:List Int):List Int->Bool:=
 List.rec (motive:=λ_=>List Int->Bool) (λm=>List.rec (motive:=λ_=>Bool) true (λ_ _ _=>false) m)
  (λa _ ih m=>List.rec (motive:=λ_=>Bool) false (λb r _=>br (ieq a b) (ih r) false) m) l
theorem ieqs_eq : ∀ l m:List Int,ieqs l m=(l==m)
 | [],[]=>rfl
 | [],b :: r=>rfl
 | a :: l,[]=>rfl
 | a :: l,b :: r=>by
   show br (ieq a b) (ieqs l r) false=_
   rw [ieqs_eq l r,ieq_eq,List.cons_beq_cons,br_eq]
   cases a==b <;> simp
noncomputable def xeq (P:Program) (T:TypeId) (ox oy:Operand) (x y:XV):Option Bool:=
 match x,y with
 | .bool a,.bool b=>match P.underlying T with
   | some .bool=>some (br a b (br b false true))
   | _=>none
 | .ptr p,.ptr none=>match P.underlying T with
   | some (.pointer _)=>some (br (isO p) false true)
   | _=>none
 | .sl p _ _,.sl none 0 0=>match P.underlying T with
   | some (.slice _)=>some (br (isO p) false true)
   | _=>none
 | .slu _ _ _ _,.sl none 0 0=>match P.underlying T with
   | some (.slice _)=>some false
   | _=>none
 | .em _,.sl none 0 0=>match P.underlying T with
   | some (.slice _)=>some false
   | _=>none
 | .map p,.map none=>match P.underlying T with
   | some (.map _ _)=>some (br (isO p) false true)
   | _=>none
 | .nilFn,.nilFn=>match P.underlying T with
   | some (.func _ _ _)=>some true
   | _=>none
 | .fn _ _ _,.nilFn=>match P.underlying T with
   | some (.func _ _ _)=>some false
   | _=>none
 | .nilI,.nilI=>match P.underlying T,oy with
   | some (.interface _),.const _=>some true
   | _,_=>none
 | .ifc _ _,.nilI=>match P.underlying T with
   | some (.interface _)=>some false
   | _=>none
 | .agg l,.agg m=>br (P.eqGuardType P.depth T) none (match P.underlying T with
   | some (.struct fs)=>br (P.stoodInHeld T) none (eqF P l m fs.toList)
   | some (.array n e)=>match P.underlying e with
     | some (.int k)=>br (P.plainKey e) (br (hasT P e) (br (Nat.beq (P.cellsOf e) 1) (onO (ints k l) λa=>onO (ints k m) λb=>br (Nat.beq (len a) n) (br (Nat.beq (len b) n) (some (ieqs a b)) none) none) none) none) none
     | _=>none
   | _=>none)
 | _,_=>none
theorem xeq_run {P:Program} {T:TypeId} {ox oy:Operand} {x y:XV} {b:Bool} (h:xeq P T ox oy x y=some b) {ρ:Lab} {u v:Value} (hx:XR ρ x u) (hy:XR ρ y v) (w:World) (op:BinOp) :
 (Op.equal T u v).run P w = .ok b w/\(eqGuard op T ox oy u v).run P w = .ok () w:=by
 have eb : ∀ o:Option (Nat×Nat),br (isO o) false true=o.isNone:=λo=>by cases o <;> rfl
 have em : ∀ o:Option Nat,br (isO o) false true=o.isNone:=λo=>by cases o <;> rfl
 have g : ∀ {u v:Value},(∀ a,u≠.agg a)->(u≠.nilIface)->(eqGuard op T ox oy u v).run P w = .ok () w:=λ{u v} h1 h2=>by
  cases op <;> simp [eqGuard] <;> (cases u <;> first | rfl | exact absurd rfl h2 | exact absurd rfl (h1 _))
 unfold xeq at h
 split at h
 ·next a c=>
  split at h <;> cases h
  next hu=>
  simp only [XR] at hx hy; subst hx hy
  rw [br_beq]
  exact ⟨eqIn_bool 9999 hu w,g (by simp) (by simp)⟩
 ·next p=>
  split at h <;> cases h
  next e hu=>
  simp only [XR] at hy; subst hy
  cases p with
  | none=>simp only [XR] at hx; subst hx; exact ⟨eqIn_ptr 9999 hu w,g (by simp) (by simp)⟩
  | some q=>obtain ⟨L,o⟩:=q; simp only [XR] at hx; obtain ⟨b,s,_,rfl⟩:=hx; exact ⟨eqIn_ptr 9999 hu w,g (by simp) (by simp)⟩
 ·next p n c=>
  split at h <;> cases h
  next e hu=>
  simp only [XR] at hy; subst hy
  cases p with
  | none=>simp only [XR] at hx; subst hx; exact ⟨eqIn_slc 9999 hu w,g (by simp) (by simp)⟩
  | some q=>obtain ⟨L,o⟩:=q; simp only [XR] at hx; obtain ⟨b,s,_,rfl⟩:=hx; exact ⟨eqIn_slc 9999 hu w,g (by simp) (by simp)⟩
 ·split at h <;> cases h
  next e hu=>
  simp only [XR] at hy; subst hy
  simp only [XR] at hx; obtain ⟨b,s,c,_,rfl,_⟩:=hx
  exact ⟨eqIn_slc 9999 hu w,g (by simp) (by simp)⟩
 ·split at h <;> cases h
  next e hu=>
  simp only [XR] at hy; subst hy
  simp only [XR] at hx; obtain ⟨b,s,o,c,_,rfl⟩:=hx
  exact ⟨eqIn_slc 9999 hu w,g (by simp) (by simp)⟩
 ·next p=>
  split at h <;> cases h
  next e hu=>
  simp only [XR] at hy; subst hy
  cases p with
  | none=>simp only [XR] at hx; subst hx; exact ⟨eqIn_map 9999 hu w,g (by simp) (by simp)⟩
  | some q=>simp only [XR] at hx; obtain ⟨b,s,_,rfl⟩:=hx; exact ⟨eqIn_map 9999 hu w,g (by simp) (by simp)⟩
 ·split at h <;> cases h
  next hu=>
  simp only [XR] at hx hy; subst hx hy
  refine ⟨?_,g (by simp) (by simp)⟩
  show (Op.equalIn (9999+1) T _ _).run P w=_
  unfold Op.equalIn; simp [run_underlying hu]
 ·split at h <;> cases h
  next hu=>
  simp only [XR] at hx hy; subst hy; obtain ⟨asv,cs,_,_,rfl⟩:=hx
  refine ⟨?_,g (by simp) (by simp)⟩
  show (Op.equalIn (9999+1) T _ _).run P w=_
  unfold Op.equalIn; simp [run_underlying hu]
 ·split at h <;> cases h
  next hu=>
  simp only [XR] at hx hy; subst hx hy
  refine ⟨?_,?_⟩
  ·show (Op.equalIn (9999+1) T _ _).run P w=_
   unfold Op.equalIn; simp [run_underlying hu]
  ·cases op <;> simp [eqGuard]
 ·split at h <;> cases h
  next hu=>
  simp only [XR] at hx hy; subst hy; obtain ⟨z,_,rfl⟩:=hx
  refine ⟨?_,g (by simp) (by simp)⟩
  show (Op.equalIn (9999+1) T _ _).run P w=_
  unfold Op.equalIn; simp [run_underlying hu]
 ·next l m=>
  obtain ⟨hg,h⟩:=br_none h
  simp only [XR] at hx hy
  obtain ⟨us,h1,rfl⟩:=hx
  obtain ⟨vs,h2,rfl⟩:=hy
  refine ⟨?_,run_eqGuard_agg w op T ox oy _ _ hg⟩
  split at h
  ·next fs hu=>
   obtain ⟨hp,h⟩:=br_none h
   have hf:P.fieldsOf T=fs:=by unfold Program.fieldsOf; rw [hu]
   show (Op.equalIn (9999+1) T _ _).run P w=_
   rw [run_equalIn_agg w 9999 T _ _ (by rw [hf]; exact hu) hp,hf]
   exact eqF_run h1 h2 9998 w _ _ h
  ·next n e hu=>
   split at h
   ·next k hk=>
    obtain ⟨g1,h⟩:=br_some h
    obtain ⟨g2,h⟩:=br_some h
    obtain ⟨g3,h⟩:=br_some h
    obtain ⟨a,g4,h⟩:=onO_some h
    obtain ⟨c,g5,h⟩:=onO_some h
    obtain ⟨g6,h⟩:=br_some h
    obtain ⟨g7,h⟩:=br_some h
    cases h
    rw [ints_ok g4 h1,ints_ok g5 h2,ieqs_eq]
    rw [len_eq] at g6 g7
    exact run_equal_ints 9998 hu hk g1 (info_some (hasT_ok g2)) (Nat.eq_of_beq_eq_true g3) a c (Nat.eq_of_beq_eq_true g6) (Nat.eq_of_beq_eq_true g7) w
   ·cases h
  ·cases h
 ·cases h
noncomputable def isShX (op:BinOp):Bool:=match op with
 | .shl=>true
 | .shr=>true
 | _=>false
noncomputable def xbin (P:Program) (op:BinOp) (T:TypeId) (ox oy:Operand) (x y:XV):Option XV:=
 match x,y with
 | .int k a,.int k' b=>br (isShX op) (xshift op k a b) (br (Nat.beq (idxK k) (idxK k')) (xint op k a b) none)
 | .str l,.str m=>xstr op l m
 | x,y=>match op with
   | .eql=>onO (xeq P T ox oy x y) λb=>some (.bool b)
   | .neq=>onO (xeq P T ox oy x y) λb=>some (.bool (br b false true))
   | _=>none
theorem eqGuard_int {P:Program} {op:BinOp} {T:TypeId} {ox oy:Operand} {k k':IntKind} {a b:Int} (w:World):(eqGuard op T ox oy (.int k a) (.int k' b)).run P w = .ok () w:=by
 cases op <;> simp [eqGuard]
theorem eqGuard_str {P:Program} {op:BinOp} {T:TypeId} {ox oy:Operand} {a b:ByteArray} (w:World):(eqGuard op T ox oy (.string a) (.string b)).run P w = .ok () w:=by
 cases op <;> simp [eqGuard]
theorem xeq_no {P:Program} {T:TypeId} {ox oy:Operand} {x y:XV} {b:Bool} (h:xeq P T ox oy x y=some b) {ρ:Lab} {u v:Value} (hx:XR ρ x u) (hy:XR ρ y v) :
 binOp .eql T u v=(do pure (.bool (<-Op.equal T u v)))/\binOp .neq T u v=(do pure (.bool (!(<-Op.equal T u v)))):=by
 unfold xeq at h
 split at h
 all_goals first
  | (cases h; done)
  | skip
 ·simp only [XR] at hx hy; subst hx hy; exact ⟨rfl,rfl⟩
 ·next p=>
  simp only [XR] at hy; subst hy
  cases p with
  | none=>simp only [XR] at hx; subst hx; exact ⟨rfl,rfl⟩
  | some q=>obtain ⟨L,o⟩:=q; simp only [XR] at hx; obtain ⟨b,s,_,rfl⟩:=hx; exact ⟨rfl,rfl⟩
 ·next p n c=>
  simp only [XR] at hy; subst hy
  cases p with
  | none=>simp only [XR] at hx; subst hx; exact ⟨rfl,rfl⟩
  | some q=>obtain ⟨L,o⟩:=q; simp only [XR] at hx; obtain ⟨b,s,_,rfl⟩:=hx; exact ⟨rfl,rfl⟩
 ·simp only [XR] at hx hy; subst hy; obtain ⟨b,s,c,_,rfl,_⟩:=hx; exact ⟨rfl,rfl⟩
 ·simp only [XR] at hx hy; subst hy; obtain ⟨b,s,o,c,_,rfl⟩:=hx; exact ⟨rfl,rfl⟩
 ·next p=>
  simp only [XR] at hy; subst hy
  cases p with
  | none=>simp only [XR] at hx; subst hx; exact ⟨rfl,rfl⟩
  | some q=>simp only [XR] at hx; obtain ⟨b,s,_,rfl⟩:=hx; exact ⟨rfl,rfl⟩
 ·simp only [XR] at hx hy; subst hx hy; exact ⟨rfl,rfl⟩
 ·simp only [XR] at hx hy; subst hy; obtain ⟨asv,cs,_,_,rfl⟩:=hx; exact ⟨rfl,rfl⟩
 ·simp only [XR] at hx hy; subst hx hy; exact ⟨rfl,rfl⟩
 ·simp only [XR] at hx hy; subst hy; obtain ⟨z,_,rfl⟩:=hx; exact ⟨rfl,rfl⟩
 ·simp only [XR] at hx hy; obtain ⟨us,_,rfl⟩:=hx; obtain ⟨vs,_,rfl⟩:=hy; exact ⟨rfl,rfl⟩
theorem xbin_run {P:Program} {op:BinOp} {T:TypeId} {ox oy:Operand} {x y z:XV} (h:xbin P op T ox oy x y=some z) {ρ:Lab} {u v:Value} (hx:XR ρ x u) (hy:XR ρ y v) :
 ∃ r,(∀ w,((do eqGuard op T ox oy u v; binOp op T u v):Sem Value).run P w = .ok r w)/\XR ρ z r:=by
 unfold xbin at h
 split at h
 ·next k a k' b=>
  simp only [XR] at hx hy; subst hx hy
  rw [br_eq] at h
  split at h
  ·obtain ⟨r,h1,h2⟩:=xshift_run (P:=P) (T:=T) (yk:=k') h
   exact ⟨r,λw=>by simp only [Sem.run_bind,eqGuard_int,Result.andThen_ok,h1],h2 ρ⟩
  ·obtain ⟨h0,h'⟩:=br_some h
   obtain rfl:=idxK_inj h0
   obtain ⟨r,h1,h2⟩:=xint_run (P:=P) (T:=T) h'
   exact ⟨r,λw=>by simp only [Sem.run_bind,eqGuard_int,Result.andThen_ok,h1],h2 ρ⟩
 ·next l m=>
  simp only [XR] at hx hy
  obtain ⟨hl,rfl⟩:=hx
  obtain ⟨hm,rfl⟩:=hy
  obtain ⟨r,h1,h2⟩:=xstr_run (P:=P) (T:=T) h hl hm
  exact ⟨r,λw=>by rw [strV,strV] at *; simp only [Sem.run_bind,eqGuard_str,Result.andThen_ok,h1],h2 ρ⟩
 ·split at h
  ·obtain ⟨b,h1,h⟩:=onO_some h
   cases h
   obtain ⟨e1,_⟩:=xeq_no h1 hx hy
   exact ⟨.bool b,λw=>by simp only [Sem.run_bind,(xeq_run h1 hx hy w .eql).2,Result.andThen_ok,e1,(xeq_run h1 hx hy w .eql).1,Sem.run_pure],rfl⟩
  ·obtain ⟨b,h1,h⟩:=onO_some h
   cases h
   obtain ⟨_,e1⟩:=xeq_no h1 hx hy
   exact ⟨.bool (!b),λw=>by simp only [Sem.run_bind,(xeq_run h1 hx hy w .neq).2,Result.andThen_ok,e1,(xeq_run h1 hx hy w .neq).1,Sem.run_pure],by simp only [XR]; rw [br_not]⟩
  ·cases h
abbrev XE:=Tr XV
def EnvOk (ρ:Lab) (env:XE) (tmps:Array Value):Prop:=∀ t x,env.get t=some x->∃ v,tmps[t]? = some v/\XR ρ x v
theorem EnvOk.le {ρ ρ':Lab} {env:XE} {tmps:Array Value} (h:EnvOk ρ env tmps) (hl:Lab.le ρ ρ'):EnvOk ρ' env tmps:=λt x e=>by
 obtain ⟨v,h1,h2⟩:=h t x e
 exact ⟨v,h1,XR.le hl _ _ h2⟩
noncomputable def evX (env:XE) (x:Operand):Option XV:=match x with
 | .tmp t=>env.get t
 | .const v=>constX v
 | .global _=>none
 | .func f=>some (.fn f [] [])
theorem evX_ok {ρ:Lab} {env:XE} {a:Act} (he:EnvOk ρ env a.tmps) {x:Operand} {y:XV} (h:evX env x=some y):XR ρ y (a.eval x):=by
 cases x with
 | tmp t=>
   obtain ⟨v,h1,h2⟩:=he t y h
   have:a.eval (.tmp t)=v:=by simp [Act.eval,h1]
   rw [this]; exact h2
 | const v=>exact constX_ok h ρ
 | global g=>cases h
 | func f=>cases h; simp only [XR]; exact ⟨[],[],rfl,rfl,rfl⟩
noncomputable def evsX (env:XE) (xs:List Operand):Option (List XV):=mapO (evX env) xs
theorem evsX_ok {ρ:Lab} {env:XE} {a:Act} (he:EnvOk ρ env a.tmps) : ∀ {xs:List Operand} {ys:List XV},evsX env xs=some ys->XRs ρ ys (xs.map a.eval)
 | [],ys,h=>by unfold evsX at h; rw [mapO_nil] at h; cases h; rfl
 | x :: xs,ys,h=>by
   unfold evsX at h
   obtain ⟨b,r,rfl,h1,h2⟩:=mapO_cons h
   exact ⟨_,_,rfl,evX_ok he h1,evsX_ok he h2⟩
noncomputable def numX (x:XV):Option Int:=match x with
 | .int _ n=>some n
 | _=>none
theorem numX_ok {x:XV} {n:Int} (h:numX x=some n) {ρ:Lab} {v:Value} (hx:XR ρ x v) : ∃ k,v = .int k n:=by
 cases x <;> cases h
 simp only [XR] at hx
 exact ⟨_,hx⟩
noncomputable def optX (env:XE) (x:Option Operand):Option (Option Int):=match x with
 | none=>some none
 | some x=>onO (evX env x) λy=>onO (numX y) λn=>some (some n)
theorem optX_ok {ρ:Lab} {env:XE} {a:Act} (he:EnvOk ρ env a.tmps) {x:Option Operand} {n:Option Int} (h:optX env x=some n) : ∃ k,x.map a.eval=n.map (Value.int k):=by
 cases x with
 | none=>cases h; exact ⟨.i64,rfl⟩
 | some x=>
   obtain ⟨y,h1,h⟩:=onO_some h
   obtain ⟨m,h2,h⟩:=onO_some h
   cases h
   obtain ⟨k,hk⟩:=numX_ok h2 (evX_ok he h1)
   exact ⟨k,by simp [hk]⟩
noncomputable def xidx (P:Program) (T:TypeId) (x:XV) (i:Int):Option XV:=
 onO (i2n i) λn=>match x with
 | .sl (some (L,o)) len _=>br (Nat.blt n len) (onO (elemX P T) λe=>some (.ptr (some (L,Nat.add o (Nat.mul n (sizeAt P e)))))) none
 | .slu L o len _=>br (Nat.blt n len) (onO (elemX P T) λe=>some (.ptr (some (L,Nat.add o (Nat.mul n (sizeAt P e)))))) none
 | .ptr (some (L,o))=>onO (arrX P T) λq=>br (Nat.blt n q.1) (some (.ptr (some (L,Nat.add o (Nat.mul n (sizeAt P q.2)))))) none
 | _=>none
theorem xidx_run {P:Program} {T:TypeId} {x y:XV} {i:Int} (h:xidx P T x i=some y) {ρ:Lab} {v:Value} (hx:XR ρ x v) (k:IntKind) :
 ∃ u,(∀ w,(Instr.indexAt T v (.int k i)).run P w = .ok u w)/\XR ρ y u:=by
 unfold xidx at h
 have hq:=onO_some h
 clear h
 obtain ⟨n,hn,h⟩:=hq
 have hn':=i2n_ok hn
 clear hn
 subst hn'
 split at h
 ·next L o len c=>
  obtain ⟨hlt,h⟩:=br_some h
  obtain ⟨e,he,h⟩:=onO_some h
  cases h
  obtain ⟨hu,hi⟩:=elemX_ok he
  have hlt:n<len:=by simpa [Nat.blt_eq] using hlt
  simp only [XR] at hx
  obtain ⟨b,s,hρ,rfl⟩:=hx
  obtain ⟨t,h1,h2⟩:=idx_run (P:=P) (k:=k) (n:=(n:Int)) (len:=len) (q:=some ⟨b,o,none⟩) (cap:=c) (next:=λt=>t = .p (some ((⟨b,o,none⟩:Addr).add (n*sizeAt P e)))) hu hi ⟨⟨by omega,by omega⟩,rfl⟩
  subst h2
  exact ⟨_,h1,by simp only [XR,TV.enc]; exact ⟨b,s,hρ,by rw [add_add]; rfl⟩⟩
 ·next L o len k'=>
  obtain ⟨hlt,h⟩:=br_some h
  obtain ⟨e,he,h⟩:=onO_some h
  cases h
  obtain ⟨hu,hi⟩:=elemX_ok he
  have hlt:n<len:=by simpa [Nat.blt_eq] using hlt
  simp only [XR] at hx
  obtain ⟨b,s,c,hρ,rfl,_⟩:=hx
  obtain ⟨t,h1,h2⟩:=idx_run (P:=P) (k:=k) (n:=(n:Int)) (len:=len) (q:=some ⟨b,o,none⟩) (cap:=c) (next:=λt=>t = .p (some ((⟨b,o,none⟩:Addr).add (n*sizeAt P e)))) hu hi ⟨⟨by omega,by omega⟩,rfl⟩
  subst h2
  exact ⟨_,h1,by simp only [XR,TV.enc]; exact ⟨b,s,hρ,by rw [add_add]; rfl⟩⟩
 ·next L o=>
  obtain ⟨⟨m,e⟩,he,h⟩:=onO_some h
  obtain ⟨hlt,h⟩:=br_some h
  cases h
  obtain ⟨hu,hi⟩:=arrX_ok he
  have hlt:n<m:=by simpa [Nat.blt_eq] using hlt
  simp only [XR] at hx
  obtain ⟨b,s,hρ,rfl⟩:=hx
  obtain ⟨t,h1,h2⟩:=idxA_run (P:=P) (k:=k) (n:=(n:Int)) (q:=some ⟨b,o,none⟩) (next:=λt=>t = .p (some ((⟨b,o,none⟩:Addr).add (n*sizeAt P e)))) hu hi ⟨⟨by omega,by omega⟩,rfl⟩
  subst h2
  exact ⟨_,h1,by simp only [XR,TV.enc]; exact ⟨b,s,hρ,by rw [add_add]; rfl⟩⟩
 ·cases h
noncomputable def xat (P:Program) (T:TypeId) (x:XV) (i:Int):Option XV:=
 onO (i2n i) λn=>match x with
 | .str l=>match P.underlying T with
   | some .string=>onO (nth l n) λc=>some (.int .u8 (.ofNat c))
   | _=>none
 | .agg l=>onO (arrX P T) λq=>br (Nat.blt n q.1) (partX P q.2 l (Nat.mul n (sizeAt P q.2))) none
 | _=>none
theorem xat_run {P:Program} {T:TypeId} {x y:XV} {i:Int} (h:xat P T x i=some y) {ρ:Lab} {v:Value} (hx:XR ρ x v) (k:IntKind) :
 ∃ u,(∀ w,(Instr.index T v (.int k i)).run P w = .ok u w)/\XR ρ y u:=by
 unfold xat at h
 have hq:=onO_some h
 clear h
 obtain ⟨n,hn,h⟩:=hq
 have hn':=i2n_ok hn
 clear hn
 subst hn'
 split at h
 ·next l=>
  split at h
  ·next hu=>
   obtain ⟨c,hc,h⟩:=onO_some h
   cases h
   rw [nth_eq] at hc
   simp only [XR] at hx
   obtain ⟨hl,rfl⟩:=hx
   have hlt:n<l.length:=(List.getElem?_eq_some_iff.1 hc).1
   have hcl:c<256:=hl c (List.mem_of_getElem? hc)
   have e1:(ByteArray.mk (l.map UInt8.ofNat).toArray)[n]? = some (UInt8.ofNat c):=by
    have hs:n<(ByteArray.mk (l.map UInt8.ofNat).toArray).size:=by simpa [ByteArray.size] using hlt
    rw [getElem?_pos _ n hs]
    congr 1
    show (l.map UInt8.ofNat).toArray[n]'_=_
    have:=(List.getElem?_eq_some_iff.1 hc).2
    simp [this]
   refine ⟨.int .u8 (UInt8.ofNat c).toNat,λw=>by simp [Instr.index,asIntOf,run_underlying hu,strV,e1],?_⟩
   simp only [XR]
   have:(UInt8.ofNat c).toNat=c:=by simp [UInt8.toNat_ofNat',Nat.mod_eq_of_lt hcl]
   rw [this]; rfl
  ·cases h
 ·next l=>
  obtain ⟨⟨m,e⟩,he,h⟩:=onO_some h
  obtain ⟨hlt,h⟩:=br_some h
  obtain ⟨hu,hi⟩:=arrX_ok he
  have hlt:n<m:=by simpa [Nat.blt_eq] using hlt
  simp only [XR] at hx
  obtain ⟨vs,hv,rfl⟩:=hx
  obtain ⟨u,h1,h2⟩:=partX_run h hi hv
  exact ⟨u,λw=>by simp [Instr.index,asIntOf,run_underlying hu,hlt,run_sizeAt hi]; exact h1 w,h2⟩
 ·cases h
noncomputable def xlen (P:Program) (T:TypeId) (x:XV):Option XV:=
 match P.underlying T,x with
 | some .string,.str l=>some (.int .i64 (.ofNat (len l)))
 | some (.slice _),.sl _ n _=>some (.int .i64 (.ofNat n))
 | some (.slice _),.slu _ _ n _=>some (.int .i64 (.ofNat n))
 | some (.slice _),.em _=>some (.int .i64 (.ofNat 0))
 | some (.array n _),.agg _=>some (.int .i64 (.ofNat n))
 | some (.pointer e),.ptr _=>match P.underlying e with
   | some (.array n _)=>some (.int .i64 (.ofNat n))
   | _=>none
 | _,_=>none
theorem xlen_run {P:Program} {T ty:TypeId} {x y:XV} (h:xlen P T x=some y) {ρ:Lab} {v:Value} (hx:XR ρ x v) : ∃ u,(∀ w,(Builtin.len_ #[T] ty #[v]).run P w = .ok u w)/\XR ρ y u:=by
 unfold xlen at h
 split at h
 ·next hu=>
  cases h
  simp only [XR] at hx
  obtain ⟨hl,rfl⟩:=hx
  refine ⟨_,λw=>by simp [Builtin.len_,run_underlying hu,strV,goInt]; rfl,?_⟩
  simp only [XR]; rw [len_eq]; simp [ByteArray.size]
 ·next a n c hu=>
  cases h
  cases a with
  | none=>simp only [XR] at hx; subst hx; exact ⟨_,λw=>by simp [Builtin.len_,run_underlying hu,goInt] <;> rfl,rfl⟩
  | some p=>obtain ⟨L,o⟩:=p; simp only [XR] at hx; obtain ⟨b,s,_,rfl⟩:=hx; exact ⟨_,λw=>by simp [Builtin.len_,run_underlying hu,goInt] <;> rfl,rfl⟩
 ·next hu=>
  cases h
  simp only [XR] at hx; obtain ⟨b,s,c,_,rfl,_⟩:=hx; exact ⟨_,λw=>by simp [Builtin.len_,run_underlying hu,goInt] <;> rfl,rfl⟩
 ·next hu=>
  cases h
  simp only [XR] at hx; obtain ⟨b,s,o,c,_,rfl⟩:=hx; exact ⟨_,λw=>by simp [Builtin.len_,run_underlying hu,goInt] <;> rfl,rfl⟩
 ·next hu=>
  cases h
  exact ⟨_,λw=>by simp [Builtin.len_,run_underlying hu,goInt] <;> rfl,rfl⟩
 ·next hu=>
  split at h
  ·next hu2=>cases h; exact ⟨_,λw=>by simp [Builtin.len_,run_underlying hu,run_underlying hu2,goInt] <;> rfl,rfl⟩
  ·cases h
 ·cases h
noncomputable def xcap (P:Program) (T:TypeId) (x:XV):Option XV:=
 match P.underlying T,x with
 | some (.slice _),.sl _ _ c=>some (.int .i64 (.ofNat c))
 | _,_=>none
theorem xcap_run {P:Program} {T ty:TypeId} {x y:XV} (h:xcap P T x=some y) {ρ:Lab} {v:Value} (hx:XR ρ x v) : ∃ u,(∀ w,(Builtin.cap_ #[T] ty #[v]).run P w = .ok u w)/\XR ρ y u:=by
 unfold xcap at h
 split at h
 ·next a n c hu=>
  cases h
  cases a with
  | none=>simp only [XR] at hx; subst hx; exact ⟨_,λw=>by simp [Builtin.cap_,run_underlying hu,goInt] <;> rfl,rfl⟩
  | some p=>obtain ⟨L,o⟩:=p; simp only [XR] at hx; obtain ⟨b,s,_,rfl⟩:=hx; exact ⟨_,λw=>by simp [Builtin.cap_,run_underlying hu,goInt] <;> rfl,rfl⟩
 ·cases h
noncomputable def xmax (mn:Bool) (l:List XV):Option XV:=match l with
 | [.int k a,.int k' b]=>br (Nat.beq (idxK k) (idxK k')) (some (.int k (br (br mn (ilt b a) (ilt a b)) b a))) none
 | _=>none
theorem xmax_run {P:Program} {ty:Array TypeId} {t:TypeId} {l:List XV} {y:XV} {mn:Bool} (h:xmax mn l=some y) {ρ:Lab} {vs:List Value} (hl:XRs ρ l vs) :
 ∃ u,(∀ w,(br mn (Builtin.min_ ty t vs.toArray) (Builtin.max_ ty t vs.toArray)).run P w = .ok u w)/\XR ρ y u:=by
 unfold xmax at h
 split at h
 ·next k a k' b=>
  obtain ⟨h0,h⟩:=br_some h
  cases h
  obtain rfl:=idxK_inj h0
  simp only [XRs,XR] at hl
  obtain ⟨v,vs',rfl,rfl,v2,vs2,rfl,rfl,rfl⟩:=hl
  cases mn with
  | true=>
    refine ⟨_,λw=>by simp only [br_t]; simp [Builtin.min_,Builtin.min2]; rfl,?_⟩
    simp only [XR]; rw [br_t,br_eq,ilt_eq]; simp
  | false=>
    refine ⟨_,λw=>by simp only [br_f]; simp [Builtin.max_,Builtin.max2]; rfl,?_⟩
    simp only [XR]; rw [br_f,br_eq,ilt_eq]; simp
 ·cases h
noncomputable def fillX (place:Nat->Option (Nat×Nat)) (parts:List (Nat×XV)):List XV->Option (List XV):=
 List.rec (motive:=λ_=>List XV->Option (List XV)) (λcs=>some cs)
  (λq _ ih cs=>onO (place q.1) λp=>br (Nat.beq (len (cellsX q.2)) p.2) (br (Nat.ble (Nat.add p.1 p.2) (len cs)) (ih (putX cs p.1 (cellsX q.2))) none) none) parts
def PRs (ρ:Lab):List (Nat×XV)->List (Nat×Value)->Prop
 | [],ps=>ps=[]
 | q :: r,ps=>∃ v ps',ps=(q.1,v) :: ps'/\XR ρ q.2 v/\PRs ρ r ps'
theorem XRs.put {ρ:Lab} {l m:List XV} {us vs:List Value} (hl:XRs ρ l us) (hm:XRs ρ m vs) (o:Nat):XRs ρ (putX l o m) (us.take o++vs++us.drop (o+vs.length)):=by
 rw [putX_eq,hm.len]
 exact ((hl.take o).app hm).app (hl.drop _)
theorem fillX_run {place:Nat->Option (Nat×Nat)} {ρ:Lab} : ∀ {parts:List (Nat×XV)} {ps:List (Nat×Value)} {cs out:List XV} {vs:List Value},
 fillX place parts cs=some out->PRs ρ parts ps->XRs ρ cs vs->∃ us,Instr.fill place vs.toArray ps=some us.toArray/\XRs ρ out us
 | [],ps,cs,out,vs,h,hp,hc=>by
   have h:(some cs:Option (List XV))=some out:=h
   cases h; simp only [PRs] at hp; subst hp
   exact ⟨vs,rfl,hc⟩
 | q :: parts,ps,cs,out,vs,h,hp,hc=>by
   have h:onO (place q.1) (λp=>br (Nat.beq (len (cellsX q.2)) p.2) (br (Nat.ble (Nat.add p.1 p.2) (len cs)) (fillX place parts (putX cs p.1 (cellsX q.2))) none) none)=some out:=h
   simp only [PRs] at hp
   obtain ⟨v,ps',rfl,hq,hps⟩:=hp
   obtain ⟨p,h1,h⟩:=onO_some h
   obtain ⟨h2,h⟩:=br_some h
   obtain ⟨h3,h⟩:=br_some h
   have h2:=Nat.eq_of_beq_eq_true h2
   have h3:=Nat.le_of_ble_eq_true h3
   rw [len_eq] at h2 h3
   have hcell:=hq.cells
   have hl:=hcell.len
   have hcl:=hc.len
   have hsz:v.cells.size=p.2:=by rw [<-Array.length_toList,hl,h2]
   obtain ⟨us,h4,h5⟩:=fillX_run h hps (hc.put hcell p.1)
   refine ⟨us,?_,h5⟩
   obtain ⟨off,size⟩:=p
   simp only [] at h1 h2 h3 hsz h4
   have h3:off+size<=cs.length:=h3
   unfold Instr.fill
   simp only [h1,hsz]
   have hle : ¬ (off+size > vs.length):=by omega
   simp only [ne_eq,not_true_eq_false,decide_false,List.size_toArray,hle,Bool.false_or,Bool.false_eq_true,↓reduceIte,false_or]
   have hfold:=splice_fold v.cells.toList 0 (vs.take off) ((vs.drop off).take size) (vs.drop (off+size)) off (by simp; omega) (by simp; omega)
   have e9:(v.cells.zipIdx.foldl (λcs (x:Value×Nat)=>cs.setIfInBounds (off+x.2) x.1) vs.toArray)=(vs.take off++v.cells.toList++vs.drop (off+v.cells.toList.length)).toArray:=by
    rw [<-Array.foldl_toList]
    have e0:vs.take off++(vs.drop off).take size++vs.drop (off+size)=vs:=by
     rw [List.append_assoc,<-List.drop_drop,List.take_append_drop,List.take_append_drop]
    rw [e0] at hfold
    have e1:v.cells.zipIdx.toList=v.cells.toList.zipIdx 0:=by simp
    rw [e1,show v.cells.toList.length=size by simpa using hsz]
    exact hfold
   rw [e9]
   exact h4
noncomputable def placeX (P:Program) (T:TypeId):Option (Nat->Option (Nat×Nat)):=
 match P.underlying T with
 | some (.struct fs)=>br (allX (λf=>hasT P f.type) fs.toList) (some λi=>onO (nth fs.toList i) λf=>some (f.offset,sizeAt P f.type)) none
 | some (.array _ e)=>br (hasT P e) (some λi=>some (Nat.mul i (sizeAt P e),sizeAt P e)) none
 | _=>none
noncomputable def xbuild (P:Program) (T:TypeId) (parts:List (Nat×XV)):Option XV:=
 onO (zeroC P T) λzs=>onO (placeX P T) λpl=>onO (fillX pl parts zs) λcs=>some (.agg cs)
theorem xbuild_run {P:Program} {T:TypeId} {parts:List (Nat×XV)} {y:XV} (h:xbuild P T parts=some y) {ρ:Lab} {ps:Array (Nat×Value)} (hp:PRs ρ parts ps.toList) :
 ∃ u,(∀ w,(Instr.build T ps).run P w = .ok u w)/\XR ρ y u:=by
 unfold xbuild at h
 obtain ⟨zs,h1,h⟩:=onO_some h
 obtain ⟨pl,h2,h⟩:=onO_some h
 obtain ⟨cs,h3,h⟩:=onO_some h
 cases h
 obtain ⟨i,z,g1,g2,g3⟩:=zeroC_ok h1
 have hz : ∀ w,(zeroValue T).run P w = .ok z w:=λw=>by simp [zeroValue,typeInfo,g1,g2]
 obtain ⟨us,g4,g5⟩:=fillX_run h3 hp (g3 ρ)
 refine ⟨.agg us.toArray,λw=>?_,by simp only [XR]; exact ⟨us,g5,rfl⟩⟩
 unfold placeX at h2
 split at h2
 ·next fields hu=>
  obtain ⟨hall,h2⟩:=br_some h2
  cases h2
  rw [allX_eq] at hall
  have hm : ∀ w,(fields.mapM (λf=>do pure (f.offset,<-sizeOf f.type)):Sem (Array (Nat×Nat))).run P w = .ok (fields.map λf=>(f.offset,sizeAt P f.type)) w:=by
   intro w
   have hl : ∀ (l:List Field) (w:World),l.all (λf=>hasT P f.type)=true->(l.mapM (λf=>Functor.map (Prod.mk f.offset) (sizeOf f.type)):Sem (List (Nat×Nat))).run P w = .ok (l.map λf=>(f.offset,sizeAt P f.type)) w:=by
    intro l
    induction l with
    | nil=>intro w _; rfl
    | cons f l ih=>
      intro w h
      simp only [List.all_cons,Bool.and_eq_true] at h
      simp [List.mapM_cons,run_sizeAt (hasT_ok h.1),ih w h.2]
   rw [Array.mapM_eq_mapM_toList]
   simp [hl fields.toList w hall]
   apply Array.ext'
   simp
  have e:(λi=>onO (nth fields.toList i) λf=>some (f.offset,sizeAt P f.type))=λi=>(fields.map λf=>(f.offset,sizeAt P f.type))[i]?:=by
   funext i
   have:nth fields.toList i=fields[i]?:=by rw [nth_eq]; simp
   rw [this,Array.getElem?_map]
   cases fields[i]? <;> rfl
  rw [e] at g4
  simp only [Instr.build,Sem.run_bind,hz,Result.andThen_ok,run_underlying hu,hm]
  have e2:z.cells.toList.toArray=z.cells:=by simp
  rw [e2] at g4
  rw [g4]
  rfl
 ·next n e hu=>
  obtain ⟨hi,h2⟩:=br_some h2
  cases h2
  simp only [Instr.build,Sem.run_bind,hz,Result.andThen_ok,run_underlying hu,run_sizeAt (hasT_ok hi)]
  have e2:z.cells.toList.toArray=z.cells:=by simp
  rw [e2] at g4
  have g4:Instr.fill (λi=>some (i*sizeAt P e,sizeAt P e)) z.cells ps.toList=some us.toArray:=g4
  rw [g4]
  rfl
 ·cases h2
noncomputable def xconv (P:Program) (s d:TypeId) (x:XV):Option XV:=
 match P.underlying s,P.underlying d,x with
 | some (.int _),some (.int k),.int _ n=>some (.int k (wr k n))
 | some .string,some .string,.str l=>some (.str l)
 | _,_,_=>none
noncomputable def partsX (env:XE) (l:List (Nat×Operand)):Option (List (Nat×XV)):=mapO (λq=>onO (evX env q.2) λx=>some (q.1,x)) l
theorem partsX_ok {ρ:Lab} {env:XE} {a:Act} (he:EnvOk ρ env a.tmps) : ∀ {l:List (Nat×Operand)} {r:List (Nat×XV)},partsX env l=some r->PRs ρ r (l.map λq=>(q.1,a.eval q.2))
 | [],r,h=>by unfold partsX at h; rw [mapO_nil] at h; cases h; rfl
 | q :: l,r,h=>by
   unfold partsX at h
   obtain ⟨b,r',rfl,h1,h2⟩:=mapO_cons h
   obtain ⟨x,h3,h4⟩:=onO_some h1
   cases h4
   exact ⟨_,_,rfl,evX_ok he h3,partsX_ok he h2⟩
noncomputable def isIfX (P:Program) (T:TypeId):Bool:=match P.underlying T with
 | some (.interface _)=>true
 | none=>true
 | _=>false
noncomputable def xpure (P:Program) (env:XE) (op:Op):Option XV:=
 match op with
 | .move x=>evX env x
 | .assign x=>evX env x
 | .pick c a b=>onO (evX env c) λt=>match t with
   | .bool t=>br t (evX env a) (evX env b)
   | _=>none
 | .nilCheck x=>onO (evX env x) λy=>match y with
   | .ptr (some p)=>some (.ptr (some p))
   | .fn f a c=>some (.fn f a c)
   | _=>none
 | .binOp op T x y _=>onO (evX env x) λa=>onO (evX env y) λb=>xbin P op T x y a b
 | .unOp op _ x=>onO (evX env x) λa=>xun op a
 | .convert s d x=>onO (evX env x) λa=>xconv P s d a
 | .makeInterface T x=>onO (evX env x) λa=>br (isIfX P T) none (some (.ifc T a))
 | .makeFunc fn first captured=>match fn with
   | .func f=>onO (evsX env first.toList) λa=>onO (evsX env captured.toList) λc=>some (.fn f a c)
   | _=>none
 | .fieldAddr T x f=>onO (evX env x) λy=>match y with
   | .ptr (some (L,o))=>onO (fieldX P T f) λq=>some (.ptr (some (L,Nat.add o q.1)))
   | _=>none
 | .field T x f=>onO (evX env x) λy=>match y with
   | .agg l=>onO (fieldX P T f) λq=>partX P q.2 l q.1
   | _=>none
 | .indexAddr T x i=>onO (evX env x) λy=>onO (evX env i) λj=>onO (numX j) λn=>xidx P T y n
 | .index T x i=>onO (evX env x) λy=>onO (evX env i) λj=>onO (numX j) λn=>xat P T y n
 | .slice T x lo hi mx=>onO (evX env x) λy=>onO (optX env lo) λl=>onO (optX env hi) λh=>onO (optX env mx) λm=>xslice P T y l h m
 | .extract t i=>onO (evX env t) λy=>match y with
   | .tup l=>nth l i
   | _=>none
 | .build T parts=>onO (partsX env parts.toList) λl=>xbuild P T l
 | .call {callee:=.builtin .len,args,argTypes}=>match argTypes.toList with
   | [T]=>onO (evsX env args.toList) λl=>match l with
     | [x]=>xlen P T x
     | _=>none
   | _=>none
 | .call {callee:=.builtin .cap,args,argTypes}=>match argTypes.toList with
   | [T]=>onO (evsX env args.toList) λl=>match l with
     | [x]=>xcap P T x
     | _=>none
   | _=>none
 | .call {callee:=.builtin .min,args,..}=>onO (evsX env args.toList) λl=>xmax true l
 | .call {callee:=.builtin .max,args,..}=>onO (evsX env args.toList) λl=>xmax false l
 | _=>none
theorem xs1 {ρ:Lab} {x:XV} {args:Array Operand} {a:Act} (h:XRs ρ [x] (args.toList.map a.eval)) : ∃ v,args.map a.eval = #[v]/\XR ρ x v:=by
 simp only [XRs] at h
 obtain ⟨v,vs',h1,h2,rfl⟩:=h
 exact ⟨v,by apply Array.ext'; simpa using h1,h2⟩
theorem xpure_run {P:Program} {env:XE} {o:Oper} {y:XV} (h:xpure P env o.op=some y) {ρ:Lab} {a:Act} (he:EnvOk ρ env a.tmps) :
 ∃ v,(∀ w,(execOp a.eval o).run P w = .ok (.value v) w)/\XR ρ y v:=by
 obtain ⟨dst,op,type,pos,after,guard⟩:=o
 simp only at h
 have gv : ∀ {s:Sem Value} {v:Value},(∀ w,s.run P w = .ok v w)->∀ w,((do let x <-s; pure (Next.value x)):Sem Next).run P w = .ok (.value v) w:=λh w=>by simp [h w]
 unfold xpure at h
 unfold execOp
 split at h
 case h_1 x=>exact ⟨_,λw=>rfl,evX_ok he h⟩
 case h_2 x=>exact ⟨_,λw=>rfl,evX_ok he h⟩
 case h_3 c x z=>
  obtain ⟨t,h1,h⟩:=onO_some h
  split at h
  ·next t=>
   have hc:=evX_ok he h1
   simp only [XR] at hc
   cases t with
   | true=>exact ⟨a.eval x,λw=>by simp [hc,asBool],evX_ok he h⟩
   | false=>exact ⟨a.eval z,λw=>by simp [hc,asBool],evX_ok he h⟩
  ·cases h
 case h_4 x=>
  obtain ⟨t,h1,h⟩:=onO_some h
  have hc:=evX_ok he h1
  split at h
  ·next p=>
   cases h
   have hc':=hc
   obtain ⟨L,o⟩:=p
   simp only [XR] at hc'
   obtain ⟨b,s,_,hv⟩:=hc'
   exact ⟨_,λw=>by simp [hv]; rfl,by rw [hv] at hc; exact hc⟩
  ·next f asv cs=>
   cases h
   have hc':=hc
   simp only [XR] at hc'
   obtain ⟨us,vs,_,_,hv⟩:=hc'
   exact ⟨_,λw=>by simp [hv]; rfl,by rw [hv] at hc; exact hc⟩
  ·cases h
 case h_5 op T x z _=>
  obtain ⟨u,h1,h⟩:=onO_some h
  obtain ⟨v,h2,h⟩:=onO_some h
  obtain ⟨r,h3,h4⟩:=xbin_run h (evX_ok he h1) (evX_ok he h2)
  exact ⟨r,gv h3,h4⟩
 case h_6 op T x=>
  obtain ⟨u,h1,h⟩:=onO_some h
  obtain ⟨r,h3,h4⟩:=xun_run (P:=P) h (evX_ok he h1)
  exact ⟨r,gv h3,h4⟩
 case h_7 s d x=>
  obtain ⟨u,h1,h⟩:=onO_some h
  have hx:=evX_ok he h1
  unfold xconv at h
  split at h
  ·next hs hd=>
   cases h
   simp only [XR] at hx
   exact ⟨_,gv λw=>by rw [hx]; simp [convert,run_underlying hs,run_underlying hd,Conv.intToInt]; rfl,by simp only [XR]; rw [wr_eq]⟩
  ·next hs hd=>
   cases h
   have hx':=hx
   simp only [XR] at hx'
   exact ⟨_,gv λw=>by rw [hx'.2,strV]; simp [convert,run_underlying hs,run_underlying hd]; rfl,by rw [hx'.2] at hx; exact hx⟩
  ·cases h
 case h_8 T x=>
  obtain ⟨u,h1,h⟩:=onO_some h
  obtain ⟨h2,h⟩:=br_none h
  cases h
  refine ⟨.iface T (a.eval x),gv λw=>?_,by simp only [XR]; exact ⟨_,evX_ok he h1,rfl⟩⟩
  unfold isIfX at h2
  cases hu:P.underlying T with
  | none=>rw [hu] at h2; cases h2
  | some d=>
    rw [hu] at h2
    cases d <;> simp at h2 <;> simp [Instr.makeInterface,run_underlying hu]
 case h_9 fn first captured=>
  split at h
  ·next f=>
   obtain ⟨us,h1,h⟩:=onO_some h
   obtain ⟨vs,h2,h⟩:=onO_some h
   cases h
   refine ⟨_,gv λw=>rfl,?_⟩
   simp only [XR]
   exact ⟨_,_,evsX_ok he h1,evsX_ok he h2,by congr 1 <;> (apply Array.ext'; simp)⟩
  ·cases h
 case h_10 T x f=>
  obtain ⟨u,h1,h⟩:=onO_some h
  have hx:=evX_ok he h1
  split at h
  ·next L o=>
   obtain ⟨⟨off,t⟩,h2,h⟩:=onO_some h
   cases h
   obtain ⟨fs,fd,hu,hfd,rfl,rfl,hi,hz⟩:=fieldX_ok h2
   simp only [XR] at hx
   obtain ⟨b,s,hρ,hv⟩:=hx
   refine ⟨.pointer (some ⟨b,o+fd.offset,none⟩),gv λw=>?_,by simp only [XR]; exact ⟨b,s,hρ,rfl⟩⟩
   rw [hv]
   simp [Instr.fieldAt,run_underlying hu,hfd,Instr.sureAddr,fieldPlace,run_sizeAt hi,hz,add_add]
  ·cases h
 case h_11 T x f=>
  obtain ⟨u,h1,h⟩:=onO_some h
  have hx:=evX_ok he h1
  split at h
  ·next l=>
   obtain ⟨⟨off,t⟩,h2,h⟩:=onO_some h
   obtain ⟨fs,fd,hu,hfd,rfl,rfl,hi,hz⟩:=fieldX_ok h2
   simp only [XR] at hx
   obtain ⟨vs,hl,hv⟩:=hx
   obtain ⟨r,h3,h4⟩:=partX_run h hi hl
   exact ⟨r,gv λw=>by rw [hv]; simp [Instr.field,run_underlying hu,hfd,asAgg]; exact h3 w,h4⟩
  ·cases h
 case h_12 T x i=>
  obtain ⟨u,h1,h⟩:=onO_some h
  obtain ⟨j,h2,h⟩:=onO_some h
  obtain ⟨n,h3,h⟩:=onO_some h
  obtain ⟨k,hk⟩:=numX_ok h3 (evX_ok he h2)
  obtain ⟨r,h4,h5⟩:=xidx_run h (evX_ok he h1) k
  exact ⟨r,gv λw=>by rw [hk]; exact h4 w,h5⟩
 case h_13 T x i=>
  obtain ⟨u,h1,h⟩:=onO_some h
  obtain ⟨j,h2,h⟩:=onO_some h
  obtain ⟨n,h3,h⟩:=onO_some h
  obtain ⟨k,hk⟩:=numX_ok h3 (evX_ok he h2)
  obtain ⟨r,h4,h5⟩:=xat_run h (evX_ok he h1) k
  exact ⟨r,gv λw=>by rw [hk]; exact h4 w,h5⟩
 case h_14 T x lo hi mx=>
  obtain ⟨u,h1,h⟩:=onO_some h
  obtain ⟨l,h2,h⟩:=onO_some h
  obtain ⟨hh,h3,h⟩:=onO_some h
  obtain ⟨m,h4,h⟩:=onO_some h
  obtain ⟨k1,e1⟩:=optX_ok he h2
  obtain ⟨k2,e2⟩:=optX_ok he h3
  obtain ⟨k3,e3⟩:=optX_ok he h4
  obtain ⟨r,h5,h6⟩:=xslice_run h (evX_ok he h1) k1 k2 k3
  exact ⟨r,gv λw=>by rw [e1,e2,e3]; exact h5 w,h6⟩
 case h_15 t i=>
  obtain ⟨u,h1,h⟩:=onO_some h
  have hx:=evX_ok he h1
  split at h
  ·next l=>
   simp only [XR] at hx
   obtain ⟨vs,hl,hv⟩:=hx
   obtain ⟨r,h2,h3⟩:=hl.at (by rw [<-nth_eq]; exact h)
   exact ⟨r,gv λw=>by rw [hv]; simp [Instr.extract,h2],h3⟩
  ·cases h
 case h_16 T parts=>
  obtain ⟨l,h1,h⟩:=onO_some h
  have hp:=partsX_ok he h1
  obtain ⟨r,h2,h3⟩:=xbuild_run (ps:=parts.map λ(i,x)=>(i,a.eval x)) h (by simpa using hp)
  exact ⟨r,gv h2,h3⟩
 case h_17 args argTypes=>
  split at h
  ·next T hT=>
   obtain ⟨l,h1,h⟩:=onO_some h
   split at h
   ·next x=>
    obtain ⟨v,e1,e2⟩:=xs1 (evsX_ok he h1)
    obtain ⟨r,h2,h3⟩:=xlen_run (ty:=type) h e2
    obtain rfl:argTypes = #[T]:=by apply Array.ext'; simpa using hT
    exact ⟨r,λw=>by simp [resolve,invoke,builtin,e1,h2 w],h3⟩
   ·cases h
  ·cases h
 case h_18 args argTypes=>
  split at h
  ·next T hT=>
   obtain ⟨l,h1,h⟩:=onO_some h
   split at h
   ·next x=>
    obtain ⟨v,e1,e2⟩:=xs1 (evsX_ok he h1)
    obtain ⟨r,h2,h3⟩:=xcap_run (ty:=type) h e2
    obtain rfl:argTypes = #[T]:=by apply Array.ext'; simpa using hT
    exact ⟨r,λw=>by simp [resolve,invoke,builtin,e1,h2 w],h3⟩
   ·cases h
  ·cases h
 case h_19 args argTypes=>
  obtain ⟨l,h1,h⟩:=onO_some h
  obtain ⟨r,h2,h3⟩:=xmax_run (P:=P) (ty:=argTypes) (t:=type) h (evsX_ok he h1)
  simp only [br_t] at h2
  have e:(args.toList.map a.eval).toArray=args.map a.eval:=by apply Array.ext'; simp
  rw [e] at h2
  exact ⟨r,λw=>by simp [resolve,invoke,builtin,h2 w],h3⟩
 case h_20 args argTypes=>
  obtain ⟨l,h1,h⟩:=onO_some h
  obtain ⟨r,h2,h3⟩:=xmax_run (P:=P) (ty:=argTypes) (t:=type) h (evsX_ok he h1)
  simp only [br_f] at h2
  have e:(args.toList.map a.eval).toArray=args.map a.eval:=by apply Array.ext'; simp
  rw [e] at h2
  exact ⟨r,λw=>by simp [resolve,invoke,builtin,h2 w],h3⟩
 case h_21=>cases h
end Go.X
end
