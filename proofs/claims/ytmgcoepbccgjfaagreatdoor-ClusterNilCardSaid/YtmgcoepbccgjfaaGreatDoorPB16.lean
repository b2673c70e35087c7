/- The forms of the translated functions,their contracts and the plain laws behind them,put together by a program. -/
import Derived.Test.YtmgcoepbccgjfaaGreatDoorPB15
set_option linter.unusedSimpArgs false
set_option linter.unusedVariables false
set_option maxRecDepth 1000000
set_option maxHeartbeats 8000000
section
namespace Go.X
open Go Go.Sh
structure InvG (S0:Nat->Prop) (w0:World) (ρ:Lab) (g:Nat->Option XO) (n:Nat) (w:World):Prop where
 fresh : ∀ L,n<=L->ρ L=none
 dom : ∀ L o,g L=some o->∃ b s,ρ L=some (b,s)/\ObjOk ρ w b s o/\(S0 b\/w0.heap.size<=b)
 inj : ∀ L L' o o' b s s',g L=some o->g L'=some o'->ρ L=some (b,s)->ρ L'=some (b,s')->L=L'
 mod:Mod S0 w0 w
section
variable {S0:Nat->Prop} {w0 w w':World} {ρ ρ':Lab} {g g':Nat->Option XO} {n:Nat}
theorem InvG.of {h:Hp} (hi:Inv S0 w0 ρ h w):InvG S0 w0 ρ h.t.get h.n w:=⟨hi.fresh,hi.dom,hi.inj,hi.mod⟩
theorem InvG.to {h:Hp} (hi:InvG S0 w0 ρ h.t.get h.n w):Inv S0 w0 ρ h w:=⟨hi.fresh,hi.dom,hi.inj,hi.mod⟩
theorem InvG.sub (hi:InvG S0 w0 ρ g n w) (h : ∀ L o,g' L=some o->g L=some o):InvG S0 w0 ρ g' n w:=
 ⟨hi.fresh,λL o e=>hi.dom L o (h L o e),λL L' o o' b s s' e1 e2=>hi.inj L L' o o' b s s' (h _ _ e1) (h _ _ e2),hi.mod⟩
theorem InvG.up (hi:InvG S0 w0 ρ g n w) {m:Nat} (h:n<=m):InvG S0 w0 ρ g m w:=⟨λL hL=>hi.fresh L (Nat.le_trans h hL),hi.dom,hi.inj,hi.mod⟩
theorem InvG.no (hi:InvG S0 w0 ρ g n w) (hm:Mod NoB w w'):InvG S0 w0 ρ g n w':=
 ⟨hi.fresh,λL o e=>by obtain ⟨b,s,h1,h2,h3⟩:=hi.dom L o e; exact ⟨b,s,h1,h2.no hm,h3⟩,hi.inj,hi.mod.no' hm⟩
theorem InvG.new (hi:InvG S0 w0 ρ g n w) {L0:Nat} (hL0:ρ L0=none) (hn:L0<n) {o:XO} {b s:Nat} (hb:b=w.heap.size) (hm:Mod NoB w w') (ho:ObjOk (λL=>if L=L0 then some (b,s) else ρ L) w' b s o) :
 InvG S0 w0 (λL=>if L=L0 then some (b,s) else ρ L) (λL=>if L=L0 then some o else g L) n w':=by
 have hle:Lab.le ρ (λL=>if L=L0 then some (b,s) else ρ L):=λL x e=>by
  by_cases hL:L=L0
  ·subst hL; rw [hL0] at e; cases e
  ·simp [hL,e]
 have old : ∀ L o,L≠L0->(if L=L0 then some o else g L)=some o->True:=λ_ _ _ _=>trivial
 have hne : ∀ L o',g L=some o'->L≠L0:=λL o' e he=>by
  obtain ⟨b',s',h1,_⟩:=hi.dom L o' e
  rw [he,hL0] at h1; cases h1
 have bl : ∀ L o',g L=some o'->∀ s',ρ L≠some (b,s'):=λL o' e s' hr=>by
  obtain ⟨b',s2,h1,h2,_⟩:=hi.dom L o' e
  rw [hr] at h1; cases h1
  have:=h2.lt
  omega
 refine ⟨λL hL=>?_,λL o' e=>?_,λL L' o1 o2 b1 s1 s2 e1 e2 e3 e4=>?_,hi.mod.no' hm⟩
 ·have:L≠L0:=by omega
  simp only [this,↓reduceIte]
  exact hi.fresh L hL
 ·by_cases hL:L=L0
  ·simp only [hL,↓reduceIte] at e ⊢
   cases e
   exact ⟨b,s,rfl,ho,.inr (by rw [hb]; exact hi.mod.size)⟩
  ·simp only [hL,↓reduceIte] at e ⊢
   obtain ⟨b',s',h1,h2,h3⟩:=hi.dom L o' e
   exact ⟨b',s',h1,(h2.no hm).le hle,h3⟩
 ·by_cases hL:L=L0 <;> by_cases hL':L'=L0
  ·rw [hL,hL']
  ·exfalso
   simp only [hL,hL',↓reduceIte] at e1 e2 e3 e4
   cases e3
   exact bl L' _ e2 _ e4
  ·exfalso
   simp only [hL,hL',↓reduceIte] at e1 e2 e3 e4
   cases e4
   exact bl L _ e1 _ e3
  ·simp only [hL,hL',↓reduceIte] at e1 e2 e3 e4
   exact hi.inj L L' o1 o2 b1 s1 s2 e1 e2 e3 e4
def Loc (ρ:Lab) (g:Nat->Option XO) (b:Nat):Prop:=∃ L o s,g L=some o/\ρ L=some (b,s)
theorem InvG.loc (hi:InvG S0 w0 ρ g n w):InvG (Loc ρ g) w ρ g n w:=
 ⟨hi.fresh,λL o e=>by obtain ⟨b,s,h1,h2,_⟩:=hi.dom L o e; exact ⟨b,s,h1,h2,.inl ⟨L,o,s,e,h1⟩⟩,hi.inj,Mod.refl _ _⟩
theorem InvG.loc_le (hi:InvG S0 w0 ρ g n w) {b:Nat} (h:Loc ρ g b):S0 b\/w0.heap.size<=b:=by
 obtain ⟨L,o,s,h1,h2⟩:=h
 obtain ⟨b',s',h3,_,h4⟩:=hi.dom L o h1
 rw [h2] at h3; cases h3
 exact h4
theorem InvG.loc_mod (hi:InvG S0 w0 ρ g n w) (hm:Mod (Loc ρ g) w w'):Mod S0 w0 w':=
 hi.mod.trans hm (λ_ _ h=>h) λx hx h=>by
  rcases hi.loc_le h with h | h
  ·exact h
  ·omega
theorem InvG.gok {G:World->Prop} (hG:GOk G S0 w0) (hi:InvG S0 w0 ρ g n w):GOk G (Loc ρ g) w:=λw' hm=>hG w' (hi.loc_mod hm)
theorem InvG.frame {pre post:Nat->Option XO} {m:Nat} (hi:InvG S0 w0 ρ g n w) (hp : ∀ L o,pre L=some o->g L=some o) (h2:InvG (Loc ρ pre) w ρ' post m w') (hl:Lab.le ρ ρ') :
 InvG S0 w0 ρ' (λL=>match post L with | some o=>some o | none=>match pre L with | some _=>none | none=>g L) m w':=by
 have hip:=hi.sub hp
 have nl : ∀ L o b s,g L=some o->pre L=none->ρ L=some (b,s)->¬ Loc ρ pre b:=λL o b s e1 e2 e3 ⟨L',o',s',e4,e5⟩=>by
  have:=hi.inj L L' o o' b s s' e1 (hp _ _ e4) e3 e5
  subst this
  rw [e2] at e4; cases e4
 have key : ∀ L o,(match post L with | some o=>some o | none=>match pre L with | some _=>none | none=>g L)=some o->post L=some o\/(post L=none/\pre L=none/\g L=some o):=λL o e=>by
  cases h:post L with
  | some o'=>rw [h] at e; exact .inl e
  | none=>
    rw [h] at e
    cases h':pre L with
    | some o'=>rw [h'] at e; cases e
    | none=>rw [h'] at e; exact .inr ⟨rfl,rfl,e⟩
 have pb : ∀ L o b s,post L=some o->ρ' L=some (b,s)->Loc ρ pre b\/w.heap.size<=b:=λL o b s e1 e2=>by
  obtain ⟨b',s',h3,_,h4⟩:=h2.dom L o e1
  rw [e2] at h3; cases h3
  exact h4
 have gb : ∀ L o,g L=some o->pre L=none->∃ b s,ρ L=some (b,s)/\ρ' L=some (b,s)/\ObjOk ρ w b s o/\(S0 b\/w0.heap.size<=b)/\¬ Loc ρ pre b/\b<w.heap.size:=λL o e1 e2=>by
  obtain ⟨b,s,h3,h4,h5⟩:=hi.dom L o e1
  exact ⟨b,s,h3,hl _ _ h3,h4,h5,nl L o b s e1 e2 h3,h4.lt⟩
 refine ⟨h2.fresh,λL o e=>?_,λL L' o o' b s s' e1 e2 e3 e4=>?_,hip.loc_mod h2.mod⟩
 ·rcases key L o e with e | ⟨_,e2,e3⟩
  ·obtain ⟨b,s,h3,h4,h5⟩:=h2.dom L o e
   refine ⟨b,s,h3,h4,?_⟩
   rcases h5 with h5 | h5
   ·exact hip.loc_le h5
   ·exact .inr (Nat.le_trans hi.mod.size h5)
  ·obtain ⟨b,s,h3,h4,h5,h6,h7,_⟩:=gb L o e3 e2
   exact ⟨b,s,h4,(h5.mod h2.mod h7).le hl,h6⟩
 ·rcases key L o e1 with e1 | ⟨_,a1,a2⟩ <;> rcases key L' o' e2 with e2 | ⟨_,b1,b2⟩
  ·exact h2.inj L L' o o' b s s' e1 e2 e3 e4
  ·exfalso
   obtain ⟨c,t,h3,h4,_,_,h7,h8⟩:=gb L' o' b2 b1
   rw [e4] at h4; cases h4
   rcases pb L o b s e1 e3 with h | h
   ·exact h7 h
   ·omega
  ·exfalso
   obtain ⟨c,t,h3,h4,_,_,h7,h8⟩:=gb L o a2 a1
   rw [e3] at h4; cases h4
   rcases pb L' o' b s' e2 e4 with h | h
   ·exact h7 h
   ·omega
  ·obtain ⟨c,t,h3,h4,_⟩:=gb L o a2 a1
   obtain ⟨c',t',h3',h4',_⟩:=gb L' o' b2 b1
   rw [e3] at h4; cases h4
   rw [e4] at h4'; cases h4'
   exact hi.inj L L' o o' b s s' a2 b2 h3 h3'
end
noncomputable def bindsX (e:Edge):Bool:=match e.ground with
 | .textOnly _=>false
 | .gcOnly _=>false
 | _=>true
theorem bindsX_eq (e:Edge):bindsX e=Region.binds .any e:=by
 obtain ⟨n,g⟩:=e
 cases g <;> rfl
noncomputable def nthD (l:List Nat) (i:Nat):Nat:=match nth l i with
 | some m=>m
 | none=>0
noncomputable def maskE (acc:List Nat) (es:List Edge):Nat:=List.rec (motive:=λ_=>Nat) 0 (λe _ ih=>br (bindsX e) (Nat.lor (Nat.lor (Nat.pow 2 e.on) (nthD acc e.on)) ih) ih) es
theorem maskE_bit {acc:List Nat} {j:Nat} : ∀ {es:List Edge},(maskE acc es).testBit j=true->∃ e∈es,Region.binds .any e=true/\(e.on=j\/∃ m,acc[e.on]? = some m/\m.testBit j=true)
 | [],h=>by
   have:maskE acc []=0:=rfl
   rw [this,Nat.zero_testBit] at h; cases h
 | e :: es,h=>by
   have hu:maskE acc (e :: es)=br (bindsX e) (Nat.lor (Nat.lor (Nat.pow 2 e.on) (nthD acc e.on)) (maskE acc es)) (maskE acc es):=rfl
   rw [hu] at h
   cases hb:bindsX e with
   | false=>
     rw [hb,br_f] at h
     obtain ⟨e',h1,h2⟩:=maskE_bit h
     exact ⟨e',List.mem_cons_of_mem _ h1,h2⟩
   | true=>
     rw [hb,br_t] at h
     have h:(((2 ^ e.on) ||| nthD acc e.on) ||| maskE acc es).testBit j=true:=h
     rw [Nat.testBit_or,Nat.testBit_or,Bool.or_eq_true,Bool.or_eq_true] at h
     rw [bindsX_eq] at hb
     rcases h with (h | h) | h
     ·rw [Nat.testBit_two_pow] at h
      exact ⟨e,List.mem_cons_self,hb,.inl (of_decide_eq_true h)⟩
     ·unfold nthD at h
      rw [nth_eq] at h
      cases hm:acc[e.on]? with
      | none=>rw [hm] at h; simp at h
      | some m=>rw [hm] at h; exact ⟨e,List.mem_cons_self,hb,.inr ⟨m,hm,h⟩⟩
     ·obtain ⟨e',h1,h2⟩:=maskE_bit h
      exact ⟨e',List.mem_cons_of_mem _ h1,h2⟩
noncomputable def ancsX (l:List Oper):List Nat->List Nat:=List.rec (motive:=λ_=>List Nat->List Nat) (λacc=>acc) (λo _ ih acc=>ih (app acc [maskE acc o.after.toList])) l
theorem ancsX_spec : ∀ (l:List Oper) (acc:List Nat),∃ r,ancsX l acc=acc++r/\r.length=l.length/\∀ k o,l[k]? = some o->(ancsX l acc)[acc.length+k]? = some (maskE ((ancsX l acc).take (acc.length+k)) o.after.toList)
 | [],acc=>⟨[],by simp [ancsX],rfl,λk o h=>by simp at h⟩
 | o :: l,acc=>by
   obtain ⟨r,h1,h2,h3⟩:=ancsX_spec l (acc++[maskE acc o.after.toList])
   have hu:ancsX (o :: l) acc=ancsX l (acc++[maskE acc o.after.toList]):=by
    show ancsX l (app acc [maskE acc o.after.toList])=_
    rw [app_eq]
   rw [hu]
   refine ⟨maskE acc o.after.toList :: r,by rw [h1]; simp,by simp [h2],λk o' hk=>?_⟩
   cases k with
   | zero=>
     simp only [List.getElem?_cons_zero,Option.some.injEq] at hk
     subst hk
     rw [h1]
     simp
   | succ k=>
     simp only [List.getElem?_cons_succ] at hk
     have:=h3 k o' hk
     simp only [List.length_append,List.length_cons,List.length_nil] at this
     rw [show acc.length+(k+1)=acc.length+(0+1)+k by omega]
     exact this
noncomputable def ancs (ops:List Oper):List Nat:=ancsX ops []
theorem ancs_at {ops:List Oper} {i:Nat} {o:Oper} (h:ops[i]? = some o):(ancs ops)[i]? = some (maskE ((ancs ops).take i) o.after.toList):=by
 obtain ⟨r,_,_,h3⟩:=ancsX_spec ops []
 have:=h3 i o h
 simpa [ancs] using this
theorem anc_listed {ops:List Oper} {listed:Array Bool} (hcl:Closed ops.toArray listed) : ∀ (i:Nat) (o:Oper) (m j:Nat),ops[i]? = some o->(ancs ops)[i]? = some m->m.testBit j=true->
 (∀ e∈o.after,Region.binds .any e=true->listed.getD e.on false=true)->listed.getD j false=true:=by
 intro i
 induction i using Nat.strongRecOn with
 | _ i ih=>
   intro o m j ho hm hb hl
   rw [ancs_at ho] at hm
   cases hm
   obtain ⟨e,h1,h2,h3⟩:=maskE_bit hb
   have he:=hl e (by simpa using h1) h2
   rcases h3 with h3 | ⟨m',h3,h4⟩
   ·rw [<-h3]; exact he
   ·have hlt:e.on<i:=by
     have:=(List.getElem?_eq_some_iff.1 h3).1
     rw [List.length_take] at this
     omega
    have h5:(ancs ops)[e.on]? = some m':=by rw [List.getElem?_take_of_lt hlt] at h3; exact h3
    have hlen:(ancs ops).length=ops.length:=by
     obtain ⟨r,h1,h2,_⟩:=ancsX_spec ops []
     unfold ancs; rw [h1]; simpa using h2
    have hlt':e.on<ops.length:=by rw [<-hlen]; exact (List.getElem?_eq_some_iff.1 h5).1
    exact ih e.on hlt ops[e.on] m' j (List.getElem?_eq_getElem hlt') h5 h4 λe' h6 h7=>hcl e.on ops[e.on] (by simp [hlt']) he e' h6 h7
theorem anc_lt {ops:List Oper} : ∀ (i m j:Nat),(ancs ops)[i]? = some m->m.testBit j=true->(∀ k o,ops[k]? = some o->∀ e∈o.after,Region.binds .any e=true->e.on<k)->j<i:=by
 intro i
 induction i using Nat.strongRecOn with
 | _ i ih=>
   intro m j hm hb htop
   have hlen:(ancs ops).length=ops.length:=by
    obtain ⟨r,h1,h2,_⟩:=ancsX_spec ops []
    unfold ancs; rw [h1]; simpa using h2
   have hlt':i<ops.length:=by rw [<-hlen]; exact (List.getElem?_eq_some_iff.1 hm).1
   have ho:=List.getElem?_eq_getElem hlt'
   rw [ancs_at ho] at hm
   cases hm
   obtain ⟨e,h1,h2,h3⟩:=maskE_bit hb
   have he:=htop i _ ho e (by simpa using h1) h2
   rcases h3 with h3 | ⟨m',h3,h4⟩
   ·omega
   ·rw [List.getElem?_take_of_lt he] at h3
    have:=ih e.on he m' j h3 h4 htop
    omega
noncomputable def enumX (l:List Oper):Nat->List (Nat×Oper):=List.rec (motive:=λ_=>Nat->List (Nat×Oper)) (λ_=>[]) (λo _ ih i=>(i,o) :: ih (Nat.succ i)) l
theorem enumX_mem : ∀ (l:List Oper) (k i:Nat) (o:Oper),l[i]? = some o->(k+i,o)∈enumX l k
 | [],k,i,o,h=>by simp at h
 | o' :: l,k,0,o,h=>by
   simp only [List.getElem?_cons_zero,Option.some.injEq] at h
   subst h
   exact List.mem_cons_self
 | o' :: l,k,i+1,o,h=>by
   simp only [List.getElem?_cons_succ] at h
   have:=enumX_mem l (k+1) i o h
   rw [show k+(i+1)=k+1+i by omega]
   exact List.mem_cons_of_mem _ this
noncomputable def isT (d:Option Tmp) (t:Nat):Bool:=match d with
 | some s=>Nat.beq s t
 | none=>false
noncomputable def okTop (ops:List Oper):Bool:=allX (λq=>allX (λe=>br (bindsX e) (Nat.blt e.on q.1) true) q.2.after.toList) (enumX ops 0)
noncomputable def okDst (ops:List Oper):Bool:=allX (λq=>match q.2.dst with
 | none=>true
 | some t=>allX (λr=>br (isT r.2.dst t) (Nat.beq q.1 r.1) true) (enumX ops 0)) (enumX ops 0)
noncomputable def okTmp (ops:List Oper) (A:List Nat):Bool:=allX (λq=>allX (λt=>allX (λr=>br (isT r.2.dst t) (br (tb (nthD A q.1) r.1) true (br (tb (nthD A r.1) q.1) true (Nat.beq q.1 r.1))) true) (enumX ops 0)) (Oper.looksAt ops.toArray q.2)) (enumX ops 0)
theorem okTop_spec {ops:List Oper} (h:okTop ops=true) : ∀ k o,ops[k]? = some o->∀ e∈o.after,Region.binds .any e=true->e.on<k:=λk o ho e he hb=>by
 unfold okTop at h
 rw [allX_eq,List.all_eq_true] at h
 have h1:=h _ (enumX_mem ops 0 k o ho)
 rw [allX_eq,List.all_eq_true] at h1
 have h2:=h1 e (by simpa using he)
 rw [bindsX_eq,hb,br_t] at h2
 simpa [Nat.blt_eq] using h2
theorem okDst_spec {ops:List Oper} (h:okDst ops=true) {i j:Nat} {o o':Oper} {t:Nat} (ho:ops[i]? = some o) (ho':ops[j]? = some o') (h1:o.dst=some t) (h2:o'.dst=some t):i=j:=by
 unfold okDst at h
 rw [allX_eq,List.all_eq_true] at h
 have h3:=h _ (enumX_mem ops 0 i o ho)
 simp only [h1] at h3
 rw [allX_eq,List.all_eq_true] at h3
 have h4:=h3 _ (enumX_mem ops 0 j o' ho')
 simp only [h2,isT,Nat.beq_refl,br_t] at h4
 have:=Nat.eq_of_beq_eq_true h4
 omega
theorem nthD_at {A:List Nat} {i m:Nat} (h:A[i]? = some m):nthD A i=m:=by unfold nthD; rw [nth_eq,h]
theorem okTmp_spec {ops:List Oper} {A:List Nat} (h:okTmp ops A=true) {i j m m':Nat} {o o':Oper} {t:Nat} (ho:ops[i]? = some o) (ho':ops[j]? = some o') (hm:A[i]? = some m) (hm':A[j]? = some m') (h1:t∈Oper.looksAt ops.toArray o) (h2:o'.dst=some t) :
 m.testBit j=true\/m'.testBit i=true\/i=j:=by
 unfold okTmp at h
 rw [allX_eq,List.all_eq_true] at h
 have h3:=h _ (enumX_mem ops 0 i o ho)
 rw [allX_eq,List.all_eq_true] at h3
 have h3:=h3 t h1
 rw [allX_eq,List.all_eq_true] at h3
 have h4:=h3 _ (enumX_mem ops 0 j o' ho')
 simp only [h2,isT,Nat.beq_refl,br_t,Nat.zero_add] at h4
 rw [nthD_at hm,nthD_at hm',tb_eq,tb_eq,br_or,br_or] at h4
 simp only [Bool.or_eq_true] at h4
 rcases h4 with h4 | h4 | h4
 ·exact .inl h4
 ·exact .inr (.inl h4)
 ·exact .inr (.inr (Nat.eq_of_beq_eq_true h4))
structure DSt where
 env:XE
 H:Hp
 chain:List (Nat×Hp)
 reads:List (Nat×XE×Op×XV)
 news:List (Nat×XO)
 quiets:List Nat
inductive RK where
 | soft
 | read
 | new (ob:XO)
 | quiet
 | hard (H':Hp)
noncomputable def mergeN (base m:Nat) (l:List (Nat×XO)):Tr XO->Tr XO:=List.rec (motive:=λ_=>Tr XO->Tr XO) (λt=>t) (λq _ ih t=>ih (br (tb m q.1) (t.set (some q.2) (Nat.add base q.1)) t)) l
noncomputable def dkind (P:Program) (C:CallsX) (base m:Nat) (st:DSt) (i:Nat) (op:Op):Option (XV×RK):=
 match xpure P st.env op with
 | some x=>some (x,.soft)
 | none=>match xglob C op with
  | some x=>some (x,.soft)
  | none=>match xread P st.env st.H op with
   | some x=>some (x,.read)
   | none=>match xnew P st.env (Nat.add base i) op with
     | some q=>some (q.1,.new q.2)
     | none=>match xquiet P C st.env ⟨mergeN base m st.news st.H.t,st.H.n⟩ op with
      | some x=>some (x,.quiet)
      | none=>match xhard P C st.env ⟨mergeN base m st.news st.H.t,st.H.n⟩ op with
       | some q=>some (q.1,.hard q.2)
       | none=>none
noncomputable def dcheck (P:Program) (m:Nat) (st:DSt) (op:Op) (x:XV) (k:RK):Bool:=match k with
 | .soft=>true
 | .new _=>true
 | .read=>allX (λq=>br (tb m q.1) true (sameO (xread P st.env q.2 op) x)) st.chain
 | .quiet=>allX (λq=>tb m q.1) st.chain
 | .hard H'=>br (Nat.ble st.H.n H'.n) (br (br (allX (λq=>tb m q.1) st.chain) (allX (λq=>tb m q) st.quiets) false) (allX (λr=>br (tb m r.1) true (sameO (xread P r.2.1 H' r.2.2.1) r.2.2.2)) st.reads) false) false
noncomputable def dnext (st:DSt) (i m:Nat) (op:Op) (x:XV) (k:RK) (e:XE):DSt:=match k with
 | .soft=>⟨e,st.H,st.chain,st.reads,st.news,st.quiets⟩
 | .read=>⟨e,st.H,st.chain,(i,st.env,op,x) :: st.reads,st.news,st.quiets⟩
 | .new ob=>⟨e,st.H,st.chain,st.reads,(i,ob) :: st.news,st.quiets⟩
 | .quiet=>⟨e,st.H,st.chain,st.reads,st.news,i :: st.quiets⟩
 | .hard H'=>⟨e,H',(i,st.H) :: st.chain,st.reads,filt (λq=>br (tb m q.1) false true) st.news,st.quiets⟩
noncomputable def dstep (P:Program) (C:CallsX) (N:Nat) (all:List Oper) (A:List Nat) (base i:Nat) (o:Oper) (st:DSt):Option DSt:=
 onO (nth A i) λm=>onO (xguard all st.env o.guard) λb=>onO (br b (dkind P C base m st i o.op) (some (.tup [],.soft))) λq=>
  br (dcheck P m st o.op q.1 q.2) (onO (putE N st.env o.dst q.1) λe=>some (dnext st i m o.op q.1 q.2 e)) none
noncomputable def dloop (P:Program) (C:CallsX) (N:Nat) (all:List Oper) (A:List Nat) (base:Nat) (l:List Oper):Nat->DSt->Option DSt:=
 List.rec (motive:=λ_=>Nat->DSt->Option DSt) (λ_ st=>some st) (λo _ ih i st=>onO (dstep P C N all A base i o st) λst'=>ih (Nat.succ i) st') l
noncomputable def okStat (ops:List Oper):Bool:=br (okTop ops) (br (okDst ops) (okTmp ops (ancs ops)) false) false
noncomputable def mergeAll (base:Nat) (l:List (Nat×XO)):Tr XO->Tr XO:=List.rec (motive:=λ_=>Tr XO->Tr XO) (λt=>t) (λq _ ih t=>ih (t.set (some q.2) (Nat.add base q.1))) l
noncomputable def xdraw (P:Program) (C:CallsX) (N:Nat) (ops:List Oper) (env:XE) (h:Hp):Option (XE×Hp):=
 br (okStat ops) (onO (dloop P C N ops (ancs ops) h.n ops 0 ⟨env,⟨h.t,Nat.add h.n (len ops)⟩,[],[],[],[]⟩) λst=>some (st.env,⟨mergeAll h.n st.news st.H.t,st.H.n⟩)) none
section
variable {P:Program} {G:World->Prop} {C:CallsX} {D:FuncId->Bool} {N:Nat} {ops:List Oper} {A:List Nat} {base:Nat}
theorem dloop_table : ∀ (l:List Oper) (i:Nat) (s sF:DSt),dloop P C N ops A base l i s=some sF->∃ st:Nat->DSt,st i=s/\st (i+l.length)=sF/\∀ k o,l[k]? = some o->dstep P C N ops A base (i+k) o (st (i+k))=some (st (i+k+1))
 | [],i,s,sF,h=>by
   cases h
   exact ⟨λ_=>s,rfl,rfl,λk o h=>by simp at h⟩
 | o :: l,i,s,sF,h=>by
   have h:(onO (dstep P C N ops A base i o s) λst'=>dloop P C N ops A base l (i+1) st')=some sF:=h
   obtain ⟨s',h1,h2⟩:=onO_some h
   obtain ⟨st,h3,h4,h5⟩:=dloop_table l (i+1) s' sF h2
   refine ⟨λj=>if j<=i then s else st j,by simp,?_,λk o' hk=>?_⟩
   ·have : ¬ (i+(o :: l).length<=i):=by simp
    simp only [this,↓reduceIte]
    rw [<-h4]; congr 1; simp; omega
   ·cases k with
    | zero=>
      simp only [List.getElem?_cons_zero,Option.some.injEq] at hk
      subst hk
      simp only [Nat.add_zero,Nat.le_refl,↓reduceIte]
      have : ¬ (i+1<=i):=by omega
      simp only [this,↓reduceIte,h3]
      exact h1
    | succ k=>
      simp only [List.getElem?_cons_succ] at hk
      have a1 : ¬ (i+(k+1)<=i):=by omega
      have a2 : ¬ (i+(k+1)+1<=i):=by omega
      simp only [a1,a2,↓reduceIte]
      have:=h5 k o' hk
      rw [show i+(k+1)=i+1+k by omega]
      exact this
theorem mergeN_get {m L:Nat} {o:XO} : ∀ {l:List (Nat×XO)} {t:Tr XO},(mergeN base m l t).get L=some o->t.get L=some o\/∃ q∈l,tb m q.1=true/\L=base+q.1/\o=q.2
 | [],t,h=>.inl h
 | q :: l,t,h=>by
   have h:(mergeN base m l (br (tb m q.1) (t.set (some q.2) (Nat.add base q.1)) t)).get L=some o:=h
   rcases mergeN_get h with h | ⟨r,h1,h2⟩
   ·cases hb:tb m q.1 with
    | false=>rw [hb,br_f] at h; exact .inl h
    | true=>
      rw [hb,br_t,Tr.get_set] at h
      by_cases e:L=Nat.add base q.1
      ·rw [if_pos e] at h; cases h
       exact .inr ⟨q,List.mem_cons_self,hb,e,rfl⟩
      ·rw [if_neg e] at h; exact .inl h
   ·exact .inr ⟨r,List.mem_cons_of_mem _ h1,h2⟩
theorem mergeAll_get {L:Nat} {o:XO} : ∀ {l:List (Nat×XO)} {t:Tr XO},(mergeAll base l t).get L=some o->t.get L=some o\/∃ q∈l,L=base+q.1/\o=q.2
 | [],t,h=>.inl h
 | q :: l,t,h=>by
   have h:(mergeAll base l (t.set (some q.2) (Nat.add base q.1))).get L=some o:=h
   rcases mergeAll_get h with h | ⟨r,h1,h2⟩
   ·rw [Tr.get_set] at h
    by_cases e:L=Nat.add base q.1
    ·rw [if_pos e] at h; cases h
     exact .inr ⟨q,List.mem_cons_self,e,rfl⟩
    ·rw [if_neg e] at h; exact .inl h
   ·exact .inr ⟨r,List.mem_cons_of_mem _ h1,h2⟩
structure Row (P:Program) (C:CallsX) (N:Nat) (ops:List Oper) (base:Nat) (st:Nat->DSt) (i:Nat) (o:Oper) (m:Nat) (b:Bool) (x:XV) (k:RK):Prop where
 anc:(ancs ops)[i]? = some m
 guard:xguard ops (st i).env o.guard=some b
 kind:br b (dkind P C base m (st i) i o.op) (some (.tup [],.soft))=some (x,k)
 check:dcheck P m (st i) o.op x k=true
 put:putE N (st i).env o.dst x=some (st (i+1)).env
 next : ∃ e,st (i+1)=dnext (st i) i m o.op x k e
theorem row_of {st:Nat->DSt} {i:Nat} {o:Oper} (h:dstep P C N ops (ancs ops) base i o (st i)=some (st (i+1))) : ∃ m b x k,Row P C N ops base st i o m b x k:=by
 unfold dstep at h
 obtain ⟨m,h1,h⟩:=onO_some h
 obtain ⟨b,h2,h⟩:=onO_some h
 obtain ⟨⟨x,k⟩,h3,h⟩:=onO_some h
 obtain ⟨h4,h⟩:=br_some h
 obtain ⟨e,h5,h⟩:=onO_some h
 rw [nth_eq] at h1
 have h6:=Option.some.inj h
 refine ⟨m,b,x,k,h1,h2,h3,h4,?_,e,h6.symm⟩
 rw [<-h6,h5]
 cases k <;> rfl
theorem row_kind {st:Nat->DSt} {i:Nat} {o:Oper} {m m':Nat} {b b':Bool} {x x':XV} {k k':RK} (h:Row P C N ops base st i o m b x k) (h':Row P C N ops base st i o m' b' x' k'):m=m'/\b=b'/\x=x'/\k=k':=by
 have e1:=h.anc.symm.trans h'.anc
 cases e1
 have e2:=h.guard.symm.trans h'.guard
 cases e2
 have e3:=h.kind.symm.trans h'.kind
 cases e3
 exact ⟨rfl,rfl,rfl,rfl⟩
structure Table (P:Program) (C:CallsX) (N:Nat) (ops:List Oper) (env:XE) (h:Hp) (st:Nat->DSt):Prop where
 top:okTop ops=true
 dst:okDst ops=true
 tmp:okTmp ops (ancs ops)=true
 zero:st 0=⟨env,⟨h.t,h.n+ops.length⟩,[],[],[],[]⟩
 row : ∀ i o,ops[i]? = some o->∃ m b x k,Row P C N ops h.n st i o m b x k
theorem xdraw_table {env env':XE} {h h':Hp} (hr:xdraw P C N ops env h=some (env',h')) : ∃ st,Table P C N ops env h st/\env'=(st ops.length).env/\h'=⟨mergeAll h.n (st ops.length).news (st ops.length).H.t,(st ops.length).H.n⟩:=by
 unfold xdraw at hr
 obtain ⟨h1,hr1⟩:=br_some hr
 obtain ⟨s,h2,hr2⟩:=onO_some hr1
 clear hr hr1
 obtain ⟨h3,h4⟩:=br_and h1
 obtain ⟨h4,h5⟩:=br_and h4
 obtain ⟨st,h6,h7,h8⟩:=dloop_table _ _ _ _ h2
 rw [Nat.zero_add] at h7
 cases hr2
 rw [len_eq] at h6
 refine ⟨st,⟨h3,h4,h5,h6,λi o ho=>row_of (by simpa using h8 i o ho)⟩,by rw [h7],by rw [h7]⟩
variable {env:XE} {h:Hp} {st:Nat->DSt}
def Hard (P:Program) (C:CallsX) (N:Nat) (ops:List Oper) (base:Nat) (st:Nat->DSt) (q:Nat):Prop:=∃ o m b x H',ops[q]? = some o/\Row P C N ops base st q o m b x (.hard H')
def New (P:Program) (C:CallsX) (N:Nat) (ops:List Oper) (base:Nat) (st:Nat->DSt) (q:Nat) (ob:XO):Prop:=∃ o m b x,ops[q]? = some o/\Row P C N ops base st q o m b x (.new ob)
abbrev bitOf (ops:List Oper) (i j:Nat):Prop:=∃ m,(ancs ops)[i]? = some m/\m.testBit j=true
theorem H_same (ht:Table P C N ops env h st) {i:Nat} {o:Oper} (ho:ops[i]? = some o) (hh : ¬ Hard P C N ops h.n st i):(st (i+1)).H=(st i).H:=by
 obtain ⟨m,b,x,k,hr⟩:=ht.row i o ho
 obtain ⟨e,he⟩:=hr.next
 rw [he]
 cases k with
 | hard H'=>exact absurd ⟨o,m,b,x,H',ho,hr⟩ hh
 | _=>rfl
theorem at_lt {i:Nat} (h:i<ops.length) : ∃ o,ops[i]? = some o:=⟨_,List.getElem?_eq_getElem h⟩
theorem H_n (ht:Table P C N ops env h st) : ∀ c,c<=ops.length->h.n+ops.length<=(st c).H.n
 | 0,_=>by rw [ht.zero]; exact Nat.le_refl _
 | c+1,hc=>by
   have ih:=H_n ht c (by omega)
   obtain ⟨o,ho⟩:=at_lt (ops:=ops) (i:=c) (by omega)
   obtain ⟨m,b,x,k,hr⟩:=ht.row c o ho
   obtain ⟨e,he⟩:=hr.next
   rw [he]
   cases k with
   | hard H'=>
     have:=hr.check
     unfold dcheck at this
     obtain ⟨h1,_⟩:=br_and this
     exact Nat.le_trans ih (Nat.le_of_ble_eq_true h1)
   | _=>exact ih
theorem chain_in (ht:Table P C N ops env h st) {q:Nat} (hq:Hard P C N ops h.n st q) : ∀ c,c<=ops.length->q<c->(q,(st q).H)∈(st c).chain
 | 0,_,hlt=>by omega
 | c+1,hc,hlt=>by
   obtain ⟨o,ho⟩:=at_lt (ops:=ops) (i:=c) (by omega)
   obtain ⟨m,b,x,k,hr⟩:=ht.row c o ho
   obtain ⟨e,he⟩:=hr.next
   rw [he]
   by_cases e:q=c
   ·subst e
    obtain ⟨o',m',b',x',H',ho',hr'⟩:=hq
    rw [ho] at ho'; cases ho'
    obtain ⟨_,_,_,rfl⟩:=row_kind hr hr'
    exact List.mem_cons_self
   ·have:=chain_in ht hq c (by omega) (by omega)
    cases k with
    | hard H'=>exact List.mem_cons_of_mem _ this
    | _=>exact this
theorem read_in (ht:Table P C N ops env h st) {p:Nat} {o:Oper} {m:Nat} {b:Bool} {x:XV} (ho:ops[p]? = some o) (hp:Row P C N ops h.n st p o m b x .read) : ∀ c,c<=ops.length->p<c->(p,(st p).env,o.op,x)∈(st c).reads
 | 0,_,hlt=>by omega
 | c+1,hc,hlt=>by
   obtain ⟨o',ho'⟩:=at_lt (ops:=ops) (i:=c) (by omega)
   obtain ⟨m',b',x',k,hr⟩:=ht.row c o' ho'
   obtain ⟨e,he⟩:=hr.next
   rw [he]
   by_cases e:p=c
   ·subst e
    rw [ho] at ho'; cases ho'
    obtain ⟨_,_,rfl,rfl⟩:=row_kind hp hr
    exact List.mem_cons_self
   ·have:=read_in ht ho hp c (by omega) (by omega)
    cases k with
    | read=>exact List.mem_cons_of_mem _ this
    | _=>exact this
theorem news_in (ht:Table P C N ops env h st) {i:Nat} {ob:XO} : ∀ c,c<=ops.length->(i,ob)∈(st c).news->New P C N ops h.n st i ob/\i<c/\∀ q,Hard P C N ops h.n st q->q<c->i<q->¬ bitOf ops q i
 | 0,_,hm=>by rw [ht.zero] at hm; cases hm
 | c+1,hc,hm=>by
   obtain ⟨o',ho'⟩:=at_lt (ops:=ops) (i:=c) (by omega)
   obtain ⟨m',b',x',k,hr⟩:=ht.row c o' ho'
   obtain ⟨e,he⟩:=hr.next
   rw [he] at hm
   have old:(i,ob)∈(st c).news->(∀ H',k = .hard H'->¬ bitOf ops c i)->New P C N ops h.n st i ob/\i<c+1/\∀ q,Hard P C N ops h.n st q->q<c+1->i<q->¬ bitOf ops q i:=λhm hc'=>by
    obtain ⟨h1,h2,h3⟩:=news_in ht c (by omega) hm
    refine ⟨h1,by omega,λq hq hlt hiq=>?_⟩
    by_cases e:q=c
    ·subst e
     obtain ⟨o2,m2,b2,x2,H2,ho2,hr2⟩:=hq
     rw [ho'] at ho2; cases ho2
     obtain ⟨_,_,_,rfl⟩:=row_kind hr hr2
     exact hc' _ rfl
    ·exact h3 q hq (by omega) hiq
   cases k with
   | soft=>exact old hm λ_ e=>by cases e
   | read=>exact old hm λ_ e=>by cases e
   | quiet=>exact old hm λ_ e=>by cases e
   | new ob'=>
     rcases List.mem_cons.1 hm with hm | hm
     ·cases hm
      exact ⟨⟨o',m',b',x',ho',hr⟩,by omega,λq hq h1 h2=>by omega⟩
     ·exact old hm λ_ e=>by cases e
   | hard H'=>
     simp only [dnext] at hm
     rw [filt_eq,List.mem_filter] at hm
     refine old hm.1 λ_ _ ⟨m2,h1,h2⟩=>?_
     rw [hr.anc] at h1; cases h1
     have:=hm.2
     rw [br_not,tb_eq,h2] at this
     cases this
theorem read_any (ht:Table P C N ops env h st) {p:Nat} {o:Oper} {m:Nat} {b:Bool} {x:XV} (ho:ops[p]? = some o) (hp:Row P C N ops h.n st p o m b x .read) {c:Nat} (hc:c<=ops.length)
 (h1 : ∀ q,Hard P C N ops h.n st q->c<=q->q<p->¬ bitOf ops p q) (h2 : ∀ q,Hard P C N ops h.n st q->q<c->p<q->¬ bitOf ops q p):xread P (st p).env (st c).H o.op=some x:=by
 have hpl:p<ops.length:=(List.getElem?_eq_some_iff.1 ho).1
 have self:xread P (st p).env (st p).H o.op=some x:=by
  have hk:=hp.kind
  cases b with
  | false=>rw [br_f] at hk; cases hk
  | true=>
    rw [br_t] at hk
    unfold dkind at hk
    split at hk
    ·cases hk
    split at hk
    ·cases hk
    ·split at hk
     ·next y hy=>cases hk; exact hy
     ·split at hk
      ·cases hk
      ·split at hk
       ·cases hk
       ·split at hk <;> cases hk
 have nh : ¬ Hard P C N ops h.n st p:=λ⟨o',m',b',x',H',ho',hr'⟩=>by
  rw [ho] at ho'; cases ho'
  obtain ⟨_,_,_,e⟩:=row_kind hp hr'
  cases e
 by_cases hcp:c<=p
 ·have down : ∀ d c,c+d=p->(∀ q,Hard P C N ops h.n st q->c<=q->q<p->¬ bitOf ops p q)->xread P (st p).env (st c).H o.op=some x:=by
   intro d
   induction d with
   | zero=>intro c e _; rw [show c=p by omega]; exact self
   | succ d ih=>
     intro c e hq
     by_cases hh:Hard P C N ops h.n st c
     ·have hin:=chain_in ht hh p (by omega) (by omega)
      have hck:=hp.check
      unfold dcheck at hck
      simp only at hck
      rw [allX_eq,List.all_eq_true] at hck
      have h3:=hck _ hin
      have hb:tb m c=false:=by
       rw [tb_eq]
       cases hb:m.testBit c with
       | false=>rfl
       | true=>exact absurd ⟨m,hp.anc,hb⟩ (hq c hh (Nat.le_refl _) (by omega))
      simp only at h3
      rw [hb,br_f] at h3
      exact sameO_eq h3
     ·obtain ⟨oc,hoc⟩:=at_lt (ops:=ops) (i:=c) (by omega)
      rw [<-H_same ht hoc hh]
      exact ih (c+1) (by omega) λq hh' h1 h2=>hq q hh' (by omega) h2
  exact down (p - c) c (by omega) h1
 ·have up : ∀ d c,c=p+1+d->c<=ops.length->(∀ q,Hard P C N ops h.n st q->q<c->p<q->¬ bitOf ops q p)->xread P (st p).env (st c).H o.op=some x:=by
   intro d
   induction d with
   | zero=>intro c e _ _; rw [show c=p+1 by omega,H_same ht ho nh]; exact self
   | succ d ih=>
     intro c e hcl hq
     obtain ⟨c',rfl⟩ : ∃ c',c=c'+1:=⟨c - 1,by omega⟩
     obtain ⟨oc,hoc⟩:=at_lt (ops:=ops) (i:=c') (by omega)
     by_cases hh:Hard P C N ops h.n st c'
     ·have hb:=hq c' hh (by omega) (by omega)
      obtain ⟨o',m',b',x',H',ho',hr'⟩:=hh
      have hin:=read_in ht ho hp c' (by omega) (by omega)
      have hck:=hr'.check
      unfold dcheck at hck
      simp only at hck
      obtain ⟨_,hck⟩:=br_and hck
      obtain ⟨_,hck⟩:=br_and hck
      rw [allX_eq,List.all_eq_true] at hck
      have h3:=hck _ hin
      have hb:tb m' p=false:=by
       rw [tb_eq]
       cases hb':m'.testBit p with
       | false=>rfl
       | true=>exact absurd ⟨m',hr'.anc,hb'⟩ hb
      simp only at h3
      rw [hb,br_f] at h3
      obtain ⟨e',he'⟩:=hr'.next
      rw [he']
      exact sameO_eq h3
     ·rw [H_same ht hoc hh]
      exact ih c' (by omega) (by omega) λq hh' h1 h2=>hq q hh' (by omega) h2
  exact up (c - (p+1)) c (by omega) hc h2
theorem hard_row (ht:Table P C N ops env h st) {p q:Nat} (hp:Hard P C N ops h.n st p) (hq:Hard P C N ops h.n st q) (hlt:q<p):bitOf ops p q:=by
 obtain ⟨o',m',b',x',H',ho',hr'⟩:=hp
 have hin:=chain_in ht hq p (by have:=(List.getElem?_eq_some_iff.1 ho').1; omega) hlt
 have hck:=hr'.check
 unfold dcheck at hck
 simp only at hck
 obtain ⟨_,hck⟩:=br_and hck
 obtain ⟨hck,_⟩:=br_and hck
 obtain ⟨hck,_⟩:=br_and hck
 rw [allX_eq,List.all_eq_true] at hck
 have h3:=hck _ hin
 rw [tb_eq] at h3
 exact ⟨m',hr'.anc,h3⟩
def Quiet (P:Program) (C:CallsX) (N:Nat) (ops:List Oper) (base:Nat) (st:Nat->DSt) (q:Nat):Prop:=∃ o m b x,ops[q]? = some o/\Row P C N ops base st q o m b x .quiet
theorem quiet_in (ht:Table P C N ops env h st) {q:Nat} (hq:Quiet P C N ops h.n st q) : ∀ c,c<=ops.length->q<c->q∈(st c).quiets
 | 0,_,hlt=>by omega
 | c+1,hc,hlt=>by
   obtain ⟨o,ho⟩:=at_lt (ops:=ops) (i:=c) (by omega)
   obtain ⟨m,b,x,k,hr⟩:=ht.row c o ho
   obtain ⟨e,he⟩:=hr.next
   rw [he]
   by_cases e:q=c
   ·subst e
    obtain ⟨o',m',b',x',ho',hr'⟩:=hq
    rw [ho] at ho'; cases ho'
    obtain ⟨_,_,_,rfl⟩:=row_kind hr hr'
    exact List.mem_cons_self
   ·have:=quiet_in ht hq c (by omega) (by omega)
    cases k with
    | quiet=>exact List.mem_cons_of_mem _ this
    | _=>exact this
theorem quiet_row (ht:Table P C N ops env h st) {p q:Nat} (hp:Hard P C N ops h.n st p) (hq:Quiet P C N ops h.n st q) (hlt:q<p):bitOf ops p q:=by
 obtain ⟨o',m',b',x',H',ho',hr'⟩:=hp
 have hin:=quiet_in ht hq p (by have:=(List.getElem?_eq_some_iff.1 ho').1; omega) hlt
 have hck:=hr'.check
 unfold dcheck at hck
 simp only at hck
 obtain ⟨_,hck⟩:=br_and hck
 obtain ⟨hck,_⟩:=br_and hck
 obtain ⟨_,hck⟩:=br_and hck
 rw [allX_eq,List.all_eq_true] at hck
 have h3:=hck _ hin
 rw [tb_eq] at h3
 exact ⟨m',hr'.anc,h3⟩
theorem quiet_row' (ht:Table P C N ops env h st) {p q:Nat} (hp:Quiet P C N ops h.n st p) (hq:Hard P C N ops h.n st q) (hlt:q<p):bitOf ops p q:=by
 obtain ⟨o',m',b',x',ho',hr'⟩:=hp
 have hin:=chain_in ht hq p (by have:=(List.getElem?_eq_some_iff.1 ho').1; omega) hlt
 have hck:=hr'.check
 unfold dcheck at hck
 simp only at hck
 rw [allX_eq,List.all_eq_true] at hck
 have h3:=hck _ hin
 rw [tb_eq] at h3
 exact ⟨m',hr'.anc,h3⟩
theorem H_between (ht:Table P C N ops env h st) : ∀ {d c p:Nat},p=c+d->p<=ops.length->(∀ q,Hard P C N ops h.n st q->c<=q->q<p->False)->(st p).H=(st c).H:=by
 intro d
 induction d with
 | zero=>intro c p e _ _; rw [show p=c by omega]
 | succ d ih=>
   intro c p e hp hq
   obtain ⟨oc,hoc⟩:=at_lt (ops:=ops) (i:=c) (by omega)
   rw [ih (c:=c+1) (p:=p) (by omega) hp λq h1 h2 h3=>hq q h1 (by omega) h3]
   exact H_same ht hoc λhh=>hq c hh (Nat.le_refl _) (by omega)
theorem env_old (ht:Table P C N ops env h st) {t:Nat} : ∀ c,c<=ops.length->(∀ j o,j<c->ops[j]? = some o->o.dst≠some t)->(st c).env.get t=env.get t
 | 0,_,_=>by rw [ht.zero]
 | c+1,hc,hd=>by
   obtain ⟨o,ho⟩:=at_lt (ops:=ops) (i:=c) (by omega)
   obtain ⟨m,b,x,k,hr⟩:=ht.row c o ho
   have ih:=env_old ht c (by omega) λj o hj=>hd j o (by omega)
   have hp:=hr.put
   unfold putE at hp
   split at hp
   ·have e1:=Option.some.inj hp; rw [<-e1]; exact ih
   ·next s hs=>
    obtain ⟨_,h2⟩:=br_some hp
    have h2:=Option.some.inj h2
    rw [<-h2,Tr.get_set]
    have:t≠s:=λe=>hd c o (by omega) ho (by rw [hs,e])
    rw [if_neg this]; exact ih
theorem env_new (ht:Table P C N ops env h st) {t j:Nat} {oj:Oper} {mj:Nat} {bj:Bool} {xj:XV} {kj:RK} (hoj:ops[j]? = some oj) (hrj:Row P C N ops h.n st j oj mj bj xj kj) (hdj:oj.dst=some t) : ∀ c,c<=ops.length->j<c->(st c).env.get t=some xj
 | 0,_,hlt=>by omega
 | c+1,hc,hlt=>by
   obtain ⟨o,ho⟩:=at_lt (ops:=ops) (i:=c) (by omega)
   obtain ⟨m,b,x,k,hr⟩:=ht.row c o ho
   have hp:=hr.put
   by_cases e:j=c
   ·subst e
    rw [ho] at hoj; cases hoj
    obtain ⟨_,_,rfl,_⟩:=row_kind hr hrj
    unfold putE at hp
    rw [hdj] at hp
    simp only at hp
    obtain ⟨_,h2⟩:=br_some hp
    have h2:=Option.some.inj h2
    rw [<-h2,Tr.get_set,if_pos rfl]
   ·have ih:=env_new ht hoj hrj hdj c (by omega) (by omega)
    unfold putE at hp
    split at hp
    ·have:=Option.some.inj hp; rw [<-this]; exact ih
    ·next s hs=>
     obtain ⟨_,h2⟩:=br_some hp
     have h2:=Option.some.inj h2
     rw [<-h2,Tr.get_set]
     have:t≠s:=λe'=>e (okDst_spec ht.dst hoj ho hdj (by rw [hs,e']))
     rw [if_neg this]; exact ih
end
theorem restrict (e:XE) : ∀ S:List Nat,∃ r:XE,∀ t,r.get t=if t∈S then e.get t else none
 | []=>⟨.lf,λt=>by simp; rfl⟩
 | s :: S=>by
   obtain ⟨r,hr⟩:=restrict e S
   refine ⟨r.set (e.get s) s,λt=>?_⟩
   rw [Tr.get_set,hr]
   by_cases h:t=s
   ·subst h; simp
   ·simp [h]
theorem setD {listed:Array Bool} {i j:Nat} (hi:i<listed.size):(listed.setIfInBounds i true).getD j false=true↔(j=i\/listed.getD j false=true):=by
 by_cases h:j=i
 ·subst h
  simp [Array.getElem?_setIfInBounds_self_of_lt hi]
 ·rw [getD_set_ne false (λe=>h e.symm)]
  simp [h]
theorem setF {listed:Array Bool} {i j:Nat} (hi:i<listed.size) (h:(listed.setIfInBounds i true).getD j false=false):j≠i/\listed.getD j false=false:=by
 have:=mt (setD hi (j:=j)).2 (by rw [h]; simp)
 refine ⟨λe=>this (.inl e),?_⟩
 cases h':listed.getD j false with
 | false=>rfl
 | true=>exact absurd (.inr h') this
theorem putE_lt {N:Nat} {env env':XE} {t:Nat} {x:XV} (h:putE N env (some t) x=some env'):t<N:=by
 obtain ⟨h1,_⟩:=br_some h
 simpa [Nat.blt_eq] using h1
structure RunAt (P:Program) (C:CallsX) (N:Nat) (W:List Deferred->Prop) (S0:Nat->Prop) (w0:World) (ops:List Oper) (env:XE) (h:Hp) (st:Nat->DSt) (ρ0:Lab) (listed:Array Bool) (a:Act) (w:World) (ρ:Lab) (g:Nat->Option XO) (c:Nat):Prop where
 sz:listed.size=ops.length
 cl:Closed ops.toArray listed
 c_le:c<=ops.length
 cut : ∀ q,Hard P C N ops h.n st q->(listed.getD q false=true↔q<c)
 inv:InvG S0 w0 ρ g (st c).H.n w
 up:Lab.up h.n ρ0 ρ
 g1 : ∀ L o,(st c).H.t.get L=some o->g L=some o
 g2 : ∀ i ob,New P C N ops h.n st i ob->listed.getD i false=true->(∀ q,Hard P C N ops h.n st q->q<c->¬ bitOf ops q i)->g (h.n+i)=some ob/\(st c).H.t.get (h.n+i)=none
 g3 : ∀ i ob,New P C N ops h.n st i ob->listed.getD i false=false->ρ (h.n+i)=none
 size:a.tmps.size=N
 t1 : ∀ i o m b x k t,ops[i]? = some o->Row P C N ops h.n st i o m b x k->listed.getD i false=true->o.dst=some t->∃ v,a.tmps[t]? = some v/\XR ρ x v
 t2 : ∀ t x,(∀ i o,ops[i]? = some o->listed.getD i false=true->o.dst≠some t)->env.get t=some x->∃ v,a.tmps[t]? = some v/\XR ρ x v
 defs:W a.defers
section
variable {P:Program} {G:World->Prop} {C:CallsX} {W:List Deferred->Prop} {r:Option Nat} {N:Nat} {S0:Nat->Prop} {w0 w w':World} {ops:List Oper} {env:XE} {h:Hp} {st:Nat->DSt} {ρ0 ρ ρ':Lab} {listed:Array Bool} {a:Act} {g g':Nat->Option XO} {c c':Nat}
 {i:Nat} {o:Oper} {m:Nat} {b:Bool} {x:XV} {k:RK}
theorem bits_listed (hr:RunAt P C N W S0 w0 ops env h st ρ0 listed a w ρ g c) (ho:ops[i]? = some o) (hl : ∀ e∈o.after,Region.binds .any e=true->listed.getD e.on false=true) {j:Nat} (hb:bitOf ops i j):listed.getD j false=true:=by
 obtain ⟨m,h1,h2⟩:=hb
 exact anc_listed hr.cl i o m j ho h1 h2 hl
theorem bits_of_listed (hr:RunAt P C N W S0 w0 ops env h st ρ0 listed a w ρ g c) (hi:listed.getD i false=true) {j:Nat} (hb:bitOf ops i j):listed.getD j false=true:=by
 have hlt:i<ops.length:=by
  rw [<-hr.sz]
  rcases Nat.lt_or_ge i listed.size with h' | h'
  ·exact h'
  ·simp [Array.getElem?_eq_none h'] at hi
 obtain ⟨o,ho⟩:=at_lt hlt
 exact bits_listed hr ho (λe he hb'=>hr.cl i o (by simp [ho]) hi e he hb') hb
theorem env_at (ht:Table P C N ops env h st) (hr:RunAt P C N W S0 w0 ops env h st ρ0 listed a w ρ g c) (ho:ops[i]? = some o) (hu:listed.getD i false=false) (hl : ∀ e∈o.after,Region.binds .any e=true->listed.getD e.on false=true)
 {t:Nat} (hlk:t∈Oper.looksAt ops.toArray o) {y:XV} (hy:(st i).env.get t=some y) : ∃ v,a.tmps[t]? = some v/\XR ρ y v:=by
 have hil:i<=ops.length:=Nat.le_of_lt (List.getElem?_eq_some_iff.1 ho).1
 by_cases hw : ∃ j oj,ops[j]? = some oj/\j<i/\oj.dst=some t
 ·obtain ⟨j,oj,hoj,hji,hdj⟩:=hw
  obtain ⟨mi,bi,xi,ki,hri⟩:=ht.row i o ho
  obtain ⟨mj,bj,xj,kj,hrj⟩:=ht.row j oj hoj
  rw [env_new ht hoj hrj hdj i hil hji] at hy
  cases hy
  rcases okTmp_spec ht.tmp ho hoj hri.anc hrj.anc hlk hdj with h1 | h1 | h1
  ·exact hr.t1 j oj mj bj _ kj t hoj hrj (bits_listed hr ho hl ⟨mi,hri.anc,h1⟩) hdj
  ·have:=anc_lt j mj i hrj.anc h1 (okTop_spec ht.top)
   omega
  ·omega
 ·rw [env_old ht i hil λj oj hj hoj hd=>hw ⟨j,oj,hoj,hj,hd⟩] at hy
  refine hr.t2 t y (λj oj hoj hlj hdj=>?_) hy
  obtain ⟨mi,bi,xi,ki,hri⟩:=ht.row i o ho
  obtain ⟨mj,bj,xj,kj,hrj⟩:=ht.row j oj hoj
  rcases okTmp_spec ht.tmp ho hoj hri.anc hrj.anc hlk hdj with h1 | h1 | h1
  ·exact hw ⟨j,oj,hoj,anc_lt i mi j hri.anc h1 (okTop_spec ht.top),hdj⟩
  ·have:=bits_of_listed hr hlj ⟨mj,hrj.anc,h1⟩
   rw [hu] at this; cases this
  ·subst h1
   rw [hu] at hlj; cases hlj
theorem env_fit (ht:Table P C N ops env h st) (hr:RunAt P C N W S0 w0 ops env h st ρ0 listed a w ρ g c) (ho:ops[i]? = some o) (hu:listed.getD i false=false) (hl : ∀ e∈o.after,Region.binds .any e=true->listed.getD e.on false=true) :
 ∃ e:XE,EnvOk ρ e a.tmps/\Alike e (st i).env o.op/\xguard ops e o.guard=xguard ops (st i).env o.guard:=by
 obtain ⟨e,he⟩:=restrict (st i).env (Oper.looksAt ops.toArray o)
 have hin : ∀ t,t∈Oper.looksAt ops.toArray o->e.get t=(st i).env.get t:=λt ht'=>by rw [he,if_pos ht']
 refine ⟨e,λt y hy=>?_,λx hx=>?_,?_⟩
 ·rw [he] at hy
  by_cases hm:t∈Oper.looksAt ops.toArray o
  ·rw [if_pos hm] at hy
   exact env_at ht hr ho hu hl hm hy
  ·rw [if_neg hm] at hy; cases hy
 ·cases x with
  | tmp t=>exact hin t (List.mem_append_left _ (List.mem_filterMap.2 ⟨.tmp t,hx,rfl⟩))
  | _=>rfl
 ·cases hg:o.guard with
  | none=>rfl
  | some q=>
    obtain ⟨j,want⟩:=q
    simp only [xguard]
    cases hn:nth ops j with
    | none=>rfl
    | some oj=>
      simp only [onO]
      cases hd:oj.dst with
      | none=>rfl
      | some t=>
        have:e.get t=(st i).env.get t:=hin t (List.mem_append_right _ (by
         rw [hg]
         rw [nth_eq] at hn
         simp [hn,hd]))
        simp only [this]
theorem tmps_step (ht:Table P C N ops env h st) (hr:RunAt P C N W S0 w0 ops env h st ρ0 listed a w ρ g c) (ho:ops[i]? = some o) (hrow:Row P C N ops h.n st i o m b x k) (hle:Lab.le ρ ρ') {v:Value} (hv:XR ρ' x v) :
 (a.put o.dst v).tmps.size=N/\
 (∀ j oj mj bj xj kj t,ops[j]? = some oj->Row P C N ops h.n st j oj mj bj xj kj->(listed.setIfInBounds i true).getD j false=true->oj.dst=some t->∃ v',(a.put o.dst v).tmps[t]? = some v'/\XR ρ' xj v')/\
 (∀ t y,(∀ j oj,ops[j]? = some oj->(listed.setIfInBounds i true).getD j false=true->oj.dst≠some t)->env.get t=some y->∃ v',(a.put o.dst v).tmps[t]? = some v'/\XR ρ' y v'):=by
 have hil:i<listed.size:=by rw [hr.sz]; exact (List.getElem?_eq_some_iff.1 ho).1
 have hne : ∀ t,o.dst≠some t->(a.put o.dst v).tmps[t]? = a.tmps[t]?:=λt hd=>by
  cases h':o.dst with
  | none=>rfl
  | some s=>
    have:s≠t:=λe=>hd (by rw [h',e])
    simp only [Act.put]
    rw [Array.getElem?_setIfInBounds_ne this]
 have hse : ∀ t,o.dst=some t->(a.put o.dst v).tmps[t]? = some v:=λt hd=>by
  have hp:=hrow.put
  rw [hd] at hp ⊢
  simp only [Act.put]
  exact Array.getElem?_setIfInBounds_self_of_lt (by rw [hr.size]; exact putE_lt hp)
 refine ⟨by rw [put_size]; exact hr.size,λj oj mj bj xj kj t hoj hrj hlj hdj=>?_,λt y hn hy=>?_⟩
 ·by_cases e:j=i
  ·subst e
   rw [ho] at hoj; cases hoj
   obtain ⟨_,_,rfl,_⟩:=row_kind hrow hrj
   exact ⟨v,hse t hdj,hv⟩
  ·have hlj:listed.getD j false=true:=by
    rcases (setD hil).1 hlj with h1 | h1
    ·exact absurd h1 e
    ·exact h1
   obtain ⟨u,h1,h2⟩:=hr.t1 j oj mj bj xj kj t hoj hrj hlj hdj
   refine ⟨u,?_,XR.le hle _ _ h2⟩
   rw [hne t λhd=>e (okDst_spec ht.dst hoj ho hdj hd)]
   exact h1
 ·obtain ⟨u,h1,h2⟩:=hr.t2 t y (λj oj hoj hlj=>hn j oj hoj ((setD hil).2 (.inr hlj))) hy
  refine ⟨u,?_,XR.le hle _ _ h2⟩
  rw [hne t (hn i o ho ((setD hil).2 (.inl rfl)))]
  exact h1
theorem run_soft (ht:Table P C N ops env h st) (hr:RunAt P C N W S0 w0 ops env h st ρ0 listed a w ρ g c) (hrd:i∈Region.ready .any ops.toArray listed) (ho:ops[i]? = some o) (hrow:Row P C N ops h.n st i o m b x k) (hk:k = .soft\/k = .read) {v:Value} (hv:XR ρ x v) :
 RunAt P C N W S0 w0 ops env h st ρ0 (listed.setIfInBounds i true) (a.put o.dst v) w ρ g c:=by
 have hil:i<listed.size:=by rw [hr.sz]; exact (List.getElem?_eq_some_iff.1 ho).1
 obtain ⟨h1,h2,h3⟩:=tmps_step ht hr ho hrow (Lab.le_refl _) hv
 have nh : ¬ Hard P C N ops h.n st i:=λ⟨o',m',b',x',H',ho',hr'⟩=>by
  rw [ho] at ho'; cases ho'
  obtain ⟨_,_,_,e⟩:=row_kind hrow hr'
  subst e
  rcases hk with e | e <;> cases e
 have nn : ∀ ob,¬ New P C N ops h.n st i ob:=λob ⟨o',m',b',x',ho',hr'⟩=>by
  rw [ho] at ho'; cases ho'
  obtain ⟨_,_,_,e⟩:=row_kind hrow hr'
  subst e
  rcases hk with e | e <;> cases e
 refine ⟨by simp [hr.sz],closed_set hr.cl hrd,hr.c_le,λq hq=>?_,hr.inv,hr.up,hr.g1,λj ob hj hlj hq=>?_,λj ob hj hlj=>hr.g3 j ob hj (setF hil hlj).2,h1,h2,h3,put_def hr.defs⟩
 ·rw [setD hil,<-hr.cut q hq]
  constructor
  ·rintro (e | e)
   ·subst e; exact absurd hq nh
   ·exact e
  ·exact .inr
 ·rcases (setD hil).1 hlj with e | e
  ·subst e; exact absurd hj (nn ob)
  ·exact hr.g2 j ob hj e hq
theorem ready_spec (hrd:i∈Region.ready .any ops.toArray listed):listed.getD i false=false/\∃ o,ops[i]? = some o/\∀ e∈o.after,Region.binds .any e=true->listed.getD e.on false=true:=by
 obtain ⟨h1,o,h2,h3⟩:=mem_ready.1 hrd
 refine ⟨?_,o,by simpa using h2,h3⟩
 cases h:listed.getD i false with
 | false=>rfl
 | true=>
   have hlt:i<listed.size:=by
    rcases Nat.lt_or_ge i listed.size with h' | h'
    ·exact h'
    ·simp [Array.getElem?_eq_none h'] at h
   simp [hlt] at h h1
   rw [h] at h1; cases h1
theorem cut_at (ht:Table P C N ops env h st) (hr:RunAt P C N W S0 w0 ops env h st ρ0 listed a w ρ g c) (ho:ops[i]? = some o) (hu:listed.getD i false=false) (hl : ∀ e∈o.after,Region.binds .any e=true->listed.getD e.on false=true)
 (hb : ∀ q,Hard P C N ops h.n st q->q<i->bitOf ops i q) (ha : ∀ q,Hard P C N ops h.n st q->i<q->bitOf ops q i):(st c).H=(st i).H/\∀ q,Hard P C N ops h.n st q->(q<c↔q<i):=by
 have hio:i<ops.length:=(List.getElem?_eq_some_iff.1 ho).1
 refine ⟨?_,λq hq=>?_⟩
 ·by_cases hci:c<=i
  ·refine (H_between ht (d:=i - c) (c:=c) (p:=i) (by omega) (by omega) λq hq a1 a2=>?_).symm
   have:=(hr.cut q hq).1 (bits_listed hr ho hl (hb q hq a2))
   omega
  ·refine H_between ht (d:=c - i) (c:=i) (p:=c) (by omega) hr.c_le λq hq a1 a2=>?_
   have hlq:=(hr.cut q hq).2 a2
   by_cases eq:q=i
   ·subst eq; rw [hu] at hlq; cases hlq
   ·have:=bits_of_listed hr hlq (ha q hq (by omega))
    rw [hu] at this; cases this
 ·rw [<-hr.cut q hq]
  constructor
  ·intro hlq
   rcases Nat.lt_trichotomy q i with e | e | e
   ·exact e
   ·subst e; rw [hu] at hlq; cases hlq
   ·have:=bits_of_listed hr hlq (ha q hq e)
    rw [hu] at this; cases this
  ·intro e
   exact bits_listed hr ho hl (hb q hq e)
theorem pre_in (ht:Table P C N ops env h st) (hr:RunAt P C N W S0 w0 ops env h st ρ0 listed a w ρ g c) (ho:ops[i]? = some o) (hrow:Row P C N ops h.n st i o m b x k) (hl : ∀ e∈o.after,Region.binds .any e=true->listed.getD e.on false=true)
 (hHc:(st c).H=(st i).H) (hcut : ∀ q,Hard P C N ops h.n st q->(q<c↔q<i)) : ∀ L z,(mergeN h.n m (st i).news (st i).H.t).get L=some z->g L=some z:=λL z hz=>by
 have hio:i<ops.length:=(List.getElem?_eq_some_iff.1 ho).1
 rcases mergeN_get hz with hz | ⟨q,e1,e2,e3,e4⟩
 ·exact hr.g1 L z (by rw [hHc]; exact hz)
 ·obtain ⟨f1,f2,f3⟩:=news_in ht i (Nat.le_of_lt hio) e1
  rw [tb_eq] at e2
  have hlq:=bits_listed hr ho hl (j:=q.1) ⟨m,hrow.anc,e2⟩
  have:=hr.g2 q.1 q.2 f1 hlq λp hp hpc ⟨mp,b1,b2⟩=>by
   have hpi:=(hcut p hp).1 hpc
   have:=anc_lt p mp q.1 b1 b2 (okTop_spec ht.top)
   exact f3 p hp hpi this ⟨mp,b1,b2⟩
  rw [e3,e4]; exact this.1
def Run (P:Program) (C:CallsX) (N:Nat) (W:List Deferred->Prop) (S0:Nat->Prop) (w0:World) (ops:List Oper) (env:XE) (h:Hp) (st:Nat->DSt) (ρ0:Lab) (listed:Array Bool) (a:Act) (w:World):Prop:=
 ∃ ρ g c,RunAt P C N W S0 w0 ops env h st ρ0 listed a w ρ g c
theorem run_op (hC:CallsOk P G C) (hG:GOk G S0 w0) (ht:Table P C N ops env h st) (hr:Run P C N W S0 w0 ops env h st ρ0 listed a w) (hrd:i∈Region.ready .any ops.toArray listed) {Q:Exit->Act->World->Prop} {K:Act->World->Prop}
 (hK : ∀ a' w',Run P C N W S0 w0 ops env h st ρ0 (listed.setIfInBounds i true) a' w'->K a' w'):wpOpIn (Fr r) 0 P ops.toArray Q i K a w:=by
 obtain ⟨ρ,g,c,hr⟩:=hr
 obtain ⟨hu,o,ho,hl⟩:=ready_spec hrd
 have hil:i<listed.size:=by rw [hr.sz]; exact (List.getElem?_eq_some_iff.1 ho).1
 have hio:i<ops.length:=(List.getElem?_eq_some_iff.1 ho).1
 obtain ⟨m,b,x,k,hrow⟩:=ht.row i o ho
 obtain ⟨e,he,hal,hgu⟩:=env_fit ht hr ho hu hl
 have hw:=xguard_ok (hgu.trans hrow.guard) he
 unfold wpOpIn
 have hoa:ops.toArray[i]? = some o:=by simpa using ho
 rw [hoa]
 simp only
 rw [hw]
 have hkind:=hrow.kind
 cases b with
 | false=>
   rw [br_f] at hkind
   cases hkind
   rw [if_neg (by simp)]
   exact ⟨λ_ _=>trivial,hK _ _ ⟨ρ,g,c,run_soft ht hr hrd ho hrow (.inl rfl) undef_ok⟩⟩
 | true=>
   rw [br_t] at hkind
   rw [if_pos rfl]
   unfold dkind at hkind
   cases h1:xpure P (st i).env o.op with
   | some y=>
     rw [h1] at hkind
     cases hkind
     rw [<-xpure_congr hal] at h1
     obtain ⟨v,h3,h4⟩:=xpure_run h1 he
     exact up_value (xpure_df h1) (h3 w) (hK _ _ ⟨ρ,g,c,run_soft ht hr hrd ho hrow (.inl rfl) h4⟩)
   | none=>
     rw [h1] at hkind
     simp only at hkind
     cases h1:xglob C o.op with
     | some y=>
       rw [h1] at hkind
       cases hkind
       obtain ⟨v,h3,h4⟩:=xglob_run hC h1 (hG w hr.inv.mod) a ρ
       exact up_value (xglob_df h1) h3 (hK _ _ ⟨ρ,g,c,run_soft ht hr hrd ho hrow (.inl rfl) h4⟩)
     | none=>
     rw [h1] at hkind
     simp only at hkind
     cases h1:xread P (st i).env (st i).H o.op with
     | some y=>
       rw [h1] at hkind
       cases hkind
       have h2:=read_any ht ho hrow hr.c_le (λq hq h3 h4 hb=>by
        have:=(hr.cut q hq).1 (bits_listed hr ho hl hb)
        omega) (λq hq h3 h4 hb=>by
        have:=bits_of_listed hr ((hr.cut q hq).2 h3) hb
        rw [hu] at this; cases this)
       rw [<-xread_congr hal] at h2
       obtain ⟨v,h3,h4⟩:=xread_run (hr.inv.sub hr.g1).to h2 he
       exact up_value (xread_df h2) h3 (hK _ _ ⟨ρ,g,c,run_soft ht hr hrd ho hrow (.inr rfl) h4⟩)
     | none=>
       rw [h1] at hkind
       simp only at hkind
       cases h1:xnew P (st i).env (Nat.add h.n i) o.op with
       | some q=>
         obtain ⟨y,ob⟩:=q
         rw [h1] at hkind
         cases hkind
         rw [<-xnew_congr hal] at h1
         obtain ⟨v,w',bb,sz,h3,h4,h5,h6⟩:=xnew_run h1 he w
         have hnew:New P C N ops h.n st i ob:=⟨o,m,true,_,ho,hrow⟩
         have hfree:ρ (h.n+i)=none:=hr.g3 i ob hnew hu
         have hlt:h.n+i<(st c).H.n:=by have:=H_n ht c hr.c_le; omega
         have hle:Lab.le ρ (λL=>if L=h.n+i then some (bb,sz) else ρ L):=λL z e=>by
          by_cases hL:L=h.n+i
          ·subst hL; rw [hfree] at e; cases e
          ·simp [hL,e]
         obtain ⟨g5,g6⟩:=h6 (λL=>if L=h.n+i then some (bb,sz) else ρ L) hle (by show (if h.n+i=h.n+i then _ else _)=_; simp)
         obtain ⟨t1,t2,t3⟩:=tmps_step ht hr ho hrow hle g5
         have nh : ¬ Hard P C N ops h.n st i:=λ⟨o',m',b',x',H',ho',hr'⟩=>by
          rw [ho] at ho'; cases ho'
          obtain ⟨_,_,_,e⟩:=row_kind hrow hr'
          cases e
         have hnone:(st c).H.t.get (h.n+i)=none:=by
          cases hg:(st c).H.t.get (h.n+i) with
          | none=>rfl
          | some z=>
            obtain ⟨b1,s1,e1,_⟩:=hr.inv.dom _ _ (hr.g1 _ _ hg)
            rw [hfree] at e1; cases e1
         refine up_value (xnew_df h1) h3 (hK _ _ ⟨_,λL=>if L=h.n+i then some ob else g L,c,by simp [hr.sz],closed_set hr.cl hrd,hr.c_le,λq hq=>?_,hr.inv.new hfree hlt h4 h5 g6,⟨Lab.le_trans hr.up.1 hle,λL hL=>?_⟩,λL z hz=>?_,λj ob' hj hlj hq=>?_,λj ob' hj hlj=>?_,t1,t2,t3,put_def hr.defs⟩)
         ·rw [setD hil,<-hr.cut q hq]
          constructor
          ·rintro (e | e)
           ·subst e; exact absurd hq nh
           ·exact e
          ·exact .inr
         ·have:L≠h.n+i:=by omega
          simp only [this,↓reduceIte]
          exact hr.up.2 L hL
         ·have:L≠h.n+i:=λe=>by rw [e,hnone] at hz; cases hz
          simp only [this,↓reduceIte]
          exact hr.g1 L z hz
         ·by_cases ej:j=i
          ·subst ej
           obtain ⟨o',m',b',x',ho',hr'⟩:=hj
           rw [ho] at ho'; cases ho'
           obtain ⟨_,_,_,e⟩:=row_kind hrow hr'
           cases e
           exact ⟨by simp,hnone⟩
          ·have hlj:listed.getD j false=true:=by
            rcases (setD hil).1 hlj with e | e
            ·exact absurd e ej
            ·exact e
           obtain ⟨e1,e2⟩:=hr.g2 j ob' hj hlj hq
           have:h.n+j≠h.n+i:=by omega
           simp only [this,↓reduceIte]
           exact ⟨e1,e2⟩
         ·obtain ⟨e1,e2⟩:=setF hil hlj
          have:h.n+j≠h.n+i:=by omega
          simp only [this,↓reduceIte]
          exact hr.g3 j ob' hj e2
       | none=>
         rw [h1] at hkind
         simp only at hkind
         cases h1:xquiet P C (st i).env ⟨mergeN h.n m (st i).news (st i).H.t,(st i).H.n⟩ o.op with
         | some y=>
           rw [h1] at hkind
           cases hkind
           rw [<-xquiet_congr hal] at h1
           have hq:Quiet P C N ops h.n st i:=⟨o,m,true,_,ho,hrow⟩
           have nh : ¬ Hard P C N ops h.n st i:=λ⟨o',m',b',x',H',ho',hr'⟩=>by
            rw [ho] at ho'; cases ho'
            obtain ⟨_,_,_,e⟩:=row_kind hrow hr'
            cases e
           have nn : ∀ ob,¬ New P C N ops h.n st i ob:=λob ⟨o',m',b',x',ho',hr'⟩=>by
            rw [ho] at ho'; cases ho'
            obtain ⟨_,_,_,e⟩:=row_kind hrow hr'
            cases e
           obtain ⟨hHc,hcut⟩:=cut_at ht hr ho hu hl (λq hq' e=>quiet_row' ht hq hq' e) (λq hq' e=>quiet_row ht hq' hq e)
           have hpre:=pre_in ht hr ho hrow hl hHc hcut
           have hig:InvG S0 w0 ρ g (st i).H.n w:=by rw [<-hHc]; exact hr.inv
           have hip:=hig.sub hpre
           refine xquiet_wp hC (InvG.gok hG hip) hip.loc.to h1 he λv w' q2 q3=>?_
           have hfr:=hig.frame hpre (InvG.of q3) (Lab.le_refl _)
           obtain ⟨t1,t2,t3⟩:=tmps_step ht hr ho hrow (Lab.le_refl _) q2
           have hgg : ∀ L z,g L=some z->(match (mergeN h.n m (st i).news (st i).H.t).get L with | some o=>some o | none=>match (mergeN h.n m (st i).news (st i).H.t).get L with | some _=>none | none=>g L)=some z:=λL z hz=>by
            cases hp:(mergeN h.n m (st i).news (st i).H.t).get L with
            | none=>simp only [hp]; exact hz
            | some z'=>simp only [hp]; rw [<-hz,hpre L z' hp]
           refine hK _ _ ⟨ρ,g,c,by simp [hr.sz],closed_set hr.cl hrd,hr.c_le,λq hq'=>?_,by rw [hHc]; exact hfr.sub hgg,hr.up,hr.g1,λj ob hj hlj hq'=>?_,λj ob hj hlj=>hr.g3 j ob hj (setF hil hlj).2,t1,t2,t3,put_def hr.defs⟩
           ·rw [setD hil,<-hr.cut q hq']
            constructor
            ·rintro (e | e)
             ·subst e; exact absurd hq' nh
             ·exact e
            ·exact .inr
           ·rcases (setD hil).1 hlj with e | e
            ·subst e; exact absurd hj (nn ob)
            ·exact hr.g2 j ob hj e hq'
         | none=>
         rw [h1] at hkind
         simp only at hkind
         cases h1:xhard P C (st i).env ⟨mergeN h.n m (st i).news (st i).H.t,(st i).H.n⟩ o.op with
         | none=>rw [h1] at hkind; cases hkind
         | some q=>
           obtain ⟨y,H'⟩:=q
           rw [h1] at hkind
           cases hkind
           rw [<-xhard_congr hal] at h1
           have hhard:Hard P C N ops h.n st i:=⟨o,m,true,_,H',ho,hrow⟩
           obtain ⟨hHc,hcut⟩:=cut_at ht hr ho hu hl (λq hq e=>hard_row ht hhard hq e) (λq hq e=>hard_row ht hq hhard e)
           have hpre:=pre_in ht hr ho hrow hl hHc hcut
           have hnn:(st c).H.n=(st i).H.n:=by rw [hHc]
           have hig:InvG S0 w0 ρ g (st i).H.n w:=by rw [<-hnn]; exact hr.inv
           have hip:=hig.sub hpre
           have hloc:=hip.loc
           have hck:=hrow.check
           unfold dcheck at hck
           simp only at hck
           obtain ⟨hck,_⟩:=br_and hck
           have hnle:=Nat.le_of_ble_eq_true hck
           obtain ⟨e',hnext⟩:=hrow.next
           have hH':(st (i+1)).H=H':=by rw [hnext]; rfl
           refine xhard_wp hC (InvG.gok hG hip) hloc.to h1 he λv w' ρ' q1 q2 q3=>?_
           have q4:=InvG.of q3
           have hfr:=hig.frame hpre q4 q1.1
           obtain ⟨t1,t2,t3⟩:=tmps_step ht hr ho hrow q1.1 q2
           have hbase:=H_n ht i (Nat.le_of_lt hio)
           refine hK _ _ ⟨ρ',_,i+1,by simp [hr.sz],closed_set hr.cl hrd,hio,λq hq=>?_,by rw [hH']; exact hfr,Lab.up_trans hr.up (by show h.n<=(st i).H.n; omega) q1,λL z hz=>?_,λj ob hj hlj hq=>?_,λj ob hj hlj=>?_,t1,t2,t3,put_def hr.defs⟩
           ·rw [setD hil,hr.cut q hq,hcut q hq]
            omega
           ·rw [hH'] at hz
            simp only [hz]
           ·have eji:j≠i:=λe=>by
             subst e
             obtain ⟨o',m',b',x',ho',hr'⟩:=hj
             rw [ho] at ho'; cases ho'
             obtain ⟨_,_,_,e⟩:=row_kind hrow hr'
             cases e
            have hlj:listed.getD j false=true:=by
             rcases (setD hil).1 hlj with e | e
             ·exact absurd e eji
             ·exact e
            obtain ⟨e1,e2⟩:=hr.g2 j ob hj hlj λq hq' hqc=>hq q hq' (by have:=(hcut q hq').1 hqc; omega)
            have hbit:m.testBit j=false:=by
             cases hb:m.testBit j with
             | false=>rfl
             | true=>exact absurd ⟨m,hrow.anc,hb⟩ (hq i hhard (by omega))
            have hpn:(mergeN h.n m (st i).news (st i).H.t).get (h.n+j)=none:=by
             cases hz:(mergeN h.n m (st i).news (st i).H.t).get (h.n+j) with
             | none=>rfl
             | some z=>
               rcases mergeN_get hz with hz | ⟨q,f1,f2,f3,f4⟩
               ·rw [<-hHc,e2] at hz; cases hz
               ·have:q.1=j:=by omega
                rw [this,tb_eq,hbit] at f2; cases f2
            have hpo:H'.t.get (h.n+j)=none:=by
             cases hz:H'.t.get (h.n+j) with
             | none=>rfl
             | some z=>
               obtain ⟨b1,s1,f1,f2,f3⟩:=q4.dom _ _ hz
               obtain ⟨b2,s2,f4,f5,_⟩:=hr.inv.dom _ _ e1
               rw [q1.1 _ _ f4] at f1; cases f1
               have hlt:=f5.lt
               rcases f3 with ⟨L',o',s',k1,k2⟩ | f3
               ·have:=hr.inv.inj _ _ _ _ _ _ _ e1 (hpre _ _ k1) f4 k2
                rw [<-this] at k1
                have k1:(mergeN h.n m (st i).news (st i).H.t).get (h.n+j)=some o':=k1
                rw [hpn] at k1; cases k1
               ·omega
            refine ⟨?_,by rw [hH']; exact hpo⟩
            simp only [hpo,hpn]
            exact e1
           ·obtain ⟨e1,e2⟩:=setF hil hlj
            obtain ⟨o',m',b',x',ho',hr'⟩:=id hj
            have hjl:j<ops.length:=(List.getElem?_eq_some_iff.1 ho').1
            rw [q1.2 (h.n+j) (by show h.n+j<(st i).H.n; omega)]
            exact hr.g3 j ob hj e2
theorem all_listed (ht:Table P C N ops env h st) (hr:RunAt P C N W S0 w0 ops env h st ρ0 listed a w ρ g c) (hrd:Region.ready .any ops.toArray listed=[]) : ∀ j,j<ops.length->listed.getD j false=true:=by
 intro j
 induction j using Nat.strongRecOn with
 | _ j ih=>
   intro hj
   cases hl:listed.getD j false with
   | true=>rfl
   | false=>
     exfalso
     obtain ⟨o,ho⟩:=at_lt hj
     have:j∈Region.ready .any ops.toArray listed:=by
      refine mem_ready.2 ⟨?_,o,by simpa using ho,λe he hb=>?_⟩
      ·have hlt:j<listed.size:=by rw [hr.sz]; exact hj
       simp [hlt] at hl ⊢
       exact hl
      ·have:=okTop_spec ht.top j o ho e he hb
       exact ih e.on this (by omega)
     rw [hrd] at this; cases this
theorem run_end (ht:Table P C N ops env h st) (hr:Run P C N W S0 w0 ops env h st ρ0 listed a w) (hrd:Region.ready .any ops.toArray listed=[]) :
 ∃ ρ,Lab.up h.n ρ0 ρ/\Fit N ρ (st ops.length).env a/\W a.defers/\Inv S0 w0 ρ ⟨mergeAll h.n (st ops.length).news (st ops.length).H.t,(st ops.length).H.n⟩ w:=by
 obtain ⟨ρ,g,c,hr⟩:=hr
 have hall:=all_listed ht hr hrd
 have hHc:(st ops.length).H=(st c).H:=H_between ht (d:=ops.length - c) (by have:=hr.c_le; omega) (Nat.le_refl _) λq hq h1 h2=>by
  have:=(hr.cut q hq).1 (hall q h2)
  omega
 refine ⟨ρ,hr.up,⟨λt y hy=>?_,hr.size⟩,hr.defs,?_⟩
 ·by_cases hw : ∃ (j:Nat) (oj:Oper),ops[j]? = some oj/\oj.dst=some t
  ·obtain ⟨j,oj,hoj,hdj⟩:=hw
   have hjl:j<ops.length:=(List.getElem?_eq_some_iff.1 hoj).1
   obtain ⟨mj,bj,xj,kj,hrj⟩:=ht.row j oj hoj
   rw [env_new ht hoj hrj hdj _ (Nat.le_refl _) hjl] at hy
   cases hy
   exact hr.t1 j oj mj bj _ kj t hoj hrj (hall j hjl) hdj
  ·rw [env_old ht _ (Nat.le_refl _) λj oj _ hoj hd=>hw ⟨j,oj,hoj,hd⟩] at hy
   exact hr.t2 t y (λj oj hoj _ hd=>hw ⟨j,oj,hoj,hd⟩) hy
 ·have hi:InvG S0 w0 ρ g (st ops.length).H.n w:=by rw [hHc]; exact hr.inv
  refine InvG.to (h:=⟨mergeAll h.n (st ops.length).news (st ops.length).H.t,(st ops.length).H.n⟩) (hi.sub λL z hz=>?_)
  have hz:(mergeAll h.n (st ops.length).news (st ops.length).H.t).get L=some z:=hz
  rcases mergeAll_get hz with hz | ⟨q,e1,e2,e3⟩
  ·exact hr.g1 L z (by rw [<-hHc]; exact hz)
  ·obtain ⟨f1,f2,f3⟩:=news_in ht _ (Nat.le_refl _) e1
   have:=hr.g2 q.1 q.2 f1 (hall _ f2) λp hp hpc ⟨mp,b1,b2⟩=>by
    have h1:=anc_lt p mp q.1 b1 b2 (okTop_spec ht.top)
    obtain ⟨o',m',b',x',H',ho',hr'⟩:=id hp
    exact f3 p hp (List.getElem?_eq_some_iff.1 ho').1 h1 ⟨mp,b1,b2⟩
   rw [e2,e3]; exact this.1
theorem run_wp (hC:CallsOk P G C) (hG:GOk G S0 w0) (ht:Table P C N ops env h st) {Q:Exit->Act->World->Prop}
 (hQ : ∀ a' w' ρ',Lab.up h.n ρ0 ρ'->Fit N ρ' (st ops.length).env a'->W a'.defers->Inv S0 w0 ρ' ⟨mergeAll h.n (st ops.length).news (st ops.length).H.t,(st ops.length).H.n⟩ w'->Q .normal a' w') :
 ∀ (fuel:Nat) (listed:Array Bool) (a:Act) (w:World),Run P C N W S0 w0 ops env h st ρ0 listed a w->listed.toList.countP (λb=>!b)<=fuel->wpAnyIn (Fr r) 0 P .any ops.toArray Q fuel listed a w
 | fuel,listed,a,w,hr,hf=>by
   have hend:Region.ready .any ops.toArray listed=[]->Q .normal a w:=λhrd=>by
    obtain ⟨ρ,h1,h2,h3,h4⟩:=run_end ht hr hrd
    exact hQ a w ρ h1 h2 h3 h4
   cases fuel with
   | zero=>
     have hrd:Region.ready .any ops.toArray listed=[]:=by
      cases hrd:Region.ready .any ops.toArray listed with
      | nil=>rfl
      | cons j r=>
        have hj:j∈Region.ready .any ops.toArray listed:=by rw [hrd]; exact List.mem_cons_self
        obtain ⟨hu,o,ho,_⟩:=ready_spec hj
        obtain ⟨_,_,_,hr⟩:=hr
        have hlt:j<listed.size:=by rw [hr.sz]; exact (List.getElem?_eq_some_iff.1 ho).1
        have h0:listed.toList.countP (λb=>!b)=0:=by omega
        rw [List.countP_eq_zero] at h0
        have:=h0 listed[j] (by simp)
        simp [hlt] at hu
        rw [hu] at this
        simp at this
     exact ⟨hrd,hend hrd⟩
   | succ fuel=>
     refine ⟨hend,λj hj=>run_op hC hG ht hr hj λa' w' hr'=>run_wp hC hG ht hQ fuel _ a' w' hr' ?_⟩
     obtain ⟨hu,o,ho,_⟩:=ready_spec hj
     obtain ⟨_,_,_,hr⟩:=hr
     have hlt:j<listed.size:=by rw [hr.sz]; exact (List.getElem?_eq_some_iff.1 ho).1
     rw [Array.toList_setIfInBounds,List.countP_set (by simpa using hlt)]
     simp [hlt] at hu
     have:(listed.toList[j]'(by simpa using hlt))=false:=by simpa using hu
     have hpos:0<listed.toList.countP (λb=>!b):=by
      rw [List.countP_pos_iff]
      exact ⟨_,List.getElem_mem (by simpa using hlt),by rw [this]; rfl⟩
     simp only [this,Bool.not_false,↓reduceIte,Bool.not_true,Bool.false_eq_true]
     omega
theorem xdraw_wp (hm:P.follows .mixedOrders=true) (hC:CallsOk P G C) (hG:GOk G S0 w0) (hi:Inv S0 w0 ρ h w) (he:Fit N ρ env a) (hd:W a.defers) {env':XE} {h':Hp} (hr:xdraw P C N ops env h=some (env',h')) {Q:Exit->Act->World->Prop} {id:Nat}
 (hk:Then W N S0 w0 ρ h.n env' h' λa w=>Q .normal a w):(Code.region id ops.toArray true).wpIn (Fr r) 0 P Q a w:=by
 obtain ⟨st,ht,rfl,rfl⟩:=xdraw_table hr
 refine wpIn_region_any hm (run_wp (ρ0:=ρ) hC hG ht hk _ _ a _ ⟨ρ,h.t.get,0,by simp,closed_none _ _,Nat.zero_le _,λq _=>?_,?_,Lab.up_refl _ _,λL z hz=>?_,λj ob _ hl=>?_,λj ob _ _=>hi.fresh _ (by omega),he.2,λj o m b x k t _ _ hl=>?_,λt y _ hy=>he.1 t y hy,hd⟩ ?_)
 ·simp [Array.getD]
 ·rw [ht.zero]
  exact ((InvG.of hi).up (Nat.le_add_right _ _)).no (Mod.drew _ _)
 ·rw [ht.zero] at hz; exact hz
 ·simp [Array.getD] at hl
 ·simp [Array.getD] at hl
 ·refine Nat.le_trans List.countP_le_length ?_
  simp
theorem xdraw_mono {env':XE} {h':Hp} (hr:xdraw P C N ops env h=some (env',h')):h.n<=h'.n:=by
 obtain ⟨st,ht,rfl,rfl⟩:=xdraw_table hr
 have:=H_n ht _ (Nat.le_refl _)
 show h.n<=(st ops.length).H.n
 omega
end
end Go.X
end
