/- The forms of the translated functions,their contracts and the plain laws behind them,put together by a program. -/
import Derived.Test.YtmgcoepbccgjfaaGreatDoorPB13
import Derived.Lib.Bytes
set_option linter.unusedSimpArgs false
set_option linter.unusedVariables false
set_option maxRecDepth 1000000
set_option maxHeartbeats 8000000
section
namespace Go.X
open Go Go.Sh
noncomputable def rowO (o:XO):Option (List XV):=match o with
 | .cells l=>some l
 | .row l=>some l
 | _=>none
theorem rowO_ok {ρ:Lab} {w:World} {b s:Nat} {o:XO} {l:List XV} (h:ObjOk ρ w b s o) (hr:rowO o=some l) : ∃ vs rest T,XRs ρ l vs/\Blk w b (vs++rest) T:=by
 cases o with
 | cells m=>cases hr; obtain ⟨vs,T,h1,h2⟩:=h; exact ⟨vs,[],T,h1,by simpa using h2⟩
 | row m=>cases hr; obtain ⟨vs,rest,T,h1,h2,_⟩:=h; exact ⟨vs,rest,T,h1,h2⟩
 | _=>cases hr
theorem row_rd {w:World} {b o k:Nat} {vs rest us:List Value} {T:TypeId} (h:Blk w b (vs++rest) T) (hu:us=(vs.drop o).take k):Rd w ⟨b,o,none⟩ us:=by
 refine h.rd λj v hj=>?_
 subst hu
 rw [List.getElem?_take] at hj
 split at hj
 ·rw [List.getElem?_drop] at hj
  rw [List.getElem?_append_left (List.getElem?_eq_some_iff.1 hj).1]
  exact hj
 ·cases hj
noncomputable def rowAt (h:Hp) (L:Nat):Option (List XV):=onO (h.t.get L) rowO
section
variable {S0:Nat->Prop} {w0 w:World} {ρ:Lab} {h:Hp} {P:Program}
theorem Inv.row (hi:Inv S0 w0 ρ h w) {L:Nat} {l:List XV} (hl:rowAt h L=some l) : ∃ o b s vs rest T,h.t.get L=some o/\ρ L=some (b,s)/\XRs ρ l vs/\Blk w b (vs++rest) T/\ObjOk ρ w b s o/\rowO o=some l:=by
 obtain ⟨o,h1,h2⟩:=onO_some hl
 obtain ⟨b,s,h3,h4,_⟩:=hi.dom L o h1
 obtain ⟨vs,rest,T,h5,h6⟩:=rowO_ok h4 h2
 exact ⟨o,b,s,vs,rest,T,h1,h3,h5,h6,h4,h2⟩
noncomputable def rdSl (h:Hp) (x:XV) (k:Nat):Option (Nat×List XV):=match x with
 | .sl none n _=>br (Nat.beq n 0) (some (0,[])) none
 | .sl (some (L,o)) n c=>br (Nat.ble n c) (onO (rowAt h L) λl=>br (Nat.beq (len (tk (dr l o) (Nat.mul n k))) (Nat.mul n k)) (some (n,tk (dr l o) (Nat.mul n k))) none) none
 | .slu L o n _=>onO (rowAt h L) λl=>br (Nat.beq (len (tk (dr l o) (Nat.mul n k))) (Nat.mul n k)) (some (n,tk (dr l o) (Nat.mul n k))) none
 | .em L=>onO (rowAt h L) λ_=>some (0,[])
 | _=>none
theorem rdSl_ok (hi:Inv S0 w0 ρ h w) {x:XV} {k n:Nat} {cs:List XV} (hr:rdSl h x k=some (n,cs)) {v:Value} (hx:XR ρ x v) :
 ∃ (s:Slc) (vs:List Value),v = .slice s.a s.len s.cap/\s.len=n/\XRs ρ cs vs/\SlRd w s k vs:=by
 unfold rdSl at hr
 split at hr
 ·next n' c=>
  obtain ⟨h1,hr⟩:=br_some hr
  cases hr
  have:=Nat.eq_of_beq_eq_true h1
  subst this
  simp only [XR] at hx
  exact ⟨⟨none,0,c⟩,[],hx,rfl,rfl,by simp,by simp,.inl rfl⟩
 ·next L o n' c=>
  obtain ⟨h1,hr⟩:=br_some hr
  have h1:=Nat.le_of_ble_eq_true h1
  obtain ⟨l,h2,hr⟩:=onO_some hr
  obtain ⟨h3,hr⟩:=br_some hr
  cases hr
  rw [tk_eq,dr_eq] at *
  have h3:=Nat.eq_of_beq_eq_true h3
  rw [len_eq] at h3
  obtain ⟨ob,b,s,vs,rest,T,g1,g2,g3,g4,_⟩:=hi.row h2
  simp only [XR] at hx
  obtain ⟨b',s',e1,rfl⟩:=hx
  rw [g2] at e1; cases e1
  have hv:=(g3.drop o).take (n*k)
  exact ⟨⟨some ⟨b,o,none⟩,n,c⟩,_,rfl,rfl,hv,by rw [hv.len]; exact h3,h1,.inr ⟨_,rfl,row_rd g4 rfl⟩⟩
 ·next L o n' k'=>
  obtain ⟨l,h2,hr⟩:=onO_some hr
  obtain ⟨h3,hr⟩:=br_some hr
  cases hr
  rw [tk_eq,dr_eq] at *
  have h3:=Nat.eq_of_beq_eq_true h3
  rw [len_eq] at h3
  obtain ⟨ob,b,s,vs,rest,T,g1,g2,g3,g4,_⟩:=hi.row h2
  simp only [XR] at hx
  obtain ⟨b',s',c,e1,rfl,_,e2,_⟩:=hx
  rw [g2] at e1; cases e1
  have hv:=(g3.drop o).take (n*k)
  exact ⟨⟨some ⟨b,o,none⟩,n,c⟩,_,rfl,rfl,hv,by rw [hv.len]; exact h3,e2,.inr ⟨_,rfl,row_rd g4 rfl⟩⟩
 ·obtain ⟨_,_,hr⟩:=onO_some hr
  cases hr
  simp only [XR] at hx
  obtain ⟨b,s,o,c,_,rfl⟩:=hx
  exact ⟨⟨some ⟨b,o,none⟩,0,c⟩,[],rfl,rfl,rfl,by simp,Nat.zero_le _,.inl rfl⟩
 ·cases hr
noncomputable def xload (P:Program) (h:Hp) (T:TypeId) (x:XV):Option XV:=match x with
 | .ptr (some (L,o))=>onO (P.underlying T) λ_=>br (hasT P T) (onO (rowAt h L) λl=>
    br (isAggT P T) (br (Nat.beq (len (tk (dr l o) (sizeAt P T))) (sizeAt P T)) (some (.agg (tk (dr l o) (sizeAt P T)))) none) (nth l o)) none
 | _=>none
theorem xload_run (hi:Inv S0 w0 ρ h w) {T:TypeId} {x y:XV} (hr:xload P h T x=some y) {v:Value} (hx:XR ρ x v) :
 ∃ u,(Instr.loadAt T v).run P w = .ok u w/\XR ρ y u:=by
 unfold xload at hr
 split at hr
 ·next L o=>
  obtain ⟨d,hu,hr⟩:=onO_some hr
  obtain ⟨ht,hr⟩:=br_some hr
  obtain ⟨l,h2,hr⟩:=onO_some hr
  obtain ⟨ob,b,s,vs,rest,T',g1,g2,g3,g4,_⟩:=hi.row h2
  simp only [XR] at hx
  obtain ⟨b',s',e1,rfl⟩:=hx
  rw [g2] at e1; cases e1
  cases hA:isAggT P T with
  | true=>
    rw [hA,br_t] at hr
    obtain ⟨h3,hr⟩:=br_some hr
    cases hr
    have h3:=Nat.eq_of_beq_eq_true h3
    rw [len_eq] at h3
    rw [tk_eq,dr_eq] at *
    have hv:=(g3.drop o).take (sizeAt P T)
    have hlen:=hv.len
    rw [h3] at hlen
    have hrd:Rd w ⟨b,o,none⟩ ((vs.drop o).take (sizeAt P T)):=row_rd g4 rfl
    refine ⟨.agg ((vs.drop o).take (sizeAt P T)).toArray,?_,by simp only [XR]; exact ⟨_,hv,rfl⟩⟩
    have hl:=run_loadCells_list (P:=P) w ⟨b,o,none⟩ _ hrd
    rw [hlen] at hl
    simp only [Instr.loadAt,Instr.sureAddr,Sem.run_bind,Sem.run_pure,Result.andThen_ok,loadVar,run_isAgg hu,hA,↓reduceIte,run_sizeAt (hasT_ok ht),hl]
  | false=>
    rw [hA,br_f,nth_eq] at hr
    obtain ⟨u,h3,h4⟩:=g3.at hr
    refine ⟨u,?_,h4⟩
    have hc:w.cell? ⟨b,o,none⟩=some u:=by
     rw [g4.cell,List.getElem?_append_left (List.getElem?_eq_some_iff.1 h3).1]; exact h3
    simp [Instr.loadAt,Instr.sureAddr,loadVar,run_isAgg hu,hA,hc]
 ·cases hr
noncomputable def keq (P:Program) (kt:TypeId) (x y:XV):Option Bool:=match x,y with
 | .agg l,.agg m=>match P.underlying kt with
   | some (.struct fs)=>br (P.stoodInHeld kt) none (eqF P l m fs.toList)
   | some (.array n e)=>match P.underlying e with
     | some (.int k)=>br (P.plainKey e) (br (hasT P e) (br (Nat.beq (P.cellsOf e) 1) (onO (ints k l) λa=>onO (ints k m) λb=>br (Nat.beq (len a) n) (br (Nat.beq (len b) n) (some (ieqs a b)) none) none) none) none) none
     | _=>none
   | _=>none
 | x,y=>eq1 (P.underlying kt) x y
noncomputable def findX (P:Program) (kt:TypeId) (key:XV) (es:List (XV×XV×Nat)):Option (Option (Nat×XV)):=
 List.rec (motive:=λ_=>Option (Option (Nat×XV))) (some none)
  (λe _ ih=>onO (keq P kt key e.1) λb=>br b (some (some (0,e.2.1))) (onO ih λr=>some (Option.rec none (λq=>some (Nat.succ q.1,q.2)) r))) es
theorem findX_nil {kt:TypeId} {key:XV} : findX P kt key []=some none:=rfl
theorem findX_cons {kt:TypeId} {key:XV} {e:XV×XV×Nat} {es:List (XV×XV×Nat)} {r:Option (Nat×XV)} (h:findX P kt key (e :: es)=some r) :
 ∃ b,keq P kt key e.1=some b/\((b=true/\r=some (0,e.2.1))\/(b=false/\∃ r',findX P kt key es=some r'/\r=r'.map λq=>(q.1+1,q.2))):=by
 have h:onO (keq P kt key e.1) (λb=>br b (some (some (0,e.2.1))) (onO (findX P kt key es) λr=>some (Option.rec none (λq=>some (Nat.succ q.1,q.2)) r)))=some r:=h
 obtain ⟨b,h1,h⟩:=onO_some h
 refine ⟨b,h1,?_⟩
 cases b with
 | true=>cases h; exact .inl ⟨rfl,rfl⟩
 | false=>
   obtain ⟨r',h2,h⟩:=onO_some h
   cases h
   exact .inr ⟨rfl,r',h2,by cases r' <;> rfl⟩
def FRes (ρ:Lab) (i:Nat):Option (Nat×XV)->Option (Nat×Value)->Prop
 | none,r=>r=none
 | some (j,x),r=>∃ v,r=some (i+j,v)/\XR ρ x v
theorem eq1_same {kt:TypeId} {d:TypeDesc} (hu:P.underlying kt=some d) {x y:XV} {b:Bool} (h:eq1 (P.underlying kt) x y=some b) {u v:Value} (hx:XR ρ x u) (hy:XR ρ y v):Instr.sameNow d u v=some b:=by
 rw [hu] at h
 unfold eq1 at h
 split at h
 ·next k' k a k2 c e=>
  cases e
  obtain ⟨h1,h2⟩:=br_some h
  cases h2
  obtain rfl:=idxK_inj h1
  simp only [XR] at hx hy
  subst hx hy
  simp [Instr.sameNow,ieq_eq]
 ·next a c e=>
  cases e; cases h
  simp only [XR] at hx hy
  subst hx hy
  simp [Instr.sameNow,br_beq]
 ·next l m e=>
  cases e; cases h
  simp only [XR] at hx hy
  obtain ⟨hl,rfl⟩:=hx
  obtain ⟨hm,rfl⟩:=hy
  simp only [Instr.sameNow,strV]
  rw [beq_toListBytes,toL,toL,beqL hl hm]
 ·cases h
theorem findNow_ok {kt:TypeId} {d:TypeDesc} (hu:P.underlying kt=some d) {key:XV} {kv:Value} (hk:XR ρ key kv) (hag : ∀ l,key≠.agg l) : ∀ {es:List (XV×XV×Nat)} {ms:List MapEntry} {r:Option (Nat×XV)} (i:Nat),findX P kt key es=some r->ERs ρ es ms->
 ∃ q,Instr.findNow d kv ms i=some q/\FRes ρ i r q
 | [],ms,r,i,h,hm=>by
   rw [findX_nil] at h; cases h
   simp only [ERs] at hm; subst hm
   exact ⟨none,rfl,rfl⟩
 | e :: es,ms,r,i,h,hm=>by
   simp only [ERs] at hm
   obtain ⟨m,ms',rfl,h1,h2,_,h3⟩:=hm
   obtain ⟨b,h4,h5⟩:=findX_cons h
   have h4':eq1 (P.underlying kt) key e.1=some b:=by
    unfold keq at h4
    split at h4
    ·exact absurd rfl (hag _)
    ·exact h4
   have hs:=eq1_same hu h4' hk h1
   unfold Instr.findNow
   rw [hs]
   rcases h5 with ⟨rfl,rfl⟩ | ⟨rfl,r',h6,rfl⟩
   ·exact ⟨_,rfl,m.val,rfl,h2⟩
   ·obtain ⟨q,h7,h8⟩:=findNow_ok hu hk hag (i+1) h6 h3
    refine ⟨q,h7,?_⟩
    cases r' with
    | none=>exact h8
    | some p=>
      obtain ⟨v,h9,h10⟩:=h8
      exact ⟨v,by rw [h9]; congr 2; omega,h10⟩
theorem eq1_agg {d:Option TypeDesc} {l:List XV} {y:XV} : eq1 d (.agg l) y=none:=by
 cases d with
 | none=>rfl
 | some d=>cases d <;> cases y <;> rfl
theorem findAsk_ok {kt:TypeId} {l:List XV} {kv:Value} (hk:XR ρ (.agg l) kv) : ∀ {es:List (XV×XV×Nat)} {ms:List MapEntry} {r:Option (Nat×XV)} (i:Nat),findX P kt (.agg l) es=some r->ERs ρ es ms->
 ∃ q,(Instr.findAsking kt kv ms i).run P w = .ok q w/\FRes ρ i r q
 | [],ms,r,i,h,hm=>by
   rw [findX_nil] at h; cases h
   simp only [ERs] at hm; subst hm
   exact ⟨none,rfl,rfl⟩
 | e :: es,ms,r,i,h,hm=>by
   simp only [ERs] at hm
   obtain ⟨m,ms',rfl,h1,h2,_,h3⟩:=hm
   obtain ⟨b,h4,h5⟩:=findX_cons h
   have he:(Op.equal kt kv m.key).run P w = .ok b w:=by
    unfold keq at h4
    split at h4
    ·next l' m' e1 e2=>
     cases e1
     rw [e2] at h1
     split at h4
     ·next fs hu=>
      obtain ⟨hp,h4⟩:=br_none h4
      simp only [XR] at hk h1
      obtain ⟨us,g1,rfl⟩:=hk
      obtain ⟨vs,g2,g3⟩:=h1
      rw [g3]
      have hf:P.fieldsOf kt=fs:=by unfold Program.fieldsOf; rw [hu]
      show (Op.equalIn (9999+1) kt _ _).run P w=_
      rw [run_equalIn_agg w 9999 kt _ _ (by rw [hf]; exact hu) hp,hf]
      exact eqF_run g1 g2 9998 w _ _ h4
     ·next n e hu=>
      split at h4
      ·next k hke=>
       obtain ⟨q1,h4⟩:=br_some h4
       obtain ⟨q2,h4⟩:=br_some h4
       obtain ⟨q3,h4⟩:=br_some h4
       obtain ⟨a,q4,h4⟩:=onO_some h4
       obtain ⟨c,q5,h4⟩:=onO_some h4
       obtain ⟨q6,h4⟩:=br_some h4
       obtain ⟨q7,h4⟩:=br_some h4
       cases h4
       simp only [XR] at hk h1
       obtain ⟨us,g1,rfl⟩:=hk
       obtain ⟨vs,g2,g3⟩:=h1
       rw [g3,ints_ok q4 g1,ints_ok q5 g2,ieqs_eq]
       rw [len_eq] at q6 q7
       exact run_equal_ints 9998 hu hke q1 (info_some (hasT_ok q2)) (Nat.eq_of_beq_eq_true q3) a c (Nat.eq_of_beq_eq_true q6) (Nat.eq_of_beq_eq_true q7) w
      ·cases h4
     ·cases h4
    ·rw [eq1_agg] at h4; cases h4
   unfold Instr.findAsking
   simp only [Sem.run_bind,he,Result.andThen_ok]
   rcases h5 with ⟨rfl,rfl⟩ | ⟨rfl,r',h6,rfl⟩
   ·exact ⟨_,rfl,m.val,rfl,h2⟩
   ·obtain ⟨q,h7,h8⟩:=findAsk_ok hk (i+1) h6 h3
    refine ⟨q,h7,?_⟩
    cases r' with
    | none=>exact h8
    | some p=>
      obtain ⟨v,h9,h10⟩:=h8
      exact ⟨v,by rw [h9]; congr 2; omega,h10⟩
noncomputable def keyX (P:Program) (kt:TypeId) (x:XV):Bool:=match P.underlying kt,x with
 | some (.int _),.int _ _=>true
 | some .string,.str _=>true
 | some .bool,.bool _=>true
 | some (.struct fs),.agg l=>allX (λf=>match P.underlying f.type with
   | some (.int _)=>isO (nth l f.offset)
   | some .string=>isO (nth l f.offset)
   | some .bool=>isO (nth l f.offset)
   | _=>false) fs.toList
 | some (.array n e),.agg l=>match P.underlying e with
   | some (.int _)=>br (hasT P e) (br (Nat.beq (sizeAt P e) 1) (Nat.beq (len l) n) false) false
   | _=>false
 | _,_=>false
theorem range_ok {f:Nat->PUnit->Sem (ForInStep PUnit)} {w:World} : ∀ (l:List Nat),(∀ i∈l,(f i ⟨⟩).run P w = .ok (.yield ⟨⟩) w)->(forIn l (⟨⟩:PUnit) f).run P w = .ok ⟨⟩ w
 | [],_=>by simp
 | i :: l,h=>by
   rw [List.forIn_cons,Sem.run_bind,h i (List.mem_cons_self ..),Result.andThen_ok]
   exact range_ok l λj hj=>h j (List.mem_cons_of_mem _ hj)
theorem checkKey_ok {e:Bool} {kt:TypeId} {x:XV} {v:Value} (hk:keyX P kt x=true) (hx:XR ρ x v) (w:World):(Instr.checkKey e 10000 kt v).run P w = .ok () w:=by
 show (Instr.checkKey e (9999+1) kt v).run P w = .ok () w
 unfold keyX at hk
 split at hk
 ·next hu=>simp only [XR] at hx; subst hx; unfold Instr.checkKey; simp [run_underlying hu]
 ·next hu=>simp only [XR] at hx; obtain ⟨_,rfl⟩:=hx; unfold Instr.checkKey; simp [run_underlying hu,strV]
 ·next hu=>simp only [XR] at hx; subst hx; unfold Instr.checkKey; simp [run_underlying hu]
 ·next fs l hu=>
  simp only [XR] at hx
  obtain ⟨vs,hl,rfl⟩:=hx
  rw [allX_eq] at hk
  unfold Instr.checkKey
  simp only [Sem.run_bind,run_underlying hu,Result.andThen_ok]
  rw [<-Array.forIn_toList]
  revert hk
  generalize fs.toList=fl
  intro hk
  induction fl with
  | nil=>simp
  | cons f fl ih=>
    simp only [List.all_cons,Bool.and_eq_true] at hk
    have ih:=ih hk.2
    simp only [List.forIn_cons,Sem.run_bind,Sem.run_ite]
    have hp : ∃ d u,P.underlying f.type=some d/\(part f.type vs.toArray f.offset).run P w = .ok u w/\(Instr.checkKey e 9999 f.type u).run P w = .ok () w:=by
     have h1:=hk.1
     have go : ∀ d,P.underlying f.type=some d->isAggT P f.type=false->isO (nth l f.offset)=true->(∀ k es,d≠.array k es)->(∀ q,d≠.struct q)->(∀ q,d≠.interface q)->
      ∃ d u,P.underlying f.type=some d/\(part f.type vs.toArray f.offset).run P w = .ok u w/\(Instr.checkKey e 9999 f.type u).run P w = .ok () w:=λd hu' hA hn n1 n2 n3=>by
      rw [isO_eq,nth_eq] at hn
      obtain ⟨x,hx⟩:=Option.isSome_iff_exists.1 hn
      obtain ⟨u,h3,h4⟩:=hl.at hx
      refine ⟨d,u,hu',by unfold part; simp [run_isAgg hu',hA,h3],?_⟩
      show (Instr.checkKey e (9998+1) f.type u).run P w=_
      unfold Instr.checkKey
      simp only [Sem.run_bind,run_underlying hu',Result.andThen_ok]
      cases d <;> first | rfl | exact absurd rfl (n1 _ _) | exact absurd rfl (n2 _) | exact absurd rfl (n3 _)
     split at h1
     ·next q hu'=>exact go _ hu' (by unfold isAggT; rw [hu']) h1 (by simp) (by simp) (by simp)
     ·next hu'=>exact go _ hu' (by unfold isAggT; rw [hu']) h1 (by simp) (by simp) (by simp)
     ·next hu'=>exact go _ hu' (by unfold isAggT; rw [hu']) h1 (by simp) (by simp) (by simp)
     ·cases h1
    obtain ⟨d,u,hu',h2,h3⟩:=hp
    split
    ·simp only [h2,Result.andThen_ok,h3,Sem.run_pure]
     exact ih
    ·simp only [Sem.run_pure,Result.andThen_ok]
     exact ih
 ·next n el l hu=>
  simp only [XR] at hx
  obtain ⟨vs,hl,rfl⟩:=hx
  split at hk
  ·next q he=>
   rw [br_eq,br_eq] at hk
   simp only [Bool.if_false_right,Bool.and_eq_true,decide_eq_true_eq] at hk
   obtain ⟨k1,k2,k3⟩:=hk
   have k2:=Nat.eq_of_beq_eq_true k2
   have k3:=Nat.eq_of_beq_eq_true k3
   rw [len_eq] at k3
   have hA:isAggT P el=false:=by unfold isAggT; rw [he]
   unfold Instr.checkKey
   simp only [Sem.run_bind,run_underlying hu,Result.andThen_ok]
   rw [Std.Legacy.Range.forIn_eq_forIn_range']
   rw [range_ok _ (λi hi=>?_)]
   ·rfl
   have hi':i<vs.length:=by
    have hlen:=hl.len
    have hi:=List.mem_range'.1 hi
    obtain ⟨j,hj,rfl⟩:=hi
    simp only [Std.Legacy.Range.size,Nat.zero_add,Nat.one_mul] at *
    omega
   simp only [Sem.run_bind,run_sizeAt (hasT_ok k1),k2,Nat.mul_one,Result.andThen_ok]
   have hp:(part el vs.toArray i).run P w = .ok vs[i] w:=by unfold part; simp [run_isAgg he,hA,hi']
   rw [hp]
   simp only [Result.andThen_ok]
   have:(Instr.checkKey e 9999 el vs[i]).run P w = .ok () w:=by
    show (Instr.checkKey e (9998+1) el _).run P w=_
    unfold Instr.checkKey
    simp only [Sem.run_bind,run_underlying he,Result.andThen_ok]
    rfl
   rw [this]
   simp
  ·cases hk
 ·cases hk
theorem findKey_ok {kt:TypeId} {key:XV} {kv:Value} (hkx:keyX P kt key=true) (hk:XR ρ key kv) {es:List (XV×XV×Nat)} {ms:List MapEntry} {r:Option (Nat×XV)} (h:findX P kt key es=some r) (hm:ERs ρ es ms) :
 ∃ q,(Instr.findKey kt kv ms).run P w = .ok q w/\FRes ρ 0 r q:=by
 unfold Instr.findKey
 have hu : ∃ d,P.underlying kt=some d:=by
  unfold keyX at hkx
  cases hu:P.underlying kt with
  | none=>rw [hu] at hkx; cases hkx
  | some d=>exact ⟨d,rfl⟩
 obtain ⟨d,hu⟩:=hu
 simp only [Sem.run_bind,run_underlying hu,Result.andThen_ok]
 by_cases hag : ∃ l,key = .agg l
 ·obtain ⟨l,rfl⟩:=hag
  have hk0:=hk
  simp only [XR] at hk0
  obtain ⟨us,_,rfl⟩:=hk0
  cases es with
  | nil=>
    simp only [ERs] at hm; subst hm
    rw [findX_nil] at h; cases h
    exact ⟨none,by simp [Instr.findNow],rfl⟩
  | cons e es=>
    have hm':=hm
    simp only [ERs] at hm
    obtain ⟨m,ms',rfl,h1,h2,_,h3⟩:=hm
    have:Instr.findNow d (.agg us.toArray) (m :: ms') 0=none:=by
     unfold Instr.findNow
     have:Instr.sameNow d (.agg us.toArray) m.key=none:=by unfold Instr.sameNow; cases d <;> rfl
     rw [this]
    rw [this]
    exact findAsk_ok hk 0 h hm'
 ·have hag : ∀ l,key≠.agg l:=λl e=>hag ⟨l,e⟩
  obtain ⟨q,h1,h2⟩:=findNow_ok hu hk hag 0 h hm
  rw [h1]
  exact ⟨q,rfl,h2⟩
noncomputable def mapAt (h:Hp) (L:Nat):Option (List (XV×XV×Nat)×Nat):=onO (h.t.get L) λo=>match o with
 | .map es c=>some (es,c)
 | _=>none
theorem Inv.map (hi:Inv S0 w0 ρ h w) {L c:Nat} {es:List (XV×XV×Nat)} (hl:mapAt h L=some (es,c)) : ∃ b s ms,h.t.get L=some (.map es c)/\ρ L=some (b,s)/\ERs ρ es ms/\w.heap[b]? = some (.map ms.toArray c):=by
 obtain ⟨o,h1,h2⟩:=onO_some hl
 split at h2
 ·cases h2
  obtain ⟨b,s,h3,⟨ms,h4,h5⟩,_⟩:=hi.dom L _ h1
  exact ⟨b,s,ms,h1,h3,h4,h5⟩
 ·cases h2
theorem run_getMap {w:World} {b:Nat} {ms:Array MapEntry} {c:Nat} (h:w.heap[b]? = some (.map ms c)):(getObj b).run P w = .ok (.map ms c) w:=by
 simp [getObj,Sem.run,h]
noncomputable def zeroV (P:Program) (T:TypeId):Option XV:=onO (P.info? T) λi=>onO i.zero λz=>match z with
 | .agg cs=>onO (mapO ofV cs.toList) λl=>some (.agg l)
 | z=>ofV z
theorem zeroV_ok {T:TypeId} {x:XV} (h:zeroV P T=some x) : ∃ z,(∀ w,(zeroValue T).run P w = .ok z w)/\∀ ρ,XR ρ x z:=by
 unfold zeroV at h
 obtain ⟨i,h1,h⟩:=onO_some h
 obtain ⟨z,h2,h⟩:=onO_some h
 refine ⟨z,λw=>by simp [zeroValue,typeInfo,h1,h2],λρ=>?_⟩
 split at h
 ·next cs=>
  obtain ⟨l,h3,h⟩:=onO_some h
  cases h
  simp only [XR]
  exact ⟨_,mapO_XRs h3,by simp⟩
 ·exact ofV_ok h ρ
noncomputable def xlookup (P:Program) (h:Hp) (T:TypeId) (m k:XV) (ok:Bool):Option XV:=match P.underlying T with
 | some (.map kt et)=>br (keyX P kt k) (onO (match m with
    | .map none=>some none
    | .map (some L)=>onO (mapAt h L) λq=>findX P kt k q.1
    | _=>none) λr=>match r with
   | some q=>some (br ok (.tup [q.2,.bool true]) q.2)
   | none=>onO (zeroV P et) λz=>some (br ok (.tup [z,.bool false]) z)) none
 | _=>none
theorem okPack {x:XV} {v:Value} {ok t:Bool} (hx:XR ρ x v):XR ρ (br ok (.tup [x,.bool t]) x) (if ok then .tuple #[v,.bool t] else v):=by
 cases ok with
 | true=>simp only [br_t,XR,↓reduceIte]; exact ⟨[v,.bool t],⟨v,_,rfl,hx,.bool t,[],rfl,rfl,rfl⟩,rfl⟩
 | false=>simpa [br_f] using hx
theorem xlookup_run (hi:Inv S0 w0 ρ h w) {T:TypeId} {m k y:XV} {ok:Bool} (hr:xlookup P h T m k ok=some y) {mv kv:Value} (hm:XR ρ m mv) (hk:XR ρ k kv) :
 ∃ u,(Instr.lookup T mv kv ok).run P w = .ok u w/\XR ρ y u:=by
 unfold xlookup at hr
 split at hr
 ·next kt et hu=>
  obtain ⟨hkx,hr⟩:=br_some hr
  obtain ⟨r,h1,hr⟩:=onO_some hr
  split at h1
  ·cases h1
   simp only [XR] at hm; subst hm
   obtain ⟨q,h2,h3⟩:=findKey_ok (w:=w) hkx hk (es:=[]) (ms:=[]) (r:=none) findX_nil rfl
   cases h3
   obtain ⟨z,h4,hr⟩:=onO_some hr
   cases hr
   obtain ⟨zv,h5,h6⟩:=zeroV_ok h4
   exact ⟨_,by simp [Instr.lookup,run_underlying hu,checkKey_ok hkx hk,h2,h5] <;> rfl,okPack (h6 ρ)⟩
  ·next L=>
   obtain ⟨⟨es,c⟩,h2,h1⟩:=onO_some h1
   obtain ⟨b,s,ms,g1,g2,g3,g4⟩:=hi.map h2
   simp only [XR] at hm
   obtain ⟨b',s',e1,rfl⟩:=hm
   rw [g2] at e1; cases e1
   obtain ⟨q,h2,h3⟩:=findKey_ok (w:=w) hkx hk h1 g3
   cases r with
   | some p=>
     obtain ⟨v,rfl,h5⟩:=h3
     cases hr
     exact ⟨_,by simp [Instr.lookup,run_underlying hu,run_getMap g4,checkKey_ok hkx hk,h2] <;> rfl,okPack h5⟩
   | none=>
     cases h3
     obtain ⟨z,h4,hr⟩:=onO_some hr
     cases hr
     obtain ⟨zv,h5,h6⟩:=zeroV_ok h4
     exact ⟨_,by simp [Instr.lookup,run_underlying hu,run_getMap g4,checkKey_ok hkx hk,h2,h5] <;> rfl,okPack (h6 ρ)⟩
  ·cases h1
 ·cases hr
noncomputable def xmlen (P:Program) (h:Hp) (T:TypeId) (x:XV):Option XV:=match P.underlying T,x with
 | some (.map _ _),.map none=>some (.int .i64 (.ofNat 0))
 | some (.map _ _),.map (some L)=>onO (mapAt h L) λq=>some (.int .i64 (.ofNat (len q.1)))
 | _,_=>none
theorem ERs.len : ∀ {es:List (XV×XV×Nat)} {ms:List MapEntry},ERs ρ es ms->ms.length=es.length
 | [],ms,h=>by simp only [ERs] at h; subst h; rfl
 | e :: es,ms,h=>by simp only [ERs] at h; obtain ⟨m,ms',rfl,_,_,_,h⟩:=h; simp [h.len]
theorem xmlen_run (hi:Inv S0 w0 ρ h w) {T ty:TypeId} {x y:XV} (hr:xmlen P h T x=some y) {v:Value} (hx:XR ρ x v) : ∃ u,(Builtin.len_ #[T] ty #[v]).run P w = .ok u w/\XR ρ y u:=by
 unfold xmlen at hr
 split at hr
 ·next hu=>cases hr; simp only [XR] at hx; subst hx; exact ⟨_,by simp [Builtin.len_,run_underlying hu,goInt] <;> rfl,rfl⟩
 ·next L hu=>
  obtain ⟨⟨es,c⟩,h2,hr⟩:=onO_some hr
  cases hr
  obtain ⟨b,s,ms,g1,g2,g3,g4⟩:=hi.map h2
  simp only [XR] at hx
  obtain ⟨b',s',e1,rfl⟩:=hx
  rw [g2] at e1; cases e1
  refine ⟨.int .i64 ms.length,by simp [Builtin.len_,run_underlying hu,run_getMap g4,goInt],?_⟩
  simp only [XR]; rw [len_eq,g3.len]; rfl
 ·cases hr
noncomputable def bytesX (l:List XV):Option (List Nat):=mapO (λx=>match x with
 | .int k n=>br (Nat.beq (idxK k) 4) (onO (i2n n) λm=>br (Nat.blt m 256) (some m) none) none
 | _=>none) l
theorem bytesX_ok : ∀ {l:List XV} {ns:List Nat} {vs:List Value},bytesX l=some ns->XRs ρ l vs->(∀ x∈ns,x<256)/\vs=bys (ns.map UInt8.ofNat)
 | [],ns,vs,h,hl=>by unfold bytesX at h; rw [mapO_nil] at h; cases h; simp only [XRs] at hl; subst hl; exact ⟨by simp,rfl⟩
 | x :: l,ns,vs,h,hl=>by
   unfold bytesX at h
   obtain ⟨n,r,rfl,h1,h2⟩:=mapO_cons h
   simp only [XRs] at hl
   obtain ⟨v,vs',rfl,h3,h4⟩:=hl
   obtain ⟨h5,h6⟩:=bytesX_ok h2 h4
   split at h1
   ·next k m=>
    obtain ⟨h7,h1⟩:=br_some h1
    obtain ⟨m',h8,h1⟩:=onO_some h1
    obtain ⟨h9,h1⟩:=br_some h1
    cases h1
    have h8:=i2n_ok h8
    have h9:n<256:=by simpa [Nat.blt_eq] using h9
    have:k = .u8:=by cases k <;> first | rfl | cases h7
    subst this h8
    simp only [XR] at h3
    refine ⟨λx hx=>(List.mem_cons.1 hx).elim (λe=>e ▸ h9) (h5 x),?_⟩
    rw [h3,h6]
    simp [bys,UInt8.toNat_ofNat',Nat.mod_eq_of_lt h9]
   ·cases h1
noncomputable def xb2s (P:Program) (h:Hp) (s d:TypeId) (x:XV):Option XV:=match P.underlying s,P.underlying d with
 | some (.slice e),some .string=>match P.underlying e with
   | some (.int k)=>br (Nat.beq (idxK k) 4) (onO (rdSl h x 1) λq=>onO (bytesX q.2) λl=>some (.str l)) none
   | _=>none
 | _,_=>none
theorem xb2s_run (hi:Inv S0 w0 ρ h w) {s d:TypeId} {x y:XV} (hr:xb2s P h s d x=some y) {v:Value} (hx:XR ρ x v) : ∃ u,(convert s d v).run P w = .ok u w/\XR ρ y u:=by
 unfold xb2s at hr
 split at hr
 ·next e hs hd=>
  split at hr
  ·next k he=>
   obtain ⟨h1,hr⟩:=br_some hr
   have:k = .u8:=by cases k <;> first | rfl | cases h1
   subst this
   obtain ⟨⟨n,cs⟩,h2,hr⟩:=onO_some hr
   obtain ⟨l,h3,hr⟩:=onO_some hr
   cases hr
   obtain ⟨sl,vs,rfl,_,h4,h5⟩:=rdSl_ok hi h2 hx
   obtain ⟨h6,rfl⟩:=bytesX_ok h3 h4
   obtain ⟨u,w',h7,h8⟩:=sem_bytesStr (P:=P) (K:=λu w'=>u=strV l/\w'=w) hs hd he h5 ⟨rfl,rfl⟩
   obtain ⟨rfl,rfl⟩:=h8
   exact ⟨_,h7,h6,rfl⟩
  ·cases hr
 ·cases hr
noncomputable def xassert (P:Program) (x:XV) (T:TypeId) (ok:Bool):Option XV:=match P.underlying T with
 | some (.interface _)=>none
 | none=>none
 | some _=>match x with
   | .nilI=>br ok (onO (zeroV P T) λz=>some (.tup [z,.bool false])) none
   | .ifc t v=>br (Nat.beq t T) (some (br ok (.tup [v,.bool true]) v)) (br ok (onO (zeroV P T) λz=>some (.tup [z,.bool false])) none)
   | _=>none
theorem xassert_run {x y:XV} {xT T:TypeId} {ok:Bool} (hr:xassert P x T ok=some y) {v:Value} (hx:XR ρ x v) (w:World) : ∃ u,(Instr.typeAssert v xT T ok).run P w = .ok u w/\XR ρ y u:=by
 unfold xassert at hr
 split at hr
 ·cases hr
 ·cases hr
 ·next d hd hu=>
  have hz : ∀ {z:XV},zeroV P T=some z->∃ zv,(∀ w,(zeroValue T).run P w = .ok zv w)/\XR ρ (.tup [z,.bool false]) (.tuple #[zv,.bool false]):=λ{z} h2=>by
   obtain ⟨zv,h3,h4⟩:=zeroV_ok h2
   exact ⟨zv,h3,by simp only [XR]; exact ⟨[zv,.bool false],⟨zv,_,rfl,h4 ρ,.bool false,[],rfl,rfl,rfl⟩,rfl⟩⟩
  split at hr
  ·obtain ⟨h1,hr⟩:=br_some hr
   subst h1
   obtain ⟨z,h2,hr⟩:=onO_some hr
   cases hr
   obtain ⟨zv,h3,h4⟩:=hz h2
   simp only [XR] at hx; subst hx
   refine ⟨_,?_,h4⟩
   cases d <;> first | exact absurd rfl (hd _) | simp [Instr.typeAssert,run_underlying hu,h3]
  ·next t u=>
   simp only [XR] at hx
   obtain ⟨uv,h1,rfl⟩:=hx
   rw [br_eq] at hr
   split at hr
   ·next ht=>
    have ht:=Nat.eq_of_beq_eq_true ht
    subst ht
    cases hr
    refine ⟨_,?_,okPack h1⟩
    cases d <;> first | exact absurd rfl (hd _) | simp [Instr.typeAssert,run_underlying hu]
   ·next ht=>
    obtain ⟨h2,hr⟩:=br_some hr
    subst h2
    obtain ⟨z,h2,hr⟩:=onO_some hr
    cases hr
    obtain ⟨zv,h3,h4⟩:=hz h2
    have ht : ¬ t=T:=by simpa using ht
    refine ⟨_,?_,h4⟩
    cases d <;> first | exact absurd rfl (hd _) | simp [Instr.typeAssert,run_underlying hu,h3,ht]
  ·cases hr
noncomputable def lastN (l:List Nat):Option Nat:=List.rec (motive:=λ_=>Option Nat) none (λa _ ih=>match ih with | none=>some a | some b=>some b) l
theorem lastN_eq : ∀ l:List Nat,lastN l=l.getLast?
 | []=>rfl
 | a :: l=>by
   show (match lastN l with | none=>some a | some b=>some b)=_
   rw [lastN_eq l,List.getLast?_cons]
   cases l.getLast? <;> rfl
noncomputable def bornX (n:Nat) (l:List (XV×XV×Nat)):Option (XV×XV×Nat):=List.rec (motive:=λ_=>Option (XV×XV×Nat)) none (λe _ ih=>br (Nat.beq e.2.2 n) (some e) ih) l
theorem bornX_ok {ρ:Lab} {n:Nat} : ∀ {es:List (XV×XV×Nat)} {ms:List MapEntry} {e:XV×XV×Nat},ERs ρ es ms->bornX n es=some e->∃ m,ms.find? (·.born==n)=some m/\XR ρ e.1 m.key/\XR ρ e.2.1 m.val
 | [],ms,e,h,hr=>by cases hr
 | x :: es,ms,e,h,hr=>by
   simp only [ERs] at h
   obtain ⟨m,ms',rfl,h1,h2,h3,h4⟩:=h
   have hr:br (Nat.beq x.2.2 n) (some x) (bornX n es)=some e:=hr
   rw [List.find?_cons]
   cases hb:Nat.beq x.2.2 n with
   | true=>
     rw [hb,br_t] at hr
     cases hr
     have:(m.born==n)=true:=by rw [<-h3]; simpa using Nat.eq_of_beq_eq_true hb
     rw [this]
     exact ⟨m,rfl,h1,h2⟩
   | false=>
     rw [hb,br_f] at hr
     have:(m.born==n)=false:=by
      rw [<-h3]
      cases hq:(x.2.2==n) with
      | false=>rfl
      | true=>
        have e:x.2.2=n:=by simpa using hq
        rw [e] at hb
        have:Nat.beq n n=true:=Nat.beq_refl n
        rw [this] at hb; cases hb
     rw [this]
     exact bornX_ok h4 hr
noncomputable def xentry (h:Hp) (x:XV):Option XV:=match x with
 | .ptr (some (L,0))=>onO (h.t.get L) λob=>match ob with
   | .it (some M) _ seen last=>onO (lastN seen) λn=>onO (mapAt h M) λq=>br (Nat.beq q.2 last) (onO (bornX n q.1) λe=>some (.tup [e.1,e.2.1])) none
   | _=>none
 | _=>none
theorem xentry_run (hi:Inv S0 w0 ρ h w) {x y:XV} (hr:xentry h x=some y) {v:Value} (hx:XR ρ x v) : ∃ u,(Instr.entry v).run P w = .ok u w/\XR ρ y u:=by
 unfold xentry at hr
 split at hr
 ·next L=>
  obtain ⟨ob,h1,hr⟩:=onO_some hr
  obtain ⟨b,s,h2,ho,_⟩:=hi.dom L ob h1
  simp only [XR] at hx
  obtain ⟨b',s',e1,rfl⟩:=hx
  rw [h2] at e1; cases e1
  cases ob with
  | it m since seen last=>
    cases m with
    | none=>cases hr
    | some M=>
      obtain ⟨mb,ms',g1,g2⟩:=ho
      simp only at hr
      obtain ⟨n,h3,hr⟩:=onO_some hr
      obtain ⟨⟨es,c⟩,h4,hr⟩:=onO_some hr
      obtain ⟨h5,hr⟩:=br_some hr
      obtain ⟨e,h6,hr⟩:=onO_some hr
      cases hr
      have h5:=Nat.eq_of_beq_eq_true h5
      simp only at h5
      subst h5
      obtain ⟨b2,s2,ms,q1,q2,q3,q4⟩:=hi.map h4
      rw [g1] at q2; cases q2
      obtain ⟨m,k1,k2,k3⟩:=bornX_ok q3 h6
      rw [lastN_eq] at h3
      have e1:(getObj b).run P w = .ok (.mapIter (some mb) since seen.toArray c) w:=by simp [getObj,Sem.run,g2]
      have e2:(getObj mb).run P w = .ok (.map ms.toArray c) w:=by simp [getObj,Sem.run,q4]
      have e3:ms.toArray.find? (·.born==n)=some m:=by rw [<-Array.find?_toList]; exact k1
      refine ⟨.tuple #[m.key,m.val],?_,by simp only [XR]; exact ⟨[_,_],⟨_,_,rfl,k2,_,_,rfl,k3,rfl⟩,rfl⟩⟩
      simp only [Instr.entry,Sem.run_bind,e1,Result.andThen_ok,List.back?_toArray,h3,e2,bne_self_eq_false,Bool.false_eq_true,if_false,e3]
      rfl
  | _=>cases hr
 ·cases hr
noncomputable def xsliceH (P:Program) (h:Hp) (T:TypeId) (x:XV) (lo hi mx:Option Int):Option XV:=match x with
 | .slu L o n k=>onO (elemX P T) λe=>br (Nat.beq k (sizeAt P e)) (match mx with
   | none=>(match hi with
     | none=>none
     | some H=>onO (i2n H) λhN=>br (Nat.ble n hN) (onO (h.t.get L) λob=>(match ob with
       | .row l=>br (Nat.ble (Nat.add o (Nat.mul hN k)) (len l)) (onO (xbound hN hN lo (some H) none) λq=>
          br (br (Nat.beq q.1 0) true (Nat.blt q.1 hN)) (some (.slu L (Nat.add o (Nat.mul q.1 k)) (Nat.sub q.2.1 q.1) k)) (some (.em L))) none
       | _=>none)) none)
   | some M=>onO (xbound n n lo hi (some M)) λq=>some (.sl (some (L,br (Nat.beq q.2.2 q.1) o (Nat.add o (Nat.mul q.1 k)))) (Nat.sub q.2.1 q.1) (Nat.sub q.2.2 q.1))) none
 | _=>none
theorem bound_up {n c:Nat} {lo hi:Option Int} {M:Int} {l h m:Nat} (hc:n<=c) (hx:xbound n n lo hi (some M)=some (l,h,m)) {K:Nat->Nat->Nat->Prop} (hK:K l h m):boundK n c lo hi (some M) K:=by
 unfold xbound at hx
 obtain ⟨m',e1,hx⟩:=onO_some hx
 obtain ⟨h',e2,hx⟩:=onO_some hx
 obtain ⟨l',e3,hx⟩:=onO_some hx
 cases hx
 obtain ⟨m',e8,e1⟩:=onO_some e1
 obtain ⟨e9,e1⟩:=br_some e1
 cases e1
 have:=i2n_ok e8; have:=Nat.le_of_ble_eq_true e9
 subst M
 cases hi with
 | none=>cases e2
 | some H=>
   obtain ⟨h',e4,e2⟩:=onO_some e2
   obtain ⟨e5,e2⟩:=br_some e2
   cases e2
   have:=i2n_ok e4; have:=Nat.le_of_ble_eq_true e5
   subst H
   cases lo with
   | none=>cases e3; exact ⟨⟨by omega,by omega,by omega⟩,by simpa using hK⟩
   | some L=>
     obtain ⟨l',e6,e3⟩:=onO_some e3
     obtain ⟨e7,e3⟩:=br_some e3
     cases e3
     have:=i2n_ok e6; have:=Nat.le_of_ble_eq_true e7
     subst L
     exact ⟨⟨by omega,by omega,by omega,by omega⟩,by simpa using hK⟩
theorem xsliceH_run (hi:Inv S0 w0 ρ h w) {T:TypeId} {x y:XV} {lo hh mx:Option Int} (hr:xsliceH P h T x lo hh mx=some y) {v:Value} (hx:XR ρ x v) (kl kh km:IntKind) :
 ∃ u,(Instr.sliceAt T v (lo.map (Value.int kl)) (hh.map (Value.int kh)) (mx.map (Value.int km))).run P w = .ok u w/\XR ρ y u:=by
 unfold xsliceH at hr
 split at hr
 ·next L o n k=>
  obtain ⟨e,he,hr⟩:=onO_some hr
  obtain ⟨hk,hr⟩:=br_some hr
  obtain ⟨hu,hi'⟩:=elemX_ok he
  have hk:=Nat.eq_of_beq_eq_true hk
  simp only [XR] at hx
  obtain ⟨b,s,c,hρ,rfl,h3,h4,h5⟩:=hx
  cases mx with
  | none=>
    cases hh with
    | none=>cases hr
    | some H=>
      dsimp only at hr
      obtain ⟨hN,hH,hr⟩:=onO_some hr
      obtain ⟨hn,hr⟩:=br_some hr
      obtain ⟨ob,hob,hr⟩:=onO_some hr
      split at hr
      ·next l=>
       obtain ⟨hfit,hr⟩:=br_some hr
       obtain ⟨⟨l',h',m'⟩,hb,hr⟩:=onO_some hr
       obtain ⟨b1,s1,e1,⟨vs,rest,T1,q1,q2,q3⟩,_⟩:=hi.dom L _ hob
       rw [hρ] at e1; cases e1
       rw [len_eq] at hfit
       have hfit:=Nat.le_of_ble_eq_true hfit
       have hn:=Nat.le_of_ble_eq_true hn
       have hlen:=q1.len
       have hle:hN*k<=c*k:=by
        have:vs.length<=s:=by rw [<-q3,List.length_append]; omega
        have hfit:o+hN*k<=l.length:=hfit
        omega
       have hNc:hN<=c:=Nat.le_of_mul_le_mul_right hle h5
       obtain ⟨hlt,hbk⟩:=boundK_mono (len':=hN) (cap':=c) rfl hNc hb (Nat.le_refl _)
       have hbk' : ∀ K:Nat->Nat->Nat->Prop,K l' h' c->boundK n c lo (some H) none K:=λK hK=>hbk K hK
       obtain ⟨t,h1,h2⟩:=slice_run_sl (P:=P) (T:=T) (s:=⟨some ⟨b,o,none⟩,n,c⟩) (mx:=none) (kl:=kl) (kh:=kh) (km:=km) (next:=λt=>t = .sl (cutSl ⟨some ⟨b,o,none⟩,n,c⟩ (sizeAt P e) l' h' c)) hu hi' (hbk' _ rfl)
       subst h2
       refine ⟨_,h1 w,?_⟩
       cases hc:br (Nat.beq l' 0) true (Nat.blt l' hN) with
       | false=>
         rw [hc,br_f] at hr
         cases hr
         have hc':l'≠0/\¬ l'<hN:=by
          rw [br_eq] at hc
          split at hc
          ·cases hc
          ·next e0=>exact ⟨λe=>e0 (by simp [e]),λe=>by
            rw [show Nat.blt l' hN=true by simpa using e] at hc; cases hc⟩
         have e0:h' - l'=0:=by omega
         simp only [XR,TV.enc,cutSl,e0]
         split
         ·exact ⟨b,s,_,_,hρ,rfl⟩
         ·exact ⟨b,s,o+l'*sizeAt P e,c - l',hρ,by simp [add_add]⟩
       | true=>
         rw [hc,br_t] at hr
         cases hr
         have hc':l'=0\/l'<hN:=by
          rw [br_eq] at hc
          split at hc
          ·next e0=>exact .inl (by simpa using e0)
          ·exact .inr (by simpa using hc)
         show XR ρ (.slu L (o+l'*k) (h' - l') k) _
         simp only [XR,TV.enc,cutSl]
         refine ⟨b,s,c - l',hρ,?_,?_,by omega,h5⟩
         ·congr 1
          split
          ·next ec=>
           have:l'=0:=by omega
           subst this; simp
          ·simp [add_add,hk]
         ·have:c*k=(c - l')*k+l'*k:=by rw [<-Nat.add_mul]; congr 1; omega
          omega
      ·cases hr
  | some M=>
    dsimp only at hr
    obtain ⟨⟨l',h',m'⟩,hb,hr⟩:=onO_some hr
    cases hr
    obtain ⟨t,h1,h2⟩:=slice_run_sl (P:=P) (T:=T) (s:=⟨some ⟨b,o,none⟩,n,c⟩) (mx:=some M) (kl:=kl) (kh:=kh) (km:=km) (next:=λt=>t = .sl (cutSl ⟨some ⟨b,o,none⟩,n,c⟩ (sizeAt P e) l' h' m')) hu hi' (bound_up h4 hb rfl)
    subst h2
    refine ⟨_,h1 w,?_⟩
    show XR ρ (.sl (some (L,br (Nat.beq m' l') o (o+l'*k))) (Nat.sub h' l') (Nat.sub m' l')) _
    rw [br_eq]
    by_cases em:m'=l'
    ·subst em
     simp only [Nat.beq_refl,↓reduceIte,XR,TV.enc,cutSl]
     exact ⟨b,s,hρ,rfl⟩
    ·rw [if_neg (by simpa using em)]
     simp only [XR,TV.enc,cutSl,if_neg em]
     exact ⟨b,s,hρ,by simp [add_add,hk]⟩
 ·cases hr
noncomputable def xread (P:Program) (env:XE) (h:Hp) (op:Op):Option XV:=match op with
 | .load T a=>onO (evX env a) λx=>xload P h T x
 | .lookup T m k ok=>onO (evX env m) λx=>onO (evX env k) λy=>xlookup P h T x y ok
 | .convert s d x=>onO (evX env x) λy=>xb2s P h s d y
 | .typeAssert x _ T ok=>onO (evX env x) λy=>xassert P y T ok
 | .entry it=>onO (evX env it) λy=>xentry h y
 | .slice T x lo hi mx=>onO (evX env x) λy=>onO (optX env lo) λl=>onO (optX env hi) λh1=>onO (optX env mx) λm=>xsliceH P h T y l h1 m
 | .call {callee:=.builtin .len,args,argTypes}=>match argTypes.toList with
   | [T]=>onO (evsX env args.toList) λl=>match l with
     | [x]=>xmlen P h T x
     | _=>none
   | _=>none
 | _=>none
theorem xread_run (hi:Inv S0 w0 ρ h w) {env:XE} {o:Oper} {y:XV} (hr:xread P env h o.op=some y) {a:Act} (he:EnvOk ρ env a.tmps) :
 ∃ v,(execOp a.eval o).run P w = .ok (.value v) w/\XR ρ y v:=by
 obtain ⟨dst,op,type,pos,after,guard⟩:=o
 simp only at hr
 have gv : ∀ {s:Sem Value} {v:Value},s.run P w = .ok v w->((do let x <-s; pure (Next.value x)):Sem Next).run P w = .ok (.value v) w:=λh=>by simp [h]
 unfold xread at hr
 unfold execOp
 split at hr
 ·next T x=>
  obtain ⟨u,h1,hr⟩:=onO_some hr
  obtain ⟨v,h2,h3⟩:=xload_run hi hr (evX_ok he h1)
  exact ⟨v,gv h2,h3⟩
 ·next T m k ok=>
  obtain ⟨u,h1,hr⟩:=onO_some hr
  obtain ⟨v,h2,hr⟩:=onO_some hr
  obtain ⟨v,h3,h4⟩:=xlookup_run hi hr (evX_ok he h1) (evX_ok he h2)
  exact ⟨v,gv h3,h4⟩
 ·next s d x=>
  obtain ⟨u,h1,hr⟩:=onO_some hr
  obtain ⟨v,h2,h3⟩:=xb2s_run hi hr (evX_ok he h1)
  exact ⟨v,gv h2,h3⟩
 ·next x xT T ok=>
  obtain ⟨u,h1,hr⟩:=onO_some hr
  obtain ⟨v,h2,h3⟩:=xassert_run (xT:=xT) hr (evX_ok he h1) w
  exact ⟨v,gv h2,h3⟩
 ·next it=>
  obtain ⟨u,h1,hr⟩:=onO_some hr
  obtain ⟨v,h2,h3⟩:=xentry_run hi hr (evX_ok he h1)
  exact ⟨v,gv h2,h3⟩
 ·next T x lo hh mx=>
  obtain ⟨u,h1,hr⟩:=onO_some hr
  obtain ⟨l,h2,hr⟩:=onO_some hr
  obtain ⟨h',h3,hr⟩:=onO_some hr
  obtain ⟨m,h4,hr⟩:=onO_some hr
  obtain ⟨k1,e1⟩:=optX_ok he h2
  obtain ⟨k2,e2⟩:=optX_ok he h3
  obtain ⟨k3,e3⟩:=optX_ok he h4
  obtain ⟨r,h5,h6⟩:=xsliceH_run hi hr (evX_ok he h1) k1 k2 k3
  exact ⟨r,gv (by rw [e1,e2,e3]; exact h5),h6⟩
 ·next args argTypes=>
  split at hr
  ·next T hT=>
   obtain ⟨l,h1,hr⟩:=onO_some hr
   split at hr
   ·next x=>
    obtain ⟨v,e1,e2⟩:=xs1 (evsX_ok he h1)
    obtain ⟨r,h2,h3⟩:=xmlen_run (ty:=type) hi hr e2
    obtain rfl:argTypes = #[T]:=by apply Array.ext'; simpa using hT
    exact ⟨r,by simp [resolve,invoke,builtin,e1,h2],h3⟩
   ·cases hr
  ·cases hr
 ·cases hr
end
theorem rep_eq {α:Type} (l:List α) : ∀ n,rep l n=(List.replicate n l).flatten
 | 0=>rfl
 | n+1=>by show app l (rep l n)=_; rw [app_eq,rep_eq l n,List.replicate_succ,List.flatten_cons]
theorem range_rep (z:Array Value) (k:Nat) (hk:z.size=k) (h0:0<k) : ∀ n,(Array.range (n*k)).map (λj=>z[j % z.size]!)=(List.replicate n z.toList).flatten.toArray:=by
 intro n
 apply Array.ext'
 simp only [Array.toList_map,Array.toList_range]
 have hz:z.toList.length=k:=by simpa using hk
 induction n with
 | zero=>simp
 | succ n ih=>
   rw [Nat.add_mul,Nat.one_mul,Nat.add_comm (n*k) k,List.range_add,List.map_append,List.map_map,List.replicate_succ,List.flatten_cons]
   congr 1
   ·apply List.ext_getElem
    ·simp [hz]
    ·intro i h1 h2
     simp only [List.length_map,List.length_range] at h1
     have:i % z.size=i:=Nat.mod_eq_of_lt (by omega)
     simp only [List.getElem_map,List.getElem_range,this]
     rw [getElem!_pos z i (by omega)]
     simp
   ·rw [<-ih]
    apply List.map_congr_left
    intro i _
    show z[(k+i) % z.size]! = z[i % z.size]!
    rw [hk,Nat.add_mod_left]
theorem XRs_rep {ρ:Lab} {l:List XV} {vs:List Value} (h:XRs ρ l vs) : ∀ n,XRs ρ (X.rep l n) (List.replicate n vs).flatten
 | 0=>rfl
 | n+1=>by
   show XRs ρ (X.app l (X.rep l n)) _
   rw [app_eq,List.replicate_succ,List.flatten_cons]
   exact h.app (XRs_rep h n)
section
variable {P:Program} {ρ:Lab}
noncomputable def bytesAt (P:Program) (T:TypeId):Nat:=Option.rec (motive:=λ_=>Nat) 0 (λi=>i.bytes) (P.info? T)
noncomputable def zerosX (P:Program) (e:TypeId) (n:Nat):Option (List XV):=
 br (Nat.beq (Nat.mul n (sizeAt P e)) 0) (some []) (onO (zeroC P e) λzs=>br (Nat.beq (len zs) (sizeAt P e)) (some (rep zs n)) none)
theorem zerosX_ok {e:TypeId} {n:Nat} {cs:List XV} (h:zerosX P e n=some cs) (hi:(P.info? e).isSome=true) : ∃ z:Array Value,((n*sizeAt P e=0/\z = #[])\/(¬ n*sizeAt P e=0/\∃ zv,(∀ w,(zeroValue e).run P w = .ok zv w)/\z=zv.cells))/\
 XRs ρ cs ((Array.range (n*sizeAt P e)).map (λj=>z[j % z.size]!)).toList:=by
 unfold zerosX at h
 rw [br_eq] at h
 split at h
 ·next h0=>
  cases h
  have h0:n*sizeAt P e=0:=by simpa using h0
  refine ⟨#[],.inl ⟨h0,rfl⟩,?_⟩
  rw [h0]; simp [XRs]
 ·next h0=>
  have h0 : ¬ n*sizeAt P e=0:=by simpa using h0
  obtain ⟨zs,h1,h⟩:=onO_some h
  obtain ⟨h2,h⟩:=br_some h
  cases h
  rw [len_eq] at h2
  have h2:=Nat.eq_of_beq_eq_true h2
  obtain ⟨i,z,g1,g2,g3⟩:=zeroC_ok h1
  have hl:=(g3 ρ).len
  have hpos:0<sizeAt P e:=Nat.pos_of_ne_zero λe0=>h0 (by rw [e0]; simp)
  refine ⟨z.cells,.inr ⟨h0,z,λw=>by simp [zeroValue,typeInfo,g1,g2],rfl⟩,?_⟩
  rw [range_rep z.cells (sizeAt P e) (by rw [<-Array.length_toList,hl,h2]) hpos]
  exact XRs_rep (g3 ρ) n
noncomputable def xnewB (P:Program) (n:Nat) (T:TypeId) (ln:Nat) (ps:List (Nat×XV)):Option (XV×XO):=
 onO (elemX P T) λe=>br (Nat.ble (Nat.mul ln (sizeAt P e)) 16777216) (onO (zerosX P e ln) λzs=>
  onO (fillX (λi=>some (Nat.mul i (sizeAt P e),sizeAt P e)) ps zs) λcs=>some (.sl (some (n,0)) ln ln,.cells cs)) none
noncomputable def xnewM (P:Program) (n:Nat) (T:TypeId) (l c:Int):Option (XV×XO):=
 onO (elemX P T) λe=>onO (i2n l) λl=>onO (i2n c) λc=>br (Nat.ble l c) (br (Nat.ble c 4611686018427387904) (br (Nat.ble (Nat.mul c (bytesAt P e)) 281474976710656)
  (onO (zerosX P e c) λzs=>some (.sl (some (n,0)) l c,.cells zs)) none) none) none
noncomputable def u8X (l:List Nat):List XV:=List.rec (motive:=λ_=>List XV) [] (λa _ ih=>.int .u8 (.ofNat a) :: ih) l
theorem u8X_ok : ∀ {l:List Nat},(∀ x∈l,x<256)->XRs ρ (u8X l) (bys (l.map UInt8.ofNat))
 | [],_=>rfl
 | a :: l,h=>by
   show XRs ρ (.int .u8 (.ofNat a) :: u8X l) _
   have ha:a<256:=h a List.mem_cons_self
   refine ⟨_,_,rfl,?_,u8X_ok λx hx=>h x (List.mem_cons_of_mem _ hx)⟩
   simp only [XR]
   have:(UInt8.ofNat a).toNat=a:=by simp [UInt8.toNat_ofNat',Nat.mod_eq_of_lt ha]
   rw [this]; rfl
noncomputable def xs2b (P:Program) (n:Nat) (s d:TypeId) (x:XV):Option (XV×XO):=match P.underlying s,P.underlying d,x with
 | some .string,some (.slice e),.str l=>match P.underlying e with
   | some (.int k)=>br (Nat.beq (idxK k) 4) (some (.slu n 0 (len l) 1,.row (u8X l))) none
   | _=>none
 | _,_,_=>none
noncomputable def xnew (P:Program) (env:XE) (n:Nat) (op:Op):Option (XV×XO):=match op with
 | .alloc T=>onO (zeroC P T) λzs=>some (.ptr (some (n,0)),.cells zs)
 | .box _ x=>onO (evX env x) λy=>some (.ptr (some (n,0)),.cells (cellsX y))
 | .buildSlice T ln parts=>onO (partsX env parts.toList) λps=>xnewB P n T ln ps
 | .makeSlice T l c=>onO (evX env l) λx=>onO (numX x) λl=>onO (evX env c) λy=>onO (numX y) λc=>xnewM P n T l c
 | .makeMap T r=>match r with
   | none=>some (.map (some n),.map [] 0)
   | some x=>match P.underlying T with
     | some (.map _ _)=>onO (evX env x) λy=>onO (numX y) λ_=>some (.map (some n),.map [] 0)
     | _=>none
 | .convert s d x=>onO (evX env x) λy=>xs2b P n s d y
 | _=>none
def NewOk (P:Program) (ρ:Lab) (w:World) (n:Nat) (s:Sem Value) (y:XV) (ob:XO):Prop:=
 ∃ v w' b sz,s.run P w = .ok v w'/\b=w.heap.size/\Mod NoB w w'/\∀ ρ',Lab.le ρ ρ'->ρ' n=some (b,sz)->XR ρ' y v/\ObjOk ρ' w' b sz ob
theorem newOk_row {w:World} {n ln c:Nat} {s:Sem Value} {cs:List XV} {vs:List Value} {e:TypeId} (hr : ∀ w:World,s.run P w = .ok (.slice (some ⟨w.heap.size,0,none⟩) ln c) (w.alloc (.cells vs.toArray e))) (hc:XRs ρ cs vs) :
 NewOk P ρ w n s (.sl (some (n,0)) ln c) (.cells cs):=
 ⟨_,_,_,0,hr w,rfl,alloc_mod _ _,λρ' hl hn=>⟨by simp only [XR]; exact ⟨_,_,hn,rfl⟩,vs,e,XRs.le hl _ _ hc,Blk.mk (new_alloc w _).get⟩⟩
theorem newOk_ptr {w:World} {n:Nat} {s:Sem Value} {cs:List XV} {vs:List Value} {e:TypeId} (hr : ∀ w:World,s.run P w = .ok (.pointer (some ⟨w.heap.size,0,none⟩)) (w.alloc (.cells vs.toArray e))) (hc:XRs ρ cs vs) :
 NewOk P ρ w n s (.ptr (some (n,0))) (.cells cs):=
 ⟨_,_,_,0,hr w,rfl,alloc_mod _ _,λρ' hl hn=>⟨by simp only [XR]; exact ⟨_,_,hn,rfl⟩,vs,e,XRs.le hl _ _ hc,Blk.mk (new_alloc w _).get⟩⟩
theorem xnewB_run {w:World} {n ln:Nat} {T:TypeId} {ps:List (Nat×XV)} {y:XV} {ob:XO} (h:xnewB P n T ln ps=some (y,ob)) {pv:Array (Nat×Value)} (hp:PRs ρ ps pv.toList):NewOk P ρ w n (Instr.buildSlice T ln pv) y ob:=by
 unfold xnewB at h
 obtain ⟨e,he,h⟩:=onO_some h
 obtain ⟨h1,h⟩:=br_some h
 obtain ⟨zs,h2,h⟩:=onO_some h
 obtain ⟨cs,h3,h⟩:=onO_some h
 cases h
 obtain ⟨hu,hi⟩:=elemX_ok he
 have h1:ln*sizeAt P e<=16777216:=Nat.le_of_ble_eq_true h1
 obtain ⟨z,h4,h5⟩:=zerosX_ok (ρ:=ρ) h2 hi
 obtain ⟨us,h6,h7⟩:=fillX_run h3 hp h5
 refine newOk_row (e:=e) (λw=>?_) h7
 have h1' : ¬ ln*sizeAt P e > 2 ^ 24:=by
  have:(2:Nat) ^ 24=16777216:=by decide
  omega
 have e0:((Array.range (ln*sizeAt P e)).map (λj=>z[j % z.size]!)).toList.toArray=(Array.range (ln*sizeAt P e)).map (λj=>z[j % z.size]!):=by rw [Array.toArray_toList]
 rw [e0] at h6
 have h6:Instr.fill (λi=>some (i*sizeAt P e,sizeAt P e)) ((Array.range (ln*sizeAt P e)).map (λj=>z[j % z.size]!)) pv.toList=some us.toArray:=h6
 unfold Instr.buildSlice
 simp only [Sem.run_bind,run_underlying hu,Result.andThen_ok,run_sizeAt hi,if_neg h1']
 rcases h4 with ⟨h0,rfl⟩ | ⟨h0,zv,hz,rfl⟩
 ·rw [if_pos h0]
  simp only [Sem.run_bind,Sem.run_pure,Result.andThen_ok,h6]
  simp [newRow]
 ·rw [if_neg h0]
  simp only [Sem.run_bind,Sem.run_pure,Result.andThen_ok,hz,h6]
  simp [newRow]
theorem xnewM_run {w:World} {n:Nat} {T:TypeId} {l c:Int} {y:XV} {ob:XO} (h:xnewM P n T l c=some (y,ob)) (kl kc:IntKind):NewOk P ρ w n (Instr.makeSlice T (.int kl l) (.int kc c)) y ob:=by
 unfold xnewM at h
 obtain ⟨e,he,h⟩:=onO_some h
 obtain ⟨l',hl,h⟩:=onO_some h
 obtain ⟨c',hc,h⟩:=onO_some h
 obtain ⟨h1,h⟩:=br_some h
 obtain ⟨h2,h⟩:=br_some h
 obtain ⟨h3,h⟩:=br_some h
 obtain ⟨zs,h4,h⟩:=onO_some h
 cases h
 obtain ⟨hu,hi⟩:=elemX_ok he
 have hl:=i2n_ok hl
 have hc:=i2n_ok hc
 subst hl hc
 have h1:=Nat.le_of_ble_eq_true h1
 have h2:=Nat.le_of_ble_eq_true h2
 have h3:=Nat.le_of_ble_eq_true h3
 obtain ⟨z,h5,h6⟩:=zerosX_ok (ρ:=ρ) h4 hi
 obtain ⟨i,hinf⟩:=Option.isSome_iff_exists.1 hi
 have hb:bytesAt P e=i.bytes:=by unfold bytesAt; rw [hinf]
 have h3:c'*i.bytes<=281474976710656:=by rw [hb] at h3; exact h3
 refine newOk_row (e:=e) (vs:=((Array.range (c'*sizeAt P e)).map (λj=>z[j % z.size]!)).toList) (λw=>?_) h6
 have e1:IntKind.i64.wrap (l':Int)=l':=wrap_i64 (by omega)
 have e2:IntKind.i64.wrap (c':Int)=c':=wrap_i64 (by omega)
 have g6 : ¬ ((decide ((c':Int)<0) || decide ((i.bytes:Int)*(c':Int) > 2 ^ 48) || decide ((l':Int)<0) || decide ((l':Int) > (c':Int)))=true):=by
  simp only [Bool.or_eq_true,decide_eq_true_eq,gt_iff_lt]
  have:(2:Int) ^ 48=281474976710656:=by decide
  have:(i.bytes*(c':Int))=((c'*i.bytes:Nat):Int):=by rw [Nat.mul_comm]; simp
  omega
 unfold Instr.makeSlice
 simp only [asInt,asIntOf,Sem.run_bind,Sem.run_pure,run_underlying hu,Result.andThen_ok,run_sizeAt hi,run_tinfo hinf,e1,e2,Int.toNat_natCast,run_askRoom]
 rw [if_neg g6]
 simp only [Sem.run_bind,run_askRoom,Result.andThen_ok,run_sizeAt hi]
 rcases h5 with ⟨h0,rfl⟩ | ⟨h0,zv,hz,rfl⟩
 ·rw [if_pos h0]
  simp only [Sem.run_bind,Sem.run_pure,Result.andThen_ok]
  simp [newRow]
  congr 2
  apply Array.ext'
  simp
 ·rw [if_neg h0]
  simp only [Sem.run_bind,Sem.run_pure,Result.andThen_ok,hz]
  simp [newRow]
  congr 2
  apply Array.ext'
  simp
theorem xs2b_run {w:World} {n:Nat} {s d:TypeId} {x y:XV} {ob:XO} (h:xs2b P n s d x=some (y,ob)) {v:Value} (hx:XR ρ x v):NewOk P ρ w n (convert s d v) y ob:=by
 unfold xs2b at h
 split at h
 ·next e l hs hd=>
  split at h
  ·next k he=>
   obtain ⟨h1,h⟩:=br_some h
   cases h
   have:k = .u8:=by cases k <;> first | rfl | cases h1
   subst this
   simp only [XR] at hx
   obtain ⟨hl,rfl⟩:=hx
   have hrun:=Lib.run_convert_string_bytes (P:=P) w s d e ⟨(l.map UInt8.ofNat).toArray⟩ hs hd he
   have hsz:(ByteArray.mk (l.map UInt8.ofNat).toArray).size=l.length:=by simp [ByteArray.size]
   have hge:=grownCap_ge w l.length 0 e
   have hnew:=Lib.bytesWorld_at_new w e ⟨(l.map UInt8.ofNat).toArray⟩
   have hcells:Lib.bytesCells w e ⟨(l.map UInt8.ofNat).toArray⟩=(bys (l.map UInt8.ofNat)++List.replicate (grownCap w l.length 0 e - l.length) (Value.int .u8 0)).toArray:=by
    unfold Lib.bytesCells
    rw [hsz]
    apply Array.ext'
    simp [bys]
   rw [hsz] at hrun
   have hblk:Blk (Lib.bytesWorld w e ⟨(l.map UInt8.ofNat).toArray⟩) w.heap.size (bys (l.map UInt8.ofNat)++List.replicate (grownCap w l.length 0 e - l.length) (Value.int .u8 0)) e:=by
    rw [hcells] at hnew
    exact ⟨_,hnew,.inr (by simp)⟩
   have hm:Mod NoB w (Lib.bytesWorld w e ⟨(l.map UInt8.ofNat).toArray⟩):=by
    refine ⟨?_,?_,?_,by rw [Lib.bytesWorld_size]; omega,λx hx _=>Lib.bytesWorld_at_old w e _ x hx⟩
    ·unfold Lib.bytesWorld World.freeze; rw [if_neg (by decide)]; rfl
    ·unfold Lib.bytesWorld World.freeze; rw [if_neg (by decide)]; rfl
    ·unfold Lib.bytesWorld World.freeze; rw [if_neg (by decide)]; rfl
   refine ⟨_,_,_,grownCap w l.length 0 e,hrun,rfl,hm,λρ' hle hn=>⟨?_,_,_,e,u8X_ok hl,hblk,?_⟩⟩
   ·simp only [XR]
    rw [len_eq]
    exact ⟨_,_,grownCap w l.length 0 e,hn,rfl,by omega,hge,by omega⟩
   ·simp; omega
  ·cases h
 ·cases h
theorem xnew_run {env:XE} {n:Nat} {o:Oper} {y:XV} {ob:XO} (hr:xnew P env n o.op=some (y,ob)) {a:Act} (he:EnvOk ρ env a.tmps) (w:World) :
 ∃ v w' b sz,(execOp a.eval o).run P w = .ok (.value v) w'/\b=w.heap.size/\Mod NoB w w'/\∀ ρ',Lab.le ρ ρ'->ρ' n=some (b,sz)->XR ρ' y v/\ObjOk ρ' w' b sz ob:=by
 obtain ⟨dst,op,type,pos,after,guard⟩:=o
 simp only at hr
 have gv : ∀ {s:Sem Value},NewOk P ρ w n s y ob->∃ v w' b sz,((do let x <-s; pure (Next.value x)):Sem Next).run P w = .ok (.value v) w'/\b=w.heap.size/\Mod NoB w w'/\∀ ρ',Lab.le ρ ρ'->ρ' n=some (b,sz)->XR ρ' y v/\ObjOk ρ' w' b sz ob:=
  λ⟨v,w',b,sz,h1,h2⟩=>⟨v,w',b,sz,by simp [h1],h2⟩
 unfold xnew at hr
 unfold execOp
 split at hr
 ·next T=>
  obtain ⟨zs,h1,hr⟩:=onO_some hr
  cases hr
  obtain ⟨i,z,g1,g2,g3⟩:=zeroC_ok h1
  exact gv (s:=Instr.alloc T true (.tuple #[])) (newOk_ptr (e:=T) (λw=>by simp [Instr.alloc,zeroValue,typeInfo,g1,g2,newVar,newRow]) (g3 ρ))
 ·next T x=>
  obtain ⟨u,h1,hr⟩:=onO_some hr
  cases hr
  exact gv (s:=Instr.box T (a.eval x)) (newOk_ptr (e:=T) (λw=>by simp [Instr.box,newVar,newRow]) (evX_ok he h1).cells)
 ·next T ln parts=>
  obtain ⟨ps,h1,hr⟩:=onO_some hr
  have h2:PRs ρ ps (parts.map λ(i,x)=>(i,a.eval x)).toList:=by
   rw [Array.toList_map]; exact partsX_ok he h1
  have h3:=xnewB_run (w:=w) hr h2
  exact gv h3
 ·next T l c=>
  obtain ⟨x,h1,hr⟩:=onO_some hr
  obtain ⟨l',h2,hr⟩:=onO_some hr
  obtain ⟨z,h3,hr⟩:=onO_some hr
  obtain ⟨c',h4,hr⟩:=onO_some hr
  obtain ⟨kl,e1⟩:=numX_ok h2 (evX_ok he h1)
  obtain ⟨kc,e2⟩:=numX_ok h4 (evX_ok he h3)
  show ∃ v w' b sz,((do let x <-Instr.makeSlice T (a.eval l) (a.eval c); pure (Next.value x)):Sem Next).run P w = .ok (.value v) w'/\_
  rw [e1,e2]
  exact gv (s:=Instr.makeSlice T (.int kl l') (.int kc c')) (xnewM_run hr kl kc)
 ·next T r=>
  have fin : ∀ {s:Sem Value},(∀ w:World,s.run P w = .ok (.map (some w.heap.size)) (w.alloc (.map #[] 0)))->NewOk P ρ w n s (.map (some n)) (.map [] 0):=λh=>
   ⟨_,_,_,0,h w,rfl,alloc_mod _ _,λρ' hl hn=>⟨by simp only [XR]; exact ⟨_,_,hn,rfl⟩,[],rfl,(new_alloc w _).get⟩⟩
  split at hr
  ·cases hr
   exact gv (s:=Instr.makeMap T none) (fin λw=>by simp [Instr.makeMap])
  ·next x=>
   split at hr
   ·next kt et hu=>
    obtain ⟨y',h1,hr⟩:=onO_some hr
    obtain ⟨m,h2,hr⟩:=onO_some hr
    cases hr
    obtain ⟨k,e1⟩:=numX_ok h2 (evX_ok he h1)
    exact gv (s:=Instr.makeMap T (some (a.eval x))) (fin λw=>by simp [Instr.makeMap,e1,run_underlying hu,asInt,asIntOf])
   ·cases hr
 ·next s d x=>
  obtain ⟨u,h1,hr⟩:=onO_some hr
  exact gv (s:=convert s d (a.eval x)) (xs2b_run hr (evX_ok he h1))
 ·cases hr
end
noncomputable def updO (o:XO) (l:List XV):XO:=match o with
 | .cells _=>.cells l
 | .row _=>.row l
 | o=>o
section
variable {P:Program} {S0:Nat->Prop} {w0 w:World} {ρ:Lab} {h:Hp}
theorem allOne {l:List XV} {vs:List Value} (h1:allX XV.one l=true) (hl:XRs ρ l vs) : ∀ u∈vs,u.oneCell'=true:=by
 rw [allX_eq] at h1
 induction l generalizing vs with
 | nil=>simp only [XRs] at hl; subst hl; simp
 | cons x l ih=>
   simp only [XRs] at hl
   obtain ⟨v,vs',rfl,h2,h3⟩:=hl
   simp only [List.all_cons,Bool.and_eq_true] at h1
   intro u hu
   rcases List.mem_cons.1 hu with rfl | hu
   ·exact h2.one h1.1
   ·exact ih h1.2 h3 u hu
theorem obj_put {b s o:Nat} {ob:XO} {l cs:List XV} {us:List Value} (ho:ObjOk ρ w b s ob) (hr:rowO ob=some l) (hc:XRs ρ cs us) (hfit:o+cs.length<=l.length) (h1 : ∀ u∈us,u.oneCell'=true) :
 ∃ w',(storeCells ⟨b,o,none⟩ us).run P w = .ok () w'/\Mod (λx=>x=b) w w'/\ObjOk ρ w' b s (updO ob (putX l o cs)):=by
 have hcl:=hc.len
 cases ob with
 | cells m=>
   cases hr
   obtain ⟨vs,T,g1,g2⟩:=ho
   have gl:=g1.len
   obtain ⟨w',h2,h3,h4⟩:=store_blk (P:=P) (o:=o) (vs:=us) g2 (by omega) h1
   exact ⟨w',h2,h4.mod,_,T,g1.put hc o,h3⟩
 | row m=>
   cases hr
   obtain ⟨vs,rest,T,g1,g2,g3⟩:=ho
   have gl:=g1.len
   obtain ⟨w',h2,h3,h4⟩:=store_blk (P:=P) (o:=o) (vs:=us) g2 (by simp; omega) h1
   have e:putAt (vs++rest) o us=(vs.take o++us++vs.drop (o+us.length))++rest:=by
    unfold putAt
    rw [List.take_append_of_le_length (by omega),List.drop_append_of_le_length (by omega),<-List.append_assoc]
   rw [e] at h3
   refine ⟨w',h2,h4.mod,_,rest,T,g1.put hc o,h3,?_⟩
   rw [<-g3]; simp; omega
 | _=>cases hr
theorem Inv.put (hi:Inv S0 w0 ρ h w) {L o b s:Nat} {ob:XO} {l cs:List XV} {us:List Value} (hL:h.t.get L=some ob) (hr:rowO ob=some l) (hρ:ρ L=some (b,s)) (hc:XRs ρ cs us) (hfit:o+cs.length<=l.length) (h1 : ∀ u∈us,u.oneCell'=true) :
 ∃ w',(storeCells ⟨b,o,none⟩ us).run P w = .ok () w'/\Inv S0 w0 ρ ⟨h.t.set (some (updO ob (putX l o cs))) L,h.n⟩ w':=by
 obtain ⟨b',s',e1,ho,_⟩:=hi.dom L ob hL
 rw [hρ] at e1; cases e1
 obtain ⟨w',h2,h3,h4⟩:=obj_put (P:=P) ho hr hc hfit h1
 exact ⟨w',h2,hi.upd hL hρ h3 h4⟩
def Lab.up (n:Nat) (ρ ρ':Lab):Prop:=Lab.le ρ ρ'/\∀ L,L<n->ρ' L=ρ L
theorem Lab.up_refl (n:Nat) (ρ:Lab):Lab.up n ρ ρ:=⟨Lab.le_refl _,λ_ _=>rfl⟩
theorem Lab.up_new {n:Nat} {ρ:Lab} {x:Option (Nat×Nat)} (h:Lab.le ρ (λL=>if L=n then x else ρ L)):Lab.up n ρ (λL=>if L=n then x else ρ L):=⟨h,λL hL=>by simp [Nat.ne_of_lt hL]⟩
theorem Lab.up_trans {n m:Nat} {a b c:Lab} (h:Lab.up n a b) (hn:n<=m) (h':Lab.up m b c):Lab.up n a c:=
 ⟨Lab.le_trans h.1 h'.1,λL hL=>(h'.2 L (Nat.lt_of_lt_of_le hL hn)).trans (h.2 L hL)⟩
def HardOk (P:Program) (S0:Nat->Prop) (w0:World) (ρ:Lab) (n:Nat) (w:World) (s:Sem Value) (y:XV) (h':Hp):Prop:=
 ∃ v w' ρ',s.run P w = .ok v w'/\Lab.up n ρ ρ'/\XR ρ' y v/\Inv S0 w0 ρ' h' w'
def HardU (P:Program) (S0:Nat->Prop) (w0:World) (ρ:Lab) (w:World) (s:Sem Unit) (h':Hp):Prop:=
 ∃ w',s.run P w = .ok () w'/\Inv S0 w0 ρ h' w'
noncomputable def xstore (P:Program) (h:Hp) (T:TypeId) (x y:XV):Option Hp:=match x with
 | .ptr (some (L,o))=>br (hasT P T) (br (Nat.beq (len (cellsX y)) (sizeAt P T)) (br (allX XV.one (cellsX y)) (onO (h.t.get L) λob=>onO (rowO ob) λl=>
    br (Nat.ble (Nat.add o (len (cellsX y))) (len l)) (some ⟨h.t.set (some (updO ob (putX l o (cellsX y)))) L,h.n⟩) none) none) none) none
 | _=>none
theorem xstore_run (hi:Inv S0 w0 ρ h w) {T:TypeId} {x y:XV} {h':Hp} (hr:xstore P h T x y=some h') {u v:Value} (hx:XR ρ x u) (hy:XR ρ y v):HardU P S0 w0 ρ w (Instr.storeAt T u v) h':=by
 unfold xstore at hr
 split at hr
 ·next L o=>
  obtain ⟨h1,hr⟩:=br_some hr
  obtain ⟨h2,hr⟩:=br_some hr
  obtain ⟨h3,hr⟩:=br_some hr
  obtain ⟨ob,h4,hr⟩:=onO_some hr
  obtain ⟨l,h5,hr⟩:=onO_some hr
  obtain ⟨h6,hr⟩:=br_some hr
  cases hr
  rw [len_eq] at h2 h6
  rw [len_eq] at h6
  have h2:=Nat.eq_of_beq_eq_true h2
  have h6:o+(cellsX y).length<=l.length:=Nat.le_of_ble_eq_true h6
  simp only [XR] at hx
  obtain ⟨b,s,hρ,rfl⟩:=hx
  have hc:=hy.cells
  obtain ⟨w',h7,h8⟩:=hi.put (P:=P) h4 h5 hρ hc h6 (allOne h3 hc)
  refine ⟨w',?_,h8⟩
  have hsz:v.cells.size=sizeAt P T:=by rw [<-Array.length_toList,hc.len,h2]
  simp only [Instr.storeAt,Instr.sureAddr,Sem.run_bind,Sem.run_pure,Result.andThen_ok,storeVar,run_sizeAt (hasT_ok h1),hsz,ne_eq,not_true_eq_false,↓reduceIte]
  exact h7
 ·cases hr
structure App (P:Program) (w:World) (t t2 ty e:TypeId) (i:TypeInfo) (z:Value) (n:Nat) (xv:Value) (ys:List Value):Prop where
 len:ys.length=n*i.size
 room : ∀ s:Slc,s.len+n<=s.cap->∀ w',(match s.a with | some a=>storeCells (a.add (s.len*i.size)) ys | none=>pure ():Sem Unit).run P w = .ok () w'->(Builtin.append_ #[t,t2] ty #[.slice s.a s.len s.cap,xv]).run P w = .ok (.slice s.a (s.len+n) s.cap) w'
 grow : ∀ (s:Slc) (vs:List Value),SlRd w s i.size vs->s.cap<s.len+n->(s.len+n)*i.bytes<=140737488355328->s.len+n<=9223372036854775807->
  (Builtin.append_ #[t,t2] ty #[.slice s.a s.len s.cap,xv]).run P w = .ok (.slice (some ⟨w.heap.size,0,none⟩) (s.len+n) (grownCap w (s.len+n) s.cap e)) (w.drew.alloc (.cells (vs.toArray++ys.toArray++Builtin.zeroCells z.cells (grownCap w (s.len+n) s.cap e - (s.len+n))) e))
theorem app_slice {t t2 ty e e2:TypeId} {i:TypeInfo} {z:Value} (ht:P.underlying t=some (.slice e)) (ht2:P.underlying t2=some (.slice e2)) (hi:P.info? e=some i) (hz:i.zero=some z) {x:Slc} {ys:List Value} (hx:SlRd w x i.size ys):App P w t t2 ty e i z x.len (.slice x.a x.len x.cap) ys:=by
 have hfx:=run_firstCells (P:=P) hx
 refine ⟨hx.1,λs hroom w' hst=>?_,λs vs hs hcap hb hm=>?_⟩
 ·cases hsa:s.a with
  | none=>
    rw [hsa] at hst
    simp at hst
    subst hst
    simp [Builtin.append_,run_underlying ht,run_underlying ht2,sizeOf,typeInfo,hi,Builtin.lenOf,hroom,hfx]
  | some a=>
    rw [hsa] at hst
    simp [Builtin.append_,run_underlying ht,run_underlying ht2,sizeOf,typeInfo,hi,Builtin.lenOf,hroom,hfx,hst]
 ·have hm' : ¬ ((9223372036854775807:Int)<(s.len:Int)+x.len):=by omega
  have h48 : ¬ (281474976710656<Builtin.nextslicecap (s.len+x.len) s.cap*i.bytes):=by
   have:=growslice_fits hcap hb; omega
  have hfx':=run_firstCells (P:=P) (w:=w.drew) hx.drew
  have hfs':=run_firstCells (P:=P) (w:=w.drew) hs.drew
  have hn : ¬ (s.len+x.len<=s.cap):=by omega
  simp [Builtin.append_,run_underlying ht,run_underlying ht2,sizeOf,typeInfo,zeroValue,hi,hz,Builtin.lenOf,hn,hm',h48,Question.forced,newRow,grownCap]
  rw [hfs']
  simp only [Result.andThen_ok]
  rw [hfx']
  simp only [Result.andThen_ok]
  congr 3
  apply Array.ext'
  simp [List.append_assoc]
theorem app_str {t t2 ty e:TypeId} {i:TypeInfo} {z:Value} (ht:P.underlying t=some (.slice e)) (ht2:P.underlying t2=some .string) (hi:P.info? e=some i) (hz:i.zero=some z) (hk:i.size=1) {xs:List UInt8} :
 App P w t t2 ty e i z xs.length (.string ⟨xs.toArray⟩) (bys xs):=by
 have hsz:(ByteArray.mk xs.toArray).size=xs.length:=by simp [ByteArray.size]
 have hfx : ∀ w,(Builtin.firstCells 1 xs.length (.string ⟨xs.toArray⟩)).run P w = .ok (bys xs).toArray w:=λw=>run_firstCells_string w xs 1
 refine ⟨by simp [hk],λs hroom w' hst=>?_,λs vs hs hcap hb hm=>?_⟩
 ·rw [hk] at hst
  cases hsa:s.a with
  | none=>
    rw [hsa] at hst
    simp at hst
    simp [Builtin.append_,run_underlying ht,run_underlying ht2,sizeOf,typeInfo,hi,Builtin.lenOf,hsz,hroom,hfx,hk,hst]
  | some a=>
    rw [hsa] at hst
    simp only [Nat.mul_one] at hst
    simp [Builtin.append_,run_underlying ht,run_underlying ht2,sizeOf,typeInfo,hi,Builtin.lenOf,hsz,hroom,hfx,hk,hst]
 ·have hm' : ¬ ((9223372036854775807:Int)<(s.len:Int)+xs.length):=by omega
  have h48 : ¬ (281474976710656<Builtin.nextslicecap (s.len+xs.length) s.cap*i.bytes):=by
   have:=growslice_fits hcap hb; omega
  rw [hk] at hs
  have hfs':=run_firstCells (P:=P) (w:=w.drew) hs.drew
  have hn : ¬ (s.len+xs.length<=s.cap):=by omega
  simp [Builtin.append_,run_underlying ht,run_underlying ht2,sizeOf,typeInfo,zeroValue,hi,hz,Builtin.lenOf,hsz,hn,hm',h48,Question.forced,newRow,grownCap,hk,hfx]
  rw [hfs']
  simp only [Result.andThen_ok]
  congr 3
  apply Array.ext'
  simp [List.append_assoc]
theorem app_zeros {t t2 ty e:TypeId} {k2:IntKind} {i:TypeInfo} {z:Value} (ht:P.underlying t=some (.slice e)) (ht2:P.underlying t2=some (.int k2)) (hi:P.info? e=some i) (hz:i.zero=some z) (hzk:z.cells.size=i.size)
 {n:Nat} {kn:IntKind} (hn63:n<=9223372036854775807) (hb:n*i.bytes<=140737488355328) (h00:n*i.size≠0) :
 App P w t t2 ty e i z n (.int kn n) (Builtin.zeroCells z.cells n).toList:=by
 have hw:IntKind.i64.wrap (n:Int)=n:=wrap_i64 (by omega)
 have hn0 : ¬ ((n:Int)<0):=by omega
 have hbig : ¬ ((281474976710656:Int)<(n:Int)*i.bytes):=by
  have:((n:Int)*i.bytes)=((n*i.bytes:Nat):Int):=by simp
  rw [this]
  omega
 have h0:n≠0:=λe=>h00 (by rw [e]; simp)
 have hs0:i.size≠0:=λe=>h00 (by rw [e]; simp)
 refine ⟨by simp [size_zeroCells,hzk],λs hroom w' hst=>?_,λs vs hs hcap hb hm=>?_⟩
 ·cases hsa:s.a with
  | none=>
    rw [hsa] at hst
    simp at hst
    simp [Builtin.append_,run_underlying ht,run_underlying ht2,sizeOf,typeInfo,zeroValue,hi,hz,asInt,asIntOf,hw,hn0,hbig,h0,hs0,h00,hroom,hst]
  | some a=>
    rw [hsa] at hst
    simp [Builtin.append_,run_underlying ht,run_underlying ht2,sizeOf,typeInfo,zeroValue,hi,hz,asInt,asIntOf,hw,hn0,hbig,h0,hs0,h00,hroom,hst]
 ·have hm' : ¬ ((9223372036854775807:Int)<(s.len:Int)+n):=by omega
  have h48 : ¬ (281474976710656<Builtin.nextslicecap (s.len+n) s.cap*i.bytes):=by
   have:=growslice_fits hcap hb; omega
  have hfs':=run_firstCells (P:=P) (w:=w.drew) hs.drew
  have hn : ¬ (s.len+n<=s.cap):=by omega
  simp [Builtin.append_,run_underlying ht,run_underlying ht2,sizeOf,typeInfo,zeroValue,hi,hz,asInt,asIntOf,hw,hn0,hbig,h0,hs0,h00,hn,hm',h48,Question.forced,newRow,grownCap]
  rw [hfs']
  simp only [Result.andThen_ok]
  rfl
theorem app_zeros0 {t t2 ty e:TypeId} {k2:IntKind} {i:TypeInfo} {z:Value} (ht:P.underlying t=some (.slice e)) (ht2:P.underlying t2=some (.int k2)) (hi:P.info? e=some i) (hz:i.zero=some z) {kn:IntKind} :
 App P w t t2 ty e i z 0 (.int kn (0:Nat)) []:=by
 have hw:IntKind.i64.wrap 0=0:=wrap_i64 (by omega)
 refine ⟨by simp,λs hroom w' hst=>?_,λs vs hs hcap hb hm=>?_⟩
 ·have hroom:s.len<=s.cap:=by omega
  cases hsa:s.a with
  | none=>
    rw [hsa] at hst
    simp at hst
    simp [Builtin.append_,run_underlying ht,run_underlying ht2,sizeOf,typeInfo,zeroValue,hi,hz,asInt,asIntOf,hw,hroom,hst]
  | some a=>
    rw [hsa] at hst
    simp at hst
    simp [Builtin.append_,run_underlying ht,run_underlying ht2,sizeOf,typeInfo,zeroValue,hi,hz,asInt,asIntOf,hw,hroom,hst]
 ·have:=hs.2.1
  omega
noncomputable def srcX (P:Program) (h:Hp) (t t2 e:TypeId) (x:XV):Option (Nat×List XV):=match P.underlying t2,x with
 | some .string,.str l=>br (Nat.beq (sizeAt P e) 1) (some (len l,u8X l)) none
 | some (.int _),.int _ n=>onO (i2n n) λn=>br (Nat.beq n 0) (some (0,[])) (br (Nat.ble n 9223372036854775807) (br (Nat.ble (Nat.mul n (bytesAt P e)) 140737488355328) (br (Nat.beq (Nat.mul n (sizeAt P e)) 0) none
    (onO (zeroC P e) λzs=>br (Nat.beq (len zs) (sizeAt P e)) (some (n,rep zs n)) none)) none) none)
 | some (.slice _),x=>rdSl h x (sizeAt P e)
 | _,_=>none
theorem srcX_ok (hi:Inv S0 w0 ρ h w) {t t2 ty e:TypeId} {i:TypeInfo} {z:Value} (ht:P.underlying t=some (.slice e)) (hie:P.info? e=some i) (hz:i.zero=some z) {x:XV} {n:Nat} {cs:List XV} (hs:srcX P h t t2 e x=some (n,cs)) {xv:Value} (hx:XR ρ x xv) :
 ∃ ys,XRs ρ cs ys/\App P w t t2 ty e i z n xv ys:=by
 have hsz:sizeAt P e=i.size:=sizeAt_of hie
 unfold srcX at hs
 split at hs
 ·next l hu=>
  obtain ⟨h1,hs⟩:=br_some hs
  cases hs
  have h1:=Nat.eq_of_beq_eq_true h1
  simp only [XR] at hx
  obtain ⟨hl,rfl⟩:=hx
  refine ⟨_,u8X_ok hl,?_⟩
  have:=app_str (P:=P) (w:=w) (ty:=ty) (xs:=l.map UInt8.ofNat) ht hu hie hz (by rw [<-hsz]; exact h1)
  rw [List.length_map] at this
  rw [len_eq]
  exact this
 ·next k k' m hu=>
  obtain ⟨n',h1,hs⟩:=onO_some hs
  rw [br_eq] at hs
  split at hs
  ·next h0=>
   cases hs
   have h0:=Nat.eq_of_beq_eq_true h0
   subst h0
   have h1:=i2n_ok h1
   subst h1
   simp only [XR] at hx; subst hx
   exact ⟨[],rfl,app_zeros0 ht hu hie hz⟩
  obtain ⟨h2,hs⟩:=br_some hs
  obtain ⟨h3,hs⟩:=br_some hs
  obtain ⟨h4,hs⟩:=br_none hs
  obtain ⟨zs,h5,hs⟩:=onO_some hs
  obtain ⟨h6,hs⟩:=br_some hs
  cases hs
  have h1:=i2n_ok h1
  subst h1
  have h2:=Nat.le_of_ble_eq_true h2
  have h3:n*i.bytes<=140737488355328:=by
   have:=Nat.le_of_ble_eq_true h3
   have e:bytesAt P e=i.bytes:=by unfold bytesAt; rw [hie]
   rw [e] at this; exact this
  have h4:n*i.size≠0:=λe0=>by
   rw [hsz] at h4
   have:Nat.mul n i.size=0:=e0
   rw [this] at h4; cases h4
  rw [len_eq,hsz] at h6
  have h6:=Nat.eq_of_beq_eq_true h6
  obtain ⟨i',z',g1,g2,g3⟩:=zeroC_ok h5
  rw [hie] at g1; cases g1
  rw [hz] at g2; cases g2
  have hzk:z.cells.size=i.size:=by rw [<-Array.length_toList,(g3 ρ).len,h6]
  simp only [XR] at hx; subst hx
  refine ⟨_,?_,app_zeros ht hu hie hz hzk h2 h3 h4⟩
  have hpos:0<i.size:=Nat.pos_of_ne_zero λe0=>h4 (by rw [e0]; simp)
  have e0:=range_rep z.cells i.size hzk hpos n
  have:(Builtin.zeroCells z.cells n).toList=(List.replicate n z.cells.toList).flatten:=by
   unfold Builtin.zeroCells
   rw [show n*z.cells.size=n*i.size by rw [hzk],e0]
  rw [this]
  exact XRs_rep (g3 ρ) n
 ·next hu=>
  obtain ⟨sl,vs,rfl,h2,h3,h4⟩:=rdSl_ok hi hs hx
  rw [hsz] at h4
  subst h2
  exact ⟨vs,h3,app_slice ht hu hie hz h4⟩
 ·cases hs
theorem app_grown (hi:Inv S0 w0 ρ h w) {t t2 ty e:TypeId} {i:TypeInfo} {z:Value} {n:Nat} {xv:Value} {ys:List Value} (hA:App P w t t2 ty e i z n xv ys) (hzk:z.cells.size=i.size) (hk:0<i.size) {s:Slc} {vs:List Value} {os cs:List XV}
 (hs:SlRd w s i.size vs) (hv:XRs ρ os vs) (hy:XRs ρ cs ys) (hcap:s.cap<s.len+n) (hb:(s.len+n)*i.bytes<=140737488355328) (hm:s.len+n<=9223372036854775807) :
 HardOk P S0 w0 ρ h.n w (Builtin.append_ #[t,t2] ty #[.slice s.a s.len s.cap,xv]) (.slu h.n 0 (s.len+n) i.size) ⟨h.t.set (some (.row (app os cs))) h.n,h.n+1⟩:=by
 have hrun:=hA.grow s vs hs hcap hb hm
 have hge:=grownCap_ge w (s.len+n) s.cap e
 have hsl:=hs.1
 have hxl:=hA.len
 have hlv:(vs++ys++(Builtin.zeroCells z.cells (grownCap w (s.len+n) s.cap e - (s.len+n))).toList).length=grownCap w (s.len+n) s.cap e*i.size:=by
  simp only [List.length_append,Array.length_toList,size_zeroCells,hzk,hsl,hxl,<-Nat.add_mul]
  congr 1; omega
 have hn:=new_alloc_drew w (.cells (vs.toArray++ys.toArray++Builtin.zeroCells z.cells (grownCap w (s.len+n) s.cap e - (s.len+n))) e)
 have hblk:Blk (w.drew.alloc (.cells (vs.toArray++ys.toArray++Builtin.zeroCells z.cells (grownCap w (s.len+n) s.cap e - (s.len+n))) e)) w.heap.size (vs++ys++(Builtin.zeroCells z.cells (grownCap w (s.len+n) s.cap e - (s.len+n))).toList) e:=by
  refine Blk.mk ?_
  rw [hn.get]
  congr 2
  apply Array.ext'
  simp [List.append_assoc]
 rw [app_eq]
 have ho : ∀ ρ',Lab.le ρ ρ'->ObjOk ρ' (w.drew.alloc (.cells (vs.toArray++ys.toArray++Builtin.zeroCells z.cells (grownCap w (s.len+n) s.cap e - (s.len+n))) e)) w.heap.size (grownCap w (s.len+n) s.cap e*i.size) (.row (os++cs)):=λρ' hl=>
  ⟨vs++ys,_,e,XRs.le hl _ _ (hv.app hy),hblk,hlv⟩
 obtain ⟨h1,h2⟩:=hi.new (o:=.row (os++cs)) (b:=w.heap.size) (s:=grownCap w (s.len+n) s.cap e*i.size) rfl hn.mod (ho _ λL x e=>by
  by_cases hL:L=h.n
  ·subst hL; rw [hi.fresh _ (Nat.le_refl _)] at e; cases e
  ·simp [hL,e])
 refine ⟨_,_,_,hrun,Lab.up_new h2,?_,h1⟩
 simp only [XR]
 exact ⟨w.heap.size,grownCap w (s.len+n) s.cap e*i.size,grownCap w (s.len+n) s.cap e,by simp,rfl,by omega,hge,hk⟩
noncomputable def xapp2 (h:Hp) (k q n:Nat) (cs:List XV) (s:XV):Option (XV×Hp):=
 match s with
 | .sl none m c=>br (Nat.ble (Nat.add m n) c) (br (Nat.beq n 0) (some (.sl none m c,h)) none)
    (onO (rdSl h s k) λr=>br (Nat.ble (Nat.mul (Nat.add m n) q) 140737488355328) (br (Nat.ble (Nat.add m n) 9223372036854775807)
     (some (.slu h.n 0 (Nat.add m n) k,⟨h.t.set (some (.row (app r.2 cs))) h.n,Nat.succ h.n⟩)) none) none)
 | .sl (some (L,o)) m c=>br (Nat.ble (Nat.add m n) c) (br (Nat.beq n 0) (some (.sl (some (L,o)) m c,h)) (onO (h.t.get L) λob=>onO (rowO ob) λl=>br (Nat.ble (Nat.add (Nat.add o (Nat.mul m k)) (len cs)) (len l))
        (some (.sl (some (L,o)) (Nat.add m n) c,⟨h.t.set (some (updO ob (putX l (Nat.add o (Nat.mul m k)) cs))) L,h.n⟩)) none))
    (onO (rdSl h s k) λr=>br (Nat.ble (Nat.mul (Nat.add m n) q) 140737488355328) (br (Nat.ble (Nat.add m n) 9223372036854775807)
     (some (.slu h.n 0 (Nat.add m n) k,⟨h.t.set (some (.row (app r.2 cs))) h.n,Nat.succ h.n⟩)) none) none)
 | .slu L o m k'=>br (Nat.beq k' k) (onO (h.t.get L) λob=>match ob with
   | .row l=>br (Nat.ble (Nat.add o (Nat.mul (Nat.add m n) k)) (len l))
      (some (.slu L o (Nat.add m n) k,⟨h.t.set (some (.row (putX l (Nat.add o (Nat.mul m k)) cs))) L,h.n⟩))
      (br (Nat.beq o 0) (br (Nat.beq (Nat.mul m k) (len l)) (br (Nat.ble (Nat.mul (Nat.add m n) q) 140737488355328) (br (Nat.ble (Nat.add m n) 9223372036854775807)
       (some (.slu h.n 0 (Nat.add m n) k,⟨(h.t.set none L).set (some (.row (app l cs))) h.n,Nat.succ h.n⟩)) none) none) none) none)
   | _=>none) none
 | _=>none
theorem nroom {a b:Nat} (h : ¬ Nat.ble a b=true):b<a:=by
 rcases Nat.lt_or_ge b a with h' | h'
 ·exact h'
 ·exact absurd (Nat.ble_eq_true_of_le h') h
theorem xapp2_grow (hi:Inv S0 w0 ρ h w) {t t2 ty e:TypeId} {i:TypeInfo} {z:Value} {n:Nat} {xv:Value} {ys:List Value} {cs:List XV} (hA:App P w t t2 ty e i z n xv ys) (hzk:z.cells.size=i.size) (hpos:0<i.size) (hys:XRs ρ cs ys)
 {s y:XV} {m c:Nat} {h':Hp} {a:Option Addr} (hs:XR ρ s (.slice a m c)) (hroom : ¬ Nat.ble (Nat.add m n) c=true)
 (hr:(onO (rdSl h s i.size) λr=>br (Nat.ble (Nat.mul (Nat.add m n) i.bytes) 140737488355328) (br (Nat.ble (Nat.add m n) 9223372036854775807)
    (some (XV.slu h.n 0 (Nat.add m n) i.size,Hp.mk (h.t.set (some (.row (app r.2 cs))) h.n) (Nat.succ h.n))) none) none)=some (y,h')) :
 HardOk P S0 w0 ρ h.n w (Builtin.append_ #[t,t2] ty #[.slice a m c,xv]) y h':=by
 have hroom:c<m+n:=nroom hroom
 obtain ⟨⟨r1,r2⟩,h1,hr⟩:=onO_some hr
 obtain ⟨h2,hr⟩:=br_some hr
 obtain ⟨h3,hr⟩:=br_some hr
 cases hr
 obtain ⟨sl,vs,e1,h4,h5,h6⟩:=rdSl_ok hi h1 hs
 injection e1 with e1 e2 e3
 subst e1 e2 e3
 exact app_grown (s:=sl) hi hA hzk hpos h6 h5 hys hroom (Nat.le_of_ble_eq_true h2) (Nat.le_of_ble_eq_true h3)
theorem xapp2_run (hi:Inv S0 w0 ρ h w) {t t2 ty e:TypeId} {i:TypeInfo} {z:Value} {n:Nat} {xv:Value} {ys:List Value} {cs:List XV} (hA:App P w t t2 ty e i z n xv ys) (hzk:z.cells.size=i.size) (hpos:0<i.size) (hys:XRs ρ cs ys) (hone : ∀ u∈ys,u.oneCell'=true)
 {s y:XV} {h':Hp} (hr:xapp2 h i.size i.bytes n cs s=some (y,h')) {sv:Value} (hs:XR ρ s sv) :
 HardOk P S0 w0 ρ h.n w (Builtin.append_ #[t,t2] ty #[sv,xv]) y h':=by
 have hyl:=hA.len
 have hcl:=hys.len
 cases s with
 | sl a m c=>
   cases a with
   | none=>
     have hr:br (Nat.ble (Nat.add m n) c) (br (Nat.beq n 0) (some (XV.sl none m c,h)) none) (onO (rdSl h (.sl none m c) i.size) λr=>br (Nat.ble (Nat.mul (Nat.add m n) i.bytes) 140737488355328) (br (Nat.ble (Nat.add m n) 9223372036854775807)
      (some (.slu h.n 0 (Nat.add m n) i.size,⟨h.t.set (some (.row (app r.2 cs))) h.n,Nat.succ h.n⟩)) none) none)=some (y,h'):=hr
     have hs':=hs
     simp only [XR] at hs'; subst hs'
     rw [br_eq] at hr
     split at hr
     ·next hroom=>
      obtain ⟨h0,hr⟩:=br_some hr
      cases hr
      have h0:=Nat.eq_of_beq_eq_true h0
      subst h0
      exact ⟨_,_,ρ,hA.room ⟨none,m,c⟩ (Nat.le_of_ble_eq_true hroom) w rfl,Lab.up_refl _ _,hs,hi⟩
     ·next hroom=>exact xapp2_grow hi hA hzk hpos hys hs hroom hr
   | some p=>
     obtain ⟨L,o⟩:=p
     have hr:br (Nat.ble (Nat.add m n) c) (br (Nat.beq n 0) (some (XV.sl (some (L,o)) m c,h)) (onO (h.t.get L) λob=>onO (rowO ob) λl=>br (Nat.ble (Nat.add (Nat.add o (Nat.mul m i.size)) (len cs)) (len l))
      (some (.sl (some (L,o)) (Nat.add m n) c,⟨h.t.set (some (updO ob (putX l (Nat.add o (Nat.mul m i.size)) cs))) L,h.n⟩)) none)) (onO (rdSl h (.sl (some (L,o)) m c) i.size) λr=>br (Nat.ble (Nat.mul (Nat.add m n) i.bytes) 140737488355328) (br (Nat.ble (Nat.add m n) 9223372036854775807)
      (some (.slu h.n 0 (Nat.add m n) i.size,⟨h.t.set (some (.row (app r.2 cs))) h.n,Nat.succ h.n⟩)) none) none)=some (y,h'):=hr
     have hs':=hs
     simp only [XR] at hs'
     obtain ⟨b,sz,hρ,rfl⟩:=hs'
     rw [br_eq] at hr
     split at hr
     ·next hroom=>
      have hroom:m+n<=c:=Nat.le_of_ble_eq_true hroom
      rw [br_eq] at hr
      split at hr
      ·next h0=>
       cases hr
       have h0:=Nat.eq_of_beq_eq_true h0
       subst h0
       have hy0:ys=[]:=List.eq_nil_of_length_eq_zero (by rw [hyl]; simp)
       subst hy0
       exact ⟨_,_,ρ,hA.room ⟨some ⟨b,o,none⟩,m,c⟩ hroom w (by simp [storeCells]),Lab.up_refl _ _,hs,hi⟩
      ·obtain ⟨ob,h1,hr⟩:=onO_some hr
       obtain ⟨l,h2,hr⟩:=onO_some hr
       obtain ⟨h3,hr⟩:=br_some hr
       cases hr
       rw [len_eq,len_eq] at h3
       have h3:o+m*i.size+cs.length<=l.length:=Nat.le_of_ble_eq_true h3
       obtain ⟨w',h4,h5⟩:=hi.put (P:=P) h1 h2 hρ hys h3 hone
       refine ⟨_,_,ρ,hA.room ⟨some ⟨b,o,none⟩,m,c⟩ hroom w' (by simp only [add_add]; exact h4),Lab.up_refl _ _,?_,h5⟩
       simp only [XR]
       exact ⟨b,sz,hρ,rfl⟩
     ·next hroom=>exact xapp2_grow hi hA hzk hpos hys hs hroom hr
 | slu L o m k'=>
   simp only [xapp2] at hr
   obtain ⟨hk,hr2⟩:=br_some hr
   clear hr
   have hk:=Nat.eq_of_beq_eq_true hk
   subst hk
   obtain ⟨ob,h1,hr⟩:=onO_some hr2
   have hs':=hs
   simp only [XR] at hs'
   obtain ⟨b,sz,c,hρ,rfl,e1,e2,_⟩:=hs'
   obtain ⟨b',s',e3,hob,_⟩:=hi.dom L ob h1
   rw [hρ] at e3; cases e3
   cases ob with
   | row l=>
     have hr:br (Nat.ble (Nat.add o (Nat.mul (Nat.add m n) i.size)) (len l))
      (some (XV.slu L o (Nat.add m n) i.size,Hp.mk (h.t.set (some (.row (putX l (Nat.add o (Nat.mul m i.size)) cs))) L) h.n))
      (br (Nat.beq o 0) (br (Nat.beq (Nat.mul m i.size) (len l)) (br (Nat.ble (Nat.mul (Nat.add m n) i.bytes) 140737488355328) (br (Nat.ble (Nat.add m n) 9223372036854775807)
       (some (.slu h.n 0 (Nat.add m n) i.size,⟨(h.t.set none L).set (some (.row (app l cs))) h.n,Nat.succ h.n⟩)) none) none) none) none)=some (y,h'):=hr
     have hob':=hob
     obtain ⟨vs,rest,T,q1,q2,q3⟩:=hob'
     have hvl:=q1.len
     rw [br_eq] at hr
     split at hr
     ·next h3=>
      cases hr
      rw [len_eq] at h3
      have h3:o+(m+n)*i.size<=l.length:=Nat.le_of_ble_eq_true h3
      have hll:l.length<=sz:=by rw [<-q3,List.length_append,hvl]; omega
      have hroom:m+n<=c:=by
       have:(m+n)*i.size<=c*i.size:=by omega
       exact Nat.le_of_mul_le_mul_right this hpos
      have hfit:o+m*i.size+cs.length<=l.length:=by rw [<-hcl,hyl]; rw [Nat.add_mul] at h3; omega
      obtain ⟨w',h4,h5⟩:=hi.put (P:=P) h1 (show rowO (.row l)=some l from rfl) hρ hys hfit hone
      refine ⟨_,_,ρ,hA.room ⟨some ⟨b,o,none⟩,m,c⟩ hroom w' (by simp only [add_add]; exact h4),Lab.up_refl _ _,?_,h5⟩
      simp only [XR]
      exact ⟨b,sz,c,hρ,rfl,e1,hroom,hpos⟩
     ·obtain ⟨h4,hr⟩:=br_some hr
      obtain ⟨h5,hr⟩:=br_some hr
      obtain ⟨h6,hr⟩:=br_some hr
      obtain ⟨h7,hr⟩:=br_some hr
      cases hr
      have h4:=Nat.eq_of_beq_eq_true h4
      subst h4
      rw [len_eq] at h5
      have h5:m*i.size=l.length:=Nat.eq_of_beq_eq_true h5
      have h6:(m+n)*i.bytes<=140737488355328:=Nat.le_of_ble_eq_true h6
      have h7:m+n<=9223372036854775807:=Nat.le_of_ble_eq_true h7
      have hrd:SlRd w ⟨some ⟨b,0,none⟩,m,c⟩ i.size vs:=⟨by rw [hvl,h5],e2,.inr ⟨_,rfl,row_rd (k:=vs.length) q2 (by simp)⟩⟩
      rcases Nat.lt_or_ge c (m+n) with hcap | hroom
      ·exact app_grown (s:=⟨some ⟨b,0,none⟩,m,c⟩) (h:=⟨h.t.set none L,h.n⟩) (hi.left L) hA hzk hpos hrd q1 hys hcap h6 h7
      ·have hcs:0+c*i.size=sz:=e1
       have hfit:vs.length+ys.length<=(vs++rest).length:=by
        rw [q3,<-hcs,hvl,<-h5,hyl,<-Nat.add_mul,Nat.zero_add]
        exact Nat.mul_le_mul_right _ hroom
       obtain ⟨w',g4,g5,g6⟩:=store_blk (P:=P) (o:=vs.length) (vs:=ys) q2 hfit hone
       have hrun:=hA.room ⟨some ⟨b,0,none⟩,m,c⟩ hroom w' (by
        simp only [add_add,Nat.zero_add]
        rw [h5,<-hvl]; exact g4)
       have ep:putAt (vs++rest) vs.length ys=vs++ys++rest.drop ys.length:=by
        unfold putAt
        rw [List.take_left,List.drop_append,Nat.add_sub_cancel_left,List.drop_eq_nil_of_le (by omega),List.nil_append]
       rw [ep] at g5
       have hle:Lab.le ρ (λM=>if M=h.n then some (b,sz) else ρ M):=λM x e=>by
        by_cases hM:M=h.n
        ·subst hM; rw [hi.fresh _ (Nat.le_refl _)] at e; cases e
        ·simp [hM,e]
       rw [app_eq]
       obtain ⟨g7,g8⟩:=hi.turn (o':=.row (l++cs)) h1 hρ g6.mod ⟨vs++ys,_,T,XRs.le hle _ _ (q1.app hys),g5,by
        simp only [List.length_append,List.length_drop] at hfit q3 ⊢; omega⟩
       refine ⟨_,_,_,hrun,Lab.up_new g8,?_,g7⟩
       simp only [XR]
       exact ⟨b,sz,c,by simp,rfl,e1,hroom,hpos⟩
   | _=>cases hr
 | _=>cases hr
noncomputable def xappend (P:Program) (h:Hp) (t t2:TypeId) (s x:XV):Option (XV×Hp):=
 onO (elemX P t) λe=>onO (zeroC P e) λzs=>br (Nat.beq (len zs) (sizeAt P e)) (br (Nat.blt 0 (sizeAt P e)) (onO (srcX P h t t2 e x) λq=>br (allX XV.one q.2)
  (xapp2 h (sizeAt P e) (bytesAt P e) q.1 q.2 s) none) none) none
theorem xappend_run (hi:Inv S0 w0 ρ h w) {t t2 ty:TypeId} {s x y:XV} {h':Hp} (hr:xappend P h t t2 s x=some (y,h')) {sv xv:Value} (hs:XR ρ s sv) (hx:XR ρ x xv) :
 HardOk P S0 w0 ρ h.n w (Builtin.append_ #[t,t2] ty #[sv,xv]) y h':=by
 unfold xappend at hr
 obtain ⟨e,he,hr⟩:=onO_some hr
 obtain ⟨zs,hzs,hr⟩:=onO_some hr
 obtain ⟨hzl,hr⟩:=br_some hr
 obtain ⟨hpos,hr⟩:=br_some hr
 obtain ⟨⟨n,cs⟩,hsrc,hr⟩:=onO_some hr
 obtain ⟨hone,hr⟩:=br_some hr
 obtain ⟨hu,hinf⟩:=elemX_ok he
 obtain ⟨i,z,g1,g2,g3⟩:=zeroC_ok hzs
 have hsz:sizeAt P e=i.size:=sizeAt_of g1
 have hbt:bytesAt P e=i.bytes:=by unfold bytesAt; rw [g1]
 rw [len_eq] at hzl
 have hzl:=Nat.eq_of_beq_eq_true hzl
 have hzk:z.cells.size=i.size:=by rw [<-Array.length_toList,(g3 ρ).len,hzl,hsz]
 have hpos:0<i.size:=by
  rw [hsz] at hpos
  have:=Nat.le_of_ble_eq_true hpos
  exact this
 obtain ⟨ys,hys,hA⟩:=srcX_ok (ty:=ty) hi hu g1 g2 hsrc hx
 rw [hsz,hbt] at hr
 exact xapp2_run hi hA hzk hpos hys (allOne hone hys) hr hs
end
end Go.X
end
