/- The forms of the translated functions,their contracts and the plain laws behind them,put together by a program. -/
import Derived.Test.YtmgcoepbccgjfaaGreatDoorPB14
set_option linter.unusedSimpArgs false
set_option linter.unusedVariables false
set_option maxRecDepth 1000000
set_option maxHeartbeats 8000000
section
namespace Go.X
open Go Go.Sh
section
variable {P:Program} {S0:Nat->Prop} {w0 w:World} {ρ:Lab} {h:Hp}
noncomputable def xcopy (P:Program) (h:Hp) (t:TypeId) (d x:XV):Option (XV×Hp):=
 onO (elemX P t) λe=>onO (rdSl h x (sizeAt P e)) λq=>match d with
 | .sl none 0 _=>some (.int .i64 (.ofNat 0),h)
 | .sl (some (L,o)) n _=>onO (h.t.get L) λob=>onO (rowO ob) λl=>br (allX XV.one (tk q.2 (Nat.mul (nmin q.1 n) (sizeAt P e)))) (br (Nat.ble (Nat.add o (len (tk q.2 (Nat.mul (nmin q.1 n) (sizeAt P e))))) (len l))
    (some (.int .i64 (.ofNat (nmin q.1 n)),⟨h.t.set (some (updO ob (putX l o (tk q.2 (Nat.mul (nmin q.1 n) (sizeAt P e)))))) L,h.n⟩)) none) none
 | .slu L o n _=>onO (h.t.get L) λob=>onO (rowO ob) λl=>br (allX XV.one (tk q.2 (Nat.mul (nmin q.1 n) (sizeAt P e)))) (br (Nat.ble (Nat.add o (len (tk q.2 (Nat.mul (nmin q.1 n) (sizeAt P e))))) (len l))
    (some (.int .i64 (.ofNat (nmin q.1 n)),⟨h.t.set (some (updO ob (putX l o (tk q.2 (Nat.mul (nmin q.1 n) (sizeAt P e)))))) L,h.n⟩)) none) none
 | _=>none
theorem copy_cells {t t2 ty e:TypeId} (ht:P.underlying t=some (.slice e)) (hi':(P.info? e).isSome=true) {x:Slc} {ys:List Value} (hx:SlRd w x (sizeAt P e) ys) {base:Option Addr} {n c:Nat} {w':World}
 (hst:(match base with | some a=>storeCells a (ys.take (min x.len n*sizeAt P e)) | none=>pure ():Sem Unit).run P w = .ok () w') :
 (Builtin.copy_ #[t,t2] ty #[.slice base n c,.slice x.a x.len x.cap]).run P w = .ok (.int .i64 (min x.len n:Nat)) w':=by
 have hxl:=hx.1
 have hfx:=run_firstCells (P:=P) (s:=⟨x.a,min x.len n,x.cap⟩) (w:=w) (k:=sizeAt P e) (vs:=ys.take (min x.len n*sizeAt P e)) (by
  refine ⟨?_,by have:=hx.2.1; simp only []; omega,?_⟩
  ·rw [List.length_take,hxl]
   exact Nat.min_eq_left (Nat.mul_le_mul_right _ (Nat.min_le_left _ _))
  ·rcases hx.2.2 with h | ⟨a',e1,e2⟩
   ·left; simp [h]
   ·exact .inr ⟨a',e1,λj v hj=>e2 j v (by rw [List.getElem?_take] at hj; split at hj <;> simp_all)⟩)
 have hg : ∀ w,(Builtin.lenOf (.slice x.a x.len x.cap)).run P w = .ok x.len w:=λw=>by simp [Builtin.lenOf]
 have hfx':(Builtin.firstCells (sizeAt P e) (min x.len n) (.slice x.a x.len x.cap)).run P w = .ok (ys.take (min x.len n*sizeAt P e)).toArray w:=by
  rw [<-hfx]; cases x.a <;> simp [Builtin.firstCells]
 unfold Builtin.copy_
 cases base with
 | none=>
   simp only [Sem.run_pure,Result.ok.injEq,true_and] at hst
   subst hst
   simp only [List.getElem?_toArray,List.getElem?_cons_zero,List.getElem?_cons_succ,run_underlying ht,Sem.run_bind,Sem.run_pure,Result.andThen_ok,hg,run_sizeAt hi',goInt,show Nat.min x.len n=min x.len n from rfl,hfx']
 | some a=>
   simp only at hst
   simp only [List.getElem?_toArray,List.getElem?_cons_zero,List.getElem?_cons_succ,run_underlying ht,Sem.run_bind,Sem.run_pure,Result.andThen_ok,hg,run_sizeAt hi',goInt,show Nat.min x.len n=min x.len n from rfl,hfx',hst]
theorem xcopy_put (hi:Inv S0 w0 ρ h w) {t t2 ty e:TypeId} (ht:P.underlying t=some (.slice e)) (hi':(P.info? e).isSome=true) {x:Slc} {ys:List Value} {cs:List XV} (hx:SlRd w x (sizeAt P e) ys) (hys:XRs ρ cs ys) {L o n c b s:Nat} (hρ:ρ L=some (b,s)) {y:XV} {h':Hp}
 (hr:(onO (h.t.get L) λob=>onO (rowO ob) λl=>br (allX XV.one (tk cs (Nat.mul (nmin x.len n) (sizeAt P e)))) (br (Nat.ble (Nat.add o (len (tk cs (Nat.mul (nmin x.len n) (sizeAt P e))))) (len l))
  (some (XV.int .i64 (.ofNat (nmin x.len n)),Hp.mk (h.t.set (some (updO ob (putX l o (tk cs (Nat.mul (nmin x.len n) (sizeAt P e)))))) L) h.n)) none) none)=some (y,h')) :
 HardOk P S0 w0 ρ h.n w (Builtin.copy_ #[t,t2] ty #[.slice (some ⟨b,o,none⟩) n c,.slice x.a x.len x.cap]) y h':=by
 obtain ⟨ob,h1,hr⟩:=onO_some hr
 obtain ⟨l,h2,hr⟩:=onO_some hr
 obtain ⟨h3,hr⟩:=br_some hr
 obtain ⟨h4,hr⟩:=br_some hr
 cases hr
 rw [nmin_eq,tk_eq] at *
 rw [len_eq,len_eq] at h4
 have hc:=hys.take (min x.len n*sizeAt P e)
 obtain ⟨w',h5,h6⟩:=hi.put (P:=P) h1 h2 hρ hc (Nat.le_of_ble_eq_true h4) (allOne h3 hc)
 exact ⟨_,_,ρ,copy_cells ht hi' hx (base:=some ⟨b,o,none⟩) h5,Lab.up_refl _ _,rfl,h6⟩
theorem xcopy_run (hi:Inv S0 w0 ρ h w) {t t2 ty:TypeId} {d x y:XV} {h':Hp} (hr:xcopy P h t d x=some (y,h')) {dv xv:Value} (hd:XR ρ d dv) (hx:XR ρ x xv):HardOk P S0 w0 ρ h.n w (Builtin.copy_ #[t,t2] ty #[dv,xv]) y h':=by
 unfold xcopy at hr
 obtain ⟨e,he,hr1⟩:=onO_some hr
 obtain ⟨⟨n,cs⟩,h1,hr2⟩:=onO_some hr1
 clear hr hr1
 obtain ⟨ht,hi'⟩:=elemX_ok he
 obtain ⟨sl,vs,rfl,rfl,h4,h5⟩:=rdSl_ok hi h1 hx
 simp only at hr2
 split at hr2
 ·cases hr2
  simp only [XR] at hd; subst hd
  exact ⟨_,_,ρ,copy_cells ht hi' h5 (base:=none) rfl,Lab.up_refl _ _,by simp [XR],hi⟩
 ·simp only [XR] at hd
  obtain ⟨b,s,hρ,rfl⟩:=hd
  exact xcopy_put hi ht hi' h5 h4 hρ hr2
 ·simp only [XR] at hd
  obtain ⟨b,s,c,hρ,rfl,_⟩:=hd
  exact xcopy_put hi ht hi' h5 h4 hρ hr2
 ·cases hr2
noncomputable def sbit1 (x y:XV):Bool:=match x,y with
 | .int k a,.int k' b=>br (Nat.beq (idxK k) (idxK k')) (ieq a b) false
 | _,_=>false
noncomputable def sbitL (l:List XV):List XV->Bool:=
 List.rec (motive:=λ_=>List XV->Bool) (λm=>List.rec (motive:=λ_=>Bool) true (λ_ _ _=>false) m)
  (λa _ ih m=>List.rec (motive:=λ_=>Bool) false (λb r _=>br (sbit1 a b) (ih r) false) m) l
theorem sbitL_ok {ρ:Lab} (n:Nat) : ∀ {l m:List XV} {us vs:List Value},sbitL l m=true->XRs ρ l us->XRs ρ m vs->us.length=vs.length/\((us.zip vs).all λ(x,y)=>Instr.sameBits n y x)=true/\((vs.zip us).all λ(x,y)=>Instr.sameBits n x y)=true
 | [],[],us,vs,_,h1,h2=>by simp only [XRs] at h1 h2; subst h1 h2; simp
 | [],y :: m,us,vs,h,_,_=>by cases h
 | x :: l,[],us,vs,h,_,_=>by cases h
 | x :: l,y :: m,us,vs,h,h1,h2=>by
   have h:br (sbit1 x y) (sbitL l m) false=true:=h
   rw [br_eq] at h
   simp only [Bool.if_false_right,Bool.and_eq_true,decide_eq_true_eq] at h
   simp only [XRs] at h1 h2
   obtain ⟨u,us',rfl,q1,q2⟩:=h1
   obtain ⟨v,vs',rfl,q3,q4⟩:=h2
   obtain ⟨g1,g2,g3⟩:=sbitL_ok n h.2 q2 q4
   have hs:Instr.sameBits n v u=true:=by
    have h:=h.1
    unfold sbit1 at h
    split at h
    ·rw [br_eq] at h
     simp only [Bool.if_false_right,Bool.and_eq_true,decide_eq_true_eq] at h
     obtain rfl:=idxK_inj h.1
     rw [ieq_eq] at h
     have:=h.2
     simp at this; subst this
     simp only [XR] at q1 q3
     subst q1 q3
     simp [Instr.sameBits]
    ·cases h
   refine ⟨by simp [g1],?_,?_⟩
   ·rw [List.zip_cons_cons,List.all_cons,g2]; simp [hs]
   ·rw [List.zip_cons_cons,List.all_cons,g3]; simp [hs]
noncomputable def okKey (k x:XV):Bool:=match k with
 | .agg l=>(match x with
   | .agg m=>sbitL l m
   | _=>false)
 | _=>true
noncomputable def xset (P:Program) (h:Hp) (T:TypeId) (m k x:XV):Option Hp:=match P.underlying T,m with
 | some (.map kt _),.map (some L)=>br (keyX P kt k) (onO (mapAt h L) λq=>onO (findX P kt k q.1) λr=>match r with
   | none=>some ⟨h.t.set (some (.map (app q.1 [(k,x,q.2)]) (Nat.succ q.2))) L,h.n⟩
   | some p=>onO (nth q.1 p.1) λe=>br (okKey k e.1) (some ⟨h.t.set (some (.map (app (tk q.1 p.1) ((k,x,e.2.2) :: dr q.1 (Nat.succ p.1))) q.2)) L,h.n⟩) none) none
 | _,_=>none
theorem ERs.app : ∀ {a b:List (XV×XV×Nat)} {m n:List MapEntry},ERs ρ a m->ERs ρ b n->ERs ρ (a++b) (m++n)
 | [],b,m,n,h1,h2=>by simp only [ERs] at h1; subst h1; exact h2
 | e :: a,b,m,n,h1,h2=>by
   simp only [ERs] at h1
   obtain ⟨x,m',rfl,g1,g2,g3,g4⟩:=h1
   exact ⟨x,m'++n,rfl,g1,g2,g3,g4.app h2⟩
theorem ERs.at : ∀ {a:List (XV×XV×Nat)} {m:List MapEntry} {i:Nat} {e:XV×XV×Nat},ERs ρ a m->a[i]? = some e->∃ x,m[i]? = some x/\XR ρ e.1 x.key/\XR ρ e.2.1 x.val/\e.2.2=x.born/\ERs ρ (a.take i) (m.take i)/\ERs ρ (a.drop (i+1)) (m.drop (i+1))
 | [],m,i,e,h1,h2=>by simp at h2
 | y :: a,m,i,e,h1,h2=>by
   simp only [ERs] at h1
   obtain ⟨x,m',rfl,g1,g2,g3,g4⟩:=h1
   cases i with
   | zero=>simp at h2; subst h2; exact ⟨x,rfl,g1,g2,g3,rfl,by simpa using g4⟩
   | succ i=>
     simp at h2
     obtain ⟨x',q1,q2,q3,q4,q5,q6⟩:=g4.at h2
     exact ⟨x',by simpa using q1,q2,q3,q4,⟨x,_,rfl,g1,g2,g3,q5⟩,by simpa using q6⟩
theorem findX_at {kt:TypeId} {key:XV} : ∀ {es:List (XV×XV×Nat)} {i:Nat} {x:XV},findX P kt key es=some (some (i,x))->∃ e,es[i]? = some e/\keq P kt key e.1=some true
 | [],i,x,h=>by rw [findX_nil] at h; cases h
 | e :: es,i,x,h=>by
   obtain ⟨b,h1,h2⟩:=findX_cons h
   rcases h2 with ⟨rfl,h3⟩ | ⟨rfl,r',h3,h4⟩
   ·cases h3; exact ⟨e,rfl,h1⟩
   ·cases r' with
    | none=>cases h4
    | some q=>
      cases h4
      obtain ⟨e',g1,g2⟩:=findX_at h3
      exact ⟨e',by simpa using g1,g2⟩
theorem upd_map {b:Nat} {o o':Obj} (hb:w.heap[b]? = some o):Mod (λx=>x=b) w {w with heap:=w.heap.setIfInBounds b o'}/\({w with heap:=w.heap.setIfInBounds b o'} : World).heap[b]? = some o':=
 ⟨(upd_set (o':=o') hb).mod,(upd_set (o':=o') hb).get⟩
theorem sameBits_of {kt:TypeId} {x y:XV} (hk:keq P kt x y=some true) (hag : ∀ l,x≠.agg l) {u v:Value} (hx:XR ρ x u) (hy:XR ρ y v):Instr.sameBits 10000 v u=true:=by
 unfold keq at hk
 split at hk
 ·exact absurd rfl (hag _)
 ·unfold eq1 at hk
  split at hk
  ·obtain ⟨h1,h2⟩:=br_some hk
   obtain rfl:=idxK_inj h1
   rw [ieq_eq] at h2
   simp only [XR] at hx hy
   subst hx hy
   have:=Option.some.inj h2
   simp at this; subst this
   simp [Instr.sameBits]
  ·simp only [XR] at hx hy
   subst hx hy
   rw [br_beq] at hk
   have:=Option.some.inj hk
   simp at this; subst this
   simp [Instr.sameBits]
  ·rw [seq_eq] at hk
   have:=Option.some.inj hk
   simp at this; subst this
   simp only [XR] at hx hy
   obtain ⟨_,rfl⟩:=hx
   obtain ⟨_,rfl⟩:=hy
   simp only [Instr.sameBits,strV]
   first | exact decide_eq_true rfl | (show ((_:ByteArray).data==_)=true; exact beq_self_eq_true _)
  ·cases hk
theorem xset_run (hi:Inv S0 w0 ρ h w) {T:TypeId} {m k x:XV} {h':Hp} (hr:xset P h T m k x=some h') {mv kv xv:Value} (hm:XR ρ m mv) (hk:XR ρ k kv) (hx:XR ρ x xv):HardU P S0 w0 ρ w (Instr.mapUpdate T mv kv xv) h':=by
 unfold xset at hr
 split at hr
 ·next kt et L hu=>
  obtain ⟨hkx,hr1⟩:=br_some hr
  obtain ⟨⟨es,c⟩,h1,hr2⟩:=onO_some hr1
  obtain ⟨r,h2,hr3⟩:=onO_some hr2
  clear hr hr1 hr2
  obtain ⟨b,s,ms,g1,g2,g3,g4⟩:=hi.map h1
  simp only [XR] at hm
  obtain ⟨b',s',e1,rfl⟩:=hm
  rw [g2] at e1; cases e1
  obtain ⟨q,h3,h4⟩:=findKey_ok (w:=w) hkx hk h2 g3
  cases r with
  | none=>
    cases h4
    cases hr3
    obtain ⟨u1,u2⟩:=upd_map (o':=.map (ms.toArray.push {key:=kv,val:=xv,born:=c}) (c+1)) g4
    refine ⟨_,by simp [Instr.mapUpdate,run_underlying hu,run_getMap g4,checkKey_ok hkx hk,h3,MapKept.run_setObj_map _ g4] <;> rfl,hi.upd g1 g2 u1 ⟨ms++[{key:=kv,val:=xv,born:=c}],?_,by simpa using u2⟩⟩
    rw [app_eq]
    exact g3.app ⟨_,_,rfl,hk,hx,rfl,rfl⟩
  | some p=>
    obtain ⟨i,px⟩:=p
    obtain ⟨v,rfl,h5⟩:=h4
    simp only at hr3
    ·obtain ⟨e,h6,hr⟩:=onO_some hr3
     obtain ⟨hok,hr⟩:=br_some hr
     cases hr
     rw [nth_eq] at h6
     obtain ⟨me,q1,q2,q3,q4,q5,q6⟩:=g3.at h6
     obtain ⟨e',q7,q8⟩:=findX_at h2
     rw [h6] at q7; cases q7
     have hsb:Instr.sameBits 10000 me.key kv=true:=by
      by_cases hag : ∃ l,k = .agg l
      ·obtain ⟨l,rfl⟩:=hag
       simp only [okKey] at hok
       split at hok
       ·next m hm=>
        rw [hm] at q2
        simp only [XR] at hk q2
        obtain ⟨us,j1,rfl⟩:=hk
        obtain ⟨vs,j2,j3⟩:=q2
        obtain ⟨j4,_,j5⟩:=sbitL_ok 9999 hok j1 j2
        rw [j3]
        simp only [Instr.sameBits,List.size_toArray,j4,beq_self_eq_true,Bool.true_and]
        exact j5
       ·cases hok
      ·exact sameBits_of q8 (λl e=>hag ⟨l,e⟩) hk q2
     obtain ⟨u1,u2⟩:=upd_map (o':=.map (ms.toArray.modify i λe=>{e with key:=kv,val:=xv}) c) g4
     have hlt:i<ms.length:=(List.getElem?_eq_some_iff.1 q1).1
     have hmi:ms[i]=me:=(List.getElem?_eq_some_iff.1 q1).2
     refine ⟨_,by simp [Instr.mapUpdate,run_underlying hu,run_getMap g4,checkKey_ok hkx hk,h3,hlt,hmi,Instr.keyThatStays,hsb,MapKept.run_setObj_map _ g4] <;> rfl,hi.upd g1 g2 u1 ⟨ms.take i++{me with key:=kv,val:=xv} :: ms.drop (i+1),?_,?_⟩⟩
     ·rw [app_eq,tk_eq,dr_eq]
      exact q5.app ⟨_,_,rfl,hk,hx,q4,q6⟩
     ·rw [u2]
      congr 2
      apply Array.ext'
      rw [Array.toList_modify]
      simp only
      rw [List.modify_eq_take_cons_drop hlt,hmi]
 ·cases hr
noncomputable def xent (P:Program) (h:Hp) (T:TypeId) (m k:XV):Option (XV×Hp):=match P.underlying T,m with
 | some (.map kt et),.map (some L)=>br (keyX P kt k) (onO (mapAt h L) λq=>onO (findX P kt k q.1) λr=>match r with
   | none=>onO (zeroV P et) λz=>some (.tup [z,.int .i64 (.ofNat q.2)],⟨h.t.set (some (.map (app q.1 [(k,z,q.2)]) (Nat.succ q.2))) L,h.n⟩)
   | some p=>onO (nth q.1 p.1) λe=>br (okKey k e.1) (some (.tup [p.2,.int .i64 (.ofNat e.2.2)],⟨h.t.set (some (.map (app (tk q.1 p.1) ((k,e.2.1,e.2.2) :: dr q.1 (Nat.succ p.1))) q.2)) L,h.n⟩)) none) none
 | _,_=>none
theorem sb_key {kt:TypeId} {k:XV} {es:List (XV×XV×Nat)} {i:Nat} {px:XV} {e:XV×XV×Nat} (h2:findX P kt k es=some (some (i,px))) (h6:es[i]? = some e) (hok:okKey k e.1=true) {kv u:Value} (hk:XR ρ k kv) (q2:XR ρ e.1 u):Instr.sameBits 10000 u kv=true:=by
 obtain ⟨e',q7,q8⟩:=findX_at h2
 rw [h6] at q7; cases q7
 by_cases hag : ∃ l,k = .agg l
 ·obtain ⟨l,rfl⟩:=hag
  simp only [okKey] at hok
  split at hok
  ·next m hm=>
   rw [hm] at q2
   simp only [XR] at hk q2
   obtain ⟨us,j1,rfl⟩:=hk
   obtain ⟨vs,j2,j3⟩:=q2
   obtain ⟨j4,_,j5⟩:=sbitL_ok 9999 hok j1 j2
   rw [j3]
   simp only [Instr.sameBits,List.size_toArray,j4,beq_self_eq_true,Bool.true_and]
   exact j5
  ·cases hok
 ·exact sameBits_of q8 (λl e=>hag ⟨l,e⟩) hk q2
theorem xent_run (hi:Inv S0 w0 ρ h w) {T:TypeId} {m k y:XV} {h':Hp} (hr:xent P h T m k=some (y,h')) {mv kv:Value} (hm:XR ρ m mv) (hk:XR ρ k kv):HardOk P S0 w0 ρ h.n w (Instr.mapEntry T mv kv) y h':=by
 unfold xent at hr
 split at hr
 ·next kt et L hu=>
  obtain ⟨hkx,hr1⟩:=br_some hr
  obtain ⟨⟨es,c⟩,h1,hr2⟩:=onO_some hr1
  obtain ⟨r,h2,hr3⟩:=onO_some hr2
  clear hr hr1 hr2
  obtain ⟨b,s,ms,g1,g2,g3,g4⟩:=hi.map h1
  simp only [XR] at hm
  obtain ⟨b',s',e1,rfl⟩:=hm
  rw [g2] at e1; cases e1
  obtain ⟨q,h3,h4⟩:=findKey_ok (w:=w) hkx hk h2 g3
  cases r with
  | none=>
    cases h4
    obtain ⟨z,h5,hr⟩:=onO_some hr3
    cases hr
    obtain ⟨zv,z1,z2⟩:=zeroV_ok h5
    obtain ⟨u1,u2⟩:=upd_map (o':=.map (ms.toArray.push {key:=kv,val:=zv,born:=c}) (c+1)) g4
    refine ⟨.tuple #[zv,goInt c],_,ρ,by simp [Instr.mapEntry,run_underlying hu,run_getMap g4,checkKey_ok hkx hk,h3,z1,MapKept.run_setObj_map _ g4] <;> rfl,Lab.up_refl _ _,?_,hi.upd g1 g2 u1 ⟨ms++[{key:=kv,val:=zv,born:=c}],?_,by simpa using u2⟩⟩
    ·simp only [XR,XRs]
     exact ⟨[zv,goInt c],⟨zv,_,rfl,z2 ρ,goInt c,[],rfl,rfl,rfl⟩,rfl⟩
    ·rw [app_eq]
     exact g3.app ⟨_,_,rfl,hk,z2 ρ,rfl,rfl⟩
  | some p=>
    obtain ⟨i,px⟩:=p
    obtain ⟨v,rfl,h5⟩:=h4
    simp only at hr3
    ·obtain ⟨e,h6,hr⟩:=onO_some hr3
     obtain ⟨hok,hr⟩:=br_some hr
     cases hr
     rw [nth_eq] at h6
     obtain ⟨me,q1,q2,q3,q4,q5,q6⟩:=g3.at h6
     have hsb:Instr.sameBits 10000 me.key kv=true:=sb_key h2 h6 hok hk q2
     obtain ⟨u1,u2⟩:=upd_map (o':=.map (ms.toArray.modify i λe=>{e with key:=kv}) c) g4
     have hlt:i<ms.length:=(List.getElem?_eq_some_iff.1 q1).1
     have hmi:ms[i]=me:=(List.getElem?_eq_some_iff.1 q1).2
     refine ⟨.tuple #[v,goInt me.born],_,ρ,by simp [Instr.mapEntry,run_underlying hu,run_getMap g4,checkKey_ok hkx hk,h3,hlt,hmi,Instr.keyThatStays,hsb,MapKept.run_setObj_map _ g4] <;> rfl,Lab.up_refl _ _,?_,hi.upd g1 g2 u1 ⟨ms.take i++{me with key:=kv} :: ms.drop (i+1),?_,?_⟩⟩
     ·simp only [XR,XRs]
      exact ⟨[v,goInt me.born],⟨v,_,rfl,h5,goInt me.born,[],rfl,by rw [q4]; rfl,rfl⟩,rfl⟩
     ·rw [app_eq,tk_eq,dr_eq]
      exact q5.app ⟨_,_,rfl,hk,q3,q4,q6⟩
     ·rw [u2]
      congr 2
      apply Array.ext'
      rw [Array.toList_modify]
      simp only
      rw [List.modify_eq_take_cons_drop hlt,hmi]
 ·cases hr
noncomputable def bornAt (b:Nat) (es:List (XV×XV×Nat)):Option Nat:=
 List.rec (motive:=λ_=>Option Nat) none (λe _ ih=>br (Nat.beq e.2.2 b) (some 0) (onO ih λi=>some (Nat.succ i))) es
theorem bornAt_ok {b:Nat} : ∀ {es:List (XV×XV×Nat)} {ms:List MapEntry} {i:Nat},ERs ρ es ms->bornAt b es=some i->ms.findIdx? (λe=>(e.born:Int)==(b:Int))=some i
 | [],ms,i,h1,h2=>by cases h2
 | e :: es,ms,i,h1,h2=>by
   simp only [ERs] at h1
   obtain ⟨x,m',rfl,g1,g2,g3,g4⟩:=h1
   have h2:br (Nat.beq e.2.2 b) (some 0) (onO (bornAt b es) λi=>some (Nat.succ i))=some i:=h2
   rw [List.findIdx?_cons]
   cases hb:Nat.beq e.2.2 b with
   | true=>
     rw [hb,br_t] at h2; cases h2
     have:e.2.2=b:=Nat.eq_of_beq_eq_true hb
     rw [if_pos (by rw [<-g3,this]; exact beq_self_eq_true _)]
   | false=>
     rw [hb,br_f] at h2
     obtain ⟨j,h3,h4⟩:=onO_some h2
     cases h4
     have:e.2.2≠b:=Nat.ne_of_beq_eq_false hb
     rw [if_neg (by rw [<-g3]; intro e; have:=eq_of_beq e; omega),bornAt_ok g4 h3]
     rfl
noncomputable def xest (h:Hp) (m s x:XV):Option Hp:=match m,s with
 | .map (some L),.int _ (.ofNat b)=>onO (mapAt h L) λq=>onO (bornAt b q.1) λi=>onO (nth q.1 i) λe=>some ⟨h.t.set (some (.map (app (tk q.1 i) ((e.1,x,e.2.2) :: dr q.1 (Nat.succ i))) q.2)) L,h.n⟩
 | _,_=>none
theorem xest_run (hi:Inv S0 w0 ρ h w) {T:TypeId} {m s x:XV} {h':Hp} (hr:xest h m s x=some h') {mv sv xv:Value} (hm:XR ρ m mv) (hs:XR ρ s sv) (hx:XR ρ x xv):HardU P S0 w0 ρ w (Instr.entryStore T mv sv xv) h':=by
 unfold xest at hr
 split at hr
 ·next L k b=>
  obtain ⟨⟨es,c⟩,h1,hr2⟩:=onO_some hr
  obtain ⟨i,h2,hr3⟩:=onO_some hr2
  obtain ⟨e,h6,hr4⟩:=onO_some hr3
  cases hr4
  clear hr hr2 hr3
  obtain ⟨bb,ss,ms,g1,g2,g3,g4⟩:=hi.map h1
  simp only [XR] at hm hs
  subst hs
  obtain ⟨b',s',e1,rfl⟩:=hm
  rw [g2] at e1; cases e1
  have hf:=bornAt_ok g3 h2
  rw [nth_eq] at h6
  obtain ⟨me,q1,q2,q3,q4,q5,q6⟩:=g3.at h6
  obtain ⟨u1,u2⟩:=upd_map (o':=.map (ms.toArray.modify i λe=>{e with val:=xv}) c) g4
  have hlt:i<ms.length:=(List.getElem?_eq_some_iff.1 q1).1
  have hmi:ms[i]=me:=(List.getElem?_eq_some_iff.1 q1).2
  refine ⟨_,by simp [Instr.entryStore,run_getMap g4,asInt,asIntOf,List.findIdx?_toArray,hf,MapKept.run_setObj_map _ g4] <;> rfl,hi.upd g1 g2 u1 ⟨ms.take i++{me with val:=xv} :: ms.drop (i+1),?_,?_⟩⟩
  ·rw [app_eq,tk_eq,dr_eq]
   exact q5.app ⟨_,_,rfl,q2,hx,q4,q6⟩
  ·rw [u2]
   congr 2
   apply Array.ext'
   rw [Array.toList_modify]
   simp only
   rw [List.modify_eq_take_cons_drop hlt,hmi]
 ·cases hr
noncomputable def clrPut (P:Program) (h:Hp) (t:TypeId) (L o n:Nat):Option Hp:=onO (elemX P t) λe=>br (Nat.beq n 0) (some h) (br (Nat.beq (sizeAt P e) 0) none (onO (zeroC P e) λzs=>br (Nat.beq (len zs) (sizeAt P e)) (br (allX XV.one (rep zs n)) (onO (h.t.get L) λob=>onO (rowO ob) λl=>br (Nat.ble (Nat.add o (len (rep zs n))) (len l)) (some ⟨h.t.set (some (updO ob (putX l o (rep zs n)))) L,h.n⟩) none) none) none))
theorem clrPut_run (hi:Inv S0 w0 ρ h w) {t ty:TypeId} {L o n c b s:Nat} {h':Hp} (hρ:ρ L=some (b,s)) (hr:clrPut P h t L o n=some h') : ∃ w',(Builtin.clear_ #[t] ty #[.slice (some ⟨b,o,none⟩) n c]).run P w = .ok (.tuple #[]) w'/\Inv S0 w0 ρ h' w':=by
 unfold clrPut at hr
 obtain ⟨e,h0,hr⟩:=onO_some hr
 obtain ⟨ht,hi'⟩:=elemX_ok h0
 rw [br_eq] at hr
 split at hr
 ·next h1=>
  cases hr
  have h1:n=0:=by simpa using h1
  subst h1
  exact ⟨w,by simp [Builtin.clear_,run_underlying ht],hi⟩
 ·next h1=>
  have h1 : ¬ n=0:=by simpa using h1
  obtain ⟨h2,hr⟩:=br_none hr
  obtain ⟨zs,h3,hr⟩:=onO_some hr
  obtain ⟨h4,hr⟩:=br_some hr
  obtain ⟨h5,hr⟩:=br_some hr
  obtain ⟨ob,h6,hr⟩:=onO_some hr
  obtain ⟨l,h7,hr⟩:=onO_some hr
  obtain ⟨h8,hr⟩:=br_some hr
  cases hr
  rw [len_eq] at h4
  have h4:=Nat.eq_of_beq_eq_true h4
  have h2 : ¬ sizeAt P e=0:=λe0=>by rw [e0] at h2; cases h2
  obtain ⟨i,z,g1,g2,g3⟩:=zeroC_ok h3
  have hl:=(g3 ρ).len
  have hsz:z.cells.size=sizeAt P e:=by rw [<-Array.length_toList,hl,h4]
  have hz:(Builtin.zeroCells z.cells n).toList=(List.replicate n z.cells.toList).flatten:=by
   unfold Builtin.zeroCells
   rw [range_rep z.cells z.cells.size rfl (by omega) n]
  have hc:=XRs_rep (g3 ρ) n
  rw [len_eq,len_eq] at h8
  obtain ⟨w',q1,q2⟩:=hi.put (P:=P) h6 h7 hρ hc (Nat.le_of_ble_eq_true h8) (allOne h5 hc)
  refine ⟨w',?_,q2⟩
  cases n with
  | zero=>exact absurd rfl h1
  | succ n=>simp [Builtin.clear_,run_underlying ht,zeroValue,typeInfo,g1,g2,hz,q1]
noncomputable def xclear (P:Program) (h:Hp) (t:TypeId) (x:XV):Option Hp:=match P.underlying t,x with
 | some _,.map none=>some h
 | some _,.sl none _ _=>some h
 | some _,.em _=>some h
 | some _,.map (some L)=>onO (mapAt h L) λq=>some ⟨h.t.set (some (.map [] q.2)) L,h.n⟩
 | some _,.sl (some (L,o)) n _=>clrPut P h t L o n
 | some _,.slu L o n _=>clrPut P h t L o n
 | _,_=>none
theorem xclear_run (hi:Inv S0 w0 ρ h w) {t ty:TypeId} {x:XV} {h':Hp} (hr:xclear P h t x=some h') {xv:Value} (hx:XR ρ x xv):HardOk P S0 w0 ρ h.n w (Builtin.clear_ #[t] ty #[xv]) (.tup []) h':=by
 have ok : ∀ {w':World},(Builtin.clear_ #[t] ty #[xv]).run P w = .ok (.tuple #[]) w'->Inv S0 w0 ρ h' w'->HardOk P S0 w0 ρ h.n w (Builtin.clear_ #[t] ty #[xv]) (.tup []) h':=λ{w'} a b=>⟨_,_,ρ,a,Lab.up_refl _ _,by simp only [XR]; exact ⟨[],rfl,rfl⟩,b⟩
 unfold xclear at hr
 split at hr
 ·next d hu=>cases hr; simp only [XR] at hx; subst hx; exact ok (by cases d <;> simp [Builtin.clear_,run_underlying hu]) hi
 ·next d n c hu=>cases hr; simp only [XR] at hx; subst hx; exact ok (by cases d <;> simp [Builtin.clear_,run_underlying hu]) hi
 ·next d L hu=>cases hr; simp only [XR] at hx; obtain ⟨b,s,o,c,_,rfl⟩:=hx; exact ok (by cases d <;> simp [Builtin.clear_,run_underlying hu]) hi
 ·next d L hu=>
  obtain ⟨⟨es,c⟩,h1,hr⟩:=onO_some hr
  cases hr
  obtain ⟨b,s,ms,g1,g2,g3,g4⟩:=hi.map h1
  simp only [XR] at hx
  obtain ⟨b',s',e1,rfl⟩:=hx
  rw [g2] at e1; cases e1
  obtain ⟨u1,u2⟩:=upd_map (o':=.map #[] c) g4
  exact ok (by cases d <;> simp [Builtin.clear_,run_underlying hu,run_getMap g4,MapKept.run_setObj_map _ g4] <;> rfl) (hi.upd g1 g2 u1 ⟨[],rfl,by simpa using u2⟩)
 ·next d L o n c hu=>
  simp only [XR] at hx
  obtain ⟨b,s,hρ,rfl⟩:=hx
  obtain ⟨w',a,b⟩:=clrPut_run (ty:=ty) (c:=c) hi hρ hr
  exact ok a b
 ·next d L o n k hu=>
  simp only [XR] at hx
  obtain ⟨b,s,c,hρ,rfl,_⟩:=hx
  obtain ⟨w',a,b⟩:=clrPut_run (ty:=ty) (c:=c) hi hρ hr
  exact ok a b
 ·cases hr
noncomputable def xdel (P:Program) (h:Hp) (T:TypeId) (m k:XV):Option Hp:=match P.underlying T with
 | some (.map kt _)=>br (keyX P kt k) (match m with
   | .map none=>some h
   | .map (some L)=>onO (mapAt h L) λq=>onO (findX P kt k q.1) λr=>match r with
     | none=>some ⟨h.t.set (some (.map q.1 q.2)) L,h.n⟩
     | some p=>some ⟨h.t.set (some (.map (app (tk q.1 p.1) (dr q.1 (Nat.succ p.1))) q.2)) L,h.n⟩
   | _=>none) none
 | _=>none
theorem xdel_run (hi:Inv S0 w0 ρ h w) {T t2 ty:TypeId} {m k:XV} {h':Hp} (hr:xdel P h T m k=some h') {mv kv:Value} (hm:XR ρ m mv) (hk:XR ρ k kv):HardOk P S0 w0 ρ h.n w (Builtin.delete_ #[T,t2] ty #[mv,kv]) (.tup []) h':=by
 unfold xdel at hr
 split at hr
 ·next kt et hu=>
  obtain ⟨hkx,hr1⟩:=br_some hr
  clear hr
  split at hr1
  ·cases hr1
   simp only [XR] at hm; subst hm
   exact ⟨.tuple #[],w,ρ,by simp [Builtin.delete_,run_underlying hu,checkKey_ok hkx hk],Lab.up_refl _ _,by simp only [XR]; exact ⟨[],rfl,rfl⟩,hi⟩
  ·next L=>
   obtain ⟨⟨es,c⟩,h1,hr2⟩:=onO_some hr1
   obtain ⟨r,h2,hr3⟩:=onO_some hr2
   clear hr1 hr2
   obtain ⟨b,s,ms,g1,g2,g3,g4⟩:=hi.map h1
   simp only [XR] at hm
   obtain ⟨b',s',e1,rfl⟩:=hm
   rw [g2] at e1; cases e1
   obtain ⟨q,h3,h4⟩:=findKey_ok (w:=w) hkx hk h2 g3
   cases r with
   | none=>
     cases h4
     cases hr3
     obtain ⟨u1,u2⟩:=upd_map (o':=.map ms.toArray c) g4
     exact ⟨.tuple #[],_,ρ,by simp [Builtin.delete_,run_underlying hu,run_getMap g4,checkKey_ok hkx hk,h3,MapKept.run_setObj_map _ g4] <;> rfl,Lab.up_refl _ _,by simp only [XR]; exact ⟨[],rfl,rfl⟩,hi.upd g1 g2 u1 ⟨ms,g3,u2⟩⟩
   | some p=>
     obtain ⟨i,px⟩:=p
     obtain ⟨v,rfl,h5⟩:=h4
     cases hr3
     obtain ⟨e',q7,q8⟩:=findX_at h2
     obtain ⟨me,q1,q2,q3,q4,q5,q6⟩:=g3.at q7
     have hlt:i<ms.length:=(List.getElem?_eq_some_iff.1 q1).1
     obtain ⟨u1,u2⟩:=upd_map (o':=.map (ms.toArray.eraseIdxIfInBounds (0+i)) c) g4
     have he:ms.toArray.eraseIdxIfInBounds (0+i)=(ms.take i++ms.drop (i+1)).toArray:=by
      unfold Array.eraseIdxIfInBounds
      simp [hlt,List.eraseIdx_eq_take_drop_succ]
     refine ⟨.tuple #[],_,ρ,by simp [Builtin.delete_,run_underlying hu,run_getMap g4,checkKey_ok hkx hk,h3,MapKept.run_setObj_map _ g4] <;> rfl,Lab.up_refl _ _,by simp only [XR]; exact ⟨[],rfl,rfl⟩,?_⟩
     have:=hi.upd (o':=.map (app (tk es i) (dr es (Nat.succ i))) c) g1 g2 u1 ⟨ms.take i++ms.drop (i+1),by rw [app_eq,tk_eq,dr_eq]; exact q5.app q6,by rw [u2,he]⟩
     simpa using this
  ·cases hr1
 ·cases hr
noncomputable def xlit (P:Program) (h:Hp) (s d:TypeId) (x:XV):Option (XV×Hp):=match P.underlying s,x with
 | some (.slice e),.sl (some (L,o)) n c=>br (Nat.beq s d) (match P.underlying e with
   | some (.int k)=>br (Nat.beq (idxK k) 4) (br (Nat.beq o 0) (onO (h.t.get L) λob=>match ob with
     | .cells l=>some (.sl (some (L,0)) n c,⟨h.t.set (some (.cells l)) L,h.n⟩)
     | _=>none) none) none
   | _=>none) none
 | _,_=>none
theorem xlit_run (hi:Inv S0 w0 ρ h w) {s d:TypeId} {x y:XV} {h':Hp} (hr:xlit P h s d x=some (y,h')) {v:Value} (hx:XR ρ x v):HardOk P S0 w0 ρ h.n w (convert s d v) y h':=by
 unfold xlit at hr
 split at hr
 ·next e L o n c hs=>
  obtain ⟨h1,hr1⟩:=br_some hr
  clear hr
  have h1:=Nat.eq_of_beq_eq_true h1
  subst h1
  split at hr1
  ·next k he=>
   obtain ⟨h2,hr2⟩:=br_some hr1
   obtain ⟨h3,hr3⟩:=br_some hr2
   obtain ⟨ob,h4,hr4⟩:=onO_some hr3
   clear hr1 hr2 hr3
   have:k = .u8:=by cases k <;> first | rfl | cases h2
   subst this
   have h3:=Nat.eq_of_beq_eq_true h3
   subst h3
   cases ob with
   | cells l=>
     cases hr4
     have hx':=hx
     simp only [XR] at hx'
     obtain ⟨b,sz,hρ,rfl⟩:=hx'
     obtain ⟨b',s',e1,⟨vs,T,g1,g2⟩,_⟩:=hi.dom L _ h4
     rw [hρ] at e1; cases e1
     obtain ⟨u,w',g3,g4,g5,g6⟩:=sem_convLit (P:=P) (n:=n) (c:=c) (K:=λu w'=>u = .slice (some ⟨b,0,none⟩) n c/\Blk w' b vs T/\Tch w w' b) hs he g2 (λw' q1 q2=>⟨rfl,q1,q2⟩)
     subst g4
     exact ⟨_,_,ρ,g3,Lab.up_refl _ _,hx,hi.upd h4 hρ g6.mod ⟨vs,T,g1,g5⟩⟩
   | _=>cases hr4
  ·cases hr1
 ·cases hr
noncomputable def xrange (P:Program) (h:Hp) (T:TypeId) (x:XV):Option (XV×Hp):=match P.underlying T,x with
 | some (.map _ _),.map none=>some (.ptr (some (h.n,0)),⟨h.t.set (some (.it none 0 [] 0)) h.n,Nat.succ h.n⟩)
 | some (.map _ _),.map (some L)=>onO (mapAt h L) λq=>some (.ptr (some (h.n,0)),⟨h.t.set (some (.it (some L) q.2 [] q.2)) h.n,Nat.succ h.n⟩)
 | _,_=>none
theorem le_new (hi:Inv S0 w0 ρ h w) (b s:Nat):Lab.le ρ (λM=>if M=h.n then some (b,s) else ρ M):=λM x e=>by
 by_cases hM:M=h.n
 ·subst hM; rw [hi.fresh _ (Nat.le_refl _)] at e; cases e
 ·simp [hM,e]
theorem xrange_run (hi:Inv S0 w0 ρ h w) {T:TypeId} {x y:XV} {h':Hp} (hr:xrange P h T x=some (y,h')) {v:Value} (hx:XR ρ x v):HardOk P S0 w0 ρ h.n w (Instr.range T v) y h':=by
 unfold xrange at hr
 split at hr
 ·next hu=>
  cases hr
  simp only [XR] at hx; subst hx
  have hn:=new_alloc w (.mapIter none 0 #[] 0)
  obtain ⟨g1,g2⟩:=hi.new (o:=.it none 0 [] 0) (b:=w.heap.size) (s:=0) rfl hn.mod hn.get
  exact ⟨.pointer (some ⟨w.heap.size,0,none⟩),_,_,by simp [Instr.range,run_underlying hu],Lab.up_new g2,by simp only [XR]; exact ⟨w.heap.size,0,by simp,rfl⟩,g1⟩
 ·next L hu=>
  obtain ⟨⟨es,c⟩,h1,hr⟩:=onO_some hr
  cases hr
  obtain ⟨b,s,ms,q1,q2,q3,q4⟩:=hi.map h1
  simp only [XR] at hx
  obtain ⟨b',s',e1,rfl⟩:=hx
  rw [q2] at e1; cases e1
  have hn:=new_alloc w (.mapIter (some b) c #[] c)
  obtain ⟨g1,g2⟩:=hi.new (o:=.it (some L) c [] c) (b:=w.heap.size) (s:=0) rfl hn.mod ⟨b,s,le_new hi _ _ _ _ q2,hn.get⟩
  exact ⟨.pointer (some ⟨w.heap.size,0,none⟩),_,_,by simp [Instr.range,run_underlying hu,run_getMap q4],Lab.up_new g2,by simp only [XR]; exact ⟨w.heap.size,0,by simp,rfl⟩,g1⟩
 ·cases hr
noncomputable def memN (n:Nat) (l:List Nat):Bool:=List.rec (motive:=λ_=>Bool) false (λa _ ih=>br (Nat.beq a n) true ih) l
theorem memN_eq (n:Nat) : ∀ l,memN n l=l.contains n
 | []=>rfl
 | a :: l=>by
   show br (Nat.beq a n) true (memN n l)=_
   have e:Nat.beq a n=(n==a):=by
    rw [Bool.eq_iff_iff]
    simp only [Nat.beq_eq,beq_iff_eq]
    exact eq_comm
   rw [memN_eq n l,List.contains_cons,br_or,e]
noncomputable def filt {α:Type} (p:α->Bool) (l:List α):List α:=List.rec (motive:=λ_=>List α) [] (λa _ ih=>br (p a) (a :: ih) ih) l
theorem filt_eq {α:Type} (p:α->Bool) : ∀ l:List α,filt p l=l.filter p
 | []=>rfl
 | a :: l=>by show br (p a) (a :: filt p l) (filt p l)=_; rw [filt_eq p l,br_eq,List.filter_cons]
theorem run_getIter {P:Program} {w:World} {b:Nat} {m:Option Nat} {a:Nat} {s:Array Nat} {l:Nat} (h:w.heap[b]? = some (.mapIter m a s l)):(getObj b).run P w = .ok (.mapIter m a s l) w:=by
 simp [getObj,Sem.run,h]
noncomputable def xnext (h:Hp) (x:XV):Option (XV×Hp):=match x with
 | .ptr (some (L,0))=>onO (h.t.get L) λob=>match ob with
   | .it none _ _ _=>some (.tup [.bool false],h)
   | .it (some M) since seen last=>onO (mapAt h M) λq=>
     br (allX (λe=>Nat.blt e.2.2 last) q.1) (br (allX (λe=>Nat.blt e.2.2 since) q.1) (match filt (λe=>br (memN e.2.2 seen) false true) q.1 with
      | []=>some (.tup [.bool false],h)
      | [e]=>some (.tup [.bool true,e.1,e.2.1],⟨h.t.set (some (.it (some M) since (app seen [e.2.2]) q.2)) L,h.n⟩)
      | _=>none) none) none
   | _=>none
 | _=>none
theorem ERs.filter {p:Nat->Bool} : ∀ {a:List (XV×XV×Nat)} {m:List MapEntry},ERs ρ a m->ERs ρ (a.filter λe=>p e.2.2) (m.filter λe=>p e.born)
 | [],m,h=>by simp only [ERs] at h; subst h; rfl
 | e :: a,m,h=>by
   simp only [ERs] at h
   obtain ⟨x,m',rfl,g1,g2,g3,g4⟩:=h
   rw [List.filter_cons,List.filter_cons,g3]
   split
   ·exact ⟨x,_,rfl,g1,g2,g3,g4.filter⟩
   ·exact g4.filter
theorem ERs.all {p:Nat->Bool} : ∀ {a:List (XV×XV×Nat)} {m:List MapEntry},ERs ρ a m->(a.all λe=>p e.2.2)=m.all λe=>p e.born
 | [],m,h=>by simp only [ERs] at h; subst h; rfl
 | e :: a,m,h=>by
   simp only [ERs] at h
   obtain ⟨x,m',rfl,g1,g2,g3,g4⟩:=h
   rw [List.all_cons,List.all_cons,g3,g4.all]
theorem xnext_run (hi:Inv S0 w0 ρ h w) {ty:TypeId} {x y:XV} {h':Hp} (hr:xnext h x=some (y,h')) {v:Value} (hx:XR ρ x v):HardOk P S0 w0 ρ h.n w (Instr.next v false ty) y h':=by
 unfold xnext at hr
 split at hr
 ·next L=>
  obtain ⟨ob,h1,hr1⟩:=onO_some hr
  clear hr
  obtain ⟨b,s,h2,ho,_⟩:=hi.dom L ob h1
  simp only [XR] at hx
  obtain ⟨b',s',e1,rfl⟩:=hx
  rw [h2] at e1; cases e1
  have hover:XR ρ (.tup [.bool false]) (.tuple #[.bool false]):=by simp only [XR]; exact ⟨[.bool false],⟨_,_,rfl,rfl,rfl⟩,rfl⟩
  cases ob with
  | it m since seen last=>
    cases m with
    | none=>
      cases hr1
      have ho:w.heap[b]? = some (.mapIter none since seen.toArray last):=ho
      exact ⟨_,w,ρ,by simp [Instr.next,getObj,Sem.run,ho],Lab.up_refl _ _,hover,hi⟩
    | some M=>
      obtain ⟨mb,ms',g1,g2⟩:=ho
      simp only at hr1
      obtain ⟨⟨es,c⟩,h3,hr2⟩:=onO_some hr1
      obtain ⟨h4,hr3⟩:=br_some hr2
      obtain ⟨h5,hr4⟩:=br_some hr3
      clear hr1 hr2 hr3
      obtain ⟨b2,s2,ms,q1,q2,q3,q4⟩:=hi.map h3
      rw [g1] at q2; cases q2
      rw [allX_eq] at h4 h5
      rw [filt_eq] at hr4
      have a4:(ms.all λe=>Nat.blt e.born last)=true:=by rw [<-q3.all (p:=λn=>Nat.blt n last)]; exact h4
      have a5:(ms.all λe=>Nat.blt e.born since)=true:=by rw [<-q3.all (p:=λn=>Nat.blt n since)]; exact h5
      have hge:ms=[]\/(ms.toArray.all λe=>decide (e.born>=last))=false:=by
       cases ms with
       | nil=>exact .inl rfl
       | cons e r=>
         right
         simp only [List.all_cons,Bool.and_eq_true,Nat.blt_eq] at a4
         simp only [List.all_toArray,List.all_cons,Bool.and_eq_false_iff,decide_eq_false_iff_not]
         left; exact Nat.not_le_of_lt a4.1
      have hf:(ms.toArray.filter λe=>!seen.toArray.contains e.born)=(ms.filter λe=>br (memN e.born seen) false true).toArray:=by
       apply Array.ext'
       rw [Array.toList_filter]
       congr 1
       funext e
       rw [br_not,memN_eq]; simp
      have hl:=q3.filter (p:=λn=>br (memN n seen) false true)
      have hun : ¬ ((!seen.toArray.isEmpty&&!ms.toArray.isEmpty&&ms.toArray.all λe=>decide (e.born>=last))=true):=by
       rcases hge with h | h
       ·subst h; simp
       ·rw [h]; simp
      have hold : ∀ e∈(ms.filter λe=>br (memN e.born seen) false true),e.born<since:=λe he=>by
       have:=List.all_eq_true.1 a5 e (List.mem_filter.1 he).1
       simpa [Nat.blt_eq] using this
      split at hr4
      ·next hnil=>
       cases hr4
       rw [hnil] at hl
       simp only [ERs] at hl
       rw [hl] at hf
       refine ⟨_,w,ρ,?_,Lab.up_refl _ _,hover,hi⟩
       unfold Instr.next
       simp only [Sem.run_bind,run_getIter g2,Result.andThen_ok,run_getMap q4,if_neg hun,hf]
       simp [choose,Sem.run,Question.forced]
      ·next e hone=>
       cases hr4
       rw [hone] at hl
       simp only [ERs] at hl
       obtain ⟨me,ms2,hm1,hm2,hm3,hm4,rfl⟩:=hl
       rw [hm1] at hf
       have hlt:me.born<since:=hold me (by rw [hm1]; simp)
       obtain ⟨u1,u2⟩:=upd_map (o':=.mapIter (some mb) since (seen.toArray.push me.born) c) g2
       refine ⟨.tuple #[.bool true,me.key,me.val],_,ρ,?_,Lab.up_refl _ _,?_,hi.upd h1 h2 u1 ⟨mb,_,g1,by rw [u2,app_eq,hm4]; simp⟩⟩
       ·unfold Instr.next
        simp only [Sem.run_bind,run_getIter g2,Result.andThen_ok,run_getMap q4,if_neg hun,hf]
        simp [choose,Sem.run,Question.forced,hlt,Nat.not_le_of_lt hlt,setObj,g2]
       ·simp only [XR]
        exact ⟨[.bool true,me.key,me.val],⟨_,_,rfl,rfl,_,_,rfl,hm2,_,_,rfl,hm3,rfl⟩,rfl⟩
      ·cases hr4
  | _=>cases hr1
 ·cases hr
end
def GOk (G:World->Prop) (S0:Nat->Prop) (w0:World):Prop:=∀ w,Mod S0 w0 w->G w
def CallOk (P:Program) (G:World->Prop) (f:FuncId) (xs:List XV) (h:Hp) (y:XV) (h':Hp):Prop:=
 ∀ (S0:Nat->Prop) (w0:World) (ρ:Lab) (w:World) (vs:List Value),GOk G S0 w0->Inv S0 w0 ρ h w->XRs ρ xs vs->
   Calls P f vs.toArray w λe w'=>∃ v ρ',e = .returned v/\Lab.up h.n ρ ρ'/\XR ρ' y v/\Inv S0 w0 ρ' h' w'
def ExtOk (P:Program) (f:FuncId) (xs:List XV) (y:XV):Prop:=∀ (ρ:Lab) (w:World) (vs:List Value),XRs ρ xs vs->∃ v,(callFunc f vs.toArray).run P w = .ok (.value v) w/\XR ρ y v
structure CallsX where
 c:FuncId->List XV->Hp->Option (XV×Hp)
 e:FuncId->List XV->Option XV
 g:Nat->TypeId->Option XV
 q:FuncId->List XV->Hp->Option XV
 y:Nat->List XV->Hp->Option (XV×Hp)
 x:FuncId->List XV->Hp->Option (XV×Hp)
def QuietOk (P:Program) (G:World->Prop) (f:FuncId) (xs:List XV) (h:Hp) (y:XV):Prop:=
 ∀ (S0:Nat->Prop) (w0:World) (ρ:Lab) (w:World) (vs:List Value),GOk G S0 w0->Inv S0 w0 ρ h w->XRs ρ xs vs->
   Calls P f vs.toArray w λe w'=>∃ v,e = .returned v/\XR ρ y v/\Inv S0 w0 ρ h w'
def GlobOk (P:Program) (G:World->Prop) (g:Nat) (T:TypeId) (y:XV):Prop:=∀ w,G w->∃ u,(Instr.loadAt T (.pointer (some ⟨g,0,none⟩))).run P w = .ok u w/\∀ ρ,XR ρ y u
def ExtHOk (P:Program) (f:FuncId) (xs:List XV) (h:Hp) (y:XV) (h':Hp):Prop:=
 ∀ (S0:Nat->Prop) (w0:World) (ρ:Lab) (w:World) (vs:List Value),Inv S0 w0 ρ h w->XRs ρ xs vs->∃ v w' ρ',(callFunc f vs.toArray).run P w = .ok (.value v) w'/\Lab.up h.n ρ ρ'/\XR ρ' y v/\Inv S0 w0 ρ' h' w'
def YieldOk (P:Program) (G:World->Prop) (L:Nat) (xs:List XV) (h:Hp) (y:XV) (h':Hp):Prop:=
 ∀ (S0:Nat->Prop) (w0:World) (ρ:Lab) (w:World) (vs:List Value) (b s:Nat),GOk G S0 w0->Inv S0 w0 ρ h w->XRs ρ xs vs->ρ L=some (b,s)->
   yieldK P b vs w λv w'=>∃ ρ',Lab.up h.n ρ ρ'/\XR ρ' y v/\Inv S0 w0 ρ' h' w'
structure CallsOk (P:Program) (G:World->Prop) (C:CallsX):Prop where
 c : ∀ f xs h y h',C.c f xs h=some (y,h')->CallOk P G f xs h y h'
 e : ∀ f xs y,C.e f xs=some y->ExtOk P f xs y
 g : ∀ g T y,C.g g T=some y->GlobOk P G g T y
 q : ∀ f xs h y,C.q f xs h=some y->QuietOk P G f xs h y
 y : ∀ L xs h y h',C.y L xs h=some (y,h')->YieldOk P G L xs h y h'
 x : ∀ f xs h y h',C.x f xs h=some (y,h')->ExtHOk P f xs h y h'
noncomputable def xquiet (P:Program) (C:CallsX) (env:XE) (h:Hp) (op:Op):Option XV:=match op with
 | .call {callee:=.value fo,args,..}=>onO (evX env fo) λv=>onO (evsX env args.toList) λxs=>(match v with
   | .fn f a c=>br (enters P f) (C.q f (app a (app xs c)) h) none
   | _=>none)
 | .load T a=>onO (evX env a) λx=>xload P h T x
 | _=>none
noncomputable def xglob (C:CallsX) (op:Op):Option XV:=match op with
 | .load T x=>(match x with | .global g=>C.g g T | _=>none)
 | _=>none
noncomputable def xbuiltin (P:Program) (h:Hp) (b:Builtin) (xs:List XV) (ts:List TypeId):Option (XV×Hp):=match b with
 | .append=>match xs,ts with
   | [s,x],[t,t2]=>xappend P h t t2 s x
   | _,_=>none
 | .copy=>match xs,ts with
   | [d,x],[t,_]=>xcopy P h t d x
   | _,_=>none
 | .delete=>match xs,ts with
   | [m,k],[T,_]=>onO (xdel P h T m k) λh'=>some (.tup [],h')
   | _,_=>none
 | .clear=>match xs,ts with
   | [x],[T]=>onO (xclear P h T x) λh'=>some (.tup [],h')
   | _,_=>none
 | _=>none
noncomputable def xcall (P:Program) (C:CallsX) (v:XV) (xs:List XV) (h:Hp):Option (XV×Hp):=match v with
 | .fn f a c=>br (enters P f) (C.c f (app a (app xs c)) h) (match C.e f (app a (app xs c)) with | some y=>some (y,h) | none=>C.x f (app a (app xs c)) h)
 | .yld L=>C.y L xs h
 | _=>none
noncomputable def xhard (P:Program) (C:CallsX) (env:XE) (h:Hp) (op:Op):Option (XV×Hp):=match op with
 | .store T a v=>onO (evX env a) λx=>onO (evX env v) λy=>onO (xstore P h T x y) λh'=>some (.tup [],h')
 | .mapUpdate T m k v=>onO (evX env m) λx=>onO (evX env k) λy=>onO (evX env v) λz=>onO (xset P h T x y z) λh'=>some (.tup [],h')
 | .mapEntry T m k=>onO (evX env m) λx=>onO (evX env k) λy=>xent P h T x y
 | .entryStore _ m s v=>onO (evX env m) λx=>onO (evX env s) λy=>onO (evX env v) λz=>onO (xest h x y z) λh'=>some (.tup [],h')
 | .insert T m k v=>onO (evX env m) λx=>onO (evX env k) λy=>onO (evX env v) λz=>onO (xset P h T x y z) λh'=>some (.tup [],h')
 | .convert s d x=>onO (evX env x) λy=>xlit P h s d y
 | .range T x=>onO (evX env x) λy=>xrange P h T y
 | .next it st=>br st none (onO (evX env it) λy=>xnext h y)
 | .call {callee:=.value fo,args,..}=>onO (evX env fo) λv=>onO (evsX env args.toList) λxs=>xcall P C v xs h
 | .call {callee:=.builtin b,args,argTypes}=>onO (evsX env args.toList) λxs=>xbuiltin P h b xs argTypes.toList
 | _=>none
section
variable {P:Program} {G:World->Prop} {C:CallsX} {S0:Nat->Prop} {w0 w:World} {ρ:Lab} {h h':Hp} {a:Act} {K:Act->World->Prop} {Q:Exit->Act->World->Prop} {env:XE} {o:Oper} {y:XV} {r:Option Nat}
theorem hardOk_wp (hdf:isDefer o.op=false) {s:Sem Value} (he:execOp a.eval o=(do let x <-s; pure (Next.value x))) (hh:HardOk P S0 w0 ρ h.n w s y h')
 (hk : ∀ v w' ρ',Lab.up h.n ρ ρ'->XR ρ' y v->Inv S0 w0 ρ' h' w'->K (a.put o.dst v) w'):o.wpIn (Fr r) 0 P a w K Q:=by
 obtain ⟨v,w',ρ',h1,h2,h3,h4⟩:=hh
 exact up_value hdf (by rw [he]; simp [h1]) (hk v w' ρ' h2 h3 h4)
theorem undef_ok:XR ρ (.tup []) undef:=by simp only [XR]; exact ⟨[],rfl,rfl⟩
theorem hardU_wp (hdf:isDefer o.op=false) {s:Sem Unit} (he:execOp a.eval o=(do s; pure Next.skip)) (hh:HardU P S0 w0 ρ w s h')
 (hk : ∀ v w' ρ',Lab.up h.n ρ ρ'->XR ρ' (.tup []) v->Inv S0 w0 ρ' h' w'->K (a.put o.dst v) w'):o.wpIn (Fr r) 0 P a w K Q:=by
 obtain ⟨w',h1,h2⟩:=hh
 exact up_skip hdf (by rw [he]; simp [h1]) (hk undef w' ρ (Lab.up_refl _ _) undef_ok h2)
theorem XRs_app {ρ:Lab} : ∀ {xs ys:List XV} {us vs:List Value},XRs ρ xs us->XRs ρ ys vs->XRs ρ (app xs ys) (us++vs)
 | [],ys,us,vs,h1,h2=>by simp only [XRs] at h1; subst h1; exact h2
 | x :: xs,ys,us,vs,h1,h2=>by
   simp only [XRs] at h1
   obtain ⟨u,us',rfl,h3,h4⟩:=h1
   exact ⟨u,us'++vs,rfl,h3,XRs_app h4 h2⟩
theorem args_of {ρ:Lab} {xs:List XV} {args:Array Operand} {a:Act} (h:XRs ρ xs (args.toList.map a.eval)):XRs ρ xs (args.map a.eval).toList:=by simpa using h
theorem ar1 {ρ:Lab} {x:XV} {args:Array Operand} {a:Act} (h:XRs ρ [x] (args.toList.map a.eval)) : ∃ u,args.map a.eval = #[u]/\XR ρ x u:=by
 simp only [XRs] at h
 obtain ⟨u,us,h1,h2,rfl⟩:=h
 exact ⟨u,by apply Array.ext'; simpa using h1,h2⟩
theorem ar2 {ρ:Lab} {x y:XV} {args:Array Operand} {a:Act} (h:XRs ρ [x,y] (args.toList.map a.eval)) : ∃ u v,args.map a.eval = #[u,v]/\XR ρ x u/\XR ρ y v:=by
 simp only [XRs] at h
 obtain ⟨u,us,h1,h2,v,vs,rfl,h3,rfl⟩:=h
 exact ⟨u,v,by apply Array.ext'; simpa using h1,h2,h3⟩
theorem xhard_wp (hC:CallsOk P G C) (hG:GOk G S0 w0) (hi:Inv S0 w0 ρ h w) (hr:xhard P C env h o.op=some (y,h')) (he:EnvOk ρ env a.tmps)
 (hk : ∀ v w' ρ',Lab.up h.n ρ ρ'->XR ρ' y v->Inv S0 w0 ρ' h' w'->K (a.put o.dst v) w'):o.wpIn (Fr r) 0 P a w K Q:=by
 obtain ⟨dst,op,type,pos,after,guard⟩:=o
 simp only at hr
 unfold xhard at hr
 split at hr
 ·next T p x=>
  obtain ⟨u,h1,hr⟩:=onO_some hr
  obtain ⟨v,h2,hr⟩:=onO_some hr
  obtain ⟨hh,h3,hr⟩:=onO_some hr
  cases hr
  exact hardU_wp rfl rfl (xstore_run hi h3 (evX_ok he h1) (evX_ok he h2)) hk
 ·next T m k x=>
  obtain ⟨u,h1,hr⟩:=onO_some hr
  obtain ⟨v,h2,hr⟩:=onO_some hr
  obtain ⟨z,h4,hr⟩:=onO_some hr
  obtain ⟨hh,h3,hr⟩:=onO_some hr
  cases hr
  exact hardU_wp rfl rfl (xset_run hi h3 (evX_ok he h1) (evX_ok he h2) (evX_ok he h4)) hk
 ·next T m k=>
  obtain ⟨u,h1,hr⟩:=onO_some hr
  obtain ⟨v,h2,hr⟩:=onO_some hr
  exact hardOk_wp rfl rfl (xent_run hi hr (evX_ok he h1) (evX_ok he h2)) hk
 ·next T m k x=>
  obtain ⟨u,h1,hr⟩:=onO_some hr
  obtain ⟨v,h2,hr⟩:=onO_some hr
  obtain ⟨z,h4,hr⟩:=onO_some hr
  obtain ⟨hh,h3,hr⟩:=onO_some hr
  cases hr
  exact hardU_wp rfl rfl (xest_run hi h3 (evX_ok he h1) (evX_ok he h2) (evX_ok he h4)) hk
 ·next T m k x=>
  obtain ⟨u,h1,hr⟩:=onO_some hr
  obtain ⟨v,h2,hr⟩:=onO_some hr
  obtain ⟨z,h4,hr⟩:=onO_some hr
  obtain ⟨hh,h3,hr⟩:=onO_some hr
  cases hr
  exact hardU_wp rfl rfl (xset_run hi h3 (evX_ok he h1) (evX_ok he h2) (evX_ok he h4)) hk
 ·next s d x=>
  obtain ⟨u,h1,hr⟩:=onO_some hr
  exact hardOk_wp rfl rfl (xlit_run hi hr (evX_ok he h1)) hk
 ·next T x=>
  obtain ⟨u,h1,hr⟩:=onO_some hr
  exact hardOk_wp rfl rfl (xrange_run hi hr (evX_ok he h1)) hk
 ·next it st=>
  obtain ⟨hs,hr1⟩:=br_none hr
  obtain ⟨u,h1,hr2⟩:=onO_some hr1
  clear hr hr1
  subst hs
  exact hardOk_wp rfl rfl (xnext_run hi hr2 (evX_ok he h1)) hk
 ·next fo args at_=>
  obtain ⟨v,h1,hr⟩:=onO_some hr
  obtain ⟨xs,h2,hr⟩:=onO_some hr
  have hv:=evX_ok he h1
  have hxs:=args_of (evsX_ok he h2)
  unfold xcall at hr
  cases v with
  | fn f b c=>
    simp only [XR] at hv
    obtain ⟨us,vs,g1,g2,hv⟩:=hv
    have earr:(us++((args.map a.eval).toList++vs)).toArray=us.toArray++args.map a.eval++vs.toArray:=by apply Array.ext'; simp
    have hr:br (enters P f) (C.c f (app b (app xs c)) h) (match C.e f (app b (app xs c)) with | some y=>some (y,h) | none=>C.x f (app b (app xs c)) h)=some (y,h'):=hr
    cases h3:enters P f with
    | false=>
      rw [h3,br_f] at hr
      cases h4:C.e f (app b (app xs c)) with
      | none=>
        rw [h4] at hr
        obtain ⟨v,w',ρ',h5,h6,h7,h8⟩:=hC.x _ _ _ _ _ hr S0 w0 ρ w _ hi (XRs_app g1 (XRs_app hxs g2))
        refine up_value rfl (v:=v) (w':=w') ?_ (hk v w' ρ' h6 h7 h8)
        rw [earr] at h5
        simp only [execOp,resolve,hv,Deferred.ofValue,Sem.run_bind,Sem.run_pure,Result.andThen_ok,invoke]
        exact h5
      | some y'=>
      rw [h4] at hr
      cases hr
      obtain ⟨v,h5,h6⟩:=hC.e _ _ _ h4 ρ w _ (XRs_app g1 (XRs_app hxs g2))
      refine up_value rfl (v:=v) (w':=w) ?_ (hk v w ρ (Lab.up_refl _ _) h6 hi)
      rw [earr] at h5
      simp only [execOp,resolve,hv,Deferred.ofValue,Sem.run_bind,Sem.run_pure,Result.andThen_ok,invoke]
      exact h5
    | true=>
    rw [h3,br_t] at hr
    have hcall:=hC.c _ _ _ _ _ hr S0 w0 ρ w _ hG hi (XRs_app g1 (XRs_app hxs g2))
    unfold Oper.wpIn
    have hrun:(execOp a.eval {dst:=dst,op:=.call {callee:=.value fo,args:=args,argTypes:=at_},type:=type,pos:=pos,after:=after,guard:=guard}).run P w = .ok (.enter f (us++((args.map a.eval).toList++vs)).toArray) w:=by
     rw [earr]
     simp only [execOp,resolve,hv,Deferred.ofValue,Sem.run_bind,Sem.run_pure,Result.andThen_ok,invoke]
     exact enters_run h3 w
    rw [semAt_plain rfl,hrun,Oper.uponIn_enter]
    refine ⟨λ_ _=>trivial,λh=>by simp [Fence.wide] at h,callsIn_fr.2 (Calls.mono hcall λe w' hq=>?_)⟩
    obtain ⟨v,ρ',rfl,q1,q2,q3⟩:=hq
    exact hk v w' ρ' q1 q2 q3
  | yld L=>
    simp only [XR] at hv
    obtain ⟨b,s,g1,hv⟩:=hv
    have hr:C.y L xs h=some (y,h'):=hr
    obtain ⟨f,tmps,assign,body,k1,k2⟩:=hC.y L xs h y h' hr S0 w0 ρ w _ b s hG hi hxs g1
    unfold Oper.wpIn
    have hrun:(execOp a.eval {dst:=dst,op:=.call {callee:=.value fo,args:=args,argTypes:=at_},type:=type,pos:=pos,after:=after,guard:=guard}).run P w = .ok (.round b f tmps assign body) w:=by
     simp only [execOp,resolve,hv,Deferred.ofValue,Sem.run_bind,Sem.run_pure,Result.andThen_ok]
     rw [Array.toArray_toList] at k1
     simpa [invoke] using k1
    rw [semAt_plain rfl,hrun,Oper.uponIn_round]
    refine ⟨λ_ _=>trivial,λh=>by simp [Fence.wide] at h,?_⟩
    have k2':RoundIn (Fr r) (0 - 1) P b f tmps assign body w λe w'=>∃ v,e = .returned v/\∃ ρ',Lab.up h.n ρ ρ'/\XR ρ' y v/\Inv S0 w0 ρ' h' w':=k2
    refine RoundIn.mono k2' λe w' he=>?_
    obtain ⟨v,rfl,ρ',q1,q2,q3⟩:=he
    exact hk v w' ρ' q1 q2 q3
  | _=>cases hr
 ·next b args argTypes=>
  obtain ⟨xs,h2,hr⟩:=onO_some hr
  have hxs:=evsX_ok he h2
  have hex : ∀ s:Sem Value,(∀ cs,builtin b argTypes type cs (args.map a.eval)=(do let x <-s; pure (Next.value x)))->execOp a.eval {dst:=dst,op:=.call {callee:=.builtin b,args:=args,argTypes:=argTypes},type:=type,pos:=pos,after:=after,guard:=guard} = (do let x <-s; pure (Next.value x)):=λs e=>by
   simp only [execOp,resolve,invoke,pure_bind,e]
  unfold xbuiltin at hr
  split at hr
  ·split at hr
   ·next s x t t2 ht=>
    have ht:argTypes = #[t,t2]:=by apply Array.ext'; simpa using ht
    obtain ⟨u,v,e,g1,g2⟩:=ar2 hxs
    refine hardOk_wp rfl (hex _ λcs=>?_) (xappend_run (ty:=type) hi hr g1 g2) hk
    rw [e,ht]; rfl
   ·cases hr
  ·split at hr
   ·next d x t t2 ht=>
    have ht:argTypes = #[t,t2]:=by apply Array.ext'; simpa using ht
    obtain ⟨u,v,e,g1,g2⟩:=ar2 hxs
    refine hardOk_wp rfl (hex _ λcs=>?_) (xcopy_run (t2:=t2) (ty:=type) hi hr g1 g2) hk
    rw [e,ht]; rfl
   ·cases hr
  ·split at hr
   ·next m k T t2 ht=>
    have ht:argTypes = #[T,t2]:=by apply Array.ext'; simpa using ht
    obtain ⟨u,v,e,g1,g2⟩:=ar2 hxs
    obtain ⟨hh,h3,hr⟩:=onO_some hr
    cases hr
    refine hardOk_wp rfl (hex _ λcs=>?_) (xdel_run (t2:=t2) (ty:=type) hi h3 g1 g2) hk
    rw [e,ht]; rfl
   ·cases hr
  ·split at hr
   ·next x T ht=>
    have ht:argTypes = #[T]:=by apply Array.ext'; simpa using ht
    obtain ⟨u,e,g1⟩:=ar1 hxs
    obtain ⟨hh,h3,hr⟩:=onO_some hr
    cases hr
    refine hardOk_wp rfl (hex _ λcs=>?_) (xclear_run (ty:=type) hi h3 g1) hk
    rw [e,ht]; rfl
   ·cases hr
  ·cases hr
 ·cases hr
theorem xglob_run (hC:CallsOk P G C) (hr:xglob C o.op=some y) (hw:G w) (a:Act) (ρ:Lab) : ∃ v,(execOp a.eval o).run P w = .ok (.value v) w/\XR ρ y v:=by
 obtain ⟨dst,op,type,pos,after,guard⟩:=o
 simp only at hr
 unfold xglob at hr
 split at hr
 ·next T x=>
  split at hr
  ·next g=>
   obtain ⟨u,h1,h2⟩:=hC.g g T y hr w hw
   refine ⟨u,?_,h2 ρ⟩
   have:a.eval (.global g) = .pointer (some ⟨g,0,none⟩):=rfl
   simp only [execOp,this]
   simp [h1]
  ·cases hr
 ·cases hr
theorem xquiet_wp (hC:CallsOk P G C) (hG:GOk G S0 w0) (hi:Inv S0 w0 ρ h w) (hr:xquiet P C env h o.op=some y) (he:EnvOk ρ env a.tmps)
 (hk : ∀ v w',XR ρ y v->Inv S0 w0 ρ h w'->K (a.put o.dst v) w'):o.wpIn (Fr r) 0 P a w K Q:=by
 obtain ⟨dst,op,type,pos,after,guard⟩:=o
 simp only at hr
 unfold xquiet at hr
 split at hr
 ·next fo args at_=>
  obtain ⟨v,h1,hr⟩:=onO_some hr
  obtain ⟨xs,h2,hr⟩:=onO_some hr
  have hv:=evX_ok he h1
  have hxs:=args_of (evsX_ok he h2)
  cases v with
  | fn f b c=>
    simp only [XR] at hv
    obtain ⟨us,vs,g1,g2,hv⟩:=hv
    have earr:(us++((args.map a.eval).toList++vs)).toArray=us.toArray++args.map a.eval++vs.toArray:=by apply Array.ext'; simp
    have hr:br (enters P f) (C.q f (app b (app xs c)) h) none=some y:=hr
    obtain ⟨h3,hr⟩:=br_some hr
    have hcall:=hC.q _ _ _ _ hr S0 w0 ρ w _ hG hi (XRs_app g1 (XRs_app hxs g2))
    unfold Oper.wpIn
    have hrun:(execOp a.eval {dst:=dst,op:=.call {callee:=.value fo,args:=args,argTypes:=at_},type:=type,pos:=pos,after:=after,guard:=guard}).run P w = .ok (.enter f (us++((args.map a.eval).toList++vs)).toArray) w:=by
     rw [earr]
     simp only [execOp,resolve,hv,Deferred.ofValue,Sem.run_bind,Sem.run_pure,Result.andThen_ok,invoke]
     exact enters_run h3 w
    rw [semAt_plain rfl,hrun,Oper.uponIn_enter]
    refine ⟨λ_ _=>trivial,λh=>by simp [Fence.wide] at h,callsIn_fr.2 (Calls.mono hcall λe w' hq=>?_)⟩
    obtain ⟨v,rfl,q1,q2⟩:=hq
    exact hk v w' q1 q2
  | _=>cases hr
 ·next T x=>
  obtain ⟨u,h1,hr⟩:=onO_some hr
  obtain ⟨v,h2,h3⟩:=xload_run hi hr (evX_ok he h1)
  exact up_value rfl (by simp [execOp,h2]) (hk v w h3 hi)
 ·cases hr
theorem xglob_df {op:Op} (h:xglob C op=some y):isDefer op=false:=by cases op <;> first | rfl | cases h
theorem xpure_df {op:Op} (h:xpure P env op=some y):isDefer op=false:=by cases op <;> first | rfl | cases h
theorem xread_df {op:Op} (h:xread P env h' op=some y):isDefer op=false:=by cases op <;> first | rfl | cases h
theorem xnew_df {op:Op} {n:Nat} {ob:XO} (h:xnew P env n op=some (y,ob)):isDefer op=false:=by cases op <;> first | rfl | cases h
end
noncomputable def putE (N:Nat) (env:XE) (d:Option Tmp) (x:XV):Option XE:=match d with
 | none=>some env
 | some t=>br (Nat.blt t N) (some (env.set (some x) t)) none
def Fit (N:Nat) (ρ:Lab) (env:XE) (a:Act):Prop:=EnvOk ρ env a.tmps/\a.tmps.size=N
theorem Fit.le {N:Nat} {ρ ρ':Lab} {env:XE} {a:Act} (h:Fit N ρ env a) (hl:Lab.le ρ ρ'):Fit N ρ' env a:=⟨h.1.le hl,h.2⟩
theorem Fit.put {N:Nat} {ρ:Lab} {env env':XE} {a:Act} {d:Option Tmp} {x:XV} {v:Value} (h:Fit N ρ env a) (hp:putE N env d x=some env') (hx:XR ρ x v):Fit N ρ env' (a.put d v):=by
 unfold putE at hp
 split at hp
 ·cases hp; exact h
 ·next t=>
  obtain ⟨h1,h2⟩:=br_some hp
  cases h2
  have h1:t<N:=by simpa [Nat.blt_eq] using h1
  refine ⟨λs y hy=>?_,by simp [Act.put,h.2]⟩
  rw [Tr.get_set] at hy
  by_cases e:s=t
  ·subst e
   rw [if_pos rfl] at hy; cases hy
   exact ⟨v,by simp only [Act.put]; rw [Array.getElem?_setIfInBounds_self_of_lt (by rw [h.2]; exact h1)],hx⟩
  ·rw [if_neg e] at hy
   obtain ⟨u,h3,h4⟩:=h.1 s y hy
   exact ⟨u,by simp only [Act.put]; rw [Array.getElem?_setIfInBounds_ne (λe'=>e e'.symm)]; exact h3,h4⟩
noncomputable def xguard (ops:List Oper) (env:XE) (g:Option (Nat×Bool)):Option Bool:=match g with
 | none=>some true
 | some (i,want)=>onO (nth ops i) λq=>match q.dst with
   | none=>some false
   | some t=>onO (env.get t) λx=>match x with
     | .bool b=>some (br want b (br b false true))
     | .tup l=>match l with
       | []=>some false
       | _=>none
     | _=>none
theorem xguard_ok {ops:List Oper} {env:XE} {o:Oper} {b:Bool} (h:xguard ops env o.guard=some b) {ρ:Lab} {a:Act} (he:EnvOk ρ env a.tmps):Region.wanted o (yielded ops.toArray a.tmps)=b:=by
 unfold Region.wanted
 unfold xguard at h
 cases hg:o.guard with
 | none=>rw [hg] at h; cases h; rfl
 | some q=>
   obtain ⟨i,want⟩:=q
   rw [hg] at h
   simp only at h ⊢
   obtain ⟨q,h1,h⟩:=onO_some h
   rw [nth_eq] at h1
   unfold yielded
   cases hd:q.dst with
   | none=>
     rw [hd] at h
     cases h
     simp [h1,hd]
   | some t=>
     rw [hd] at h
     simp only at h
     obtain ⟨x,h2,h⟩:=onO_some h
     obtain ⟨v,h3,h4⟩:=he t x h2
     have e:(((ops.toArray[i]?).bind (·.dst)).bind (a.tmps[·]?))=some v:=by simp [h1,hd,h3]
     rw [e]
     cases x with
     | bool c=>
       simp only [XR] at h4; subst h4
       cases h
       cases want <;> cases c <;> rfl
     | tup l=>
       simp only at h
       cases l with
       | cons=>cases h
       | nil=>
         cases h
         simp only [XR] at h4
         obtain ⟨vs,h5,rfl⟩:=h4
         cases want <;> rfl
     | _=>cases h
def DefCall (D:FuncId->Bool) (d:Deferred):Prop:=∃ f cap,d.target = .fn (.func f) cap/\(d.args++cap).size<=3/\D f=true
structure DefIs (D:FuncId->Bool) (r:Option Nat) (W:List Deferred->Prop):Prop where
 add : ∀ d ds,DefCall D d->W ds->W (d :: ds)
 own : ∀ f,D f=true->r=none
noncomputable def xdefer (D:FuncId->Bool) (env:XE) (op:Op):Option XV:=match op with
 | .defer {callee:=.value fo,args,..}=>onO (evX env fo) λv=>match v with
   | .fn f a c=>br (D f) (br (Nat.ble (Nat.add (Nat.add (len a) (len args.toList)) (len c)) 3) (some (.tup [])) none) none
   | _=>none
 | _=>none
noncomputable def xstep (P:Program) (D:FuncId->Bool) (C:CallsX) (N:Nat) (env:XE) (h:Hp) (o:Oper):Option (XE×Hp):=
 match xpure P env o.op with
 | some x=>onO (putE N env o.dst x) λe=>some (e,h)
 | none=>match xglob C o.op with
  | some x=>onO (putE N env o.dst x) λe=>some (e,h)
  | none=>match xread P env h o.op with
   | some x=>onO (putE N env o.dst x) λe=>some (e,h)
   | none=>match xnew P env h.n o.op with
     | some q=>onO (putE N env o.dst q.1) λe=>some (e,⟨h.t.set (some q.2) h.n,Nat.succ h.n⟩)
     | none=>match xquiet P C env h o.op with
      | some x=>onO (putE N env o.dst x) λe=>some (e,h)
      | none=>match xhard P C env h o.op with
       | some q=>br (Nat.ble h.n q.2.n) (onO (putE N env o.dst q.1) λe=>some (e,q.2)) none
       | none=>onO (xdefer D env o.op) λx=>onO (putE N env o.dst x) λe=>some (e,h)
noncomputable def xops (P:Program) (D:FuncId->Bool) (C:CallsX) (N:Nat) (all:List Oper) (l:List Oper):XE->Hp->Option (XE×Hp):=
 List.rec (motive:=λ_=>XE->Hp->Option (XE×Hp)) (λenv h=>some (env,h)) (λo _ ih env h=>
  onO (xguard all env o.guard) λb=>br b (onO (xstep P D C N env h o) λq=>ih q.1 q.2) (onO (putE N env o.dst (.tup [])) λe=>ih e h)) l
section
variable {P:Program} {G:World->Prop} {C:CallsX} {D:FuncId->Bool} {N:Nat} {W:List Deferred->Prop} {r:Option Nat} {S0:Nat->Prop} {w0 w:World} {ρ:Lab} {h h':Hp} {a:Act} {K:Act->World->Prop} {Q:Exit->Act->World->Prop} {env env':XE} {o:Oper}
def Then (W:List Deferred->Prop) (N:Nat) (S0:Nat->Prop) (w0:World) (ρ:Lab) (n:Nat) (env':XE) (h':Hp) (K:Act->World->Prop):Prop:=
 ∀ a' w' ρ',Lab.up n ρ ρ'->Fit N ρ' env' a'->W a'.defers->Inv S0 w0 ρ' h' w'->K a' w'
theorem put_def {d:Option Tmp} {v:Value} (hd:W a.defers):W (a.put d v).defers:=by rw [put_defers]; exact hd
theorem xstep_wp (hW:DefIs D r W) (hC:CallsOk P G C) (hG:GOk G S0 w0) (hi:Inv S0 w0 ρ h w) (he:Fit N ρ env a) (hd:W a.defers) (hr:xstep P D C N env h o=some (env',h'))
 (hk:Then W N S0 w0 ρ h.n env' h' K):o.wpIn (Fr r) 0 P a w K Q:=by
 unfold xstep at hr
 cases h1:xpure P env o.op with
 | some x=>
   rw [h1] at hr
   obtain ⟨e,h2,hr⟩:=onO_some hr
   cases hr
   obtain ⟨v,h3,h4⟩:=xpure_run h1 he.1
   exact up_value (xpure_df h1) (h3 w) (hk _ _ ρ (Lab.up_refl _ _) (he.put h2 h4) (put_def hd) hi)
 | none=>
   rw [h1] at hr
   simp only at hr
   cases h1:xglob C o.op with
   | some x=>
     rw [h1] at hr
     obtain ⟨e,h2,hr⟩:=onO_some hr
     cases hr
     obtain ⟨v,h3,h4⟩:=xglob_run hC h1 (hG w hi.mod) a ρ
     exact up_value (xglob_df h1) h3 (hk _ _ ρ (Lab.up_refl _ _) (he.put h2 h4) (put_def hd) hi)
   | none=>
   rw [h1] at hr
   simp only at hr
   cases h1:xread P env h o.op with
   | some x=>
     rw [h1] at hr
     obtain ⟨e,h2,hr⟩:=onO_some hr
     cases hr
     obtain ⟨v,h3,h4⟩:=xread_run hi h1 he.1
     exact up_value (xread_df h1) h3 (hk _ _ ρ (Lab.up_refl _ _) (he.put h2 h4) (put_def hd) hi)
   | none=>
     rw [h1] at hr
     simp only at hr
     cases h1:xnew P env h.n o.op with
     | some q=>
       obtain ⟨x,ob⟩:=q
       rw [h1] at hr
       obtain ⟨e,h2,hr⟩:=onO_some hr
       cases hr
       obtain ⟨v,w',b,sz,h3,h4,h5,h6⟩:=xnew_run h1 he.1 w
       have hle:Lab.le ρ (λL=>if L=h.n then some (b,sz) else ρ L):=le_new hi b sz
       obtain ⟨g1,g2⟩:=h6 _ hle (by simp)
       obtain ⟨hi',_⟩:=hi.new h4 h5 g2
       exact up_value (xnew_df h1) h3 (hk _ _ _ (Lab.up_new hle) ((he.le hle).put h2 g1) (put_def hd) hi')
     | none=>
       rw [h1] at hr
       simp only at hr
       cases h1:xquiet P C env h o.op with
       | some x=>
         rw [h1] at hr
         obtain ⟨e,h2,hr⟩:=onO_some hr
         cases hr
         exact xquiet_wp hC hG hi h1 he.1 λv w' g1 g2=>hk _ _ ρ (Lab.up_refl _ _) (he.put h2 g1) (put_def hd) g2
       | none=>
       rw [h1] at hr
       simp only at hr
       cases h1:xhard P C env h o.op with
       | some q=>
         obtain ⟨x,hh⟩:=q
         rw [h1] at hr
         obtain ⟨_,hr⟩:=br_some hr
         obtain ⟨e,h2,hr⟩:=onO_some hr
         cases hr
         exact xhard_wp hC hG hi h1 he.1 λv w' ρ' g1 g2 g3=>hk _ _ ρ' g1 ((he.le g1.1).put h2 g2) (put_def hd) g3
       | none=>
         rw [h1] at hr
         simp only at hr
         obtain ⟨x,h2,hr1⟩:=onO_some hr
         obtain ⟨e,h3,hr2⟩:=onO_some hr1
         cases hr2
         clear hr hr1
         unfold xdefer at h2
         split at h2
         ·next fo args ts hop=>
          obtain ⟨v,h4,h5⟩:=onO_some h2
          clear h2
          cases v with
          | fn f b c=>
            obtain ⟨h6,h7'⟩:=br_some h5
            obtain ⟨h8,h7⟩:=br_some h7'
            cases h7
            have h8:=Nat.le_of_ble_eq_true h8
            rw [len_eq,len_eq,len_eq] at h8
            have hv:=evX_ok he.1 h4
            simp only [XR] at hv
            obtain ⟨us,vs,g1,g2,hv⟩:=hv
            have hrn:=hW.own f h6
            subst hrn
            unfold Oper.wpIn
            refine ⟨λ_ _=>trivial,?_⟩
            have:(o.semAt (Fr none).round a.eval).run P w = .ok (.defer {target:=.fn (.func f) vs.toArray,args:=us.toArray++args.map a.eval}) w:=by
             rw [Oper.semAt_none]
             simp [execOp,hop,resolve,hv,Deferred.ofValue]
            rw [this,Oper.uponIn_defer]
            refine hk _ _ ρ (Lab.up_refl _ _) (Fit.put (a:={a with defers:=_ :: a.defers}) ⟨he.1,he.2⟩ h3 undef_ok) (put_def (hW.add _ _ ⟨f,_,rfl,?_,h6⟩ hd)) hi
            have e1:=g1.len
            have e2:=g2.len
            have h8:b.length+args.toList.length+c.length<=3:=h8
            simp only [Array.length_toList] at h8
            simp only [Array.size_append,List.size_toArray,Array.size_map]
            omega
          | _=>cases h5
         ·cases h2
theorem xstep_mono (hr:xstep P D C N env h o=some (env',h')):h.n<=h'.n:=by
 unfold xstep at hr
 split at hr
 ·obtain ⟨e,_,hr⟩:=onO_some hr
  cases hr; exact Nat.le_refl _
 ·split at hr
  ·obtain ⟨e,_,hr⟩:=onO_some hr
   cases hr; exact Nat.le_refl _
  split at hr
  ·obtain ⟨e,_,hr⟩:=onO_some hr
   cases hr; exact Nat.le_refl _
  ·split at hr
   ·obtain ⟨e,_,hr⟩:=onO_some hr
    cases hr; exact Nat.le_succ _
   ·split at hr
    ·obtain ⟨e,_,hr⟩:=onO_some hr
     cases hr; exact Nat.le_refl _
    split at hr
    ·obtain ⟨h1,hr⟩:=br_some hr
     obtain ⟨e,_,hr⟩:=onO_some hr
     cases hr; exact Nat.le_of_ble_eq_true h1
    ·obtain ⟨_,_,hr⟩:=onO_some hr
     obtain ⟨e,_,hr⟩:=onO_some hr
     cases hr; exact Nat.le_refl _
theorem xops_mono {all:List Oper} : ∀ (l:List Oper) {h:Hp} {env:XE},xops P D C N all l env h=some (env',h')->h.n<=h'.n
 | [],h,env,hr=>by cases hr; exact Nat.le_refl _
 | o :: l,h,env,hr=>by
   have hr:(onO (xguard all env o.guard) λb=>br b (onO (xstep P D C N env h o) λq=>xops P D C N all l q.1 q.2) (onO (putE N env o.dst (.tup [])) λe=>xops P D C N all l e h))=some (env',h'):=hr
   obtain ⟨b,h1,hr⟩:=onO_some hr
   cases b with
   | true=>
     rw [br_t] at hr
     obtain ⟨⟨e,hh⟩,h2,hr⟩:=onO_some hr
     exact Nat.le_trans (xstep_mono h2) (xops_mono l hr)
   | false=>
     rw [br_f] at hr
     obtain ⟨e,h2,hr⟩:=onO_some hr
     exact xops_mono l hr
theorem xops_wp (hW:DefIs D r W) (hC:CallsOk P G C) (hG:GOk G S0 w0) {all:List Oper} : ∀ (l:List Oper) {ρ:Lab} {h:Hp} {w:World} {env:XE} {a:Act},Inv S0 w0 ρ h w->Fit N ρ env a->W a.defers->xops P D C N all l env h=some (env',h')->
 Then W N S0 w0 ρ h.n env' h' (λa w=>Q .normal a w)->wList P r all.toArray Q l a w
 | [],ρ,h,w,env,a,hi,he,hd,hr,hk=>by
   cases hr
   exact hk _ _ ρ (Lab.up_refl _ _) he hd hi
 | o :: l,ρ,h,w,env,a,hi,he,hd,hr,hk=>by
   have hr:(onO (xguard all env o.guard) λb=>br b (onO (xstep P D C N env h o) λq=>xops P D C N all l q.1 q.2) (onO (putE N env o.dst (.tup [])) λe=>xops P D C N all l e h))=some (env',h'):=hr
   obtain ⟨b,h1,hr⟩:=onO_some hr
   unfold wList
   rw [xguard_ok h1 he.1]
   cases b with
   | true=>
     rw [br_t] at hr
     obtain ⟨⟨e,hh⟩,h2,hr⟩:=onO_some hr
     rw [if_pos rfl]
     exact xstep_wp hW hC hG hi he hd h2 λa' w' ρ' g1 g2 g3 g4=>xops_wp hW hC hG l g4 g2 g3 hr λa2 w2 ρ2 g5=>hk a2 w2 ρ2 (Lab.up_trans g1 (xstep_mono h2) g5)
   | false=>
     rw [br_f] at hr
     obtain ⟨e,h2,hr⟩:=onO_some hr
     rw [if_neg (by simp)]
     exact xops_wp hW hC hG l hi (he.put h2 undef_ok) (put_def hd) hr hk
end
section
variable {P:Program} {e e':XE}
def Alike (e e':XE) (op:Op):Prop:=∀ x,x∈op.operands.toList->evX e x=evX e' x
theorem evsX_congr : ∀ {l:List Operand},(∀ x,x∈l->evX e x=evX e' x)->evsX e l=evsX e' l
 | [],_=>rfl
 | x :: l,h=>by
   have h1:evX e x=evX e' x:=h x (by simp)
   have h2:evsX e l=evsX e' l:=evsX_congr λy hy=>h y (by simp [hy])
   show mapO (evX e) (x :: l)=mapO (evX e') (x :: l)
   have g : ∀ f:Operand->Option XV,mapO f (x :: l)=onO (f x) λb=>onO (mapO f l) λr=>some (b :: r):=λf=>rfl
   rw [g,g,h1]
   have h2:mapO (evX e) l=mapO (evX e') l:=h2
   rw [h2]
theorem partsX_congr : ∀ {l:List (Nat×Operand)},(∀ x,x∈l.map (·.2)->evX e x=evX e' x)->partsX e l=partsX e' l
 | [],_=>rfl
 | q :: l,h=>by
   have h1:evX e q.2=evX e' q.2:=h q.2 (by simp)
   have h2:partsX e l=partsX e' l:=partsX_congr λy hy=>h y (by simp at hy ⊢; exact .inr hy)
   unfold partsX at *
   have g : ∀ f:Nat×Operand->Option (Nat×XV),mapO f (q :: l)=onO (f q) λb=>onO (mapO f l) λr=>some (b :: r):=λf=>rfl
   rw [g,g,h1,h2]
theorem optX_congr {x:Option Operand} (h : ∀ y,x=some y->evX e y=evX e' y):optX e x=optX e' x:=by
 cases x with
 | none=>rfl
 | some y=>simp only [optX,h y rfl]
theorem xpure_congr {op:Op} (h:Alike e e' op):xpure P e op=xpure P e' op:=by
 unfold Alike at h
 cases op with
 | call c=>
   obtain ⟨callee,args,ts⟩:=c
   have ha:evsX e args.toList=evsX e' args.toList:=evsX_congr λx hx=>h x (by
    simp only [Op.operands,Call.operands,Array.toList_append,List.mem_append]; exact .inr hx)
   cases callee with
   | builtin b=>cases b <;> simp only [xpure,ha]
   | value f=>rfl
   | invoke r n=>rfl
 | build T ps=>
   have:partsX e ps.toList=partsX e' ps.toList:=partsX_congr λx hx=>h x (by simpa [Op.operands] using hx)
   simp only [xpure,this]
 | makeFunc fn a b=>
   have h1:evsX e a.toList=evsX e' a.toList:=evsX_congr λx hx=>h x (by simp only [Op.operands,Array.toList_append,List.mem_append]; exact .inl hx)
   have h2:evsX e b.toList=evsX e' b.toList:=evsX_congr λx hx=>h x (by simp only [Op.operands,Array.toList_append,List.mem_append]; exact .inr hx)
   simp only [xpure,h1,h2]
 | slice T x l hi m=>
   have h1:evX e x=evX e' x:=h x (by simp [Op.operands])
   have h2:optX e l=optX e' l:=optX_congr λy hy=>h y (by simp [Op.operands,hy])
   have h3:optX e hi=optX e' hi:=optX_congr λy hy=>h y (by simp [Op.operands,hy])
   have h4:optX e m=optX e' m:=optX_congr λy hy=>h y (by simp [Op.operands,hy])
   simp only [xpure,h1,h2,h3,h4]
 | _=>first | rfl | (simp [Op.operands] at h; simp only [xpure,h])
theorem xread_congr {op:Op} {h':Hp} (h:Alike e e' op):xread P e h' op=xread P e' h' op:=by
 unfold Alike at h
 cases op with
 | call c=>
   obtain ⟨callee,args,ts⟩:=c
   have ha:evsX e args.toList=evsX e' args.toList:=evsX_congr λx hx=>h x (by
    simp only [Op.operands,Call.operands,Array.toList_append,List.mem_append]; exact .inr hx)
   cases callee with
   | builtin b=>cases b <;> simp only [xread,ha]
   | value f=>rfl
   | invoke r n=>rfl
 | load T x=>simp [Op.operands] at h; simp only [xread,h]
 | lookup T m k ok=>simp [Op.operands] at h; simp only [xread,h]
 | convert s d x=>simp [Op.operands] at h; simp only [xread,h]
 | typeAssert x T A ok=>simp [Op.operands] at h; simp only [xread,h]
 | entry it=>simp [Op.operands] at h; simp only [xread,h]
 | slice T x l hi m=>
   have h1:evX e x=evX e' x:=h x (by simp [Op.operands])
   have h2:optX e l=optX e' l:=optX_congr λy hy=>h y (by simp [Op.operands,hy])
   have h3:optX e hi=optX e' hi:=optX_congr λy hy=>h y (by simp [Op.operands,hy])
   have h4:optX e m=optX e' m:=optX_congr λy hy=>h y (by simp [Op.operands,hy])
   simp only [xread,h1,h2,h3,h4]
 | _=>rfl
theorem xnew_congr {op:Op} {n:Nat} (h:Alike e e' op):xnew P e n op=xnew P e' n op:=by
 unfold Alike at h
 cases op with
 | buildSlice T l ps=>
   have:partsX e ps.toList=partsX e' ps.toList:=partsX_congr λx hx=>h x (by simpa [Op.operands] using hx)
   simp only [xnew,this]
 | makeMap T r=>
   cases r with
   | none=>rfl
   | some x=>simp [Op.operands] at h; simp only [xnew,h]
 | box T x=>simp [Op.operands] at h; simp only [xnew,h]
 | makeSlice T l c=>simp [Op.operands] at h; simp only [xnew,h]
 | convert s d x=>simp [Op.operands] at h; simp only [xnew,h]
 | _=>rfl
theorem xquiet_congr {op:Op} {C:CallsX} {h':Hp} (h:Alike e e' op):xquiet P C e h' op=xquiet P C e' h' op:=by
 unfold Alike at h
 cases op with
 | call c=>
   obtain ⟨callee,args,ts⟩:=c
   have ha:evsX e args.toList=evsX e' args.toList:=evsX_congr λx hx=>h x (by
    simp only [Op.operands,Call.operands,Array.toList_append,List.mem_append]; exact .inr hx)
   cases callee with
   | value f=>
     have hf:evX e f=evX e' f:=h f (by simp [Op.operands,Call.operands])
     simp only [xquiet,ha,hf]
   | _=>rfl
 | load T x=>simp [Op.operands] at h; simp only [xquiet,h]
 | _=>rfl
theorem xhard_congr {op:Op} {C:CallsX} {h':Hp} (h:Alike e e' op):xhard P C e h' op=xhard P C e' h' op:=by
 unfold Alike at h
 cases op with
 | call c=>
   obtain ⟨callee,args,ts⟩:=c
   have ha:evsX e args.toList=evsX e' args.toList:=evsX_congr λx hx=>h x (by
    simp only [Op.operands,Call.operands,Array.toList_append,List.mem_append]; exact .inr hx)
   cases callee with
   | builtin b=>simp only [xhard,ha]
   | value f=>
     have hf:evX e f=evX e' f:=h f (by simp [Op.operands,Call.operands])
     simp only [xhard,ha,hf]
   | invoke r n=>rfl
 | store T x y=>simp [Op.operands] at h; simp only [xhard,h]
 | mapUpdate T m k x=>simp [Op.operands] at h; simp only [xhard,h]
 | insert T m k x=>simp [Op.operands] at h; simp only [xhard,h]
 | mapEntry T m k=>simp [Op.operands] at h; simp only [xhard,h]
 | entryStore T m s x=>simp [Op.operands] at h; simp only [xhard,h]
 | convert s d x=>simp [Op.operands] at h; simp only [xhard,h]
 | range T x=>simp [Op.operands] at h; simp only [xhard,h]
 | next x st=>simp [Op.operands] at h; simp only [xhard,h]
 | _=>rfl
end
noncomputable def sameP (a b:Option (Nat×Nat)):Bool:=match a with
 | none=>(match b with | none=>true | some _=>false)
 | some p=>(match b with | none=>false | some q=>br (Nat.beq p.1 q.1) (Nat.beq p.2 q.2) false)
theorem sameP_eq {a b:Option (Nat×Nat)} (h:sameP a b=true):a=b:=by
 cases a <;> cases b <;> simp only [sameP] at h <;> first | rfl | cases h | skip
 rename_i p q
 rw [br_eq] at h
 split at h
 ·next h1=>
  have:=Nat.eq_of_beq_eq_true h1
  have:=Nat.eq_of_beq_eq_true h
  cases p; cases q; simp_all
 ·cases h
noncomputable def sameN (a b:Option Nat):Bool:=match a with
 | none=>(match b with | none=>true | some _=>false)
 | some p=>(match b with | none=>false | some q=>Nat.beq p q)
theorem sameN_eq {a b:Option Nat} (h:sameN a b=true):a=b:=by
 cases a <;> cases b <;> simp only [sameN] at h <;> first | rfl | cases h | skip
 rw [Nat.eq_of_beq_eq_true h]
noncomputable def same1 (x y:XV):Bool:=match x with
 | .int k n=>(match y with | .int j m=>br (Nat.beq (idxK k) (idxK j)) (ieq n m) false | _=>false)
 | .bool a=>(match y with | .bool b=>br a b (br b false true) | _=>false)
 | .str l=>(match y with | .str m=>seq l m | _=>false)
 | .ptr p=>(match y with | .ptr q=>sameP p q | _=>false)
 | .sl p a c=>(match y with | .sl q b d=>br (sameP p q) (br (Nat.beq a b) (Nat.beq c d) false) false | _=>false)
 | .slu p o a c=>(match y with | .slu q u b d=>br (Nat.beq p q) (br (Nat.beq o u) (br (Nat.beq a b) (Nat.beq c d) false) false) false | _=>false)
 | .map p=>(match y with | .map q=>sameN p q | _=>false)
 | .em p=>(match y with | .em q=>Nat.beq p q | _=>false)
 | .nilFn=>(match y with | .nilFn=>true | _=>false)
 | .nilI=>(match y with | .nilI=>true | _=>false)
 | _=>false
theorem br_and {a b:Bool} (h:br a b false=true):a=true/\b=true:=by cases a <;> simp_all [br]
theorem same1_eq {x y:XV} (h:same1 x y=true):x=y:=by
 cases x <;> cases y <;> first | rfl | (simp only [same1] at h; cases h; done) | skip
 all_goals simp only [same1] at h
 case int.int k n j m=>
  obtain ⟨h1,h2⟩:=br_and h
  rw [ieq_eq] at h2
  simp at h2
  rw [idxK_inj h1,h2]
 case bool.bool a b=>cases a <;> cases b <;> first | rfl | cases h
 case str.str l m=>rw [seq_eq] at h; simp at h; rw [h]
 case ptr.ptr p q=>rw [sameP_eq h]
 case sl.sl p a c q b d=>
  obtain ⟨h1,h2⟩:=br_and h
  obtain ⟨h2,h3⟩:=br_and h2
  rw [sameP_eq h1,Nat.eq_of_beq_eq_true h2,Nat.eq_of_beq_eq_true h3]
 case slu.slu p o a c q u b d=>
  obtain ⟨h1,h2⟩:=br_and h
  obtain ⟨h2,h3⟩:=br_and h2
  obtain ⟨h3,h4⟩:=br_and h3
  rw [Nat.eq_of_beq_eq_true h1,Nat.eq_of_beq_eq_true h2,Nat.eq_of_beq_eq_true h3,Nat.eq_of_beq_eq_true h4]
 case map.map p q=>rw [sameN_eq h]
 case em.em p q=>rw [Nat.eq_of_beq_eq_true h]
noncomputable def sameL (f:XV->XV->Bool) (l m:List XV):Bool:=List.rec (motive:=λ_=>List XV->Bool) (λm=>match m with | []=>true | _=>false)
 (λx _ ih m=>match m with | []=>false | y :: r=>br (f x y) (ih r) false) l m
theorem sameL_eq {f:XV->XV->Bool} (hf : ∀ x y,f x y=true->x=y) : ∀ {l m:List XV},sameL f l m=true->l=m
 | [],m,h=>by cases m <;> first | rfl | cases h
 | x :: l,m,h=>by
   cases m with
   | nil=>cases h
   | cons y r=>
     have h:br (f x y) (sameL f l r) false=true:=h
     obtain ⟨h1,h2⟩:=br_and h
     rw [hf _ _ h1,sameL_eq hf h2]
noncomputable def sameS (f:XV->XV->Bool) (x y:XV):Bool:=match x with
 | .agg l=>(match y with | .agg m=>sameL f l m | _=>false)
 | .tup l=>(match y with | .tup m=>sameL f l m | _=>false)
 | .ifc T u=>(match y with | .ifc U v=>br (Nat.beq T U) (f u v) false | _=>false)
 | .fn g a c=>(match y with | .fn g' b d=>br (Nat.beq g g') (br (sameL f a b) (sameL f c d) false) false | _=>false)
 | _=>same1 x y
theorem sameS_eq {f:XV->XV->Bool} (hf : ∀ x y,f x y=true->x=y) (x y:XV) (h:sameS f x y=true):x=y:=by
 cases x <;> first | exact same1_eq h | skip
 all_goals
  cases y <;> first | (simp only [sameS] at h; cases h; done) | skip
 all_goals simp only [sameS] at h
 case fn.fn g a c g' b d=>
  obtain ⟨h1,h2⟩:=br_and h
  obtain ⟨h2,h3⟩:=br_and h2
  rw [Nat.eq_of_beq_eq_true h1,sameL_eq hf h2,sameL_eq hf h3]
 case ifc.ifc T u U v=>
  obtain ⟨h1,h2⟩:=br_and h
  rw [Nat.eq_of_beq_eq_true h1,hf _ _ h2]
 case agg.agg l m=>rw [sameL_eq hf h]
 case tup.tup l m=>rw [sameL_eq hf h]
noncomputable def sameX (x y:XV):Bool:=sameS (sameS (sameS same1)) x y
theorem sameX_eq {x y:XV} (h:sameX x y=true):x=y:=sameS_eq (sameS_eq (sameS_eq λ_ _=>same1_eq)) x y h
noncomputable def sameO (x:Option XV) (y:XV):Bool:=match x with
 | none=>false
 | some x=>sameX x y
theorem sameO_eq {x:Option XV} {y:XV} (h:sameO x y=true):x=some y:=by
 cases x with
 | none=>cases h
 | some x=>rw [sameX_eq h]
noncomputable def tb (m i:Nat):Bool:=Nat.beq (Nat.land (Nat.shiftRight m i) 1) 1
theorem tb_eq (m i:Nat):tb m i=m.testBit i:=by
 unfold tb
 rw [Nat.testBit]
 have:Nat.land (Nat.shiftRight m i) 1=(m >>> i) &&& 1:=rfl
 rw [this,Nat.and_one_is_mod,Nat.and_comm,Nat.and_one_is_mod]
 rcases Nat.mod_two_eq_zero_or_one (m >>> i) with h | h <;> rw [h] <;> rfl
end Go.X
end
