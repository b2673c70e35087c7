/- The forms of the translated functions,their contracts and the plain laws behind them,put together by a program. -/
import Derived.Test.YtihafpcnhgapdaaGreatDoorPQ17
import Derived.Lib.Bytealg
import Derived.Test.YtihafpcnhgapdaaGreatDoorProg
set_option linter.unusedSimpArgs false
set_option linter.unusedVariables false
set_option maxRecDepth 1000000
set_option maxHeartbeats 8000000
section
namespace Go.Proofs.YtihafpcnhgapdaaGreatDoor
open Go Go.Sh Go.X
noncomputable def keyR (xs:List XV) (h:Hp):Option (List (List Nat)):=match xs with
 | [x]=>rowsOf h x
 | _=>none
def DigTab (t:Tab):Prop:=∀ k r,(k,r)∈t→BOk r∧small k∧sha (k.map toB).flatten=toB r
theorem digC_ok {t:Tab} (ht:DigTab t) : ∀ f xs h y h',tabC 175 keyR t f xs h=some (y,h')→CallOk Tryz.prog GS f xs h y h':=
 tabC_ok fun xs h k r hk hm=>by
  obtain ⟨hb,hs,hp⟩:=ht k r hm
  refine ⟨hb,fun S0 w0 ρ w vs hg hi hx=>?_⟩
  unfold keyR at hk
  split at hk
  ·next x=>
   simp only [XRs] at hx
   obtain ⟨v,vs',rfl,h2,rfl⟩:=hx
   obtain ⟨s,ss,rfl,h5,h6,h7,h8⟩:=rowsOf_ok hi hk h2
   exact ret_mono (c_sumW (X:=fun x=>x<w.heap.size) hg.sha ⟨ss,h5,h6,h7,fun i a b=>h8 i a b⟩ (fun _ h=>h) (by have:=hs.1; omega) (by have:=hs.2; simp; omega)) fun v w' ⟨x,e1,e2,e3,e4⟩=>⟨x,_,e1,by rw [← hp]; exact e2,e3,e4⟩
  ·cases hk
abbrev ShTab:=List (List Nat×Nat×List Nat)
noncomputable def lookS (k:List Nat) (t:ShTab):Option (Nat×List Nat):=List.rec (motive:=fun _=>Option (Nat×List Nat)) none (fun q _ ih=>br (eqN q.1 k) (some q.2) ih) t
theorem lookS_mem {k:List Nat} {r:Nat×List Nat} : ∀ {t:ShTab},lookS k t=some r→(k,r)∈t
 | [],h=>by cases h
 | q :: t,h=>by
   have h:br (eqN q.1 k) (some q.2) (lookS k t)=some r:=h
   cases hb:eqN q.1 k with
   | true=>
     rw [hb,br_t] at h
     cases h
     rw [← eqN_eq hb]
     exact List.mem_cons_self
   | false=>
     rw [hb,br_f] at h
     exact List.mem_cons_of_mem _ (lookS_mem h)
def ShOk (t:ShTab):Prop:=∀ k a l,(k,a,l)∈t→k.length≤1000∧(∀ b∈l,b<256)∧shardOf (dg (toB k))=(a:Int)∧way (dg (toB k))=toB l
noncomputable def shQ (t:ShTab) (f:FuncId) (xs:List XV):Option XV:=match xs with
 | [.str k]=>X.br (Nat.beq f 118) (onO (lookS k t) fun q=>some (.int .i64 (.ofNat q.1))) (X.br (Nat.beq f 235) (onO (lookS k t) fun q=>some (.str q.2)) none)
 | _=>none
theorem quiet_of {f:FuncId} {k:List Nat} {y:XV} {v:Value} (hx : ∀ ρ,(∀ x∈k,x<256)→XR ρ y v) (hc : ∀ w,GS w→Calls Tryz.prog f #[.string ⟨(toB k).toArray⟩] w (Ret fun u w'=>u=v∧Mod NoB w w')) (h:Hp):QuietOk Tryz.prog GS f [.str k] h y:=by
 intro S0 w0 ρ w vs hG hi hxs
 simp only [XRs] at hxs
 obtain ⟨u,vs',rfl,h4,rfl⟩:=hxs
 simp only [XR] at h4
 obtain ⟨h5,rfl⟩:=h4
 refine Calls.mono (hc w (hG w hi.mod)) fun e w' he=>?_
 cases e <;> first | exact he.elim | skip
 obtain ⟨rfl,hm⟩:=he
 exact ⟨_,rfl,hx ρ h5,hi.no hm⟩
theorem shQ_ok {t:ShTab} (ht:ShOk t) {f:FuncId} {xs:List XV} {y:XV} (hr:shQ t f xs=some y) (h:Hp):QuietOk Tryz.prog GS f xs h y:=by
 unfold shQ at hr
 split at hr
 ·next k=>
  cases h1:Nat.beq f 118 with
  | true=>
    rw [h1,br_t] at hr
    obtain ⟨⟨a,l⟩,h2,h3⟩:=onO_some hr
    cases h3
    obtain ⟨g1,g2,g3,g4⟩:=ht k a l (lookS_mem h2)
    have:=Nat.eq_of_beq_eq_true h1
    subst this
    refine quiet_of (v:=.int .i64 (a:Int)) (fun ρ _=>by simp only [XR]; rfl) (fun w hg=>?_) h
    rw [← g3]
    exact c_shardOf hg.sha (by rw [toB_len]; omega)
  | false=>
    rw [h1,br_f] at hr
    obtain ⟨h1',hr1⟩:=br_some hr
    obtain ⟨⟨a,l⟩,h2,h3⟩:=onO_some hr1
    cases h3
    obtain ⟨g1,g2,g3,g4⟩:=ht k a l (lookS_mem h2)
    have:=Nat.eq_of_beq_eq_true h1'
    subst this
    refine quiet_of (v:=.string ⟨(toB l).toArray⟩) (fun ρ _=>by simp only [XR]; exact ⟨g2,rfl⟩) (fun w hg=>?_) h
    rw [← g4]
    exact c_shardBits hg.sha (by rw [toB_len]; omega)
 ·cases hr
noncomputable def cmpN (l:List Nat):List Nat→Int:=List.rec (motive:=fun _=>List Nat→Int) (fun m=>match m with | []=>.ofNat 0 | _ :: _=>.negSucc 0) (fun a _ ih m=>match m with
 | []=>.ofNat 1
 | b :: r=>X.br (Nat.blt a b) (.negSucc 0) (X.br (Nat.blt b a) (.ofNat 1) (ih r))) l
theorem lt8 {a b:Nat} (ha:a<256) (hb:b<256):UInt8.ofNat a<UInt8.ofNat b↔a<b:=by
 rw [UInt8.lt_iff_toNat_lt,UInt8.toNat_ofNat',UInt8.toNat_ofNat']
 omega
theorem cmpN_eq : ∀ {l m:List Nat},(∀ x∈l,x<256)→(∀ x∈m,x<256)→cmpN l m=Lib.compareBytes (toB l) (toB m)
 | [],[],_,_=>rfl
 | [],_ :: _,_,_=>rfl
 | _ :: _,[],_,_=>rfl
 | a :: l,b :: m,hl,hm=>by
   have ha:=hl a List.mem_cons_self
   have hb:=hm b List.mem_cons_self
   show X.br (Nat.blt a b) (.negSucc 0) (X.br (Nat.blt b a) (.ofNat 1) (cmpN l m))=if UInt8.ofNat a<UInt8.ofNat b then -1 else if UInt8.ofNat b<UInt8.ofNat a then 1 else Lib.compareBytes (toB l) (toB m)
   rw [← cmpN_eq (fun x hx=>hl x (List.mem_cons_of_mem _ hx)) fun x hx=>hm x (List.mem_cons_of_mem _ hx)]
   have q1:(UInt8.ofNat a<UInt8.ofNat b)=(a<b):=propext (lt8 ha hb)
   have q2:(UInt8.ofNat b<UInt8.ofNat a)=(b<a):=propext (lt8 hb ha)
   simp only [q1,q2]
   cases h1:Nat.blt a b with
   | true=>rw [br_t,if_pos (show a<b from Nat.le_of_ble_eq_true h1)]; rfl
   | false=>
     have : ¬ a<b:=fun h=>by
      have:=Nat.ble_eq_true_of_le h
      rw [show Nat.ble (a+1) b=Nat.blt a b from rfl,h1] at this; cases this
     rw [br_f,if_neg this]
     cases h2:Nat.blt b a with
     | true=>rw [br_t,if_pos (show b<a from Nat.le_of_ble_eq_true h2)]; rfl
     | false=>
       have : ¬ b<a:=fun h=>by
        have:=Nat.ble_eq_true_of_le h
        rw [show Nat.ble (b+1) a=Nat.blt b a from rfl,h2] at this; cases this
       rw [br_f,if_neg this]
noncomputable def cmpE (f:FuncId) (xs:List XV):Option XV:=X.br (Nat.beq f 661) (match xs with
 | [.str a,.str b]=>some (.int .i64 (cmpN a b))
 | _=>none) none
theorem cmpE_ok {f:FuncId} {xs:List XV} {y:XV} (h:cmpE f xs=some y):ExtOk Tryz.prog f xs y:=by
 unfold cmpE at h
 obtain ⟨h1,hq⟩:=br_some h
 clear h
 have h1:=Nat.eq_of_beq_eq_true h1
 subst h1
 split at hq
 ·next a b=>
  cases hq
  intro ρ w vs hvs
  simp only [XRs,XR] at hvs
  obtain ⟨v1,r1,rfl,⟨ha,rfl⟩,v2,r2,rfl,⟨hb,rfl⟩,rfl⟩:=hvs
  refine ⟨.int .i64 (Lib.compareBytes (toB a) (toB b)),?_,by simp only [XR]; rw [cmpN_eq ha hb]⟩
  rw [run_callFunc_extern Tryz.func661 (by kernel_rfl) (by kernel_rfl) (by kernel_rfl) (e:=Extern.BytealgCompare.compare) (by kernel_rfl)]
  rw [show ([strV a,strV b]:List Value).toArray = #[.string ⟨(toB a).toArray⟩,.string ⟨(toB b).toArray⟩] from rfl,Lib.run_compareString]
  rfl
 ·cases hq
abbrev sd0:List Nat:=[1,1,1,1,1,1,1,1,1,1,1,1,1,1,1,1,1,1,1,1,1,1,1,1,1,1,1,1,1,1,1,1]
abbrev pk0:List Nat:=[138,136,227,221,116,9,241,149,253,82,219,45,60,186,93,114,202,103,9,191,29,148,18,27,243,116,136,1,180,15,111,92]
abbrev sd1:List Nat:=[11,11,11,11,11,11,11,11,11,11,11,11,11,11,11,11,11,11,11,11,11,11,11,11,11,11,11,11,11,11,11,11]
abbrev pk1:List Nat:=[102,190,126,51,44,122,69,51,50,189,157,10,127,125,176,85,245,197,239,26,6,173,166,109,152,179,159,182,129,12,71,58]
abbrev sd2:List Nat:=[2,2,2,2,2,2,2,2,2,2,2,2,2,2,2,2,2,2,2,2,2,2,2,2,2,2,2,2,2,2,2,2]
abbrev pk2:List Nat:=[129,57,119,14,168,125,23,95,86,163,84,102,195,76,126,204,203,141,138,145,180,238,55,162,93,246,15,91,143,201,179,148]
abbrev sd3:List Nat:=[12,12,12,12,12,12,12,12,12,12,12,12,12,12,12,12,12,12,12,12,12,12,12,12,12,12,12,12,12,12,12,12]
abbrev pk3:List Nat:=[11,81,58,217,180,146,64,21,202,9,2,237,7,144,68,211,172,93,190,194,48,111,6,148,140,16,218,142,182,227,159,45]
abbrev sd4:List Nat:=[3,3,3,3,3,3,3,3,3,3,3,3,3,3,3,3,3,3,3,3,3,3,3,3,3,3,3,3,3,3,3,3]
abbrev pk4:List Nat:=[237,73,40,198,40,209,194,198,234,233,3,56,144,89,149,97,41,89,39,58,92,99,249,54,54,193,70,20,172,135,55,209]
abbrev sd5:List Nat:=[13,13,13,13,13,13,13,13,13,13,13,13,13,13,13,13,13,13,13,13,13,13,13,13,13,13,13,13,13,13,13,13]
abbrev pk5:List Nat:=[145,162,138,11,116,56,21,147,164,217,70,149,121,32,137,38,175,200,173,130,200,131,155,118,68,53,155,158,186,154,75,58]
abbrev sd6:List Nat:=[4,4,4,4,4,4,4,4,4,4,4,4,4,4,4,4,4,4,4,4,4,4,4,4,4,4,4,4,4,4,4,4]
abbrev pk6:List Nat:=[202,147,172,23,5,24,112,113,214,123,131,199,255,14,254,129,8,232,236,69,48,87,93,119,38,135,147,51,219,218,190,124]
abbrev sd7:List Nat:=[14,14,14,14,14,14,14,14,14,14,14,14,14,14,14,14,14,14,14,14,14,14,14,14,14,14,14,14,14,14,14,14]
abbrev pk7:List Nat:=[11,238,245,169,230,121,230,163,225,52,254,39,131,123,255,50,199,203,95,93,68,234,9,188,176,229,66,186,214,164,192,204]
abbrev ta0_0:List Nat:=[2,0,0,0,0,0,0,0,2,0,0,0,0,0,0,0,0,0,0,0,0,0,0,0,1,58,185,34,32,84,201,20,146,209,216,92,5,85,92,163,24,82,153,231,183,243,163,192,137,94,10,232,77,17,190,225,238,4,231,103,130,210,33,155,209,34,157,145,237,150,46,104,251,43,172,41,100,125,197,221,191,236,40,109,19,211,121,100,90]
abbrev tx0:List (List Nat):=[ta0_0]
abbrev sg0:List Nat:=[217,97,157,202,218,196,10,0,124,212,254,255,150,147,58,139,55,88,134,46,116,199,172,199,245,95,34,246,214,157,102,13,15,33,12,88,230,254,172,42,17,76,79,130,149,71,92,76,14,219,186,113,5,25,183,82,200,141,144,159,193,110,254,10]
abbrev rr0:List Nat:=[217,97,157,202,218,196,10,0,124,212,254,255,150,147,58,139,55,88,134,46,116,199,172,199,245,95,34,246,214,157,102,13]
abbrev hw0:List Nat:=[176,27,56,144,176,130,188,245,72,56,176,187,137,218,4,141,119,139,104,228,106,189,99,74,170,175,193,158,178,241,97,0]
abbrev dt0:List (List Nat):=[[0],[],[]]
abbrev dd0:List Nat:=[184,36,77,2,137,129,214,147,175,123,69,106,248,239,164,202,214,61,40,46,25,255,20,148,44,36,110,80,217,53,29,34,112,74,128,42,113,195,88,11,99,112,222,76,235,41,60,50,74,132,35,52,37,87,212,229,195,132,56,240,227,105,16,238]
abbrev dt1:List (List Nat):=[[4,0],[184,36,77,2,137,129,214,147,175,123,69,106,248,239,164,202,214,61,40,46,25,255,20,148,44,36,110,80,217,53,29,34,112,74,128,42,113,195,88,11,99,112,222,76,235,41,60,50,74,132,35,52,37,87,212,229,195,132,56,240,227,105,16,238]]
abbrev dd1:List Nat:=[58,185,34,32,84,201,20,146,209,216,92,5,85,92,163,24,82,153,231,183,243,163,192,137,94,10,232,77,17,190,225,238,4,231,103,130,210,33,155,209,34,157,145,237,150,46,104,251,43,172,41,100,125,197,221,191,236,40,109,19,211,121,100,90]
theorem pub0:pubF (toB sd0)=toB pk0:=by kernel_rfl
theorem pub3:pubF (toB sd3)=toB pk3:=by kernel_rfl
theorem pub6:pubF (toB sd6)=toB pk6:=by kernel_rfl
theorem pub1:pubF (toB sd1)=toB pk1:=by kernel_rfl
theorem pub4:pubF (toB sd4)=toB pk4:=by kernel_rfl
theorem pub7:pubF (toB sd7)=toB pk7:=by kernel_rfl
theorem pub2:pubF (toB sd2)=toB pk2:=by kernel_rfl
theorem pub5:pubF (toB sd5)=toB pk5:=by kernel_rfl
theorem mul0:mulF (numF (drwB (toB sd2) :: tx0.map toB))=toB rr0:=by kernel_rfl
theorem how0:numF (toB rr0 :: toB pk2 :: tx0.map toB)=toB hw0:=by kernel_rfl
theorem sig0:sigF (toB sd2) (tx0.map toB)=toB sg0:=by
 unfold sigF
 rw [mul0,pub2,how0]
 kernel_rfl
theorem dig0:sha (dt0.map toB).flatten=toB dd0:=by kernel_rfl
theorem dig1:sha (dt1.map toB).flatten=toB dd1:=by kernel_rfl
noncomputable def pubTab:Tab:=[([sd0],pk0),([sd1],pk1),([sd2],pk2),([sd3],pk3),([sd4],pk4),([sd5],pk5),([sd6],pk6),([sd7],pk7)]
theorem pubTab_ok:PubTab pubTab:=fun k r h=>by
 simp only [pubTab,List.mem_cons,Prod.mk.injEq,List.mem_nil_iff,or_false] at h
 rcases h with ⟨rfl,rfl⟩ | ⟨rfl,rfl⟩ | ⟨rfl,rfl⟩ | ⟨rfl,rfl⟩ | ⟨rfl,rfl⟩ | ⟨rfl,rfl⟩ | ⟨rfl,rfl⟩ | ⟨rfl,rfl⟩
 ·exact ⟨⟨by decide,by decide⟩,_,rfl,rfl,pub0⟩
 ·exact ⟨⟨by decide,by decide⟩,_,rfl,rfl,pub1⟩
 ·exact ⟨⟨by decide,by decide⟩,_,rfl,rfl,pub2⟩
 ·exact ⟨⟨by decide,by decide⟩,_,rfl,rfl,pub3⟩
 ·exact ⟨⟨by decide,by decide⟩,_,rfl,rfl,pub4⟩
 ·exact ⟨⟨by decide,by decide⟩,_,rfl,rfl,pub5⟩
 ·exact ⟨⟨by decide,by decide⟩,_,rfl,rfl,pub6⟩
 ·exact ⟨⟨by decide,by decide⟩,_,rfl,rfl,pub7⟩
noncomputable def sigTab:Tab:=[(sd2 :: tx0,sg0)]
theorem sigTab_ok:SigTab sigTab:=fun k r h=>by
 simp only [sigTab,List.mem_cons,Prod.mk.injEq,List.mem_nil_iff,or_false] at h
 obtain ⟨rfl,rfl⟩:=h
 exact ⟨⟨by decide,by decide⟩,_,_,rfl,rfl,⟨by decide,by decide⟩,sig0⟩
noncomputable def howTab:Tab:=[(rr0 :: pk2 :: tx0,hw0)]
theorem howTab_ok:HowTab howTab:=fun k r h=>by
 simp only [howTab,List.mem_cons,Prod.mk.injEq,List.mem_nil_iff,or_false] at h
 obtain ⟨rfl,rfl⟩:=h
 exact ⟨⟨by decide,by decide⟩,_,_,_,rfl,by decide,by decide,⟨by decide,by decide⟩,how0⟩
noncomputable def digTab:Tab:=[(dt0,dd0),(dt1,dd1)]
theorem digTab_ok:DigTab digTab:=fun k r h=>by
 simp only [digTab,List.mem_cons,Prod.mk.injEq,List.mem_nil_iff,or_false] at h
 rcases h with ⟨rfl,rfl⟩ | ⟨rfl,rfl⟩
 ·exact ⟨⟨by decide,by decide⟩,⟨by decide,by decide⟩,dig0⟩
 ·exact ⟨⟨by decide,by decide⟩,⟨by decide,by decide⟩,dig1⟩
noncomputable def shTab:ShTab:=[]
theorem shTab_ok:ShOk shTab:=fun k a l h=>by
 unfold shTab at h; cases h
theorem GS_GE : ∀ w,GS w→GE w:=fun w h=>h.ge
theorem x_pow3 (a:F5):resV (runE 459 [a.v,.int .i64 252,.int .u64 3] ⟨.lf,0⟩)=some (fpow a 3 252 ⟨1,0,0,0,0⟩).v:=by kernel_rfl
theorem x_pow5 (a:F5):resV (runE 459 [a.v,.int .i64 253,.int .u64 5] ⟨.lf,0⟩)=some (fpow a 5 253 ⟨1,0,0,0,0⟩).v:=by kernel_rfl
noncomputable def powQ (f:FuncId) (xs:List XV):Option XV:=br (Nat.beq f 459) (match xs with
 | [x,n,m]=>br (sameX n (.int .i64 252)) (br (sameX m (.int .u64 3)) (un5 (fun a=>fpow a 3 252 ⟨1,0,0,0,0⟩) [x]) none) (br (sameX n (.int .i64 253)) (br (sameX m (.int .u64 5)) (un5 (fun a=>fpow a 5 253 ⟨1,0,0,0,0⟩) [x]) none) none)
 | _=>none) none
theorem dry_3 (a:F5) (n m:Int):DryA [a.v,.int .i64 n,.int .u64 m]:=fun _=>rfl
theorem powQ_ok {f:FuncId} {xs:List XV} {y:XV} (hr:powQ f xs=some y) (h:Hp):QuietOk Tryz.prog GS f xs h y:=by
 unfold powQ at hr
 obtain ⟨h1,hr1⟩:=br_some hr
 clear hr
 have:=Nat.eq_of_beq_eq_true h1
 subst this
 split at hr1
 ·next x n m=>
  cases h2:sameX n (.int .i64 252) with
  | true=>
    rw [h2,br_t] at hr1
    obtain ⟨h3,hr2⟩:=br_some hr1
    obtain ⟨a,e,rfl⟩:=un5_eq hr2
    cases e
    rw [sameX_eq h2,sameX_eq h3]
    obtain ⟨h',e1⟩:=resV_ex (x_pow3 a)
    exact quiet_dry ((xcalls_ok mixed noD_ok (nE_ok GS_GE) 10).c _ _ _ _ _ e1) (dry_3 a _ _) (dry_F5 _) h
  | false=>
    rw [h2,br_f] at hr1
    obtain ⟨h3,hr2⟩:=br_some hr1
    obtain ⟨h4,hr3⟩:=br_some hr2
    obtain ⟨a,e,rfl⟩:=un5_eq hr3
    cases e
    rw [sameX_eq h3,sameX_eq h4]
    obtain ⟨h',e1⟩:=resV_ex (x_pow5 a)
    exact quiet_dry ((xcalls_ok mixed noD_ok (nE_ok GS_GE) 10).c _ _ _ _ _ e1) (dry_3 a _ _) (dry_F5 _) h
 ·cases hr1
noncomputable def baseQ (f:FuncId) (xs:List XV):Option XV:=br (Nat.beq f 177) (match xs with | []=>some (.agg baseP.w) | _=>none) none
noncomputable def qV (f:FuncId) (xs:List XV) (h:Hp):Option XV:=match rightQ f xs h with
 | some r=>some r
 | none=>(match baseQ f xs with
   | some r=>some r
   | none=>(match powQ f xs with
     | some r=>some r
     | none=>fieldQ3 f xs h))
theorem qV_ok {f:FuncId} {xs:List XV} {h:Hp} {y:XV} (hr:qV f xs h=some y):QuietOk Tryz.prog GS f xs h y:=by
 unfold qV at hr
 split at hr
 ·next r h1=>cases hr; exact rightQ_ok h1
 ·split at hr
  ·next r h1=>
   cases hr
   unfold baseQ at h1
   obtain ⟨h2,h3⟩:=br_some h1
   have:=Nat.eq_of_beq_eq_true h2
   subst this
   split at h3
   ·cases h3; exact q_Base GS_GE h
   ·cases h3
  ·split at hr
   ·next r h1=>cases hr; exact powQ_ok h1 h
   ·exact fieldQ3_ok GS_GE hr
noncomputable def nV:CallsX:=⟨orC pointC (orC (tabC 331 key3 howTab) bitsC),addE,globE,qV,fun _ _ _=>none,fun _ _ _=>none⟩
theorem nV_ok:CallsOk Tryz.prog GS nV:=⟨orC_ok (pointC_ok GS_GE) (orC_ok (howC_ok howTab_ok) bitsC_ok),fun _ _ _ h=>addE_ok h,fun _ _ _ h=>globE_ok GS_GE h,fun _ _ _ _ h=>qV_ok h,fun _ _ _ _ _ h=>(by cases h),fun _ _ _ _ _ h=>(by cases h)⟩
noncomputable abbrev runV (f:FuncId) (xs:List XV) (h:Hp):Option (XV×Hp):=(xcalls Tryz.prog noD nV 1000 12).c f xs h
noncomputable def verE (pk sg tx:List Nat) (n:Nat):Ent:=⟨204,[(none,0),(none,1),(none,2),(some 2,0)],[.slu 0 0 32 1,.slu 1 0 64 1,.sl (some (2,0)) 1 1],
 [.row (mapB pk),.row (mapB sg),.cells [.slu 3 0 (len (mapB tx)) 1],.row (mapB tx)],.bool true,[],n⟩
noncomputable def verR (e:Ent):Bool:=(fun r=>br (entB e r) (keptB e r) false) (runV e.f e.xs e.heap)
theorem ver_ok {e:Ent} (h:verR e=true):EntOk Tryz.prog GS e:=by
 obtain ⟨h1,h2⟩:=br_and h
 exact ent_of (xcalls_ok mixed noD_ok nV_ok 12) rfl h1 h2
theorem ver1:verR (verE pk2 sg0 ta0_0 53191)=true:=by kernel_rfl
theorem callD_any {P:Program} {f:FuncId} {fn:Func} {c:Code} (hf:P.funcs[f]? = some fn) (hb:fn.body=some c) (args:Array Value) (hl:args.size≤fn.ntmps) {u:FrameMode} {w:World} {R:Ending→FrameMode→World→Prop}
 (h:denS P fn.ntmps c (ktSOf P fn R) u [] w):CallsDIn Fence.wide 0 P f args u w R:=by
 refine callsDIn_of_wpSIn hf hb trivial fun c0 cs hu=>?_
 have hs:Sim fn.ntmps [] (args++Array.replicate (fn.ntmps - args.size) undef):=⟨by simp; omega,fun t ht=>by cases ht⟩
 have hc0:c0 = {c0 with mode:=u}:=by subst hu; rfl
 rw [hc0]
 refine wpSIn_mono (denS_wp (c0:=c0) (cs:=cs) c _ u _ _ w hs rfl h) ?_
 intro e a cs' w' hq
 cases e with
 | normal=>
   obtain ⟨hd,u',rfl,env,hs',hk⟩:=hq
   have:=retK_post (R:=fun e w=>R e u' w) hs' hk
   exact ⟨hd,u',rfl,this⟩
 | ret=>
   obtain ⟨hd,u',rfl,env,hs',hk⟩:=hq
   have:=retK_post (R:=fun e w=>R e u' w) hs' hk
   exact ⟨hd,u',rfl,this⟩
 | panic c=>
   obtain ⟨hd,u',rfl,hk⟩:=hq
   exact ⟨hd,u',rfl,hk⟩
 | exit i=>exact hq.elim
 | goto l=>exact hq.elim
 | outgrown=>exact hq.elim
abbrev DQ (f:FuncId):Prop:=∀ (args:Array Value) (w:World),args.size≤3→callDK Tryz.prog f args .returning w fun u w'=>u = .returning∧Mod NoB w w'
theorem dq218:DQ 218:=fun args w hl=>by
 refine callD_any Tryz.func218 (bodyOf_some (by kernel_rfl)) args (Nat.le_trans hl (Nat.le_of_ble_eq_true (by kernel_rfl))) ?_
 exact Exists.intro (.bool false) (And.intro (fun w=>rfl) (Exists.intro false (And.intro rfl (And.intro (fun h=>by cases h) (And.intro rfl (Mod.refl _ _))))))
theorem dq238:DQ 238:=fun args w hl=>by
 refine callD_any Tryz.func238 (bodyOf_some (by kernel_rfl)) args (Nat.le_trans hl (Nat.le_of_ble_eq_true (by kernel_rfl))) ?_
 exact Exists.intro (.bool false) (And.intro (fun w=>rfl) (Exists.intro false (And.intro rfl (And.intro (fun h=>by cases h) (And.intro rfl (Mod.refl _ _))))))
theorem dq312:DQ 312:=fun args w hl=>by
 refine callD_any Tryz.func312 (bodyOf_some (by kernel_rfl)) args (Nat.le_trans hl (Nat.le_of_ble_eq_true (by kernel_rfl))) ?_
 exact Exists.intro (.bool false) (And.intro (fun w=>rfl) (Exists.intro false (And.intro rfl (And.intro (fun h=>by cases h) (And.intro rfl (Mod.refl _ _))))))
theorem dq327:DQ 327:=fun args w hl=>by
 refine callD_any Tryz.func327 (bodyOf_some (by kernel_rfl)) args (Nat.le_trans hl (Nat.le_of_ble_eq_true (by kernel_rfl))) ?_
 exact Exists.intro (.bool false) (And.intro (fun w=>rfl) (Exists.intro false (And.intro rfl (And.intro (fun h=>by cases h) (And.intro rfl (Mod.refl _ _))))))
theorem dq389:DQ 389:=fun args w hl=>by
 refine callD_any Tryz.func389 (bodyOf_some (by kernel_rfl)) args (Nat.le_trans hl (Nat.le_of_ble_eq_true (by kernel_rfl))) ?_
 exact Exists.intro (.bool false) (And.intro (fun w=>rfl) (Exists.intro false (And.intro rfl (And.intro (fun h=>by cases h) (And.intro rfl (Mod.refl _ _))))))
theorem dq391:DQ 391:=fun args w hl=>by
 refine callD_any Tryz.func391 (bodyOf_some (by kernel_rfl)) args (Nat.le_trans hl (Nat.le_of_ble_eq_true (by kernel_rfl))) ?_
 exact Exists.intro (.bool false) (And.intro (fun w=>rfl) (Exists.intro false (And.intro rfl (And.intro (fun h=>by cases h) (And.intro rfl (Mod.refl _ _))))))
theorem dq417:DQ 417:=fun args w hl=>by
 refine callD_any Tryz.func417 (bodyOf_some (by kernel_rfl)) args (Nat.le_trans hl (Nat.le_of_ble_eq_true (by kernel_rfl))) ?_
 exact Exists.intro (.bool false) (And.intro (fun w=>rfl) (Exists.intro false (And.intro rfl (And.intro (fun h=>by cases h) (And.intro rfl (Mod.refl _ _))))))
theorem dq467:DQ 467:=fun args w hl=>by
 refine callD_any Tryz.func467 (bodyOf_some (by kernel_rfl)) args (Nat.le_trans hl (Nat.le_of_ble_eq_true (by kernel_rfl))) ?_
 exact Exists.intro (.bool false) (And.intro (fun w=>rfl) (Exists.intro false (And.intro rfl (And.intro (fun h=>by cases h) (And.intro rfl (Mod.refl _ _))))))
theorem dq497:DQ 497:=fun args w hl=>by
 refine callD_any Tryz.func497 (bodyOf_some (by kernel_rfl)) args (Nat.le_trans hl (Nat.le_of_ble_eq_true (by kernel_rfl))) ?_
 exact Exists.intro (.bool false) (And.intro (fun w=>rfl) (Exists.intro false (And.intro rfl (And.intro (fun h=>by cases h) (And.intro rfl (Mod.refl _ _))))))
theorem dq526:DQ 526:=fun args w hl=>by
 refine callD_any Tryz.func526 (bodyOf_some (by kernel_rfl)) args (Nat.le_trans hl (Nat.le_of_ble_eq_true (by kernel_rfl))) ?_
 exact Exists.intro (.bool false) (And.intro (fun w=>rfl) (Exists.intro false (And.intro rfl (And.intro (fun h=>by cases h) (And.intro rfl (Mod.refl _ _))))))
theorem dq571:DQ 571:=fun args w hl=>by
 refine callD_any Tryz.func571 (bodyOf_some (by kernel_rfl)) args (Nat.le_trans hl (Nat.le_of_ble_eq_true (by kernel_rfl))) ?_
 exact Exists.intro (.bool false) (And.intro (fun w=>rfl) (Exists.intro false (And.intro rfl (And.intro (fun h=>by cases h) (And.intro rfl (Mod.refl _ _))))))
theorem dq579:DQ 579:=fun args w hl=>by
 refine callD_any Tryz.func579 (bodyOf_some (by kernel_rfl)) args (Nat.le_trans hl (Nat.le_of_ble_eq_true (by kernel_rfl))) ?_
 exact Exists.intro (.bool false) (And.intro (fun w=>rfl) (Exists.intro false (And.intro rfl (And.intro (fun h=>by cases h) (And.intro rfl (Mod.refl _ _))))))
theorem dq592:DQ 592:=fun args w hl=>by
 refine callD_any Tryz.func592 (bodyOf_some (by kernel_rfl)) args (Nat.le_trans hl (Nat.le_of_ble_eq_true (by kernel_rfl))) ?_
 exact Exists.intro (.bool false) (And.intro (fun w=>rfl) (Exists.intro false (And.intro rfl (And.intro (fun h=>by cases h) (And.intro rfl (Mod.refl _ _))))))
theorem dq670:DQ 670:=fun args w hl=>by
 refine callD_any Tryz.func670 (bodyOf_some (by kernel_rfl)) args (Nat.le_trans hl (Nat.le_of_ble_eq_true (by kernel_rfl))) ?_
 exact Exists.intro (.bool false) (And.intro (fun w=>rfl) (Exists.intro false (And.intro rfl (And.intro (fun h=>by cases h) (And.intro rfl (Mod.refl _ _))))))
noncomputable def anyF (f:FuncId) (l:List Nat):Bool:=List.rec (motive:=fun _=>Bool) false (fun a _ ih=>X.br (Nat.beq f a) true ih) l
theorem anyF_mem {f:FuncId} : ∀ {l:List Nat},anyF f l=true→f∈l
 | [],h=>by cases h
 | a :: l,h=>by
   have h:X.br (Nat.beq f a) true (anyF f l)=true:=h
   cases h1:Nat.beq f a with
   | true=>rw [Nat.eq_of_beq_eq_true h1]; exact List.mem_cons_self
   | false=>rw [h1,br_f] at h; exact List.mem_cons_of_mem _ (anyF_mem h)
noncomputable def dF (f:FuncId):Bool:=anyF f [218,238,312,327,389,391,417,467,497,526,571,579,592,670]
theorem dF_ok:DefFn Tryz.prog dF:=fun f hf=>by
 have h:=anyF_mem hf
 simp only [List.mem_cons,List.mem_nil_iff,or_false] at h
 rcases h with rfl | rfl | rfl | rfl | rfl | rfl | rfl | rfl | rfl | rfl | rfl | rfl | rfl | rfl
 ·exact ⟨by kernel_rfl,dq218⟩
 ·exact ⟨by kernel_rfl,dq238⟩
 ·exact ⟨by kernel_rfl,dq312⟩
 ·exact ⟨by kernel_rfl,dq327⟩
 ·exact ⟨by kernel_rfl,dq389⟩
 ·exact ⟨by kernel_rfl,dq391⟩
 ·exact ⟨by kernel_rfl,dq417⟩
 ·exact ⟨by kernel_rfl,dq467⟩
 ·exact ⟨by kernel_rfl,dq497⟩
 ·exact ⟨by kernel_rfl,dq526⟩
 ·exact ⟨by kernel_rfl,dq571⟩
 ·exact ⟨by kernel_rfl,dq579⟩
 ·exact ⟨by kernel_rfl,dq592⟩
 ·exact ⟨by kernel_rfl,dq670⟩
end Go.Proofs.YtihafpcnhgapdaaGreatDoor
end
section
namespace Go.Proofs.YtihafpcnhgapdaaGreatDoor
open Go Go.Sh
def sh325 (s:List UInt8) (w:World) (R:Ending→World→Prop):Prop:=
 callK Tryz.prog 478 [.string ⟨s.toArray⟩] w (panR R) fun v w1=>∃ x:List UInt8,v=(.string ⟨x.toArray⟩)∧R (.returned (.string ⟨x.toArray⟩)) w1
theorem call325 (s:List UInt8) {w:World} {R:Ending→World→Prop} (hden:sh325 s w R):Calls Tryz.prog 325 #[.string ⟨s.toArray⟩] w R:=
 calls_of_form (.seq none .z (.seq none .z .z)) Tryz.func325 (by kernel_rfl) [.s s] (by kernel_rfl) (by kernel_rfl) hden
def sh478 (s:List UInt8) (w:World) (R:Ending→World→Prop):Prop:=
 condK ((s.length:Int)==(0:Int)) (R (.returned (.string ⟨([]).toArray⟩)) w) (semK Tryz.prog (Instr.makeSlice 22 (.int .i64 (s.length:Int)) (.int .i64 (s.length:Int))) w fun v w1=>∃ x:Slc,v=(.slice x.a x.len x.cap)∧semK Tryz.prog (Builtin.copy_ #[22,9] 3 #[.slice x.a x.len x.cap,.string ⟨s.toArray⟩]) w1 fun v1 w2=>∃ x1:Int,v1=(.int .i64 x1)∧((0≤(0:Int)∧(0:Int)<(x.len:Nat))∧onSome x.a fun a=>semK Tryz.prog (Builtin.unsafeString_ #[566,3] 9 #[.pointer (some (a.add (((0:Int)).toNat*1))),.int .i64 (x.len:Int)]) w2 fun v2 w3=>∃ x2:List UInt8,v2=(.string ⟨x2.toArray⟩)∧R (.returned (.string ⟨x2.toArray⟩)) w3))
theorem call478 (s:List UInt8) {w:World} {R:Ending→World→Prop} (hden:sh478 s w R):Calls Tryz.prog 478 #[.string ⟨s.toArray⟩] w R:=
 calls_of_form (.seq none .z (.seq none (.seq none .z (.cond (.seq none .z .z) .z)) (.seq none .z (.seq none .z (.seq none .z .z))))) Tryz.func478 (by kernel_rfl) [.s s] (by kernel_rfl) (by kernel_rfl) hden
end Go.Proofs.YtihafpcnhgapdaaGreatDoor
end
section
namespace Go.Proofs.YtihafpcnhgapdaaGreatDoor
open Go Go.Sh Go.X
section
variable {w:World}
theorem sem_copyStr {t t2 ty:TypeId} {K:Value→World→Prop} (ht:Tryz.prog.underlying t=some (.slice 5)) {b:Nat} {l:List Value} {T:TypeId} {s:List UInt8} (hb:Blk w b l T) (hl:l.length=s.length)
 (hK : ∀ w',Blk w' b (bys s) T→Mod (fun y=>y=b) w w'→w'.heap.size=w.heap.size→K (.int .i64 s.length) w') :
 semK Tryz.prog (Builtin.copy_ #[t,t2] ty #[.slice (some ⟨b,0,none⟩) s.length s.length,.string ⟨s.toArray⟩]) w K:=by
 obtain ⟨i5',h51,h52,h53,h54⟩:=i5
 obtain ⟨w',hst,hb',ht'⟩:=store_blk (P:=Tryz.prog) (o:=0) (vs:=bys s) hb (by simp; omega) (bys_one _)
 have e:putAt l 0 (bys s)=bys s:=by
  simp only [putAt,List.take_zero,List.nil_append]
  rw [List.drop_eq_nil_of_le (by simp; omega),List.append_nil]
 rw [e] at hb'
 have hmin:Nat.min s.length s.length=s.length:=Nat.min_self _
 refine ⟨_,_,?_,hK _ hb' ht'.mod ht'.size⟩
 have hex:(ByteArray.extract ⟨s.toArray⟩ 0 s.length).data.map (fun b=>Value.int .u8 b.toNat)=(bys s).toArray:=by
  have:(ByteArray.extract ⟨s.toArray⟩ 0 s.length).data=s.toArray:=by
   rw [ByteArray.data_extract]
   simp
  rw [this]; simp [bys]
 unfold Builtin.copy_
 simp only [List.getElem?_toArray,List.getElem?_cons_zero,List.getElem?_cons_succ,run_underlying ht,Sem.run_bind,Sem.run_pure,Result.andThen_ok,Builtin.lenOf,Builtin.firstCells,goInt,Go.Sh.run_sizeOf h51]
 have hsz:(ByteArray.mk s.toArray).size=s.length:=by simp [ByteArray.size]
 simp only [hsz,hmin,hex,hst,Result.andThen_ok]
theorem c_sclone {s:List UInt8} (hn:s.length≤1000000000):Calls Tryz.prog 325 #[.string ⟨s.toArray⟩] w (Ret fun v w'=>v = .string ⟨s.toArray⟩∧Mod NoB w w'):=by
 refine call325 _ ?_
 unfold sh325
 have hc:Calls Tryz.prog 478 #[.string ⟨s.toArray⟩] w (Ret fun v w'=>v = .string ⟨s.toArray⟩∧Mod NoB w w'):=by
  refine call478 _ ?_
  unfold sh478
  obtain ⟨i5',h51,h52,h53,h54⟩:=i5
  refine condK_i (fun h=>?_) fun h=>?_
  ·have:s=[]:=List.eq_nil_of_length_eq_zero (by have:=h; simp at this; simp [this])
   subst this
   exact ⟨rfl,Mod.refl _ _⟩
  ·have h0:s≠[]:=by rintro rfl; simp at h
   have hp:0<s.length:=List.length_pos_iff.2 h0
   refine sem_makeSlice (l:=s.length) (c:=s.length) u26 h51 h52 h53 rfl h54 rfl rfl (by omega) (by omega) (by omega) fun b w1 hN1 hb1 ho1=>⟨⟨some ⟨b,0,none⟩,s.length,s.length⟩,rfl,?_⟩
   have hat:=hN1.at_
   refine sem_copyStr u26 hb1 (by simp) fun w2 hb2 hm2 hs2=>⟨_,rfl,⟨by omega,by show (0:Int)<((s.length:Nat):Int); omega⟩,?_⟩
   show semK _ _ _ _
   refine ⟨_,_,Lib.run_unsafeString_row _ 566 3 9 5 uPB (by kernel_rfl) b (bys s).length (shape_of hb2) s h0 (by simp) (by omega) (fun j x hj=>?_),s,rfl,rfl,?_⟩
   ·rw [addl,Nat.zero_add,hb2.cell]
    simp [bys,hj]
   ·exact (hN1.mod.fresh hm2 fun x e=>by omega).fresh (freeze_tch hb2) fun x e=>by omega
 refine callK_ret hc ?_
 rintro v w1 ⟨rfl,hm⟩
 exact ⟨_,rfl,rfl,hm⟩
end
noncomputable def cloneQ (f:FuncId) (xs:List XV):Option XV:=X.br (Nat.beq f 325) (match xs with
 | [.str l]=>X.br (Nat.ble (len l) 1000) (some (.str l)) none
 | _=>none) none
theorem cloneQ_ok {f:FuncId} {xs:List XV} {y:XV} (hr:cloneQ f xs=some y) (h:Hp):QuietOk Tryz.prog GS f xs h y:=by
 unfold cloneQ at hr
 obtain ⟨h1,hr1⟩:=br_some hr
 clear hr
 have:=Nat.eq_of_beq_eq_true h1
 subst this
 split at hr1
 ·next l=>
  obtain ⟨h2,hr2⟩:=br_some hr1
  cases hr2
  have h2:=Nat.le_of_ble_eq_true h2
  rw [len_eq] at h2
  intro S0 w0 ρ w vs hG hi hx
  simp only [XRs] at hx
  obtain ⟨v,vs',rfl,h4,rfl⟩:=hx
  simp only [XR] at h4
  obtain ⟨h5,rfl⟩:=h4
  refine Calls.mono (c_sclone (s:=l.map UInt8.ofNat) (by simp; omega)) fun e w' he=>?_
  cases e <;> first | exact he.elim | skip
  obtain ⟨rfl,hm⟩:=he
  exact ⟨_,rfl,by simp only [XR]; exact ⟨h5,rfl⟩,hi.no hm⟩
 ·cases hr1
noncomputable def cloneX (f:FuncId) (xs:List XV) (h:Hp):Option (XV×Hp):=br (Nat.beq f 130) (match xs with
 | [.ifc t (.map (some L))]=>onO (mapAt h L) fun q=>some (.ifc t (.map (some h.n)),⟨h.t.set (some (.map q.1 q.2)) h.n,Nat.succ h.n⟩)
 | _=>none) none
theorem run_clone (es:Array MapEntry) (c r:Nat) (t:TypeId) (w:World) (hb:w.heap[r]? = some (.map es c)):(callFunc (130:Nat) #[.iface t (.map (some r))]).run Tryz.prog w = .ok (.value (.iface t (.map (some w.heap.size)))) (w.alloc (.map es c)):=by
 rw [run_callFunc_extern Tryz.func130 (by kernel_rfl) (by kernel_rfl) (by kernel_rfl) (e:=Extern.MapsClone.clone) (by kernel_rfl)]
 have e:Extern.MapsClone.clone #[.iface t (.map (some r))]=(getObj r >>= fun o=>match o with
  | .map entries clock=>(newObj (.map entries clock) >>= fun n=>pure (.iface t (.map (some n))))
  | _=>stuck "maps.clone: a map expected"):=rfl
 have g1:(getObj r).run Tryz.prog w = .ok (.map es c) w:=by simp [getObj,Sem.run,hb]
 rw [e]
 simp only [Sem.run_bind,g1,Result.andThen_ok,run_newObj_alloc,Sem.run_pure]
theorem cloneX_ok {f:FuncId} {xs:List XV} {h h':Hp} {y:XV} (hr:cloneX f xs h=some (y,h')):ExtHOk Tryz.prog f xs h y h':=by
 intro S0 w0 ρ w vs hi hxs
 unfold cloneX at hr
 have hq:=br_some hr
 clear hr
 obtain ⟨h1,hr⟩:=hq
 have h1:=Nat.eq_of_beq_eq_true h1
 subst h1
 split at hr
 ·next t L=>
  obtain ⟨⟨es,c⟩,h2,hr⟩:=onO_some hr
  cases hr
  obtain ⟨b,s,ms,q1,q2,q3,q4⟩:=hi.map h2
  simp only [XRs,XR] at hxs
  obtain ⟨v,vs',rfl,⟨u,⟨b',s',e1,rfl⟩,rfl⟩,rfl⟩:=hxs
  rw [q2] at e1; cases e1
  obtain ⟨g1,g2⟩:=hi.new (o:=.map es c) (b:=w.heap.size) (s:=0) rfl (alloc_mod w (.map ms.toArray c)) ⟨ms,ERs.le (le_new hi _ _) _ _ q3,heap_alloc_new w _⟩
  have hrun:=run_clone ms.toArray c b t w q4
  refine ⟨.iface t (.map (some w.heap.size)),w.alloc (.map ms.toArray c),_,?_,Lab.up_new g2,?_,g1⟩
  ·exact hrun
  ·simp only [XR]
   exact ⟨_,⟨w.heap.size,0,by rw [if_pos trivial],rfl⟩,rfl⟩
 ·cases hr
noncomputable def qA (f:FuncId) (xs:List XV) (h:Hp):Option XV:=match cloneQ f xs with
 | some r=>some r
 | none=>shQ shTab f xs
theorem qA_ok {f:FuncId} {xs:List XV} {h:Hp} {y:XV} (hr:qA f xs h=some y):QuietOk Tryz.prog GS f xs h y:=by
 unfold qA at hr
 split at hr
 ·next r h1=>cases hr; exact cloneQ_ok h1 h
 ·exact shQ_ok shTab_ok hr h
noncomputable def nA:CallsX:=⟨orC (tabC 32 key1 pubTab) (orC (tabC 316 key2 sigTab) (orC (tabC 175 keyR digTab) (entsC [verE pk2 sg0 ta0_0 53191]))),cmpE,globE,qA,fun _ _ _=>none,cloneX⟩
theorem nA_ok:CallsOk Tryz.prog GS nA:=⟨orC_ok (pubC_ok pubTab_ok) (orC_ok (sigC_ok sigTab_ok) (orC_ok (digC_ok digTab_ok) fun f xs h y h'=>entsC_ok fun e he=>by
 simp only [List.mem_cons,List.mem_nil_iff,or_false] at he
 subst he
 exact ver_ok ver1)),fun _ _ _ h=>cmpE_ok h,fun _ _ _ h=>globE_ok GS_GE h,fun _ _ _ _ hr=>qA_ok hr,fun _ _ _ _ _ h=>(by cases h),fun _ _ _ _ _ h=>cloneX_ok h⟩
noncomputable abbrev runA (f:FuncId) (xs:List XV) (h:Hp):Option (XV×Hp):=(xcalls Tryz.prog dF nA 1000 60).c f xs h
end Go.Proofs.YtihafpcnhgapdaaGreatDoor
end
section
namespace Go.Proofs.YtihafpcnhgapdaaGreatDoor
open Go Go.Sh
def RCf (id:Int) (w:World) (v:Value) (w':World):Prop:=∃ a b c:Slc,v = .agg (cfC id a b c).toArray∧Mod NoB w w'
theorem LentR.md {w0 w w':World} {x:Slc} {pl:List (List UInt8)} {S:Nat→Prop} (h:LentR w0 w x pl) (hm:Mod S w w') (hs : ∀ z,w0.heap.size≤z→¬ S z):LentR w0 w' x pl:=by
 obtain ⟨ss,ms,h1,h2,h3,h4,h5,h6,h7⟩:=h
 have e5 : ∀ b,Slc.blk ⟨x.a,x.len+12,x.cap⟩=some b→¬ S b:=fun b hb=>hs b (h5 b hb)
 exact ⟨ss,ms,h1,h2,h3,h4.mod hm e5,h5,fun i hi hi'=>⟨(h6 i hi hi').1.mod hm fun b hb=>hs b ((h6 i hi hi').2 b hb),(h6 i hi hi').2⟩,fun j hj=>⟨(h7 j hj).1.mod hm fun b hb=>hs b ((h7 j hj).2.1 b hb),(h7 j hj).2.1,fun y hy=>Nat.lt_of_lt_of_le ((h7 j hj).2.2 y hy) hm.size⟩⟩
theorem LentR.le {w0 w1 w:World} {x:Slc} {pl:List (List UInt8)} (h:LentR w1 w x pl) (hz:w0.heap.size≤w1.heap.size):LentR w0 w x pl:=by
 obtain ⟨ss,ms,h1,h2,h3,h4,h5,h6,h7⟩:=h
 exact ⟨ss,ms,h1,h2,h3,h4,h5.le hz,fun i hi hi'=>⟨(h6 i hi hi').1,(h6 i hi hi').2.le hz⟩,fun j hj=>⟨(h7 j hj).1,(h7 j hj).2.1.le hz,(h7 j hj).2.2⟩⟩
theorem LentGs.md {w0 w w':World} {x:Slc} {l:List Gt} {ks:List (List UInt8)} {S:Nat→Prop} (a:LentGs w0 w x l ks) (hm:Mod S w w') (hs : ∀ z,w0.heap.size≤z→¬ S z):LentGs w0 w' x l ks:=
 ⟨a.n,a.row.mod hm fun z hz=>hs z (a.f z hz),a.f,fun i h h'=>⟨(a.h i h h').1.mod hm fun z hz=>hs z ((a.h i h h').2 z hz),(a.h i h h').2⟩⟩
theorem LentGs.le {w0 w1 w:World} {x:Slc} {l:List Gt} {ks:List (List UInt8)} (a:LentGs w1 w x l ks) (hz:w0.heap.size≤w1.heap.size):LentGs w0 w x l ks:=
 ⟨a.n,a.row,a.f.le hz,fun i h h'=>⟨(a.h i h h').1,(a.h i h h').2.le hz⟩⟩
section
variable {w:World} {sd:Slc} {l:List UInt8} {ps:Slc} {ss:List Slc} {pl:List (List UInt8)} {gs:Slc} {rows:List Gt} {ks:List (List UInt8)}
theorem putc (id id':Int) (a b c a' b' c':Slc):putAt (cfC id a b c) 0 (cfC id' a' b' c')=cfC id' a' b' c':=by simp [putAt,cfC]
theorem c_own {id:Int} (hI:NIn w sd l ps ss pl gs rows ks) :
 Calls Tryz.prog 22 #[.agg #[.int .i64 id,.slice sd.a sd.len sd.cap,.slice ps.a ps.len ps.cap,.slice gs.a gs.len gs.cap]] w (Ret (RCf id w)):=by
 have hsl:=rd_len8 hI.s
 have hpl:=hI.plens
 have hsn:=hI.sn; have hpn:=hI.pn; have hgn:=hI.gn
 obtain ⟨ic,j1,j2,j3,j4⟩:=iConf
 refine call22 _ _ _ _ ?_
 unfold sh22
 refine sem_box (l:=cfC id sd ps gs) rfl fun q w1 hN1 hb1=>⟨_,rfl,?_⟩
 refine sem_alloc (l:=cf0) j1 j2 rfl fun p w2 hN2 hb2=>⟨_,rfl,?_⟩
 have e1:=hN1.at_; have e2:=hN2.at_; have hql:=hb1.lt; have z1:=hN1.size
 have hM2:=hN1.mod.tr hN2.mod
 have hq2:=hb1.no hN2.mod
 have hmd:Mod NoB w2 w2.drew:=Mod.drew _ _
 have hMd:=hM2.tr hmd
 refine ⟨fun w'=>Mod NoB w2 w',hmd,sd,fun w' hm=>(hq2.no hm).rd1 (o:=1) rfl,ps,fun w' hm=>(hq2.no hm).rd1 (o:=2) rfl,gs,fun w' hm=>(hq2.no hm).rd1 (o:=3) rfl,?_,trivial⟩
 refine callK_ret (c_clone (hI.no hMd).s (by omega)) ?_
 rintro v w3 ⟨x9,rfl,ho9,hf9,hm3⟩
 refine ⟨x9,rfl,hmd.tr hm3,?_,trivial⟩
 have hM3:=hMd.tr hm3
 refine callK_ret (c_cloneR (hI.no hM3).p (by have:=hI.plen; omega)) ?_
 rintro v w4 ⟨x10,rfl,ho10,hf10,hm4⟩
 have hM4:=hM3.tr hm4
 refine ⟨x10,rfl,(hmd.tr hm3).tr hm4,?_,trivial⟩
 refine callK_ret (c_cloneG (hI.no hM4).g.rd (by omega)) ?_
 rintro v w5 ⟨x11,rfl,ho11,hf11,hm5⟩
 have hM5:=hM4.tr hm5
 have hm25:=((hmd.tr hm3).tr hm4).tr hm5
 have hq5:=hq2.no hm25
 have hp5:=hb2.no hm25
 have z2:=hM2.size; have z3:=hM3.size; have z4:=hm4.size; have z5:=hm5.size
 have y3:=hm3.size; have yd:w2.drew.heap.size=w2.heap.size:=rfl; have yp:=hb2.lt
 have l10 : ∀ z,x10.blk=some z→p<z∧z<w4.heap.size:=fun z hz=>by have h1:=hf10 z hz; have h2:=ho10.lt hz; have:=hb2.lt; have:w2.drew.heap.size=w2.heap.size:=rfl; have:=hm3.size; omega
 have l11 : ∀ z,x11.blk=some z→w4.heap.size≤z∧z<w5.heap.size:=fun z hz=>by have h1:=hf11 z hz; have h2:=ho11.lt hz; omega
 refine ⟨x11,rfl,hm25,?_,trivial⟩
 refine semU_store1 (b:=q) (o:=1) (by kernel_rfl) (by kernel_rfl) rfl hq5 (by simp [cfC]) fun w6 ht6 hq6=>⟨?_,trivial⟩
 have hq6:Blk w6 q (cfC id x9 ps gs) _:=hq6
 refine semU_store1 (b:=q) (o:=2) (by kernel_rfl) (by kernel_rfl) rfl hq6 (by simp [cfC]) fun w7 ht7 hq7=>⟨?_,trivial⟩
 have hq7:Blk w7 q (cfC id x9 x10 gs) _:=hq7
 refine semU_store1 (b:=q) (o:=3) (by kernel_rfl) (by kernel_rfl) rfl hq7 (by simp [cfC]) fun w8 ht8 hq8=>?_
 have hq8:Blk w8 q (cfC id x9 x10 x11) _:=hq8
 have ht58:Mod (fun z=>z=q) w5 w8:=(ht6.mod.tr ht7.mod).tr ht8.mod
 have hM8:Mod NoB w w8:=hM5.fresh ht58 fun z e=>by omega
 have hpq:p≠q:=by omega
 have hp8:Blk w8 p cf0 _:=hp5.mod ht58 fun e=>hpq e
 have ho10':Sh.Own w8 x10 1 (vals ss):=(ho10.no hm5).mod ht58 fun z hz e=>by have:=l10 z hz; omega
 have ho11':Sh.Own w8 x11 3 (gsC rows):=ho11.mod ht58 fun z hz e=>by have:=l11 z hz; omega
 have z8:=ht58.size
 have d1011 : ∀ z,x10.blk=some z→¬ x11.blk=some z:=fun z hz e=>by have h1:=l10 z hz; have h2:=l11 z e; omega
 have hlen10:x10.len=pl.length:=by have:=ho10.1; rw [vals_len] at this; have:=hI.plen; omega
 have hlen11:=rd_lenG ho11.rd
 have hI8:=hI.no hM8
 have hP10:PAt w8 x10 ss:=fun s hs=>by
  obtain ⟨i,hi,rfl⟩:=List.getElem_of_mem hs
  have hi':i<pl.length:=by rw [← hI.plen]; exact hi
  exact ⟨⟨pl[i],hI.pln _ (List.getElem_mem hi'),(hI8.pk i hi hi').1⟩,fun z hz=>⟨(hI8.pk i hi hi').2 z hz,fun e=>by have h1:=(hI.pk i hi hi').2 z hz; have h2:=l10 z e; omega⟩⟩
 refine ⟨x10,hq8.rd1 (o:=2) rfl,?_⟩
 refine ⟨fun l' w'=>match l' with | [.i _ x]=>∃ k:Nat,x=k∧k≤pl.length∧Mod (fun z=>x10.blk=some z) w8 w'∧∃ ss',Sh.Own w' x10 1 (vals ss')∧ss'.length=pl.length∧PAt w' x10 ss' | _=>False,fun l' _=>match l' with | [.i _ x]=>(pl.length - x).toNat | _=>0,⟨0,rfl,by omega,Mod.refl _ _,ss,ho10',hI.plen,hP10⟩,?_⟩
 rintro x w16 ⟨k,rfl,hk,hm16,ss',ho16,hls,hP16⟩
 have hq16:Blk w16 q (cfC id x9 x10 x11) _:=hq8.mod hm16 fun e=>by have:=l10 q e; omega
 refine condK_i (fun hlt=>?_) fun hge=>?_
 ·have hk':k<ss'.length:=by simp at hlt; omega
  obtain ⟨a,ea,hr⟩:=rd_slc ho16.rd hk'
  have hmd16:Mod NoB w16 w16.drew:=Mod.drew _ _
  have hb:(0:Int)≤(k:Int)∧(k:Int)<(x10.len:Nat):=⟨by omega,by omega⟩
  refine ⟨fun w'=>Mod NoB w16 w',hmd16,x10,fun w' hm=>(hq16.no hm).rd1 (o:=2) rfl,x10,fun w' hm=>(hq16.no hm).rd1 (o:=2) rfl,hb,?_⟩
  rw [ea]
  refine ⟨ss'[k],fun w' hm=>Rd.mod hr hm fun h=>h,?_,trivial⟩
  obtain ⟨⟨lk,hlk,hrk⟩,hbk⟩:=hP16 _ (List.getElem_mem hk')
  refine callK_ret (c_clone (hrk.no hmd16) (by omega)) ?_
  rintro v w17 ⟨x18,rfl,ho17,hf17,hm17⟩
  refine ⟨x18,rfl,hmd16.tr hm17,hb,?_⟩
  have hf17:FB w16.drew x18:=FB.of hf17
  have hmm:Mod NoB w16 w17:=hmd16.tr hm17
  refine ⟨?_,trivial⟩
  show semU _ (storeVar _ (a.add (k*1)) x18.val) _ _
  refine semU_ownk (k:=1) (by kernel_rfl) (by kernel_rfl) rfl (ho16.no hmm) ea (j:=k*1) (by omega) fun w18 ho18 hm18 hs18=>⟨⟨k+1,wrap_nat (by omega),by omega,(hm16.tr (hmm.mono fun _ _ h=>h.elim)).tr hm18,ss'.set k x18,?_,by rw [List.length_set]; exact hls,?_⟩,?_⟩
  ·rw [Nat.mul_one,vals_set] at ho18
   exact ho18
  ·have hlt10 : ∀ z,x10.blk=some z→z<w16.heap.size:=fun z hz=>ho16.lt hz
   have hz16:w16.drew.heap.size=w16.heap.size:=rfl
   refine ((hP16.no hmm).set fun t ht=>?_).mod hm18
   simp at ht; subst ht
   exact ⟨⟨lk,hlk,ho17.rd⟩,fun z hz=>⟨ho17.lt hz,fun e=>by have h1:=hf17 z hz; have h2:=hlt10 z e; omega⟩⟩
  ·rw [wrap_nat (by omega)]; (try simp only []); omega
 have hP11:PAt w16 x11 (rows.map Gt.s):=fun s hs=>by
  obtain ⟨r,hr,rfl⟩:=List.mem_map.1 hs
  obtain ⟨i,hi,rfl⟩:=List.getElem_of_mem hr
  have hi':i<ks.length:=by rw [← hI.g.len]; exact hi
  refine ⟨⟨ks[i],hI.kn _ (List.getElem_mem hi'),(hI8.g.key i hi hi').1.mod hm16 fun z hz e=>?_⟩,fun z hz=>⟨Nat.lt_of_lt_of_le ((hI8.g.key i hi hi').2 z hz) hm16.size,fun e=>?_⟩⟩
  ·have h1:=(hI.g.key i hi hi').2 z hz; have h2:=l10 z e; omega
  ·have h1:=(hI.g.key i hi hi').2 z hz; have h2:=(l11 z e).1; omega
 have ho11'':Sh.Own w16 x11 3 (gsC rows):=ho11'.mod hm16 fun z hz e=>d1011 z e hz
 have hM16:Mod NoB w w16:=hM8.fresh hm16 fun z e=>by have:=(l10 z e).1; omega
 have hp16:Blk w16 p cf0 _:=hp8.mod hm16 fun e=>by have:=(l10 p e).1; omega
 refine ⟨x11,hq16.rd1 (o:=3) rfl,?_⟩
 refine ⟨fun l' w'=>match l' with | [.i _ x]=>∃ k:Nat,x=k∧k≤rows.length∧Mod (fun z=>x11.blk=some z) w16 w'∧∃ gs',Sh.Own w' x11 3 (gsC gs')∧gs'.length=rows.length∧PAt w' x11 (gs'.map Gt.s) | _=>False,fun l' _=>match l' with | [.i _ x]=>(rows.length - x).toNat | _=>0,⟨0,rfl,by omega,Mod.refl _ _,rows,ho11'',rfl,hP11⟩,?_⟩
 rintro x w19 ⟨k2,rfl,hk2,hm19,gs',ho19,hlg,hP19⟩
 have hq19:Blk w19 q (cfC id x9 x10 x11) _:=hq16.mod hm19 fun e=>by have:=(l11 q e).1; omega
 refine condK_i (fun hlt=>?_) fun hge=>?_
 ·have hk':k2<gs'.length:=by simp at hlt; omega
  obtain ⟨a,ea,hr⟩:=rd_g ho19.rd hk'
  have hmd19:Mod NoB w19 w19.drew:=Mod.drew _ _
  have hb:(0:Int)≤(k2:Int)∧(k2:Int)<(x11.len:Nat):=⟨by omega,by omega⟩
  refine ⟨fun w'=>Mod NoB w19 w',hmd19,x11,fun w' hm=>(hq19.no hm).rd1 (o:=3) rfl,x11,fun w' hm=>(hq19.no hm).rd1 (o:=3) rfl,hb,?_⟩
  rw [ea]
  refine ⟨gs'[k2].s,fun w' hm=>Rd.mod (rd_nth hr 1 rfl) hm fun h=>h,?_,trivial⟩
  obtain ⟨⟨lk,hlk,hrk⟩,hbk⟩:=hP19 gs'[k2].s (List.mem_map.2 ⟨_,List.getElem_mem hk',rfl⟩)
  refine callK_ret (c_clone (hrk.no hmd19) (by omega)) ?_
  rintro v w20 ⟨x24,rfl,ho20,hf20,hm20⟩
  refine ⟨x24,rfl,hmd19.tr hm20,hb,?_⟩
  have hf20:FB w19.drew x24:=FB.of hf20
  have hmm:Mod NoB w19 w20:=hmd19.tr hm20
  refine ⟨?_,trivial⟩
  show semU _ (storeVar _ ((a.add (k2*3)).add 1) x24.val) _ _
  rw [Addr.add_add']
  refine semU_ownk (k:=3) (by kernel_rfl) (by kernel_rfl) rfl (ho19.no hmm) ea (j:=k2*3+1) (by omega) fun w21 ho21 hm21 hs21=>⟨⟨k2+1,wrap_nat (by omega),by omega,(hm19.tr (hmm.mono fun _ _ h=>h.elim)).tr hm21,gs'.set k2 ⟨gs'[k2].c,x24,gs'[k2].p⟩,?_,by rw [List.length_set]; exact hlg,?_⟩,?_⟩
  ·rw [gsC_set hk'] at ho21
   exact ho21
  ·have hlt11 : ∀ z,x11.blk=some z→z<w19.heap.size:=fun z hz=>ho19.lt hz
   have hz19:w19.drew.heap.size=w19.heap.size:=rfl
   rw [List.map_set]
   refine ((hP19.no hmm).set fun t ht=>?_).mod hm21
   simp at ht; subst ht
   exact ⟨⟨lk,hlk,ho20.rd⟩,fun z hz=>⟨ho20.lt hz,fun e=>by have h1:=hf20 z hz; have h2:=hlt11 z e; omega⟩⟩
  ·rw [wrap_nat (by omega)]; (try simp only []); omega
 have hM19:Mod NoB w w19:=hM16.fresh hm19 fun z e=>by have:=(l11 z e).1; omega
 have hp19:Blk w19 p cf0 _:=hp16.mod hm19 fun e=>by have:=(l11 p e).1; have:=hb2.lt; omega
 refine ⟨id,x9,x10,x11,rdCf hq19,?_⟩
 refine semU_store (o:=0) (vs:=cfC id x9 x10 x11) (by kernel_rfl) (by kernel_rfl) rfl hp19 (by simp [cfC]) (cfC_one _ _ _ _) fun w22 ht22 hp22=>?_
 rw [putc] at hp22
 exact ⟨id,x9,x10,x11,rdCf hp22,x9,x10,x11,rfl,hM19.fresh ht22.mod fun z e=>by have:z=p:=e; omega⟩
theorem c_copyRows {X:Nat→Prop} (hp:PartsAt w ps pl X) (hk : ∀ p∈pl,p.length≤1000) (hn:pl.length≤1000) :
 Calls Tryz.prog 86 #[.slice ps.a ps.len ps.cap] w (Ret fun v w'=>∃ x:Slc,v=x.val∧Mod NoB w w'):=by
 refine call86 _ ?_
 unfold sh86
 obtain ⟨i26',h1,h2,h3,h4⟩:=i26
 have hL:=row_blk hp
 obtain ⟨ss0,p1,p2,p3,p4⟩:=hp
 refine ⟨fun l' w'=>match l' with | [.sl q,.i _ i]=>∃ (k:Nat) (vs:List Value),i=k∧k≤pl.length∧q.len=k∧Sh.Own w' q 1 vs∧FB w q∧Mod NoB w w' | _=>False,fun l' _=>match l' with | [.sl q,.i _ i]=>(pl.length - i).toNat | _=>0,⟨0,[],rfl,by omega,rfl,own_nil _ _,FB.nil _,Mod.refl _ _⟩,?_⟩
 rintro q i w1 ⟨k,vs,rfl,hk',hql,ho,hf,hm⟩
 refine condK_i (fun hlt=>?_) fun hge=>⟨q,rfl,hm⟩
 have hk2:k<pl.length:=by simp at hlt; omega
 obtain ⟨xa,ea,hra⟩:=rd_slc p1 (i:=k) (by omega)
 have g6:=hk _ (List.getElem_mem (l:=pl) (n:=k) (by omega))
 have g1:=(p4 k (by omega) hk2).1
 refine ⟨⟨by omega,by omega⟩,onSome_of ea ⟨ss0[k],hra.mod hm fun h=>h,?_⟩⟩
 refine callK_ret (c_copyB (g1.no hm) (by omega)) ?_
 rintro v w2 ⟨x1,rfl,ho1,hf1,hm2⟩
 refine ⟨x1,rfl,?_⟩
 have hz:=hm.size; have hz2:=hm2.size
 refine sem_elem2 (f:=fun s:Slc=>[s.val]) (c:=x1) u22 h1 h2 h3 rfl h4 rfl rfl (by omega) (by omega) (by intro u hu; simp at hu; subst hu; rfl) (ho.no hm2) (by omega) (by omega) (fun w6 hc6 ho6 hm6=>?_) fun b' cp w6 hc6 hb6 ho6 hcp hm6=>?_
 ·rw [wrap_nat (by omega)]
  exact ⟨⟨k+1,_,rfl,by omega,by simp only []; omega,ho6,fun z hz=>hf z hz,hf.mod (hm.tr hm2) hm6⟩,by (try simp only []); omega⟩
 ·rw [wrap_nat (by omega)]
  exact ⟨⟨k+1,_,rfl,by omega,by simp only []; omega,ho6,FB.new (by omega),(hm.tr hm2).tr hm6⟩,by (try simp only []); omega⟩
theorem c_copyGs (hg:GrAt w gs rows ks) (hk : ∀ k∈ks,k.length≤1000) (hn:rows.length≤1000) :
 Calls Tryz.prog 87 #[.slice gs.a gs.len gs.cap] w (Ret fun v w'=>∃ x:Slc,v=x.val∧Mod NoB w w'):=by
 refine call87 _ ?_
 unfold sh87
 obtain ⟨ig,i1,i2,i3,i4⟩:=iGrant
 have hL:=rd_lenG hg.rd
 have hlk:=hg.len
 refine ⟨fun l' w'=>match l' with | [.sl q,.i _ i]=>∃ (k:Nat) (vs:List Value),i=k∧k≤rows.length∧q.len=k∧Sh.Own w' q 3 vs∧FB w q∧Mod NoB w w' | _=>False,fun l' _=>match l' with | [.sl q,.i _ i]=>(rows.length - i).toNat | _=>0,⟨0,[],rfl,by omega,rfl,own_nil _ _,FB.nil _,Mod.refl _ _⟩,?_⟩
 rintro q i w1 ⟨k,vs,rfl,hk',hql,ho,hf,hm⟩
 refine condK_i (fun hlt=>?_) fun hge=>⟨q,rfl,hm⟩
 have hk2:k<rows.length:=by simp at hlt; omega
 obtain ⟨xa,ea,hra⟩:=rd_g hg.rd hk2
 have g6:=hk _ (List.getElem_mem (l:=ks) (n:=k) (by omega))
 have g1:=(hg.key k hk2 (by omega)).1
 refine ⟨⟨by omega,by omega⟩,onSome_of ea ⟨rows[k].c,rows[k].s,rows[k].p,hra.mod hm fun h=>h,?_⟩⟩
 refine callK_ret (c_copyG (g:=rows[k]) (g1.no hm) (by omega)) ?_
 rintro v w2 ⟨x1,rfl,ho1,hf1,hm2⟩
 refine ⟨rows[k].c,x1,rows[k].p,rfl,?_⟩
 refine sem_alloc (l:=g0.cells) i1 i2 rfl fun p w3 hN3 hb3=>⟨_,rfl,?_⟩
 refine semU_store (o:=0) (vs:=Gt.cells ⟨rows[k].c,x1,rows[k].p⟩) (by kernel_rfl) (by kernel_rfl) rfl hb3 (by simp [Gt.cells,g0]) (Gt.one _) fun w4 ht4 hb4=>?_
 rw [putg] at hb4
 have e3:=hN3.at_
 have hm24:Mod NoB w2 w4:=hN3.mod.fresh ht4.mod fun z e=>by have e:z=p:=e; omega
 have hm14:=hm2.tr hm24
 have hz:=hm.size; have hz2:=hm14.size
 refine ⟨rows[k].c,x1,rows[k].p,hb4.rd fun j v hj=>by simpa [Gt.cells,Slc.val] using hj,?_⟩
 refine sem_elem2 (f:=Gt.cells) (c:=(⟨rows[k].c,x1,rows[k].p⟩:Gt)) uGrants i1 i2 i3 rfl i4 rfl rfl (by omega) (by omega) (Gt.one _) (ho.no hm14) (by omega) (by omega) (fun w6 hc6 ho6 hm6=>?_) fun b' cp w6 hc6 hb6 ho6 hcp hm6=>?_
 ·rw [wrap_nat (by omega)]
  exact ⟨⟨k+1,_,rfl,by omega,by simp only []; omega,ho6,fun z hz=>hf z hz,hf.mod (hm.tr hm14) hm6⟩,by (try simp only []); omega⟩
 ·rw [wrap_nat (by omega)]
  exact ⟨⟨k+1,_,rfl,by omega,by simp only []; omega,ho6,FB.new (by omega),(hm.tr hm14).tr hm6⟩,by (try simp only []); omega⟩
theorem NIn.parts (hI:NIn w sd l ps ss pl gs rows ks):PartsAt w ps pl fun z=>z<w.heap.size:=⟨ss,hI.p,hI.plt,hI.plen,hI.pk⟩
theorem c_copyCf {id:Int} (hI:NIn w sd l ps ss pl gs rows ks) :
 Calls Tryz.prog 25 #[.agg #[.int .i64 id,.slice sd.a sd.len sd.cap,.slice ps.a ps.len ps.cap,.slice gs.a gs.len gs.cap]] w (Ret (RCf id w)):=by
 have hsl:=rd_len8 hI.s
 have hsn:=hI.sn; have hpn:=hI.pn; have hgn:=hI.gn
 obtain ⟨ic,j1,j2,j3,j4⟩:=iConf
 refine call25 _ _ _ _ ?_
 unfold sh25
 refine sem_box (l:=cfC id sd ps gs) rfl fun q w1 hN1 hb1=>⟨_,rfl,?_⟩
 refine sem_alloc (l:=cf0) j1 j2 rfl fun p w2 hN2 hb2=>⟨_,rfl,?_⟩
 have e1:=hN1.at_; have e2:=hN2.at_; have hql:=hb1.lt; have hpl:=hb2.lt
 have hM2:=hN1.mod.tr hN2.mod
 have hq2:=hb1.no hN2.mod
 refine ⟨sd,hq2.rd1 (o:=1) rfl,?_⟩
 refine callK_ret (c_copyB (hI.no hM2).s (by omega)) ?_
 rintro v w3 ⟨x3,rfl,_,_,hm3⟩
 refine ⟨x3,rfl,?_⟩
 refine semU_store1 (b:=q) (o:=1) (by kernel_rfl) (by kernel_rfl) rfl (hq2.no hm3) (by simp [cfC]) fun w4 ht4 hq4=>?_
 have hq4:Blk w4 q (cfC id x3 ps gs) _:=hq4
 have hM4:Mod NoB w w4:=(hM2.tr hm3).fresh ht4.mod fun z e=>by have:z=q:=e; omega
 refine ⟨ps,hq4.rd1 (o:=2) rfl,?_⟩
 refine callK_ret (c_copyRows (hI.no hM4).parts hI.pln hpn) ?_
 rintro v w5 ⟨x5,rfl,hm5⟩
 refine ⟨x5,rfl,?_⟩
 refine semU_store1 (b:=q) (o:=2) (by kernel_rfl) (by kernel_rfl) rfl (hq4.no hm5) (by simp [cfC]) fun w6 ht6 hq6=>?_
 have hq6:Blk w6 q (cfC id x3 x5 gs) _:=hq6
 have hM6:Mod NoB w w6:=(hM4.tr hm5).fresh ht6.mod fun z e=>by have:z=q:=e; omega
 refine ⟨gs,hq6.rd1 (o:=3) rfl,?_⟩
 refine callK_ret (c_copyGs (hI.no hM6).g hI.kn hgn) ?_
 rintro v w7 ⟨x7,rfl,hm7⟩
 refine ⟨x7,rfl,?_⟩
 refine semU_store1 (b:=q) (o:=3) (by kernel_rfl) (by kernel_rfl) rfl (hq6.no hm7) (by simp [cfC]) fun w8 ht8 hq8=>?_
 have hq8:Blk w8 q (cfC id x3 x5 x7) _:=hq8
 have hM8:Mod NoB w w8:=(hM6.tr hm7).fresh ht8.mod fun z e=>by have:z=q:=e; omega
 refine ⟨id,x3,x5,x7,rdCf hq8,?_⟩
 have hpq:p≠q:=by omega
 have hp8:Blk w8 p cf0 _:=((((((hb2.no hm3).mod ht4.mod hpq).no hm5).mod ht6.mod hpq).no hm7).mod ht8.mod hpq)
 refine semU_store (o:=0) (vs:=cfC id x3 x5 x7) (by kernel_rfl) (by kernel_rfl) rfl hp8 (by simp [cfC]) (cfC_one _ _ _ _) fun w9 ht9 hp9=>?_
 rw [putc] at hp9
 have z8:=hN1.size
 exact ⟨id,x3,x5,x7,rdCf hp9,x3,x5,x7,rfl,hM8.fresh ht9.mod fun z e=>by have:z=p:=e; omega⟩
structure LentCf (w0 w:World) (a b c:Slc) (l:List UInt8) (pl:List (List UInt8)) (rows':List Gt) (ks:List (List UInt8)):Prop where
 s:LentB w a l
 p:LentR w0 w b pl
 g:LentGs w0 w c rows' ks
theorem LentCf.no {w0 w w':World} {a b c:Slc} {l:List UInt8} {pl:List (List UInt8)} {rows':List Gt} {ks:List (List UInt8)} (h:LentCf w0 w a b c l pl rows' ks) (hm:Mod NoB w w'):LentCf w0 w' a b c l pl rows' ks:=⟨h.s.no hm,h.p.no hm,h.g.no hm⟩
theorem flat_len : ∀ pl:List (List UInt8),(∀ p∈pl,p.length≤1000)→pl.flatten.length≤pl.length*1000
 | [],_=>by simp
 | p :: pl,h=>by
   have h1:=flat_len pl fun q hq=>h q (List.mem_cons_of_mem _ hq)
   have h2:=h p List.mem_cons_self
   simp only [List.flatten_cons,List.length_append,List.length_cons]; omega
theorem LentCf.nin {w0:World} {a b c:Slc} {rows':List Gt} (h:LentCf w0 w a b c l pl rows' ks) (hI:NIn w sd l ps ss pl gs rows ks) (hL:LikeG rows' rows) : ∃ ss',NIn w a l b ss' pl c rows' ks:=by
 obtain ⟨ss',h1,h2,h3,h4⟩:=h.p.parts
 exact ⟨ss',h.s.rd,fun z hz=>h.s.lt hz,hI.sn,h1,h2,h3,h4,hI.pn,hI.pln,h.g.at,by rw [hL.1]; exact hI.gn,hI.kn⟩
theorem LentCf.like {w0:World} {a b c:Slc} {rows':List Gt} (h:LentCf w0 w a b c l pl rows' ks) (hI:NIn w sd l ps ss pl gs rows ks) (hL:LikeG rows' rows) (id:Int):RC id l pl rows'↔RC id l pl rows:=by
 unfold RC
 rw [hL.right fun i h1 h2=>?_]
 have h3:i<ks.length:=by rw [← hI.g.len]; exact h2
 have h4:=rd_len8 (hI.g.key i h2 h3).1
 have h5:=rd_len8 (h.g.at.key i h1 h3).1
 omega
theorem c_lentCf {id:Int} (hI:NIn w sd l ps ss pl gs rows ks) :
 Calls Tryz.prog 5 #[.agg #[.int .i64 id,.slice sd.a sd.len sd.cap,.slice ps.a ps.len ps.cap,.slice gs.a gs.len gs.cap]] w (Ret fun v w'=>∃ a b c rows',v = .agg (cfC id a b c).toArray∧LentCf w w' a b c l pl rows' ks∧LikeG rows' rows∧Mod NoB w w'):=by
 have hsl:=rd_len8 hI.s
 have hsn:=hI.sn; have hpn:=hI.pn; have hgn:=hI.gn
 have hfl:=flat_len pl hI.pln
 have hpl':=hI.plens
 obtain ⟨ic,j1,j2,j3,j4⟩:=iConf
 refine call5 _ _ _ _ ?_
 unfold sh5
 refine sem_box (l:=cfC id sd ps gs) rfl fun q w1 hN1 hb1=>⟨_,rfl,?_⟩
 refine sem_alloc (l:=cf0) j1 j2 rfl fun p w2 hN2 hb2=>⟨_,rfl,?_⟩
 have e1:=hN1.at_; have e2:=hN2.at_; have hql:=hb1.lt; have hpl:=hb2.lt
 have hM2:=hN1.mod.tr hN2.mod
 have hq2:=hb1.no hN2.mod
 refine ⟨sd,hq2.rd1 (o:=1) rfl,?_⟩
 refine callK_ret (c_lentBytes (hI.no hM2).s (by omega)) ?_
 rintro v w3 ⟨x3,rfl,L3,F3,hm3⟩
 refine ⟨x3,rfl,?_⟩
 refine semU_store1 (b:=q) (o:=1) (by kernel_rfl) (by kernel_rfl) rfl (hq2.no hm3) (by simp [cfC]) fun w4 ht4 hq4=>?_
 have hq4:Blk w4 q (cfC id x3 ps gs) _:=hq4
 have hM4:Mod NoB w w4:=(hM2.tr hm3).fresh ht4.mod fun z e=>by have:z=q:=e; omega
 refine ⟨ps,hq4.rd1 (o:=2) rfl,?_⟩
 refine callK_ret (c_lentRows (hI.no hM4).parts (fun x h=>h) (by omega) (by omega)) ?_
 rintro v w5 ⟨x5,rfl,L5,hm5⟩
 refine ⟨x5,rfl,?_⟩
 refine semU_store1 (b:=q) (o:=2) (by kernel_rfl) (by kernel_rfl) rfl (hq4.no hm5) (by simp [cfC]) fun w6 ht6 hq6=>?_
 have hq6:Blk w6 q (cfC id x3 x5 gs) _:=hq6
 have hM6:Mod NoB w w6:=(hM4.tr hm5).fresh ht6.mod fun z e=>by have:z=q:=e; omega
 refine ⟨gs,hq6.rd1 (o:=3) rfl,?_⟩
 refine callK_ret (c_lentGrants (hI.no hM6).g (fun k hk=>by have:=hI.kn k hk; omega) (by omega)) ?_
 rintro v w7 ⟨x7,rows',rfl,L7,K7,hm7⟩
 refine ⟨x7,rfl,?_⟩
 refine semU_store1 (b:=q) (o:=3) (by kernel_rfl) (by kernel_rfl) rfl (hq6.no hm7) (by simp [cfC]) fun w8 ht8 hq8=>?_
 have hq8:Blk w8 q (cfC id x3 x5 x7) _:=hq8
 have hM8:Mod NoB w w8:=(hM6.tr hm7).fresh ht8.mod fun z e=>by have:z=q:=e; omega
 refine ⟨id,x3,x5,x7,rdCf hq8,?_⟩
 have hpq:p≠q:=by omega
 have hp8:Blk w8 p cf0 _:=((((((hb2.no hm3).mod ht4.mod hpq).no hm5).mod ht6.mod hpq).no hm7).mod ht8.mod hpq)
 refine semU_store (o:=0) (vs:=cfC id x3 x5 x7) (by kernel_rfl) (by kernel_rfl) rfl hp8 (by simp [cfC]) (cfC_one _ _ _ _) fun w9 ht9 hp9=>?_
 rw [putc] at hp9
 have z1:=hN1.size; have z2:=hN2.size; have z3:=hm3.size; have z4:=ht4.mod.size; have z5:=hm5.size; have z6:=ht6.mod.size; have z7:=hm7.size
 have lo : ∀ z,w2.heap.size≤z→z≠p∧z≠q:=fun z hz=>by omega
 have g3:LentB w9 x3 l:=((((((L3.mod ht4.mod fun z hz e=>(lo z (F3 z hz)).2 e).no hm5).mod ht6.mod fun z hz e=>(lo z (F3 z hz)).2 e).no hm7).mod ht8.mod fun z hz e=>(lo z (F3 z hz)).2 e).mod ht9.mod fun z hz e=>(lo z (F3 z hz)).1 e)
 have g5:LentR w w9 x5 pl:=((((L5.md ht6.mod fun z hz e=>(lo z (by omega)).2 e).no hm7).md ht8.mod fun z hz e=>(lo z (by omega)).2 e).md ht9.mod fun z hz e=>(lo z (by omega)).1 e).le hM4.size
 have g7:LentGs w w9 x7 rows' ks:=((L7.md ht8.mod fun z hz e=>(lo z (by omega)).2 e).md ht9.mod fun z hz e=>(lo z (by omega)).1 e).le hM6.size
 exact ⟨id,x3,x5,x7,rdCf hp9,x3,x5,x7,rows',rfl,⟨g3,g5,g7⟩,K7,hM8.fresh ht9.mod fun z e=>by have:z=p:=e; omega⟩
theorem c_sameCf {w0:World} {a b c:Slc} {rows':List Gt} {id:Int} (h:LentCf w0 w a b c l pl rows' ks) (hI:NIn w sd l ps ss pl gs rows ks) (hL:LikeG rows' rows) :
 Calls Tryz.prog 27 #[.agg #[.int .i64 id,.slice a.a a.len a.cap,.slice b.a b.len b.cap,.slice c.a c.len c.cap],.agg #[.int .i64 id,.slice sd.a sd.len sd.cap,.slice ps.a ps.len ps.cap,.slice gs.a gs.len gs.cap]] w (Ret fun v w'=>v = .bool true∧Mod NoB w w'):=by
 have hsn:=hI.sn; have hpn:=hI.pn; have hgn:=hI.gn
 refine call27 _ _ _ _ _ _ _ _ ?_
 unfold sh27
 refine sem_box (l:=cfC id a b c) rfl fun p w1 hN1 hb1=>⟨_,rfl,?_⟩
 refine sem_box (l:=cfC id sd ps gs) rfl fun q w2 hN2 hb2=>⟨_,rfl,?_⟩
 have hm2:Mod NoB w w2:=hN1.mod.tr hN2.mod
 have p2:=hb1.no hN2.mod
 refine ⟨id,p2.rd1 (o:=0) rfl,id,hb2.rd1 (o:=0) rfl,condK_i (fun _=>?_) fun e=>by simp at e⟩
 refine ⟨a,p2.rd1 (o:=1) rfl,sd,hb2.rd1 (o:=1) rfl,?_⟩
 refine callK_ret (c_same (h.no hm2).s.rd (hI.no hm2).s (by omega)) ?_
 rintro v w3 ⟨rfl,hm3⟩
 have hM3:=hm2.tr hm3
 refine ⟨_,rfl,condK_i (fun _=>?_) fun e=>by simp at e⟩
 refine ⟨b,(p2.no hm3).rd1 (o:=2) rfl,ps,(hb2.no hm3).rd1 (o:=2) rfl,?_⟩
 refine callK_ret (c_sameRows (h.no hM3).p.parts (hI.no hM3).parts (fun k hk=>by have:=hI.pln k hk; omega) (by omega)) ?_
 rintro v w4 ⟨rfl,hm4⟩
 have hM4:=hM3.tr hm4
 have p4:=(p2.no hm3).no hm4
 have b4:=(hb2.no hm3).no hm4
 refine ⟨_,rfl,condK_i (fun _=>?_) fun e=>by simp at e⟩
 refine ⟨c,p4.rd1 (o:=3) rfl,gs,b4.rd1 (o:=3) rfl,?_⟩
 refine callK_ret (c_sameGs (h.no hM4).g.at (hI.no hM4).g hL (fun k hk=>by have:=hI.kn k hk; omega) (by have:=hL.1; omega)) ?_
 rintro v w5 ⟨rfl,hm5⟩
 exact ⟨_,rfl,rfl,hM4.tr hm5⟩
theorem c_keptCf {w0:World} {a b c:Slc} {rows':List Gt} {id:Int} (h:LentCf w0 w a b c l pl rows' ks) (hI:NIn w sd l ps ss pl gs rows ks) (hL:LikeG rows' rows) :
 Calls Tryz.prog 10 #[.agg #[.int .i64 id,.slice a.a a.len a.cap,.slice b.a b.len b.cap,.slice c.a c.len c.cap],.agg #[.int .i64 id,.slice sd.a sd.len sd.cap,.slice ps.a ps.len ps.cap,.slice gs.a gs.len gs.cap]] w (Ret fun v w'=>v = .bool true∧Mod NoB w w'):=by
 have hsn:=hI.sn; have hpn:=hI.pn; have hgn:=hI.gn
 have hfl:=flat_len pl hI.pln
 have hpl':=hI.plens
 refine call10 _ _ _ _ _ _ _ _ ?_
 unfold sh10
 refine sem_box (l:=cfC id a b c) rfl fun p w1 hN1 hb1=>⟨_,rfl,?_⟩
 refine sem_box (l:=cfC id sd ps gs) rfl fun q w2 hN2 hb2=>⟨_,rfl,?_⟩
 have hm2:Mod NoB w w2:=hN1.mod.tr hN2.mod
 have p2:=hb1.no hN2.mod
 refine ⟨id,a,b,c,rdCf p2,id,sd,ps,gs,rdCf hb2,?_⟩
 refine callK_ret (c_sameCf (h.no hm2) (hI.no hm2) hL) ?_
 rintro v w3 ⟨rfl,hm3⟩
 have hM3:=hm2.tr hm3
 have p3:=p2.no hm3
 have b3:=hb2.no hm3
 refine ⟨_,rfl,condK_i (fun _=>?_) fun e=>by simp at e⟩
 refine ⟨a,p3.rd1 (o:=1) rfl,sd,b3.rd1 (o:=1) rfl,?_⟩
 refine callK_ret (c_keptBytes (h.no hM3).s (hI.no hM3).s (by omega)) ?_
 rintro v w4 ⟨rfl,hm4⟩
 have hM4:=hM3.tr hm4
 have p4:=p3.no hm4
 have b4:=b3.no hm4
 refine ⟨_,rfl,condK_i (fun _=>?_) fun e=>by simp at e⟩
 refine ⟨b,p4.rd1 (o:=2) rfl,ps,b4.rd1 (o:=2) rfl,?_⟩
 refine callK_ret (c_keptRows (h.no hM4).p (hI.no hM4).parts (by omega) (by omega)) ?_
 rintro v w5 ⟨rfl,hm5⟩
 have hM5:=hM4.tr hm5
 refine ⟨_,rfl,condK_i (fun _=>?_) fun e=>by simp at e⟩
 refine ⟨c,(p4.no hm5).rd1 (o:=3) rfl,gs,(b4.no hm5).rd1 (o:=3) rfl,?_⟩
 refine callK_ret (c_keptGrants (h.no hM5).g (hI.no hM5).g hL (fun k hk=>by have:=hI.kn k hk; omega) (by omega)) ?_
 rintro v w6 ⟨rfl,hm6⟩
 exact ⟨_,rfl,rfl,hM5.tr hm6⟩
end
def sh20 (d:Option Addr) (id:Int) (seed:Slc) (w:World) (R:Ending→World→Prop):Prop:=
 callK Tryz.prog 18 [.pointer d] w (panR R) fun v w1=>∃ x:Option Addr,v=(.pointer x)∧pureSem Tryz.prog (do eqGuard .eql 35 (.tmp 13) (.const (.pointer none)) (.pointer x) (.pointer none); binOp .eql 35 (.pointer x) (.pointer none)) fun v1=>∃ x1:Bool,v1=(.bool x1)∧condK x1 (R (.returned (.tuple #[.pointer none,.int .i64 (1:Int)])) w1) (∃ j:List TV→World→Prop,(condK (decide (id<(1:Int))) (j [.b true] w1) (condK (decide (id > (7:Int))) (j [.b true] w1) (callK Tryz.prog 32 [.slice seed.a seed.len seed.cap] w1 (panR R) fun v2 w2=>∃ x2:Slc,v2=(.slice x2.a x2.len x2.cap)∧pureSem Tryz.prog (do eqGuard .eql 22 (.tmp 21) (.const (.slice none 0 0)) (.slice x2.a x2.len x2.cap) (.slice none 0 0); binOp .eql 22 (.slice x2.a x2.len x2.cap) (.slice none 0 0)) fun v3=>∃ x3:Bool,v3=(.bool x3)∧j [.b x3] w2)))∧(∀ x4:Bool,∀ w3:World,j [.b x4] w3→condK x4 (R (.returned (.tuple #[.pointer none,.int .i64 (2:Int)])) w3) (callK Tryz.prog 60 [] w3 (panR R) fun v4 w4=>∃ x5:Option Addr,v4=(.pointer x5)∧semK Tryz.prog (Instr.makeMap 135 none) w4 fun v5 w5=>∃ x6:Option Nat,v5=(.map x6)∧semK Tryz.prog (Instr.makeMap 136 none) w5 fun v6 w6=>∃ x7:Option Nat,v6=(.map x7)∧callK Tryz.prog 61 [.slice seed.a seed.len seed.cap] w6 (panR R) fun v7 w7=>∃ x8:Slc,v7=(.slice x8.a x8.len x8.cap)∧semK Tryz.prog (Instr.box 144 (.agg #[.pointer x5,.map x6,.slice none 0 0,.map x7,.pointer d,.pointer none,.int .i64 (0:Int),.int .i64 id,.slice x8.a x8.len x8.cap])) w7 fun v8 w8=>∃ x9:Option Addr,v8=(.pointer x9)∧semK Tryz.prog (Instr.alloc 61 true (.tuple #[])) w8 fun v9 w9=>∃ v10:Option Addr,v9=(.pointer v10)∧onSome v10 fun a=>semU Tryz.prog (storeVar 61 a (.pointer x9)) w9 fun w10=>onSome v10 fun a1=>∃ x10:Option Addr,Rd w10 a1 [.pointer x10]∧callK Tryz.prog 62 [.pointer x10] w10 (panR R) fun v11 w11=>∃ x11:Bool,v11=(.bool x11)∧condK (!x11) (R (.returned (.tuple #[.pointer none,.int .i64 (9:Int)])) w11) (onSome v10 fun a2=>∃ x12:Option Addr,Rd w11 a2 [.pointer x12]∧onSome x12 fun a3=>callK Tryz.prog 63 [.pointer (some (a3.add 4))] w11 (panR R) fun v12 w12=>∃ xa:Slc,∃ xb:Int,v12=(.tuple #[.slice xa.a xa.len xa.cap,.int .i64 xb])∧condK (xb != (0:Int)) (R (.returned (.tuple #[.pointer none,.int .i64 xb])) w12) (callK Tryz.prog 64 [.slice xa.a xa.len xa.cap,.func (.func 65) #[] #[.pointer v10]] w12 (panR R) fun v13 w13=>∃ x13:Bool,v13=(.bool x13)∧condK x13 (R (.returned (.tuple #[.pointer none,.int .i64 (9:Int)])) w13) (onSome v10 fun a4=>∃ x14:Option Addr,Rd w13 a4 [.pointer x14]∧onSome x14 fun a5=>callK Tryz.prog 67 [.pointer (some (a5.add 4))] w13 (panR R) fun v14 w14=>v14=(.tuple #[])∧onSome v10 fun a6=>∃ x15:Option Addr,Rd w14 a6 [.pointer x15]∧R (.returned (.tuple #[.pointer x15,.int .i64 (0:Int)])) w14))))))
theorem call20 (d:Option Addr) (id:Int) (seed:Slc) {w:World} {R:Ending→World→Prop} (hden:sh20 d id seed w R):Calls Tryz.prog 20 #[.pointer d,.int .i64 id,.slice seed.a seed.len seed.cap] w R:=
 calls_of_form (.seq none .z (.seq none (.block none (.seq none .z (.cond (.seq none .z .z) (.seq (some [(15,.b)]) (.seq none .z (.cond .z (.seq none .z (.cond .z .z)))) (.cond (.seq none .z .z) .z))))) (.seq none .z (.seq none (.seq none .z (.cond (.seq none .z .z) .z)) (.seq none .z (.seq none (.seq none .z (.cond (.seq none .z .z) .z)) (.seq none (.seq none .z (.cond (.seq none .z .z) .z)) (.seq none .z (.seq none .z .z))))))))) Tryz.func20 (by kernel_rfl) [.p d,.i .i64 id,.sl seed] (by kernel_rfl) (by kernel_rfl) hden
def sh6 (ca:Int) (cb cc cd:Slc) (d:Option Addr) (w:World) (R:Ending→World→Prop):Prop:=
 semK Tryz.prog (Instr.box 26 (.agg #[.int .i64 ca,.slice cb.a cb.len cb.cap,.slice cc.a cc.len cc.cap,.slice cd.a cd.len cd.cap])) w fun v w1=>∃ c:Option Addr,v=(.pointer c)∧callK Tryz.prog 18 [.pointer d] w1 (panR R) fun v1 w2=>∃ x:Option Addr,v1=(.pointer x)∧pureSem Tryz.prog (do eqGuard .eql 35 (.tmp 11) (.const (.pointer none)) (.pointer x) (.pointer none); binOp .eql 35 (.pointer x) (.pointer none)) fun v2=>∃ x1:Bool,v2=(.bool x1)∧condK x1 (R (.returned (.tuple #[.pointer none,.int .i64 (1:Int)])) w2) (onSome c fun a=>∃ xa:Int,∃ xb xc xd:Slc,Rd w2 a [.int .i64 xa,.slice xb.a xb.len xb.cap,.slice xc.a xc.len xc.cap,.slice xd.a xd.len xd.cap]∧callK Tryz.prog 19 [.agg #[.int .i64 xa,.slice xb.a xb.len xb.cap,.slice xc.a xc.len xc.cap,.slice xd.a xd.len xd.cap]] w2 (panR R) fun v3 w3=>∃ x2:Bool,v3=(.bool x2)∧condK (!x2) (R (.returned (.tuple #[.pointer none,.int .i64 (2:Int)])) w3) (onSome c fun a1=>∃ x3:Int,Rd w3 (a1.add 0) [.int .i64 x3]∧onSome c fun a2=>∃ x4:Slc,Rd w3 (a2.add 1) [.slice x4.a x4.len x4.cap]∧callK Tryz.prog 20 [.pointer d,.int .i64 x3,.slice x4.a x4.len x4.cap] w3 (panR R) fun v4 w4=>∃ xa1:Option Addr,∃ xb1:Int,v4=(.tuple #[.pointer xa1,.int .i64 xb1])∧condK (xb1 != (0:Int)) (R (.returned (.tuple #[.pointer none,.int .i64 xb1])) w4) (callK Tryz.prog 21 [.int .i64 (8:Int),.int .i64 (1000:Int)] w4 (panR R) fun v5 w5=>∃ x5:Option Addr,v5=(.pointer x5)∧semK Tryz.prog (Instr.makeMap 66 none) w5 fun v6 w6=>∃ x6:Option Nat,v6=(.map x6)∧semK Tryz.prog (Instr.makeMap 67 none) w6 fun v7 w7=>∃ x7:Option Nat,v7=(.map x7)∧semK Tryz.prog (Instr.makeMap 68 none) w7 fun v8 w8=>∃ x8:Option Nat,v8=(.map x8)∧semK Tryz.prog (Instr.alloc 70 true (.tuple #[])) w8 fun v9 w9=>∃ t:Option Addr,v9=(.pointer t)∧onSome t fun a3=>semU Tryz.prog (storeVar 70 a3 (.agg #[.pointer x5,.map x6,.map x7,.map x8,.int .i64 (1:Int),.int .i64 (0:Int),.slice none 0 0])) w9 fun w10=>∃ sx:World→Prop,sx w10.drew∧onSome t fun a4=>∃ xa2:Option Addr,∃ xb2 xc1 xd1:Option Nat,∃ xe xf:Int,∃ xg:Slc,(∀ w',sx w'→Rd w' a4 [.pointer xa2,.map xb2,.map xc1,.map xd1,.int .i64 xe,.int .i64 xf,.slice xg.a xg.len xg.cap])∧onSome c fun a5=>∃ xa3:Int,∃ xb3 xc2 xd2:Slc,(∀ w',sx w'→Rd w' a5 [.int .i64 xa3,.slice xb3.a xb3.len xb3.cap,.slice xc2.a xc2.len xc2.cap,.slice xd2.a xd2.len xd2.cap])∧((callK Tryz.prog 22 [.agg #[.int .i64 xa3,.slice xb3.a xb3.len xb3.cap,.slice xc2.a xc2.len xc2.cap,.slice xd2.a xd2.len xd2.cap]] w10.drew (panR R) fun v10 w11=>∃ xa4:Int,∃ xb4 xc3 xd3:Slc,v10=(.agg #[.int .i64 xa4,.slice xb4.a xb4.len xb4.cap,.slice xc3.a xc3.len xc3.cap,.slice xd3.a xd3.len xd3.cap])∧(sx w11∧((semK Tryz.prog (Instr.box 74 (.agg #[.pointer xa1,.pointer xa2,.map xb2,.map xc1,.map xd1,.int .i64 xe,.int .i64 xf,.slice xg.a xg.len xg.cap,.int .i64 xa4,.slice xb4.a xb4.len xb4.cap,.slice xc3.a xc3.len xc3.cap,.slice xd3.a xd3.len xd3.cap])) w11 fun v11 w12=>∃ x9:Option Addr,v11=(.pointer x9)∧(sx w12∧R (.returned (.tuple #[.pointer x9,.int .i64 (0:Int)])) w12))∧True)))∧True))))
theorem call6 (ca:Int) (cb cc cd:Slc) (d:Option Addr) {w:World} {R:Ending→World→Prop} (hden:sh6 ca cb cc cd d w R):Calls Tryz.prog 6 #[.agg #[.int .i64 ca,.slice cb.a cb.len cb.cap,.slice cc.a cc.len cc.cap,.slice cd.a cd.len cd.cap],.pointer d] w R:=
 calls_of_form (.seq none .z (.seq none (.block none (.seq none .z (.cond (.seq none .z .z) (.seq none .z (.cond (.seq none .z .z) .z))))) (.seq none .z (.seq none (.seq none .z (.cond (.seq none .z .z) .z)) (.seq none .z (.seq none (.draw 1 (.take 0 (.take 1 (.take 2 (.take 3 (.all [(4,(.take 5 (.all [(6,(.take 7 (.take 8 .done)))])))])))))) .z)))))) Tryz.func6 (by kernel_rfl) [.agg [.i .i64 ca,.sl cb,.sl cc,.sl cd],.p d] (by kernel_rfl) (by kernel_rfl) hden
def sh8 (ca:Int) (cb cc cd:Slc) (d:Option Addr) (w:World) (R:Ending→World→Prop):Prop:=
 semK Tryz.prog (Instr.box 26 (.agg #[.int .i64 ca,.slice cb.a cb.len cb.cap,.slice cc.a cc.len cc.cap,.slice cd.a cd.len cd.cap])) w fun v w1=>∃ c:Option Addr,v=(.pointer c)∧onSome c fun a=>∃ xa:Int,∃ xb xc xd:Slc,Rd w1 a [.int .i64 xa,.slice xb.a xb.len xb.cap,.slice xc.a xc.len xc.cap,.slice xd.a xd.len xd.cap]∧callK Tryz.prog 23 [.agg #[.int .i64 xa,.slice xb.a xb.len xb.cap,.slice xc.a xc.len xc.cap,.slice xd.a xd.len xd.cap]] w1 (panR R) fun v1 w2=>∃ x:Bool,v1=(.bool x)∧condK (!x) (R (.returned (.tuple #[.pointer none,.int .i64 (2:Int)])) w2) (onSome c fun a1=>∃ x1:Int,Rd w2 (a1.add 0) [.int .i64 x1]∧onSome c fun a2=>∃ x2:Slc,Rd w2 (a2.add 1) [.slice x2.a x2.len x2.cap]∧callK Tryz.prog 24 [.pointer d,.int .i64 x1,.slice x2.a x2.len x2.cap] w2 (panR R) fun v2 w3=>∃ xa1:Option Addr,∃ xb1:Int,v2=(.tuple #[.pointer xa1,.int .i64 xb1])∧condK (xb1 != (0:Int)) (R (.returned (.tuple #[.pointer none,.int .i64 xb1])) w3) (onSome c fun a3=>∃ xa2:Int,∃ xb2 xc1 xd1:Slc,Rd w3 a3 [.int .i64 xa2,.slice xb2.a xb2.len xb2.cap,.slice xc1.a xc1.len xc1.cap,.slice xd1.a xd1.len xd1.cap]∧callK Tryz.prog 25 [.agg #[.int .i64 xa2,.slice xb2.a xb2.len xb2.cap,.slice xc1.a xc1.len xc1.cap,.slice xd1.a xd1.len xd1.cap]] w3 (panR R) fun v3 w4=>∃ xa3:Int,∃ xb3 xc2 xd2:Slc,v3=(.agg #[.int .i64 xa3,.slice xb3.a xb3.len xb3.cap,.slice xc2.a xc2.len xc2.cap,.slice xd2.a xd2.len xd2.cap])∧callK Tryz.prog 26 [.int .i64 (8:Int),.int .i64 (1000:Int)] w4 (panR R) fun v4 w5=>∃ x3:Option Addr,v4=(.pointer x3)∧semK Tryz.prog (Instr.box 84 (.agg #[.int .i64 xa3,.slice xb3.a xb3.len xb3.cap,.slice xc2.a xc2.len xc2.cap,.slice xd2.a xd2.len xd2.cap,.pointer xa1,.pointer x3,.slice none 0 0,.slice none 0 0,.slice none 0 0,.int .i64 (1:Int),.int .i64 (0:Int),.slice none 0 0])) w5 fun v5 w6=>∃ x4:Option Addr,v5=(.pointer x4)∧R (.returned (.tuple #[.pointer x4,.int .i64 (0:Int)])) w6))
theorem call8 (ca:Int) (cb cc cd:Slc) (d:Option Addr) {w:World} {R:Ending→World→Prop} (hden:sh8 ca cb cc cd d w R):Calls Tryz.prog 8 #[.agg #[.int .i64 ca,.slice cb.a cb.len cb.cap,.slice cc.a cc.len cc.cap,.slice cd.a cd.len cd.cap],.pointer d] w R:=
 calls_of_form (.seq none .z (.seq none (.seq none .z (.cond (.seq none .z .z) .z)) (.seq none .z (.seq none (.seq none .z (.cond (.seq none .z .z) .z)) (.seq none .z .z))))) Tryz.func8 (by kernel_rfl) [.agg [.i .i64 ca,.sl cb,.sl cc,.sl cd],.p d] (by kernel_rfl) (by kernel_rfl) hden
def sh9 (room:Int) (w:World) (R:Ending→World→Prop):Prop:=
 semK Tryz.prog (Instr.box 88 (.agg #[.slice none 0 0,.slice none 0 0,.int .i64 (if (0:Int) > room then (0:Int) else room)])) w fun v w1=>∃ x:Option Addr,v=(.pointer x)∧R (.returned (.pointer x)) w1
theorem call9 (room:Int) {w:World} {R:Ending→World→Prop} (hden:sh9 room w R):Calls Tryz.prog 9 #[.int .i64 room] w R:=
 calls_of_form (.seq none .z (.seq none .z .z)) Tryz.func9 (by kernel_rfl) [.i .i64 room] (by kernel_rfl) (by kernel_rfl) hden
def sh26 (sessions bad:Int) (w:World) (R:Ending→World→Prop):Prop:=
 semK Tryz.prog (Instr.box 177 (.agg #[.slice none 0 0,.slice none 0 0,.int .i64 (if (1:Int) > sessions then (1:Int) else sessions),.int .i64 (if (1:Int) > bad then (1:Int) else bad)])) w fun v w1=>∃ x:Option Addr,v=(.pointer x)∧R (.returned (.pointer x)) w1
theorem call26 (sessions bad:Int) {w:World} {R:Ending→World→Prop} (hden:sh26 sessions bad w R):Calls Tryz.prog 26 #[.int .i64 sessions,.int .i64 bad] w R:=
 calls_of_form (.seq none .z (.seq none .z .z)) Tryz.func26 (by kernel_rfl) [.i .i64 sessions,.i .i64 bad] (by kernel_rfl) (by kernel_rfl) hden
def sh18 (d:Option Addr) (w:World) (R:Ending→World→Prop):Prop:=
 callK Tryz.prog 54 [.pointer d] w (panR R) fun v w1=>∃ x:Bool,v=(.bool x)∧condK (!x) (R (.returned (.pointer none)) w1) (∃ sx:World→Prop,sx w1.drew∧onSome d fun a=>onSome d fun a1=>onSome d fun a2=>∃ x1:Option Nat,(∀ w',sx w'→Rd w' ((a.add 0).add 0) [.map x1])∧∃ x2:Option Nat,(∀ w',sx w'→Rd w' ((a1.add 0).add 1) [.map x2])∧∃ x3:Int,(∀ w',sx w'→Rd w' (a2.add 2) [.int .i64 x3])∧((callK Tryz.prog 55 [.map x1] w1.drew (panR R) fun v1 w2=>∃ x4:Option Nat,v1=(.map x4)∧(sx w2∧((callK Tryz.prog 55 [.map x2] w2 (panR R) fun v2 w3=>∃ x5:Option Nat,v2=(.map x5)∧(sx w3∧((semK Tryz.prog (Instr.box 47 (.agg #[.map x4,.map x5,.int .i64 x3])) w3 fun v3 w4=>∃ x6:Option Addr,v3=(.pointer x6)∧(sx w4∧R (.returned (.pointer x6)) w4))∧True)))∧True)))∧True))
theorem call18 (d:Option Addr) {w:World} {R:Ending→World→Prop} (hden:sh18 d w R):Calls Tryz.prog 18 #[.pointer d] w R:=
 calls_of_form (.seq none .z (.seq none (.seq none .z (.cond (.seq none .z .z) .z)) (.seq none (.draw 1 (.take 0 (.take 1 (.take 2 (.take 3 (.take 6 (.take 7 (.take 8 (.take 9 (.take 13 (.take 14 (.take 15 (.take 4 (.take 10 (.take 16 (.all [(5,(.all [(11,(.take 12 (.take 17 (.all [(18,(.take 19 .done))]))))]))])))))))))))))))) .z))) Tryz.func18 (by kernel_rfl) [.p d] (by kernel_rfl) (by kernel_rfl) hden
def sh54 (d:Option Addr) (w:World) (R:Ending→World→Prop):Prop:=
 pureSem Tryz.prog (do eqGuard .neq 35 (.tmp 3) (.const (.pointer none)) (.pointer d) (.pointer none); binOp .neq 35 (.pointer d) (.pointer none)) fun v=>∃ x:Bool,v=(.bool x)∧condK x (onSome d fun a=>∃ x1:Option Nat,Rd w ((a.add 0).add 0) [.map x1]∧pureSem Tryz.prog (do eqGuard .neq 43 (.tmp 10) (.const (.map none)) (.map x1) (.map none); binOp .neq 43 (.map x1) (.map none)) fun v1=>∃ x2:Bool,v1=(.bool x2)∧R (.returned (.bool x2)) w) (R (.returned (.bool false)) w)
theorem call54 (d:Option Addr) {w:World} {R:Ending→World→Prop} (hden:sh54 d w R):Calls Tryz.prog 54 #[.pointer d] w R:=
 calls_of_form (.seq none .z (.seq none .z .z)) Tryz.func54 (by kernel_rfl) [.p d] (by kernel_rfl) (by kernel_rfl) hden
def sh3 (ca:Int) (cb cc cd:Slc) (w:World) (R:Ending→World→Prop):Prop:=
 semK Tryz.prog (Instr.box 26 (.agg #[.int .i64 ca,.slice cb.a cb.len cb.cap,.slice cc.a cc.len cc.cap,.slice cd.a cd.len cd.cap])) w fun v w1=>∃ c:Option Addr,v=(.pointer c)∧callK Tryz.prog 4 [] w1 (panR R) fun v1 w2=>∃ x:Bool,v1=(.bool x)∧condK (!x) (R (.returned (.bool false)) w2) (∃ j:List TV→World→Prop,(onSome c fun a=>∃ x1:Slc,Rd w2 (a.add 1) [.slice x1.a x1.len x1.cap]∧condK (decide ((x1.len:Int) > (100:Int))) (j [.b true] w2) (onSome c fun a1=>∃ x2:Slc,Rd w2 (a1.add 2) [.slice x2.a x2.len x2.cap]∧condK (decide ((x2.len:Int) > (10:Int))) (j [.b true] w2) (onSome c fun a2=>∃ x3:Slc,Rd w2 (a2.add 3) [.slice x3.a x3.len x3.cap]∧j [.b (decide ((x3.len:Int) > (12:Int)))] w2)))∧(∀ x4:Bool,∀ w3:World,j [.b x4] w3→condK x4 (R (.returned (.bool true)) w3) (∃ (inv:List TV→World→Prop) (mu:List TV→World→Nat),inv [.i .i64 (0:Int)] w3∧(∀ i:Int,∀ w4:World,inv [.i .i64 i] w4→onSome c fun a3=>∃ x5:Slc,Rd w4 (a3.add 2) [.slice x5.a x5.len x5.cap]∧condK (decide (i<(x5.len:Int))) (onSome c fun a4=>∃ x6:Slc,Rd w4 (a4.add 2) [.slice x6.a x6.len x6.cap]∧((0≤i∧i<(x6.len:Nat))∧onSome x6.a fun a5=>∃ x7:Slc,Rd w4 (a5.add (i.toNat*1)) [.slice x7.a x7.len x7.cap]∧condK (decide ((x7.len:Int) > (100:Int))) (R (.returned (.bool true)) w4) ((inv [.i .i64 (IntKind.i64.wrap (i+(1:Int)))] w4∧mu [.i .i64 (IntKind.i64.wrap (i+(1:Int)))] w4<mu [.i .i64 i] w4)))) (∃ (inv1:List TV→World→Prop) (mu1:List TV→World→Nat),inv1 [.i .i64 (0:Int)] w4∧(∀ i1:Int,∀ w5:World,inv1 [.i .i64 i1] w5→onSome c fun a6=>∃ x8:Slc,Rd w5 (a6.add 3) [.slice x8.a x8.len x8.cap]∧condK (decide (i1<(x8.len:Int))) (onSome c fun a7=>∃ x9:Slc,Rd w5 (a7.add 3) [.slice x9.a x9.len x9.cap]∧((0≤i1∧i1<(x9.len:Nat))∧onSome x9.a fun a8=>∃ x10:Slc,Rd w5 ((a8.add (i1.toNat*3)).add 1) [.slice x10.a x10.len x10.cap]∧condK (decide ((x10.len:Int) > (100:Int))) (R (.returned (.bool true)) w5) (onSome c fun a9=>∃ x11:Slc,Rd w5 (a9.add 3) [.slice x11.a x11.len x11.cap]∧((0≤i1∧i1<(x11.len:Nat))∧onSome x11.a fun a10=>∃ x12:List UInt8,Rd w5 ((a10.add (i1.toNat*3)).add 2) [.string ⟨x12.toArray⟩]∧condK (decide ((x12.length:Int) > (100:Int))) (R (.returned (.bool true)) w5) ((inv1 [.i .i64 (IntKind.i64.wrap (i1+(1:Int)))] w5∧mu1 [.i .i64 (IntKind.i64.wrap (i1+(1:Int)))] w5<mu1 [.i .i64 i1] w5)))))) (onSome c fun a11=>∃ xa:Int,∃ xb xc xd:Slc,Rd w5 a11 [.int .i64 xa,.slice xb.a xb.len xb.cap,.slice xc.a xc.len xc.cap,.slice xd.a xd.len xd.cap]∧callK Tryz.prog 5 [.agg #[.int .i64 xa,.slice xb.a xb.len xb.cap,.slice xc.a xc.len xc.cap,.slice xd.a xd.len xd.cap]] w5 (panR R) fun v2 w6=>∃ xa1:Int,∃ xb1 xc1 xd1:Slc,v2=(.agg #[.int .i64 xa1,.slice xb1.a xb1.len xb1.cap,.slice xc1.a xc1.len xc1.cap,.slice xd1.a xd1.len xd1.cap])∧semK Tryz.prog (Instr.alloc 26 true (.tuple #[])) w6 fun v3 w7=>∃ in0:Option Addr,v3=(.pointer in0)∧onSome in0 fun a12=>semU Tryz.prog (storeVar 26 a12 (.agg #[.int .i64 xa1,.slice xb1.a xb1.len xb1.cap,.slice xc1.a xc1.len xc1.cap,.slice xd1.a xd1.len xd1.cap])) w7 fun w8=>∃ sx:World→Prop,sx w8.drew∧onSome in0 fun a13=>∃ xa2:Int,∃ xb2 xc2 xd2:Slc,(∀ w',sx w'→Rd w' a13 [.int .i64 xa2,.slice xb2.a xb2.len xb2.cap,.slice xc2.a xc2.len xc2.cap,.slice xd2.a xd2.len xd2.cap])∧((callK Tryz.prog 7 [.int .i64 (500:Int)] w8.drew (panR R) fun v4 w9=>∃ x13:Option Addr,v4=(.pointer x13)∧(sx w9∧((callK Tryz.prog 6 [.agg #[.int .i64 xa2,.slice xb2.a xb2.len xb2.cap,.slice xc2.a xc2.len xc2.cap,.slice xd2.a xd2.len xd2.cap],.pointer x13] w9 (panR R) fun v5 w10=>∃ xa3:Option Addr,∃ xb3:Int,v5=(.tuple #[.pointer xa3,.int .i64 xb3])∧∃ sx1:World→Prop,sx1 w10.drew∧onSome c fun a14=>∃ xa4:Int,∃ xb4 xc3 xd3:Slc,(∀ w',sx1 w'→Rd w' a14 [.int .i64 xa4,.slice xb4.a xb4.len xb4.cap,.slice xc3.a xc3.len xc3.cap,.slice xd3.a xd3.len xd3.cap])∧((callK Tryz.prog 9 [.int .i64 (500:Int)] w10.drew (panR R) fun v6 w11=>∃ x14:Option Addr,v6=(.pointer x14)∧(sx1 w11∧((callK Tryz.prog 8 [.agg #[.int .i64 xa4,.slice xb4.a xb4.len xb4.cap,.slice xc3.a xc3.len xc3.cap,.slice xd3.a xd3.len xd3.cap],.pointer x14] w11 (panR R) fun v7 w12=>∃ xa5:Option Addr,∃ xb5:Int,v7=(.tuple #[.pointer xa5,.int .i64 xb5])∧onSome c fun a15=>∃ xa6:Int,∃ xb6 xc4 xd4:Slc,Rd w12 a15 [.int .i64 xa6,.slice xb6.a xb6.len xb6.cap,.slice xc4.a xc4.len xc4.cap,.slice xd4.a xd4.len xd4.cap]∧callK Tryz.prog 6 [.agg #[.int .i64 xa6,.slice xb6.a xb6.len xb6.cap,.slice xc4.a xc4.len xc4.cap,.slice xd4.a xd4.len xd4.cap],.pointer none] w12 (panR R) fun v8 w13=>∃ xa7:Option Addr,∃ xb7:Int,v8=(.tuple #[.pointer xa7,.int .i64 xb7])∧onSome c fun a16=>∃ xa8:Int,∃ xb8 xc5 xd5:Slc,Rd w13 a16 [.int .i64 xa8,.slice xb8.a xb8.len xb8.cap,.slice xc5.a xc5.len xc5.cap,.slice xd5.a xd5.len xd5.cap]∧semK Tryz.prog (Instr.box 47 (.agg #[.map none,.map none,.int .i64 (0:Int)])) w13 fun v9 w14=>∃ x15:Option Addr,v9=(.pointer x15)∧callK Tryz.prog 6 [.agg #[.int .i64 xa8,.slice xb8.a xb8.len xb8.cap,.slice xc5.a xc5.len xc5.cap,.slice xd5.a xd5.len xd5.cap],.pointer x15] w14 (panR R) fun v10 w15=>∃ xa9:Option Addr,∃ xb9:Int,v10=(.tuple #[.pointer xa9,.int .i64 xb9])∧condK (xb3==xb5) (pureSem Tryz.prog (do eqGuard .neq 31 (.tmp 101) (.const (.pointer none)) (.pointer xa3) (.pointer none); binOp .neq 31 (.pointer xa3) (.pointer none)) fun v11=>∃ x16:Bool,v11=(.bool x16)∧pureSem Tryz.prog (do eqGuard .eql 4 (.tmp 102) (.tmp 104) (.bool x16) (.bool (xb3==(0:Int))); binOp .eql 4 (.bool x16) (.bool (xb3==(0:Int)))) fun v12=>∃ x17:Bool,v12=(.bool x17)∧condK x17 (condK (xb7==(1:Int)) (condK (xb9==(1:Int)) (onSome in0 fun a17=>∃ xa10:Int,∃ xb10 xc6 xd6:Slc,Rd w15 a17 [.int .i64 xa10,.slice xb10.a xb10.len xb10.cap,.slice xc6.a xc6.len xc6.cap,.slice xd6.a xd6.len xd6.cap]∧onSome c fun a18=>∃ xa11:Int,∃ xb11 xc7 xd7:Slc,Rd w15 a18 [.int .i64 xa11,.slice xb11.a xb11.len xb11.cap,.slice xc7.a xc7.len xc7.cap,.slice xd7.a xd7.len xd7.cap]∧callK Tryz.prog 10 [.agg #[.int .i64 xa10,.slice xb10.a xb10.len xb10.cap,.slice xc6.a xc6.len xc6.cap,.slice xd6.a xd6.len xd6.cap],.agg #[.int .i64 xa11,.slice xb11.a xb11.len xb11.cap,.slice xc7.a xc7.len xc7.cap,.slice xd7.a xd7.len xd7.cap]] w15 (panR R) fun v13 w16=>∃ x18:Bool,v13=(.bool x18)∧R (.returned (.bool x18)) w16) (R (.returned (.bool false)) w15)) (R (.returned (.bool false)) w15)) (R (.returned (.bool false)) w15)) (R (.returned (.bool false)) w15))∧True)))∧True))∧True)))∧True))))))))
theorem call3 (ca:Int) (cb cc cd:Slc) {w:World} {R:Ending→World→Prop} (hden:sh3 ca cb cc cd w R):Calls Tryz.prog 3 #[.agg #[.int .i64 ca,.slice cb.a cb.len cb.cap,.slice cc.a cc.len cc.cap,.slice cd.a cd.len cd.cap]] w R:=
 calls_of_form (.seq none .z (.seq none (.seq none .z (.cond (.seq none .z .z) .z)) (.seq none (.seq (some [(31,.b)]) .z (.cond (.seq none .z .z) .z)) (.seq none (.seq none .z (.block none (.loop [(3,(.i .i64))] (.seq none (.seq none .z (.cond .z .z)) (.seq none (.block none (.seq none .z (.cond (.seq none .z .z) .z))) .z))))) (.seq none (.seq none .z (.block none (.loop [(4,(.i .i64))] (.seq none (.seq none .z (.cond .z .z)) (.seq none (.block none (.seq none .z (.cond (.seq none .z .z) .z))) .z))))) (.seq none .z (.seq none (.draw 1 (.take 0 (.all [(1,(.all [(2,(.take 3 (.take 4 (.take 5 (.take 6 (.take 7 .done))))))]))]))) (.seq none (.draw 1 (.take 0 (.all [(1,(.all [(2,(.take 3 (.take 4 (.take 5 (.take 6 (.take 7 .done))))))]))]))) (.seq none .z (.seq none .z (.seq none .z .z))))))))))) Tryz.func3 (by kernel_rfl) [.agg [.i .i64 ca,.sl cb,.sl cc,.sl cd]] (by kernel_rfl) (by kernel_rfl) hden
end Go.Proofs.YtihafpcnhgapdaaGreatDoor
end
section
namespace Go.Proofs.YtihafpcnhgapdaaGreatDoor
open Go Go.Sh Go.X
noncomputable def hpOf (r:Option (XV×Hp)):Hp:=match r with | some q=>q.2 | none=>⟨.lf,0⟩
theorem hpOf_eq {r:Option (XV×Hp)} {y:XV} (h:resV r=some y):r=some (y,hpOf r):=by obtain ⟨h',rfl⟩:=resV_ex h; rfl
theorem XRs.c {ρ:Lab} {x:XV} {l:List XV} {v:Value} {vs:List Value} (h:XR ρ x v) (hs:XRs ρ l vs):XRs ρ (x :: l) (v :: vs):=⟨_,_,rfl,h,hs⟩
theorem XRs.n {ρ:Lab} : XRs ρ [] []:=rfl
theorem xr_ptr {ρ:Lab} {L b s o:Nat} (h:ρ L=some (b,s)):XR ρ (.ptr (some (L,o))) (.pointer (some ⟨b,o,none⟩)):=⟨b,s,h,rfl⟩
theorem xr_map {ρ:Lab} {L b s:Nat} (h:ρ L=some (b,s)):XR ρ (.map (some L)) (.map (some b)):=⟨b,s,h,rfl⟩
section
variable {S0:Nat→Prop} {w0 w w':World} {ρ:Lab} {h:Hp}
theorem gs_ok (hG:GS w0):GOk GS NoB w0:=fun w hm=>hG.no hm
theorem c_X {f:FuncId} {xs:List XV} {vs:List Value} {y:XV} (hG:GOk GS S0 w0) (hi:Inv S0 w0 ρ h w) (hr:resV (runA f xs h)=some y) (hx:XRs ρ xs vs) :
 Calls Tryz.prog f vs.toArray w (Ret fun v w'=>∃ ρ',Lab.le ρ ρ'∧XR ρ' y v∧Inv S0 w0 ρ' (hpOf (runA f xs h)) w'):=by
 refine Calls.mono ((xcalls_ok mixed dF_ok nA_ok 60).c _ _ _ _ _ (hpOf_eq hr) S0 w0 ρ w vs hG hi hx) fun e w' ⟨v,ρ',h1,h2,h3,h4⟩=>?_
 subst h1
 exact ⟨ρ',h2.1,h3,h4⟩
theorem inv_put (hi:Inv S0 w0 ρ h w) {k:Nat} (hk:h.n=k) {o:XO} {b s:Nat} (hb:b=w.heap.size) (hm:Mod NoB w w') (ho : ∀ ρ',Lab.le ρ ρ'→ρ' k=some (b,s)→ObjOk ρ' w' b s o) :
 ∃ ρ',Lab.le ρ ρ'∧ρ' k=some (b,s)∧Inv S0 w0 ρ' ⟨h.t.set (some o) k,k+1⟩ w':=by
 subst hk
 have hle:Lab.le ρ (fun L=>if L=h.n then some (b,s) else ρ L):=fun L x e=>by
  by_cases hL:L=h.n
  ·subst hL; rw [hi.fresh _ (Nat.le_refl _)] at e; cases e
  ·simp [hL,e]
 obtain ⟨g1,g2⟩:=hi.new hb hm (ho _ hle (if_pos rfl))
 exact ⟨_,g2,if_pos rfl,g1⟩
theorem inv_lab (hi:Inv S0 w0 ρ h w) {k:Nat} (hk:h.n=k) (b s:Nat) : ∃ ρ',Lab.le ρ ρ'∧ρ' k=some (b,s)∧Inv S0 w0 ρ' ⟨h.t,k+1⟩ w:=by
 subst hk
 have hle:Lab.le ρ (fun L=>if L=h.n then some (b,s) else ρ L):=fun L x e=>by
  by_cases hL:L=h.n
  ·subst hL; rw [hi.fresh _ (Nat.le_refl _)] at e; cases e
  ·simp [hL,e]
 have hne : ∀ L o,h.t.get L=some o→L≠h.n:=fun L o e hL=>by
  obtain ⟨b',s',h1,_⟩:=hi.dom L o e
  rw [hL,hi.fresh _ (Nat.le_refl _)] at h1; cases h1
 refine ⟨_,hle,if_pos rfl,fun L hL=>?_,fun L o e=>?_,fun L L' o o' b1 s1 s2 e1 e2 e3 e4=>?_,hi.mod⟩
 ·have hL:h.n+1≤L:=hL
  rw [if_neg (by omega)]; exact hi.fresh L (by omega)
 ·obtain ⟨b',s',h1,h2,h3⟩:=hi.dom L o e
  exact ⟨b',s',hle _ _ h1,h2.le hle,h3⟩
 ·simp only [hne L o e1,hne L' o' e2,↓reduceIte] at e3 e4
  exact hi.inj L L' o o' b1 s1 s2 e1 e2 e3 e4
def Im (h:Hp) (ρ:Lab) (b:Nat):Prop:=∃ L o s,h.t.get L=some o∧ρ L=some (b,s)
theorem inv_at (hi:Inv S0 w0 ρ h w):Inv (Im h ρ) w ρ h w:=
 ⟨hi.fresh,fun L o e=>by obtain ⟨b,s,h1,h2,_⟩:=hi.dom L o e; exact ⟨b,s,h1,h2,.inl ⟨L,o,s,e,h1⟩⟩,hi.inj,Mod.refl _ _⟩
theorem im_of (hi:Inv S0 w0 ρ h w) {b:Nat} (hb:Im h ρ b):(S0 b∨w0.heap.size≤b)∧b<w.heap.size:=by
 obtain ⟨L,o,s,h1,h2⟩:=hb
 obtain ⟨b',s',g1,g2,g3⟩:=hi.dom L o h1
 rw [h2] at g1; cases g1
 exact ⟨g3,g2.lt⟩
theorem gs_im (hG:GS w0) (hm:Mod NoB w0 w) {S:Nat→Prop} (hS : ∀ b,S b→w0.heap.size≤b):GOk GS S w:=fun w' h=>hG.no (hm.fresh h hS)
theorem inv_nil (w:World):Inv NoB w (fun _=>none) ⟨.lf,0⟩ w:=inv_none _ _
end
noncomputable abbrev oR1:=runA 7 [.int .i64 500] ⟨.lf,0⟩
noncomputable def oH1:Hp:=hpOf oR1
theorem oE1:resV oR1=some (.ptr (some (2,0))):=by kernel_rfl
noncomputable abbrev oR2 (h:Hp):=runA 18 [.ptr (some (2,0))] h
noncomputable def oH2:Hp:=hpOf (oR2 oH1)
theorem oE2:resV (oR2 oH1)=some (.ptr (some (21,0))):=by kernel_rfl
noncomputable def oH3:Hp:=hpOf (oR2 oH2)
theorem oE3:resV (oR2 oH2)=some (.ptr (some (43,0))):=by kernel_rfl
noncomputable abbrev oR4:=runA 60 [] oH3
noncomputable def oH4:Hp:=hpOf oR4
theorem oE4:resV oR4=some (.ptr (some (47,0))):=by kernel_rfl
theorem oN4:oH4.n=88:=by kernel_rfl
noncomputable abbrev oV (id:Int) (o c:Nat):List XV:=[.ptr (some (47,0)),.map (some 88),.sl none 0 0,.map (some 89),.ptr (some (2,0)),.ptr none,.int .i64 0,.int .i64 id,.sl (some (90,o)) 32 c]
noncomputable def oH5 (id:Int) (o c:Nat):Hp:=⟨(((oH4.t.set (some (.map [] 0)) 88).set (some (.map [] 0)) 89).set (some (.cells (oV id o c))) 91).set (some (.cells [.ptr (some (91,0))])) 92,93⟩
noncomputable abbrev oR6 (id:Int) (o c:Nat):=runA 62 [.ptr (some (91,0))] (oH5 id o c)
noncomputable def oH6 (id:Int) (o c:Nat):Hp:=hpOf (oR6 id o c)
noncomputable abbrev oR7 (id:Int) (o c:Nat):=runA 63 [.ptr (some (91,4))] (oH6 id o c)
noncomputable def oH7 (id:Int) (o c:Nat):Hp:=hpOf (oR7 id o c)
noncomputable abbrev oR8 (id:Int) (o c:Nat):=runA 64 [.sl none 0 0,.fn 65 [] [.ptr (some (92,0))]] (oH7 id o c)
noncomputable def oH8 (id:Int) (o c:Nat):Hp:=hpOf (oR8 id o c)
noncomputable abbrev oR9 (id:Int) (o c:Nat):=runA 67 [.ptr (some (91,4))] (oH8 id o c)
noncomputable def oH9 (id:Int) (o c:Nat):Hp:=hpOf (oR9 id o c)
section
variable (id:Int) (o c:Nat)
theorem oE6:resV (oR6 id o c)=some (.bool true):=by kernel_rfl
theorem oE7:resV (oR7 id o c)=some (.tup [.sl none 0 0,.int .i64 0]):=by kernel_rfl
theorem oE8:resV (oR8 id o c)=some (.bool false):=by kernel_rfl
theorem oE9:resV (oR9 id o c)=some (.tup []):=by kernel_rfl
theorem oC6:(oH6 id o c).t.get 92=some (.cells [.ptr (some (91,0))]):=by kernel_rfl
theorem oC8:(oH8 id o c).t.get 92=some (.cells [.ptr (some (91,0))]):=by kernel_rfl
theorem oC9:(oH9 id o c).t.get 92=some (.cells [.ptr (some (91,0))]):=by kernel_rfl
end
theorem oB:resV (runA 21 [.int .i64 8,.int .i64 1000] ⟨.lf,0⟩)=some (.ptr (some (2,0))):=by kernel_rfl
noncomputable abbrev oHr:Hp:=⟨Tr.set (some (XO.cells [.sl none 0 0,.sl none 0 0,.int .i64 500])) .lf 0,2⟩
noncomputable abbrev oQ (id:Int) (o c:Nat):=runA 24 [.ptr (some (0,0)),.int .i64 id,.sl (some (1,o)) 32 c] oHr
section
variable (o c:Nat)
theorem oQ1:resV (oQ 1 o c)=some (.tup [.ptr (some (3,0)),.int .i64 0]):=by kernel_rfl
theorem oQ2:resV (oQ 2 o c)=some (.tup [.ptr (some (3,0)),.int .i64 0]):=by kernel_rfl
theorem oQ3:resV (oQ 3 o c)=some (.tup [.ptr (some (3,0)),.int .i64 0]):=by kernel_rfl
theorem oQ4:resV (oQ 4 o c)=some (.tup [.ptr (some (3,0)),.int .i64 0]):=by kernel_rfl
theorem oQ5:resV (oQ 5 o c)=some (.tup [.ptr (some (3,0)),.int .i64 0]):=by kernel_rfl
theorem oQ6:resV (oQ 6 o c)=some (.tup [.ptr (some (3,0)),.int .i64 0]):=by kernel_rfl
theorem oQ7:resV (oQ 7 o c)=some (.tup [.ptr (some (3,0)),.int .i64 0]):=by kernel_rfl
theorem oQE {id:Int} (h:1≤id∧id≤7):resV (oQ id o c)=some (.tup [.ptr (some (3,0)),.int .i64 0]):=by
 have h:id=1∨id=2∨id=3∨id=4∨id=5∨id=6∨id=7:=by omega
 rcases h with rfl | rfl | rfl | rfl | rfl | rfl | rfl
 ·exact oQ1 o c
 ·exact oQ2 o c
 ·exact oQ3 o c
 ·exact oQ4 o c
 ·exact oQ5 o c
 ·exact oQ6 o c
 ·exact oQ7 o c
end
theorem uPD:Tryz.prog.underlying 35=some (.pointer 47):=by kernel_rfl
theorem uMD:Tryz.prog.underlying 43=some (.map 9 9):=by kernel_rfl
theorem iPV : ∃ i,Tryz.prog.info? 61=some i∧i.zero=some (.pointer none)∧i.size=1∧i.bytes=8:=info_of (by kernel_rfl) (by kernel_rfl) (by kernel_rfl)
section
variable {S0:Nat→Prop} {w0 w:World} {ρ:Lab}
theorem var_rd {h:Hp} {k L p s q s':Nat} (hi:Inv S0 w0 ρ h w) (hc:h.t.get k=some (.cells [.ptr (some (L,0))])) (hk:ρ k=some (p,s)) (hL:ρ L=some (q,s')):Rd w ⟨p,0,none⟩ [.pointer (some ⟨q,0,none⟩)]:=by
 obtain ⟨b,s1,h1,⟨vs,T,h2,h3⟩,_⟩:=hi.dom k _ hc
 rw [hk] at h1; cases h1
 simp only [XRs] at h2
 obtain ⟨v,vs',rfl,h4,rfl⟩:=h2
 simp only [XR] at h4
 obtain ⟨b,s2,h5,rfl⟩:=h4
 rw [hL] at h5; cases h5
 exact h3.rd fun j v hj=>by simpa using hj
theorem c_diskNew (hG:GS w0):Calls Tryz.prog 7 #[.int .i64 500] w0 (Ret fun v w'=>∃ ρ b s,v = .pointer (some ⟨b,0,none⟩)∧ρ 2=some (b,s)∧Inv NoB w0 ρ oH1 w'):=by
 refine Calls.mono (c_X (gs_ok hG) (inv_nil w0) oE1 (vs:=[.int .i64 500]) (XRs.c (by simp only [XR]) XRs.n)) fun e w' h=>?_
 cases e with
 | returned v=>
   obtain ⟨ρ,_,h2,h3⟩:=h
   simp only [XR] at h2
   obtain ⟨b,s,h4,rfl⟩:=h2
   exact ⟨ρ,b,s,rfl,h4,h3⟩
 | _=>exact h.elim
theorem c_vOpen {id:Int} {db ds:Nat} {seed:Slc} {l:List UInt8} (hG:GOk GS S0 w0) (hi:Inv S0 w0 ρ oH2 w) (hd:ρ 2=some (db,ds)) (hid:1≤id∧id≤7) (hs:SlRd w0 seed 1 (bys l)) (hsl : ∀ z,seed.blk=some z→z<w0.heap.size∧¬ S0 z) (hl:l.length=32) :
 Calls Tryz.prog 20 #[.pointer (some ⟨db,0,none⟩),.int .i64 id,.slice seed.a seed.len seed.cap] w (Ret fun v w'=>∃ b,v = .tuple #[.pointer (some ⟨b,0,none⟩),.int .i64 0]∧Mod S0 w0 w'):=by
 obtain ⟨iv,j1,j2,j3,j4⟩:=iPV
 refine call20 _ _ _ ?_
 unfold sh20
 refine callK_ret (c_X hG hi oE3 (XRs.c (xr_ptr hd) XRs.n)) ?_
 rintro v w1 ⟨ρ1,hρ1,hv,hi1⟩
 have hi1:Inv S0 w0 ρ1 oH3 w1:=hi1
 simp only [XR] at hv
 obtain ⟨cb,cs,hc1,rfl⟩:=hv
 refine ⟨_,rfl,ps_eql_ptr uPD ⟨_,rfl,condK_i (fun h=>by simp at h) fun _=>?_⟩⟩
 refine ⟨fun l' w'=>match l' with | [.b t]=>t=false∧Mod NoB w1 w' | _=>False,?_,?_⟩
 ·refine condK_i (fun h=>by simp at h; omega) fun _=>condK_i (fun h=>by simp at h; omega) fun _=>?_
  refine callK_ret (c_PublicF (hG _ hi1.mod) (hs.mod hi1.mod fun z hz=>(hsl z hz).2) (fun z hz=>Nat.lt_of_lt_of_le (hsl z hz).1 hi1.mod.size) hl) ?_
  rintro v w2 ⟨bb,T,rfl,hb2,hs2,hm2⟩
  exact ⟨⟨some ⟨bb,0,none⟩,_,_⟩,rfl,ps_eql_slc u26 ⟨_,rfl,rfl,hm2⟩⟩
 rintro t w3 ⟨rfl,hm3⟩
 refine condK_i (fun h=>by cases h) fun _=>?_
 have hi3:=hi1.no hm3
 refine callK_ret (c_X hG hi3 oE4 XRs.n) ?_
 rintro v w4 ⟨ρ4,hρ4,hv,hi4⟩
 have hi4:Inv S0 w0 ρ4 oH4 w4:=hi4
 simp only [XR] at hv
 obtain ⟨sb,ss,hc4,rfl⟩:=hv
 refine ⟨_,rfl,?_⟩
 refine sem_makeMap (d:=.bool) fun m0 w5 hat5 hsz5 hM5 hm5=>⟨_,rfl,?_⟩
 obtain ⟨ρ5,hρ5,k88,hi5⟩:=inv_put hi4 oN4 (o:=.map [] 0) (s:=0) hat5 hm5 fun _ _ _=>⟨[],rfl,hM5.get⟩
 refine sem_makeMap (d:=.bool) fun m1 w6 hat6 hsz6 hM6 hm6=>⟨_,rfl,?_⟩
 obtain ⟨ρ6,hρ6,k89,hi6⟩:=inv_put hi5 (k:=89) rfl (o:=.map [] 0) (s:=0) hat6 hm6 fun _ _ _=>⟨[],rfl,hM6.get⟩
 refine callK_ret (c_clone (hs.mod hi6.mod fun z hz=>(hsl z hz).2) (by omega)) ?_
 rintro v w7 ⟨x9,rfl,ho9,hf9,hm7⟩
 refine ⟨x9,rfl,?_⟩
 have hx9:=rd_len8 ho9.rd
 obtain ⟨tb,to,ta⟩ : ∃ b o,x9.a=some ⟨b,o,none⟩:=by
  rcases ho9.owned with ⟨h0,h0',_⟩ | ⟨hcp,b,o,lb,E,e1,_⟩
  ·omega
  ·exact ⟨b,o,e1⟩
 obtain ⟨ρ7,hρ7,k90,hi7⟩:=inv_lab (hi6.no hm7) (k:=90) rfl tb 0
 have q2:ρ7 2=some (db,ds):=hρ7 _ _ (hρ6 _ _ (hρ5 _ _ (hρ4 _ _ (hρ1 _ _ hd))))
 have q47:ρ7 47=some (sb,ss):=hρ7 _ _ (hρ6 _ _ (hρ5 _ _ hc4))
 have q88:ρ7 88=some (m0,0):=hρ7 _ _ (hρ6 _ _ k88)
 have q89:ρ7 89=some (m1,0):=hρ7 _ _ k89
 have ex:x9.val = .slice (some ⟨tb,to,none⟩) 32 x9.cap:=by unfold Slc.val; rw [ta,← hx9,hl]
 refine sem_box (l:=[.pointer (some ⟨sb,0,none⟩),.map (some m0),.slice none 0 0,.map (some m1),.pointer (some ⟨db,0,none⟩),.pointer none,.int .i64 0,.int .i64 id,x9.val]) rfl fun q w8 hN8 hb8=>⟨_,rfl,?_⟩
 obtain ⟨ρ8,hρ8,k91,hi8⟩:=inv_put hi7 (k:=91) rfl (o:=.cells (oV id to x9.cap)) (s:=9) hN8.at_ hN8.mod fun ρ' hle _=>⟨_,_,XRs.c (xr_ptr (hle _ _ q47)) (XRs.c (xr_map (hle _ _ q88)) (XRs.c (by simp only [XR]) (XRs.c (xr_map (hle _ _ q89)) (XRs.c (xr_ptr (hle _ _ q2)) (XRs.c (by simp only [XR]) (XRs.c (by simp only [XR]) (XRs.c (by simp only [XR]) (XRs.c (by rw [ex]; exact ⟨tb,0,hle _ _ k90,rfl⟩) XRs.n)))))))),hb8⟩
 refine sem_alloc (l:=[.pointer none]) j1 j2 rfl fun p w9 hN9 hb9=>⟨_,rfl,?_⟩
 refine semU_store1 (b:=p) (o:=0) (by kernel_rfl) (by kernel_rfl) rfl hb9 (by simp) fun w10 ht10 hb10=>?_
 have hb10:Blk w10 p [.pointer (some ⟨q,0,none⟩)] _:=hb10
 have hm10:Mod NoB w8 w10:=hN9.mod.fresh ht10.mod fun z e=>by have:=hN9.at_; have:z=p:=e; omega
 obtain ⟨ρ10,hρ10,k92,hi10⟩:=inv_put hi8 (k:=92) rfl (o:=.cells [.ptr (some (91,0))]) (s:=1) hN9.at_ hm10 fun ρ' hle _=>⟨_,_,XRs.c (xr_ptr (hle _ _ k91)) XRs.n,hb10⟩
 have hi10:Inv S0 w0 ρ10 (oH5 id to x9.cap) w10:=hi10
 have k91:=hρ10 _ _ k91
 refine ⟨_,hb10.rd1 (o:=0) rfl,?_⟩
 refine callK_ret (c_X hG hi10 (oE6 id to x9.cap) (XRs.c (xr_ptr k91) XRs.n)) ?_
 rintro v w11 ⟨ρ11,hρ11,hv,hi11⟩
 have hi11:Inv S0 w0 ρ11 (oH6 id to x9.cap) w11:=hi11
 simp only [XR] at hv; subst hv
 refine ⟨_,rfl,condK_i (fun h=>by simp at h) fun _=>?_⟩
 refine ⟨_,var_rd hi11 (oC6 ..) (hρ11 _ _ k92) (hρ11 _ _ k91),?_⟩
 refine callK_ret (c_X hG hi11 (oE7 id to x9.cap) (vs:=[.pointer (some ⟨q,4,none⟩)]) (XRs.c (xr_ptr (hρ11 _ _ k91)) XRs.n)) ?_
 rintro v w12 ⟨ρ12,hρ12,hv,hi12⟩
 have hi12:Inv S0 w0 ρ12 (oH7 id to x9.cap) w12:=hi12
 simp only [XR,XRs] at hv
 obtain ⟨_,⟨_,_,rfl,rfl,_,_,rfl,rfl,rfl⟩,rfl⟩:=hv
 have r12:Lab.le ρ10 ρ12:=fun L x h=>hρ12 _ _ (hρ11 _ _ h)
 refine ⟨⟨none,0,0⟩,0,rfl,condK_i (fun h=>by simp at h) fun _=>?_⟩
 refine callK_ret (c_X hG hi12 (oE8 id to x9.cap) (vs:=[.slice none 0 0,.func (.func 65) #[] #[.pointer (some ⟨p,0,none⟩)]]) (XRs.c (by simp only [XR]) (XRs.c ⟨[],[_],XRs.n,XRs.c (xr_ptr (r12 _ _ k92)) XRs.n,rfl⟩ XRs.n))) ?_
 rintro v w13 ⟨ρ13,hρ13,hv,hi13⟩
 have hi13:Inv S0 w0 ρ13 (oH8 id to x9.cap) w13:=hi13
 simp only [XR] at hv; subst hv
 have r13:Lab.le ρ10 ρ13:=fun L x h=>hρ13 _ _ (r12 _ _ h)
 refine ⟨_,rfl,condK_i (fun h=>by cases h) fun _=>?_⟩
 refine ⟨_,var_rd hi13 (oC8 ..) (r13 _ _ k92) (r13 _ _ k91),?_⟩
 refine callK_ret (c_X hG hi13 (oE9 id to x9.cap) (vs:=[.pointer (some ⟨q,4,none⟩)]) (XRs.c (xr_ptr (r13 _ _ k91)) XRs.n)) ?_
 rintro v w14 ⟨ρ14,hρ14,hv,hi14⟩
 have hi14:Inv S0 w0 ρ14 (oH9 id to x9.cap) w14:=hi14
 simp only [XR,XRs] at hv
 obtain ⟨_,rfl,rfl⟩:=hv
 have r14:Lab.le ρ10 ρ14:=fun L x h=>hρ14 _ _ (r13 _ _ h)
 exact ⟨rfl,_,var_rd hi14 (oC9 ..) (r14 _ _ k92) (r14 _ _ k91),q,rfl,hi14.mod⟩
end
def RSt (p:Prop) (w:World) (v:Value) (w':World):Prop:=∃ (x:Option Addr) (e:Int),v = .tuple #[.pointer x,.int .i64 e]∧Mod NoB w w'∧((p∧x.isSome=true∧e=0)∨(¬ p∧x.isSome=false∧e=2))
def tk0:List Value:=[.pointer none,.map none,.map none,.map none,.int .i64 0,.int .i64 0,.slice none 0 0]
theorem iTalk : ∃ i,Tryz.prog.info? 70=some i∧i.zero=some (.agg tk0.toArray)∧i.size=7∧i.bytes=72:=info_of (by kernel_rfl) (by kernel_rfl) (by kernel_rfl)
section
variable {w0 w:World} {ρ:Lab} {sd:Slc} {l:List UInt8} {ps:Slc} {ss:List Slc} {pl:List (List UInt8)} {gs:Slc} {rows:List Gt} {ks:List (List UInt8)}
theorem c_Start {id:Int} {db ds:Nat} (hG:GS w0) (hi:Inv NoB w0 ρ oH1 w) (hd:ρ 2=some (db,ds)) (hI:NIn w0 sd l ps ss pl gs rows ks) :
 Calls Tryz.prog 6 #[.agg #[.int .i64 id,.slice sd.a sd.len sd.cap,.slice ps.a ps.len ps.cap,.slice gs.a gs.len gs.cap],.pointer (some ⟨db,0,none⟩)] w (Ret (RSt (RC id l pl rows) w0)):=by
 obtain ⟨it,t1,t2,t3,t4⟩:=iTalk
 refine call6 _ _ _ _ _ ?_
 unfold sh6
 refine sem_box (l:=cfC id sd ps gs) rfl fun q w1 hN1 hb1=>⟨_,rfl,?_⟩
 have hi1:=hi.no hN1.mod
 have e1:=hN1.at_
 have g1 : ∀ b,Im oH1 ρ b→w0.heap.size≤b∧b<q:=fun b hb=>by
  obtain ⟨h1,h2⟩:=im_of hi hb
  exact ⟨h1.elim (fun h=>h.elim) fun h=>h,by omega⟩
 refine callK_ret (c_X (gs_im hG hi1.mod fun b hb=>(g1 b hb).1) (inv_at hi1) oE2 (XRs.c (xr_ptr hd) XRs.n)) ?_
 rintro v w2 ⟨ρ2,hρ2,hv,hi2⟩
 have hi2:Inv (Im oH1 ρ) w1 ρ2 oH2 w2:=hi2
 have hM2:Mod NoB w0 w2:=hi1.mod.fresh hi2.mod fun b hb=>(g1 b hb).1
 have hq2:=hb1.mod hi2.mod fun h=>by have:=(g1 _ h).2; omega
 simp only [XR] at hv
 obtain ⟨cb,cs,hc2,rfl⟩:=hv
 refine ⟨_,rfl,ps_eql_ptr uPD ⟨_,rfl,condK_i (fun h=>by simp at h) fun _=>?_⟩⟩
 refine ⟨id,sd,ps,gs,rdCf hq2,?_⟩
 refine callK_ret (c_rightR (hG.no hM2) (hI.no hM2)) ?_
 rintro v w3 ⟨r,rfl,hr,hm3⟩
 have hM3:=hM2.tr hm3
 have hq3:=hq2.no hm3
 have hi3:=hi2.no hm3
 refine ⟨r,rfl,condK_i (fun h=>?_) fun h=>?_⟩
 ·exact ⟨none,2,rfl,hM3,.inr ⟨fun hp=>(by rw [hr.2 hp] at h; cases h),rfl,rfl⟩⟩
 have hp:=hr.1 (by simpa using h)
 have g2 : ∀ b,Im oH2 ρ2 b→w0.heap.size≤b∧b≠q:=fun b hb=>by
  obtain ⟨h1,h2⟩:=im_of hi2 hb
  rcases h1 with h1 | h1
  ·have:=g1 b h1; omega
  ·have:=hi1.mod.size; have:=hb1.lt; omega
 have hI3:=hI.no hM3
 refine ⟨id,hq3.rd1 (o:=0) rfl,sd,hq3.rd1 (o:=1) rfl,?_⟩
 refine callK_ret (c_vOpen (gs_im hG hM3 fun b hb=>(g2 b hb).1) (inv_at hi3) (hρ2 _ _ hd) ⟨hp.2.1,by have:=hp.2.2.1; have:=hp.2.2.2.1; omega⟩ hI3.s (fun z hz=>⟨hI3.slt z hz,fun h=>by have:=(g2 z h).1; have:=hI.slt z hz; omega⟩) hp.2.2.2.2.2.1) ?_
 rintro v w4 ⟨vb,rfl,hm4⟩
 have hM4:Mod NoB w0 w4:=hM3.fresh hm4 fun b hb=>(g2 b hb).1
 have hq4:=hq3.mod hm4 fun h=>(g2 _ h).2 rfl
 refine ⟨some ⟨vb,0,none⟩,0,rfl,condK_i (fun h=>by cases h) fun _=>?_⟩
 refine callK_ret (c_X (gs_ok (hG.no hM4)) (inv_nil w4) oB (vs:=[.int .i64 8,.int .i64 1000]) (XRs.c (by simp only [XR]) (XRs.c (by simp only [XR]) XRs.n))) ?_
 rintro v w5 ⟨ρ5,_,hv,hi5⟩
 simp only [XR] at hv
 obtain ⟨bb,bs,_,rfl⟩:=hv
 have hm5:=hi5.mod
 refine ⟨_,rfl,?_⟩
 refine sem_makeMap (d:=.bool) fun m0 w6 _ _ _ hm6=>⟨_,rfl,?_⟩
 refine sem_makeMap (d:=.bool) fun m1 w7 _ _ _ hm7=>⟨_,rfl,?_⟩
 refine sem_makeMap (d:=.bool) fun m2 w8 _ _ _ hm8=>⟨_,rfl,?_⟩
 have hm48:=((hm5.tr hm6).tr hm7).tr hm8
 refine sem_alloc (l:=tk0) t1 t2 rfl fun p w9 hN9 hb9=>⟨_,rfl,?_⟩
 refine semU_store (o:=0) (vs:=[.pointer (some ⟨bb,0,none⟩),.map (some m0),.map (some m1),.map (some m2),.int .i64 1,.int .i64 0,.slice none 0 0]) (by kernel_rfl) (by kernel_rfl) rfl hb9 (by simp [tk0]) (by intro u hu; simp at hu; rcases hu with rfl | rfl | rfl | rfl | rfl | rfl | rfl <;> rfl) fun w10 ht10 hb10=>?_
 have hb10:Blk w10 p [.pointer (some ⟨bb,0,none⟩),.map (some m0),.map (some m1),.map (some m2),.int .i64 1,.int .i64 0,.slice none 0 0] _:=hb10
 have e9:=hN9.at_
 have hm410:Mod NoB w4 w10:=(hm48.tr hN9.mod).fresh ht10.mod fun z e=>by have:z=p:=e; have:=(hm48).size; omega
 have hM10:=hM4.tr hm410
 have hq10:=hq4.no hm410
 have hmd:Mod NoB w10 w10.drew:=Mod.drew _ _
 refine ⟨fun w'=>Mod NoB w10 w',hmd,_,_,_,_,_,_,⟨none,0,0⟩,fun w' hm=>(hb10.no hm).rd fun j v hj=>by simpa using hj,id,sd,ps,gs,fun w' hm=>rdCf (hq10.no hm),?_,trivial⟩
 refine callK_ret (c_own (hI.no (hM10.tr hmd))) ?_
 rintro v w11 ⟨x,y,z,rfl,hm11⟩
 refine ⟨id,x,y,z,rfl,hmd.tr hm11,?_,trivial⟩
 have hM11:=(hM10.tr hmd).tr hm11
 refine sem_box (l:=[.pointer (some ⟨vb,0,none⟩),.pointer (some ⟨bb,0,none⟩),.map (some m0),.map (some m1),.map (some m2),.int .i64 1,.int .i64 0,.slice none 0 0,.int .i64 id,x.val,y.val,z.val]) rfl fun t w12 hN12 hb12=>⟨_,rfl,(hmd.tr hm11).tr hN12.mod,?_⟩
 exact ⟨_,0,rfl,hM11.tr hN12.mod,.inl ⟨hp,rfl,rfl⟩⟩
theorem c_StartN {id:Int} {d:Option Addr} (hd:d=none∨∃ b T,d=some ⟨b,0,none⟩∧Blk w b [.map none,.map none,.int .i64 0] T) :
 Calls Tryz.prog 6 #[.agg #[.int .i64 id,.slice sd.a sd.len sd.cap,.slice ps.a ps.len ps.cap,.slice gs.a gs.len gs.cap],.pointer d] w (Ret fun v w'=>v = .tuple #[.pointer none,.int .i64 1]∧Mod NoB w w'):=by
 refine call6 _ _ _ _ _ ?_
 unfold sh6
 refine sem_box (l:=cfC id sd ps gs) rfl fun q w1 hN1 hb1=>⟨_,rfl,?_⟩
 have made:Calls Tryz.prog 54 #[.pointer d] w1 (Ret fun v w'=>v = .bool false∧w'=w1):=by
  refine call54 _ ?_
  unfold sh54
  refine ps_neq_ptr uPD ⟨_,rfl,condK_i (fun h=>?_) fun h=>⟨rfl,rfl⟩⟩
  rcases hd with rfl | ⟨b,T,rfl,hb⟩
  ·simp at h
  ·exact ⟨none,(hb.no hN1.mod).rd1 (o:=0) rfl,ps_neq_map uMD ⟨_,rfl,rfl,rfl⟩⟩
 refine callK_ret (Q:=fun v w'=>v = .pointer none∧w'=w1) (call18 _ ?_) ?_
 ·unfold sh18
  refine callK_ret made ?_
  rintro v w2 ⟨rfl,rfl⟩
  exact ⟨_,rfl,condK_i (fun _=>⟨rfl,rfl⟩) fun h=>by cases h⟩
 rintro v w2 ⟨rfl,rfl⟩
 exact ⟨_,rfl,ps_eql_ptr uPD ⟨_,rfl,condK_i (fun _=>⟨rfl,hN1.mod⟩) fun h=>by simp at h⟩⟩
theorem c_rOpen {id:Int} {rb:Nat} {T:TypeId} (hG:GS w0) (hm:Mod NoB w0 w) (hrb:w0.heap.size≤rb) (hb:Blk w rb [.slice none 0 0,.slice none 0 0,.int .i64 500] T) (hid:1≤id∧id≤7) (hs:SlRd w sd 1 (bys l)) (hl:l.length=32) :
 Calls Tryz.prog 24 #[.pointer (some ⟨rb,0,none⟩),.int .i64 id,.slice sd.a sd.len sd.cap] w (Ret fun v w'=>∃ b,v = .tuple #[.pointer (some ⟨b,0,none⟩),.int .i64 0]∧Mod (fun z=>z=rb) w w'):=by
 have h8:=rd_len8 hs
 obtain ⟨tb,to,ta⟩ : ∃ b o,sd.a=some ⟨b,o,none⟩:=by
  rcases hs.2.2 with h0 | ⟨⟨b,o,sp⟩,e1,e2⟩
  ·have:=congrArg List.length h0; simp only [bys,List.length_map,List.length_nil] at this; omega
  ·have h0:0<(bys l).length:=by simp [bys]; omega
   have:=e2 0 _ (List.getElem?_eq_getElem h0)
   have ea:(⟨b,o,sp⟩:Addr).add 0=⟨b,o,sp⟩:=by simp [Addr.add]
   rw [ea] at this
   cases sp with
   | none=>exact ⟨b,o,e1⟩
   | some k=>
     unfold World.cell? at this
     split at this
     ·simp at this
     ·cases this
 have ex:(Value.slice sd.a sd.len sd.cap) = .slice (some ⟨tb,to,none⟩) 32 sd.cap:=by rw [ta,← h8,hl]
 have hi:Inv (fun z=>z=rb) w (fun L=>if L=0 then some (rb,3) else if L=1 then some (tb,0) else none) oHr w:=by
  refine ⟨fun L hL=>?_,fun L o hLo=>?_,fun L L' o o' b s1 s2 e1 e2 e3 e4=>?_,Mod.refl _ _⟩
  ·have hL:2≤L:=hL
   rw [if_neg (by omega),if_neg (by omega)]
  ·have hLo:(Tr.set (some (XO.cells [.sl none 0 0,.sl none 0 0,.int .i64 500])) .lf 0).get L=some o:=hLo
   rw [Tr.get_set] at hLo
   split at hLo
   ·next e0=>
    cases hLo
    exact ⟨rb,3,by rw [if_pos e0],⟨_,T,XRs.c (by simp only [XR]) (XRs.c (by simp only [XR]) (XRs.c (by simp only [XR]) XRs.n)),hb⟩,.inl rfl⟩
   ·cases hLo
  ·have e1:(Tr.set (some (XO.cells [.sl none 0 0,.sl none 0 0,.int .i64 500])) .lf 0).get L=some o:=e1
   have e2:(Tr.set (some (XO.cells [.sl none 0 0,.sl none 0 0,.int .i64 500])) .lf 0).get L'=some o':=e2
   rw [Tr.get_set] at e1 e2
   split at e1
   ·split at e2
    ·omega
    ·cases e2
   ·cases e1
 refine Calls.mono (c_X (gs_im (S:=fun z=>z=rb) hG hm fun b hb=>(by have e:b=rb:=hb; rw [e]; exact hrb)) hi (oQE to sd.cap hid) (vs:=[.pointer (some ⟨rb,0,none⟩),.int .i64 id,.slice sd.a sd.len sd.cap]) ?_) fun e w' h=>?_
 ·exact XRs.c (xr_ptr (b:=rb) (s:=3) rfl) (XRs.c (by simp only [XR]) (XRs.c (by rw [ex]; exact ⟨tb,0,rfl,rfl⟩) XRs.n))
 ·cases e with
  | returned v=>
    obtain ⟨ρ',_,h2,h3⟩:=h
    simp only [XR,XRs] at h2
    obtain ⟨_,⟨_,_,rfl,⟨b,s,_,rfl⟩,_,_,rfl,rfl,rfl⟩,rfl⟩:=h2
    exact ⟨b,rfl,h3.mod⟩
  | _=>exact h.elim
theorem c_rStart {id:Int} {rb:Nat} {T:TypeId} (hG:GS w0) (hm:Mod NoB w0 w) (hrb:w0.heap.size≤rb) (hb:Blk w rb [.slice none 0 0,.slice none 0 0,.int .i64 500] T) (hI:NIn w0 sd l ps ss pl gs rows ks) :
 Calls Tryz.prog 8 #[.agg #[.int .i64 id,.slice sd.a sd.len sd.cap,.slice ps.a ps.len ps.cap,.slice gs.a gs.len gs.cap],.pointer (some ⟨rb,0,none⟩)] w (Ret (RSt (RC id l pl rows) w0)):=by
 refine call8 _ _ _ _ _ ?_
 unfold sh8
 refine sem_box (l:=cfC id sd ps gs) rfl fun q w1 hN1 hb1=>⟨_,rfl,?_⟩
 have hM1:=hm.tr hN1.mod
 have e1:=hN1.at_
 have hrw:=hb.lt
 refine ⟨id,sd,ps,gs,rdCf hb1,?_⟩
 refine callK_ret (c_rRight25 (hG.no hM1) (hI.no hM1)) ?_
 rintro v w2 ⟨r,rfl,hr,hm2⟩
 have hM2:=hM1.tr hm2
 have hq2:=hb1.no hm2
 refine ⟨r,rfl,condK_i (fun h=>?_) fun h=>?_⟩
 ·exact ⟨none,2,rfl,hM2,.inr ⟨fun hp=>(by rw [hr.2 hp] at h; cases h),rfl,rfl⟩⟩
 have hp:=hr.1 (by simpa using h)
 have hI2:=hI.no hM2
 refine ⟨id,hq2.rd1 (o:=0) rfl,sd,hq2.rd1 (o:=1) rfl,?_⟩
 refine callK_ret (c_rOpen hG hM2 hrb ((hb.no hN1.mod).no hm2) ⟨hp.2.1,by have:=hp.2.2.1; have:=hp.2.2.2.1; omega⟩ hI2.s hp.2.2.2.2.2.1) ?_
 rintro v w3 ⟨vb,rfl,hm3⟩
 have hM3:Mod NoB w0 w3:=hM2.fresh hm3 fun z e=>by have:z=rb:=e; omega
 have hq3:=hq2.mod hm3 fun e=>by have:q=rb:=e; omega
 refine ⟨some ⟨vb,0,none⟩,0,rfl,condK_i (fun h=>by cases h) fun _=>?_⟩
 refine ⟨id,sd,ps,gs,rdCf hq3,?_⟩
 refine callK_ret (c_copyCf (hI.no hM3)) ?_
 rintro v w4 ⟨x,y,z,rfl,hm4⟩
 refine ⟨id,x,y,z,rfl,?_⟩
 have hM4:=hM3.tr hm4
 refine callK_ret (Q:=fun v w'=>∃ b,v = .pointer (some ⟨b,0,none⟩)∧Mod NoB w4 w') (call26 _ _ ?_) ?_
 ·unfold sh26
  exact sem_box (l:=[.slice none 0 0,.slice none 0 0,.int .i64 8,.int .i64 1000]) rfl fun b w5 hN5 hb5=>⟨_,rfl,b,rfl,hN5.mod⟩
 rintro v w5 ⟨bb,rfl,hm5⟩
 refine ⟨_,rfl,?_⟩
 refine sem_box (l:=[.int .i64 id,x.val,y.val,z.val,.pointer (some ⟨vb,0,none⟩),.pointer (some ⟨bb,0,none⟩),.slice none 0 0,.slice none 0 0,.slice none 0 0,.int .i64 1,.int .i64 0,.slice none 0 0]) rfl fun t w6 hN6 hb6=>⟨_,rfl,?_⟩
 exact ⟨_,0,rfl,(hM4.tr hm5).tr hN6.mod,.inl ⟨hp,rfl,rfl⟩⟩
end
theorem awakeV:resV (runA 4 [] ⟨.lf,0⟩)=some (.bool true):=by kernel_rfl
theorem c_awake25 {w:World} (hw:GS w):Calls Tryz.prog 4 #[] w (Ret fun v w'=>v = .bool true∧Mod NoB w w'):=by
 obtain ⟨h',e1⟩:=resV_ex awakeV
 have hq:=quiet_dry ((xcalls_ok mixed dF_ok nA_ok 60).c _ _ _ _ _ e1) (fun _=>rfl) (fun _=>rfl) ⟨.lf,0⟩
 refine Calls.mono (c_q hq (fun w' hm=>hw.no hm) (vs:=[]) rfl) fun e w' ⟨v,h1,h2,h3⟩=>?_
 simp only [XR] at h2
 subst h1 h2
 exact ⟨rfl,h3⟩
end Go.Proofs.YtihafpcnhgapdaaGreatDoor
end
section
namespace Go.Proofs.YtihafpcnhgapdaaGreatDoor
open Go Go.Sh
theorem uPRp:Tryz.prog.underlying 31=some (.pointer 74):=by kernel_rfl
theorem uBoolR:Tryz.prog.underlying 4=some .bool:=by kernel_rfl
section
variable {w:World} {sd:Slc} {l:List UInt8} {ps:Slc} {ss:List Slc} {pl:List (List UInt8)} {gs:Slc} {rows:List Gt} {ks:List (List UInt8)}
theorem c_replicaConfigs {id:Int} (hG:GS w) (hs:SlRd w sd 1 (bys l)) (hsl : ∀ z,sd.blk=some z→z<w.heap.size)
 (hp:SlRd w ps 1 (vals ss)) (hplt : ∀ z,ps.blk=some z→z<w.heap.size) (hplen:ss.length=pl.length)
 (hpk : ∀ i (h:i<ss.length) (h':i<pl.length),SlRd w ss[i] 1 (bys pl[i])∧∀ z,ss[i].blk=some z→z<w.heap.size) (hg:GrAt w gs rows ks) :
 Calls Tryz.prog 3 #[.agg #[.int .i64 id,.slice sd.a sd.len sd.cap,.slice ps.a ps.len ps.cap,.slice gs.a gs.len gs.cap]] w (Ret fun v w'=>v = .bool true∧Mod NoB w w'):=by
 have hl8:=rd_len8 hs
 have hpl:pl.length=ps.len:=by have:=hp.1; rw [vals_len] at this; omega
 have hgl:=rd_lenG hg.rd
 obtain ⟨ic,j1,j2,j3,j4⟩:=iConf
 refine call3 _ _ _ _ ?_
 unfold sh3
 refine sem_box (l:=cfC id sd ps gs) rfl fun q w1 hN1 hb1=>⟨_,rfl,?_⟩
 refine callK_ret (c_awake25 (hG.no hN1.mod)) ?_
 rintro v w2 ⟨rfl,hm2⟩
 refine ⟨_,rfl,condK_i (fun h=>by cases h) fun _=>?_⟩
 have hM2:=hN1.mod.tr hm2
 have hb2:=hb1.no hm2
 refine ⟨fun l' w'=>match l' with | [.b t]=>w'=w2∧(t=false→l.length≤100∧pl.length≤10∧rows.length≤12) | _=>False,?_,?_⟩
 ·refine ⟨sd,hb2.rd1 (o:=1) rfl,condK_i (fun h=>⟨rfl,fun h=>by cases h⟩) fun h1=>?_⟩
  refine ⟨ps,hb2.rd1 (o:=2) rfl,condK_i (fun h=>⟨rfl,fun h=>by cases h⟩) fun h2=>?_⟩
  exact ⟨gs,hb2.rd1 (o:=3) rfl,rfl,fun h3=>⟨by simp at h1; omega,by simp at h2; omega,by simp at h3; omega⟩⟩
 rintro t w3 ⟨rfl,ht⟩
 refine condK_i (fun _=>⟨rfl,hM2⟩) fun h=>?_
 obtain ⟨n1,n2,n3⟩:=ht h
 refine ⟨fun l' w'=>match l' with | [.i _ x]=>∃ k:Nat,x=k∧k≤pl.length∧(∀ i (h:i<pl.length),i<k→pl[i].length≤100)∧w'=w3 | _=>False,fun l' _=>match l' with | [.i _ x]=>(pl.length - x).toNat | _=>0,⟨0,rfl,by omega,fun i h h0=>by omega,rfl⟩,?_⟩
 rintro x w4 ⟨k,rfl,hk,hgo,rfl⟩
 refine ⟨ps,hb2.rd1 (o:=2) rfl,condK_i (fun hlt=>?_) fun hge=>?_⟩
 ·have hk':k<pl.length:=by simp at hlt; omega
  have hks:k<ss.length:=by rw [hplen]; exact hk'
  obtain ⟨ad,ea,hr⟩:=rd_slc (hp.no hM2) hks
  have h8:=rd_len8 (hpk k hks hk').1
  refine ⟨ps,hb2.rd1 (o:=2) rfl,⟨by omega,by omega⟩,?_⟩
  rw [ea]
  refine ⟨ss[k],hr,condK_i (fun h=>⟨rfl,hM2⟩) fun h=>⟨⟨k+1,wrap_nat (by omega),by omega,fun i hi hik=>?_,rfl⟩,?_⟩⟩
  ·rcases Nat.lt_or_ge i k with h1 | h1
   ·exact hgo i hi h1
   ·obtain rfl:i=k:=by omega
    simp at h; omega
  ·rw [wrap_nat (by omega)]; (try simp only []); omega
 have hkk:k=pl.length:=by simp at hge; omega
 subst hkk
 refine ⟨fun l' w'=>match l' with | [.i _ x]=>∃ k:Nat,x=k∧k≤rows.length∧(∀ i (h:i<rows.length),i<k→rows[i].s.len≤100)∧w'=w4 | _=>False,fun l' _=>match l' with | [.i _ x]=>(rows.length - x).toNat | _=>0,⟨0,rfl,by omega,fun i h h0=>by omega,rfl⟩,?_⟩
 rintro x w5 ⟨k,rfl,hk2,hgo2,rfl⟩
 refine ⟨gs,hb2.rd1 (o:=3) rfl,condK_i (fun hlt=>?_) fun hge2=>?_⟩
 ·have hk':k<rows.length:=by simp at hlt; omega
  obtain ⟨ad,ea,hr⟩:=rd_g (hg.no hM2).rd hk'
  have hb:(0:Int)≤(k:Int)∧(k:Int)<(gs.len:Nat):=⟨by omega,by omega⟩
  refine ⟨gs,hb2.rd1 (o:=3) rfl,hb,onSome_of ea ⟨rows[k].s,rd_nth hr 1 rfl,condK_i (fun h=>⟨rfl,hM2⟩) fun h=>?_⟩⟩
  refine ⟨gs,hb2.rd1 (o:=3) rfl,hb,onSome_of ea ⟨rows[k].p,rd_nth hr 2 rfl,condK_i (fun h=>⟨rfl,hM2⟩) fun h'=>⟨⟨k+1,wrap_nat (by omega),by omega,fun i hi hik=>?_,rfl⟩,?_⟩⟩⟩
  ·rcases Nat.lt_or_ge i k with h1 | h1
   ·exact hgo2 i hi h1
   ·obtain rfl:i=k:=by omega
    simp at h; omega
  ·rw [wrap_nat (by omega)]; (try simp only []); omega
 have hkk:k=rows.length:=by simp at hge2; omega
 subst hkk
 have hI:NIn w sd l ps ss pl gs rows ks:=⟨hs,hsl,by omega,hp,hplt,hplen,hpk,by omega,fun p hp=>by
  obtain ⟨i,hi,rfl⟩:=List.getElem_of_mem hp
  have:=hgo i hi hi; omega,hg,by omega,fun p hp=>by
  obtain ⟨i,hi,rfl⟩:=List.getElem_of_mem hp
  have hi':i<rows.length:=by rw [hg.len]; exact hi
  have:=hgo2 i hi' hi'
  have h2:=rd_len8 (hg.key i hi' hi).1
  omega⟩
 refine ⟨id,sd,ps,gs,rdCf hb2,?_⟩
 refine callK_ret (c_lentCf (hI.no hM2)) ?_
 rintro v w6 ⟨xa,xb,xc,rows',rfl,L6,K6,hm6⟩
 refine ⟨id,xa,xb,xc,rfl,?_⟩
 have hM6:=hM2.tr hm6
 refine sem_alloc (l:=cf0) j1 j2 rfl fun p w7 hN7 hb7=>⟨_,rfl,?_⟩
 refine semU_store (o:=0) (vs:=cfC id xa xb xc) (by kernel_rfl) (by kernel_rfl) rfl hb7 (by simp [cfC]) (cfC_one _ _ _ _) fun w8 ht8 hb8=>?_
 rw [putc] at hb8
 have e7:=hN7.at_
 have hm68:Mod NoB w6 w8:=hN7.mod.fresh ht8.mod fun z e=>by have:z=p:=e; omega
 have hmd:Mod NoB w8 w8.drew:=Mod.drew _ _
 have hm6d:=hm68.tr hmd
 have hMd:=hM6.tr hm6d
 have Ld:=L6.no hm6d
 have hId:=hI.no hMd
 obtain ⟨ss',hI'⟩:=Ld.nin hId K6
 have hbd:=hb8.no hmd
 have hqd:=(hb2.no hm6).no hm6d
 refine ⟨fun w'=>Mod NoB w8.drew w',Mod.refl _ _,id,xa,xb,xc,fun w' hm=>rdCf (hbd.no hm),?_,trivial⟩
 refine callK_ret (c_diskNew (hG.no hMd)) ?_
 rintro v w9 ⟨ρ,db,ds,rfl,hd9,hi9⟩
 refine ⟨_,rfl,hi9.mod,?_,trivial⟩
 refine callK_ret (c_Start (hG.no hMd) hi9 hd9 hI') ?_
 rintro v w10 ⟨x1,e1,rfl,hm10,c1⟩
 refine ⟨x1,e1,rfl,?_⟩
 have hM10:=hMd.tr hm10
 have hmd10:Mod NoB w10 w10.drew:=Mod.drew _ _
 have hMd10:=hM10.tr hmd10
 have hq10:=(hqd.no hm10).no hmd10
 refine ⟨fun w'=>Mod NoB w10.drew w',Mod.refl _ _,id,sd,ps,gs,fun w' hm=>rdCf (hq10.no hm),?_,trivial⟩
 refine callK_ret (Q:=fun v w'=>∃ b T,v = .pointer (some ⟨b,0,none⟩)∧w10.drew.heap.size≤b∧Blk w' b [.slice none 0 0,.slice none 0 0,.int .i64 500] T∧Mod NoB w10.drew w') (call9 _ ?_) ?_
 ·unfold sh9
  exact sem_box (l:=[.slice none 0 0,.slice none 0 0,.int .i64 500]) rfl fun b w11 hN11 hb11=>⟨_,rfl,b,_,rfl,Nat.le_of_eq hN11.at_.symm,hb11,hN11.mod⟩
 rintro v w11 ⟨rb,T,rfl,hrb,hb11,hm11⟩
 refine ⟨_,rfl,hm11,?_,trivial⟩
 refine callK_ret (c_rStart (hG.no hMd10) hm11 hrb hb11 (hI.no hMd10)) ?_
 rintro v w12 ⟨x2,e2,rfl,hm12,c2⟩
 refine ⟨x2,e2,rfl,?_⟩
 have hM12:=hMd10.tr hm12
 have hq12:=hq10.no hm12
 refine ⟨id,sd,ps,gs,rdCf hq12,?_⟩
 refine callK_ret (c_StartN (.inl rfl)) ?_
 rintro v w13 ⟨rfl,hm13⟩
 refine ⟨none,1,rfl,?_⟩
 have hq13:=hq12.no hm13
 refine ⟨id,sd,ps,gs,rdCf hq13,?_⟩
 refine sem_box (l:=[.map none,.map none,.int .i64 0]) rfl fun zb w14 hN14 hb14=>⟨_,rfl,?_⟩
 refine callK_ret (c_StartN (.inr ⟨zb,_,rfl,hb14⟩)) ?_
 rintro v w15 ⟨rfl,hm15⟩
 refine ⟨none,1,rfl,?_⟩
 have hm1015:=((((hmd10.tr hm12).tr hm13).tr hN14.mod).tr hm15)
 have hM15:=hM10.tr hm1015
 have hin15:=(hbd.no hm10).no hm1015
 have hq15:=((hq13.no hN14.mod).no hm15)
 have L15:=(Ld.no hm10).no hm1015
 have hiff:=Ld.like hId K6 id
 have heq:e1=e2:=by
  rcases c1 with ⟨a1,_,rfl⟩ | ⟨a1,_,rfl⟩ <;> rcases c2 with ⟨b1,_,rfl⟩ | ⟨b1,_,rfl⟩
  ·rfl
  ·exact absurd (hiff.1 a1) b1
  ·exact absurd (hiff.2 b1) a1
  ·rfl
 have hsome:x1.isSome=(e1==0):=by
  rcases c1 with ⟨a1,h1,rfl⟩ | ⟨a1,h1,rfl⟩ <;> rw [h1] <;> rfl
 refine condK_i (fun _=>?_) fun h=>by simp [heq] at h
 refine ps_neq_ptr uPRp ⟨_,rfl,ps_eql_bool uBoolR ⟨_,rfl,?_⟩⟩
 refine condK_i (fun _=>?_) fun h=>by simp [hsome] at h
 refine condK_i (fun _=>?_) fun h=>by simp at h
 refine condK_i (fun _=>?_) fun h=>by simp at h
 refine ⟨id,xa,xb,xc,rdCf hin15,id,sd,ps,gs,rdCf hq15,?_⟩
 refine callK_ret (c_keptCf L15 (hI.no hM15) K6) ?_
 rintro v w16 ⟨rfl,hm16⟩
 exact ⟨_,rfl,rfl,hM15.tr hm16⟩
theorem c_replicaConfigsP {id:Int} (hG:GS w) (hs:SlRd w sd 1 (bys l)) (hsl : ∀ z,sd.blk=some z→z<w.heap.size) (hp:PartsAt w ps pl fun y=>y<w.heap.size) (hg:GrAt w gs rows ks) :
 Calls Tryz.prog 3 #[.agg #[.int .i64 id,.slice sd.a sd.len sd.cap,.slice ps.a ps.len ps.cap,.slice gs.a gs.len gs.cap]] w (Ret fun v w'=>v = .bool true∧Mod NoB w w'):=by
 obtain ⟨ss,h1,h2,h3,h4⟩:=hp
 exact c_replicaConfigs hG hs hsl h1 h2 h3 h4 hg
end
end Go.Proofs.YtihafpcnhgapdaaGreatDoor
end
