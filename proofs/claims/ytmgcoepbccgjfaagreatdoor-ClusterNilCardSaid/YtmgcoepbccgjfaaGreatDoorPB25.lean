/- The forms of the translated functions,their contracts and the plain laws behind them,put together by a program. -/
import Derived.Test.YtmgcoepbccgjfaaGreatDoorPB24
import Derived.Lib.Bytealg
import Derived.Test.YtmgcoepbccgjfaaGreatDoorProg
set_option linter.unusedSimpArgs false
set_option linter.unusedVariables false
set_option maxRecDepth 1000000
set_option maxHeartbeats 8000000
section
namespace Go.Proofs.YtmgcoepbccgjfaaGreatDoor
open Go Go.Sh Go.X
noncomputable def keyR (xs:List XV) (h:Hp):Option (List (List Nat)):=match xs with
 | [x]=>rowsOf h x
 | _=>none
def DigTab (t:Tab):Prop:=∀ k r,(k,r)∈t->BOk r/\small k/\sha (k.map toB).flatten=toB r
theorem digC_ok {t:Tab} (ht:DigTab t) : ∀ f xs h y h',tabC 94 keyR t f xs h=some (y,h')->CallOk Tryz.prog GS f xs h y h':=
 tabC_ok λxs h k r hk hm=>by
  obtain ⟨hb,hs,hp⟩:=ht k r hm
  refine ⟨hb,λS0 w0 ρ w vs hg hi hx=>?_⟩
  unfold keyR at hk
  split at hk
  ·next x=>
   simp only [XRs] at hx
   obtain ⟨v,vs',rfl,h2,rfl⟩:=hx
   obtain ⟨s,ss,rfl,h5,h6,h7,h8⟩:=rowsOf_ok hi hk h2
   exact ret_mono (c_sumW (X:=λx=>x<w.heap.size) hg.sha ⟨ss,h5,h6,h7,λi a b=>h8 i a b⟩ (λ_ h=>h) (by have:=hs.1; omega) (by have:=hs.2; simp; omega)) λv w' ⟨x,e1,e2,e3,e4⟩=>⟨x,_,e1,by rw [<-hp]; exact e2,e3,e4⟩
  ·cases hk
abbrev ShTab:=List (List Nat×Nat×List Nat)
noncomputable def lookS (k:List Nat) (t:ShTab):Option (Nat×List Nat):=List.rec (motive:=λ_=>Option (Nat×List Nat)) none (λq _ ih=>br (eqN q.1 k) (some q.2) ih) t
theorem lookS_mem {k:List Nat} {r:Nat×List Nat} : ∀ {t:ShTab},lookS k t=some r->(k,r)∈t
 | [],h=>by cases h
 | q :: t,h=>by
   have h:br (eqN q.1 k) (some q.2) (lookS k t)=some r:=h
   cases hb:eqN q.1 k with
   | true=>
     rw [hb,br_t] at h
     cases h
     rw [<-eqN_eq hb]
     exact List.mem_cons_self
   | false=>
     rw [hb,br_f] at h
     exact List.mem_cons_of_mem _ (lookS_mem h)
def ShOk (t:ShTab):Prop:=∀ k a l,(k,a,l)∈t->k.length<=1000/\(∀ b∈l,b<256)/\shardOf (dg (toB k))=(a:Int)/\way (dg (toB k))=toB l
noncomputable def shQ (t:ShTab) (f:FuncId) (xs:List XV):Option XV:=match xs with
 | [.str k]=>X.br (Nat.beq f 320) (onO (lookS k t) λq=>some (.int .i64 (.ofNat q.1))) (X.br (Nat.beq f 517) (onO (lookS k t) λq=>some (.str q.2)) none)
 | _=>none
theorem quiet_of {f:FuncId} {k:List Nat} {y:XV} {v:Value} (hx : ∀ ρ,(∀ x∈k,x<256)->XR ρ y v) (hc : ∀ w,GS w->Calls Tryz.prog f #[.string ⟨(toB k).toArray⟩] w (Ret λu w'=>u=v/\Mod NoB w w')) (h:Hp):QuietOk Tryz.prog GS f [.str k] h y:=by
 intro S0 w0 ρ w vs hG hi hxs
 simp only [XRs] at hxs
 obtain ⟨u,vs',rfl,h4,rfl⟩:=hxs
 simp only [XR] at h4
 obtain ⟨h5,rfl⟩:=h4
 refine Calls.mono (hc w (hG w hi.mod)) λe w' he=>?_
 cases e <;> first | exact he.elim | skip
 obtain ⟨rfl,hm⟩:=he
 exact ⟨_,rfl,hx ρ h5,hi.no hm⟩
theorem shQ_ok {t:ShTab} (ht:ShOk t) {f:FuncId} {xs:List XV} {y:XV} (hr:shQ t f xs=some y) (h:Hp):QuietOk Tryz.prog GS f xs h y:=by
 unfold shQ at hr
 split at hr
 ·next k=>
  cases h1:Nat.beq f 320 with
  | true=>
    rw [h1,br_t] at hr
    obtain ⟨⟨a,l⟩,h2,h3⟩:=onO_some hr
    cases h3
    obtain ⟨g1,g2,g3,g4⟩:=ht k a l (lookS_mem h2)
    have:=Nat.eq_of_beq_eq_true h1
    subst this
    refine quiet_of (v:=.int .i64 (a:Int)) (λρ _=>by simp only [XR]; rfl) (λw hg=>?_) h
    rw [<-g3]
    exact c_shardOf hg.sha (by rw [toB_len]; omega)
  | false=>
    rw [h1,br_f] at hr
    obtain ⟨h1',hr1⟩:=br_some hr
    obtain ⟨⟨a,l⟩,h2,h3⟩:=onO_some hr1
    cases h3
    obtain ⟨g1,g2,g3,g4⟩:=ht k a l (lookS_mem h2)
    have:=Nat.eq_of_beq_eq_true h1'
    subst this
    refine quiet_of (v:=.string ⟨(toB l).toArray⟩) (λρ _=>by simp only [XR]; exact ⟨g2,rfl⟩) (λw hg=>?_) h
    rw [<-g4]
    exact c_shardBits hg.sha (by rw [toB_len]; omega)
 ·cases hr
noncomputable def cmpN (l:List Nat):List Nat->Int:=List.rec (motive:=λ_=>List Nat->Int) (λm=>match m with | []=>.ofNat 0 | _ :: _=>.negSucc 0) (λa _ ih m=>match m with
 | []=>.ofNat 1
 | b :: r=>X.br (Nat.blt a b) (.negSucc 0) (X.br (Nat.blt b a) (.ofNat 1) (ih r))) l
theorem lt8 {a b:Nat} (ha:a<256) (hb:b<256):UInt8.ofNat a<UInt8.ofNat b↔a<b:=by
 rw [UInt8.lt_iff_toNat_lt,UInt8.toNat_ofNat',UInt8.toNat_ofNat']
 omega
theorem cmpN_eq : ∀ {l m:List Nat},(∀ x∈l,x<256)->(∀ x∈m,x<256)->cmpN l m=Lib.compareBytes (toB l) (toB m)
 | [],[],_,_=>rfl
 | [],_ :: _,_,_=>rfl
 | _ :: _,[],_,_=>rfl
 | a :: l,b :: m,hl,hm=>by
   have ha:=hl a List.mem_cons_self
   have hb:=hm b List.mem_cons_self
   show X.br (Nat.blt a b) (.negSucc 0) (X.br (Nat.blt b a) (.ofNat 1) (cmpN l m))=if UInt8.ofNat a<UInt8.ofNat b then -1 else if UInt8.ofNat b<UInt8.ofNat a then 1 else Lib.compareBytes (toB l) (toB m)
   rw [<-cmpN_eq (λx hx=>hl x (List.mem_cons_of_mem _ hx)) λx hx=>hm x (List.mem_cons_of_mem _ hx)]
   have q1:(UInt8.ofNat a<UInt8.ofNat b)=(a<b):=propext (lt8 ha hb)
   have q2:(UInt8.ofNat b<UInt8.ofNat a)=(b<a):=propext (lt8 hb ha)
   simp only [q1,q2]
   cases h1:Nat.blt a b with
   | true=>rw [br_t,if_pos (show a<b from Nat.le_of_ble_eq_true h1)]; rfl
   | false=>
     have : ¬ a<b:=λh=>by
      have:=Nat.ble_eq_true_of_le h
      rw [show Nat.ble (a+1) b=Nat.blt a b from rfl,h1] at this; cases this
     rw [br_f,if_neg this]
     cases h2:Nat.blt b a with
     | true=>rw [br_t,if_pos (show b<a from Nat.le_of_ble_eq_true h2)]; rfl
     | false=>
       have : ¬ b<a:=λh=>by
        have:=Nat.ble_eq_true_of_le h
        rw [show Nat.ble (b+1) a=Nat.blt b a from rfl,h2] at this; cases this
       rw [br_f,if_neg this]
noncomputable def cmpE (f:FuncId) (xs:List XV):Option XV:=X.br (Nat.beq f 466) (match xs with
 | [.str a,.str b]=>some (.int .i64 (cmpN a b))
 | _=>none) none
theorem cmpE_ok {f:FuncId} {xs:List XV} {y:XV} (h:cmpE f xs=some y):ExtOk Tryz.prog f xs y:=by
 unfold cmpE at h
 obtain ⟨h1,hq⟩:=br_some h
 clear h
 have h1:=Nat.eq_of_beq_eq_true h1
 subst h1
 split at hq
 ·next a b=>
  cases hq
  intro ρ w vs hvs
  simp only [XRs,XR] at hvs
  obtain ⟨v1,r1,rfl,⟨ha,rfl⟩,v2,r2,rfl,⟨hb,rfl⟩,rfl⟩:=hvs
  refine ⟨.int .i64 (Lib.compareBytes (toB a) (toB b)),?_,by simp only [XR]; rw [cmpN_eq ha hb]⟩
  rw [run_callFunc_extern Tryz.func466 (by kernel_rfl) (by kernel_rfl) (by kernel_rfl) (e:=Extern.BytealgCompare.compare) (by kernel_rfl)]
  rw [show ([strV a,strV b]:List Value).toArray = #[.string ⟨(toB a).toArray⟩,.string ⟨(toB b).toArray⟩] from rfl,Lib.run_compareString]
  rfl
 ·cases hq
abbrev sd0:List Nat:=[1,1,1,1,1,1,1,1,1,1,1,1,1,1,1,1,1,1,1,1,1,1,1,1,1,1,1,1,1,1,1,1]
abbrev pk0:List Nat:=[138,136,227,221,116,9,241,149,253,82,219,45,60,186,93,114,202,103,9,191,29,148,18,27,243,116,136,1,180,15,111,92]
abbrev sd1:List Nat:=[2,2,2,2,2,2,2,2,2,2,2,2,2,2,2,2,2,2,2,2,2,2,2,2,2,2,2,2,2,2,2,2]
abbrev pk1:List Nat:=[129,57,119,14,168,125,23,95,86,163,84,102,195,76,126,204,203,141,138,145,180,238,55,162,93,246,15,91,143,201,179,148]
abbrev sd2:List Nat:=[11,11,11,11,11,11,11,11,11,11,11,11,11,11,11,11,11,11,11,11,11,11,11,11,11,11,11,11,11,11,11,11]
abbrev pk2:List Nat:=[102,190,126,51,44,122,69,51,50,189,157,10,127,125,176,85,245,197,239,26,6,173,166,109,152,179,159,182,129,12,71,58]
abbrev ta0_0:List Nat:=[1,0,0,0,0,0,0,0,1,97,0,0,0,0,0,0,0,1,0,0,0,0,0,0,0,1,0,0,0,0,0,0,0,0,0,0,0,0,0,0,0,0,1,118]
abbrev tx0:List (List Nat):=[ta0_0]
abbrev sg0:List Nat:=[39,161,213,224,30,18,177,85,203,24,145,136,123,155,150,45,101,208,30,180,252,203,97,134,231,51,234,91,112,187,138,57,239,45,40,43,63,233,178,101,77,90,138,223,156,146,13,80,157,34,87,207,245,55,166,77,168,234,236,135,84,214,162,9]
abbrev rr0:List Nat:=[39,161,213,224,30,18,177,85,203,24,145,136,123,155,150,45,101,208,30,180,252,203,97,134,231,51,234,91,112,187,138,57]
abbrev hwx0:List Nat:=[88,193,83,184,106,252,242,145,253,9,236,154,83,237,65,158,108,37,159,46,101,46,211,99,48,203,170,140,162,6,164,2]
abbrev ta1_0:List Nat:=[2,0,0,0,0,0,0,0,2,0,0,0,0,0,0,0,0,0,0,0,0,0,0,0,1,58,185,34,32,84,201,20,146,209,216,92,5,85,92,163,24,82,153,231,183,243,163,192,137,94,10,232,77,17,190,225,238,4,231,103,130,210,33,155,209,34,157,145,237,150,46,104,251,43,172,41,100,125,197,221,191,236,40,109,19,211,121,100,90]
abbrev tx1:List (List Nat):=[ta1_0]
abbrev sg1:List Nat:=[217,97,157,202,218,196,10,0,124,212,254,255,150,147,58,139,55,88,134,46,116,199,172,199,245,95,34,246,214,157,102,13,15,33,12,88,230,254,172,42,17,76,79,130,149,71,92,76,14,219,186,113,5,25,183,82,200,141,144,159,193,110,254,10]
abbrev rr1:List Nat:=[217,97,157,202,218,196,10,0,124,212,254,255,150,147,58,139,55,88,134,46,116,199,172,199,245,95,34,246,214,157,102,13]
abbrev hwx1:List Nat:=[176,27,56,144,176,130,188,245,72,56,176,187,137,218,4,141,119,139,104,228,106,189,99,74,170,175,193,158,178,241,97,0]
abbrev ta2_0:List Nat:=[2,0,0,0,0,0,0,0,1,0,0,0,0,0,0,0,0,0,0,0,0,0,0,0,1,58,185,34,32,84,201,20,146,209,216,92,5,85,92,163,24,82,153,231,183,243,163,192,137,94,10,232,77,17,190,225,238,4,231,103,130,210,33,155,209,34,157,145,237,150,46,104,251,43,172,41,100,125,197,221,191,236,40,109,19,211,121,100,90]
abbrev tx2:List (List Nat):=[ta2_0]
abbrev sg2:List Nat:=[68,212,150,43,12,245,244,8,125,139,153,66,204,160,203,25,174,252,188,197,233,126,159,184,65,248,240,52,122,157,179,129,80,238,157,237,80,217,167,241,230,32,23,43,154,107,158,82,152,243,74,220,156,202,179,201,180,193,111,35,177,50,229,15]
abbrev rr2:List Nat:=[68,212,150,43,12,245,244,8,125,139,153,66,204,160,203,25,174,252,188,197,233,126,159,184,65,248,240,52,122,157,179,129]
abbrev hwx2:List Nat:=[61,247,79,93,24,75,135,194,250,157,14,201,113,87,103,153,148,65,139,139,22,158,166,108,131,31,140,228,76,57,23,4]
abbrev ta3_0:List Nat:=[2,0,0,0,0,0,0,0,2,0,0,0,0,0,0,0,1,0,0,0,0,0,0,0,1,177,170,54,172,149,136,0,244,88,84,120,241,134,196,228,191,214,249,229,161,204,108,85,34,46,32,186,181,46,146,61,83,18,128,133,170,249,94,129,118,157,206,41,152,21,73,21,201,61,99,91,25,187,67,183,34,18,121,199,153,44,6,25,190]
abbrev tx3:List (List Nat):=[ta3_0]
abbrev sg3:List Nat:=[141,44,232,253,255,80,42,180,6,101,233,98,127,181,27,78,245,134,107,217,198,213,244,104,228,224,114,14,47,73,19,96,236,3,192,0,18,108,60,249,17,178,56,118,220,37,152,19,73,224,81,105,239,173,242,77,43,34,41,136,173,65,80,5]
abbrev rr3:List Nat:=[141,44,232,253,255,80,42,180,6,101,233,98,127,181,27,78,245,134,107,217,198,213,244,104,228,224,114,14,47,73,19,96]
abbrev hwx3:List Nat:=[222,50,100,213,159,205,137,13,137,119,172,110,187,22,203,67,119,242,28,211,239,92,180,138,242,34,239,144,202,41,9,6]
abbrev ta4_0:List Nat:=[2,0,0,0,0,0,0,0,2,0,0,0,0,0,0,0,2,0,0,0,0,0,0,0,1,234,231,111,164,20,40,92,71,233,125,43,236,41,115,88,123,120,218,83,36,61,197,58,245,155,235,4,232,15,41,28,111,117,199,156,150,235,56,177,197,93,15,107,226,182,209,0,100,29,114,215,59,120,118,186,159,97,217,41,106,12,34,56,5]
abbrev tx4:List (List Nat):=[ta4_0]
abbrev sg4:List Nat:=[235,239,68,148,220,211,91,88,40,71,30,246,0,120,1,230,136,222,241,241,25,121,25,198,149,213,162,113,208,164,15,39,186,58,182,157,11,205,101,160,120,18,247,76,80,101,160,61,204,168,97,158,6,35,231,31,214,221,117,137,255,182,105,5]
abbrev rr4:List Nat:=[235,239,68,148,220,211,91,88,40,71,30,246,0,120,1,230,136,222,241,241,25,121,25,198,149,213,162,113,208,164,15,39]
abbrev hwx4:List Nat:=[112,83,230,74,128,3,165,37,230,17,37,171,126,185,226,148,92,250,126,8,186,5,124,251,157,155,17,51,20,125,244,11]
abbrev ta5_0:List Nat:=[2,0,0,0,0,0,0,0,2,0,0,0,0,0,0,0,3,0,0,0,0,0,0,0,1,55,161,222,111,201,111,172,115,168,134,250,250,2,105,126,172,86,139,54,69,135,111,122,169,206,140,204,29,56,112,83,120,209,192,176,203,229,54,138,221,246,11,73,35,126,179,186,144,87,74,222,205,99,236,203,98,29,159,145,188,229,41,59,28]
abbrev tx5:List (List Nat):=[ta5_0]
abbrev sg5:List Nat:=[9,24,1,22,25,238,193,170,243,138,130,38,221,210,156,92,83,202,239,173,2,185,118,222,70,173,69,30,85,235,48,190,47,81,148,88,57,124,31,160,242,194,122,218,75,118,116,14,237,175,21,162,234,171,21,194,76,23,44,112,120,155,238,2]
abbrev rr5:List Nat:=[9,24,1,22,25,238,193,170,243,138,130,38,221,210,156,92,83,202,239,173,2,185,118,222,70,173,69,30,85,235,48,190]
abbrev hwx5:List Nat:=[247,91,54,124,78,19,56,11,12,114,233,243,134,205,106,43,212,36,51,82,128,185,48,70,66,186,113,166,233,10,159,2]
abbrev ta6_0:List Nat:=[2,0,0,0,0,0,0,0,1,0,0,0,0,0,0,0,1,0,0,0,0,0,0,0,1,47,178,46,186,84,42,66,179,237,189,137,239,211,147,165,5,195,196,110,156,48,74,140,134,179,169,39,45,127,142,193,143,209,92,133,217,124,158,185,44,9,182,19,164,150,7,243,189,255,110,48,246,24,19,124,6,9,153,122,200,209,33,166,52]
abbrev tx6:List (List Nat):=[ta6_0]
abbrev sg6:List Nat:=[144,198,73,171,80,101,101,22,56,217,80,218,162,173,97,253,81,113,228,41,233,179,45,229,145,190,57,153,229,175,127,170,179,220,92,167,254,98,122,251,23,141,22,182,222,243,137,104,200,64,78,251,70,201,94,3,170,160,144,242,250,0,26,0]
abbrev rr6:List Nat:=[144,198,73,171,80,101,101,22,56,217,80,218,162,173,97,253,81,113,228,41,233,179,45,229,145,190,57,153,229,175,127,170]
abbrev hwx6:List Nat:=[121,64,3,194,13,190,211,186,73,27,143,217,193,45,16,228,46,153,229,106,200,150,225,49,8,106,77,97,151,100,246,3]
abbrev ta7_0:List Nat:=[2,0,0,0,0,0,0,0,1,0,0,0,0,0,0,0,2,0,0,0,0,0,0,0,1,234,231,111,164,20,40,92,71,233,125,43,236,41,115,88,123,120,218,83,36,61,197,58,245,155,235,4,232,15,41,28,111,117,199,156,150,235,56,177,197,93,15,107,226,182,209,0,100,29,114,215,59,120,118,186,159,97,217,41,106,12,34,56,5]
abbrev tx7:List (List Nat):=[ta7_0]
abbrev sg7:List Nat:=[44,5,34,177,100,30,86,119,1,93,28,11,77,182,100,117,170,59,82,15,122,114,39,61,164,83,42,251,242,218,108,222,75,198,32,203,121,47,248,147,206,78,212,114,227,218,205,48,138,221,146,118,211,157,211,182,120,23,215,3,59,217,139,3]
abbrev rr7:List Nat:=[44,5,34,177,100,30,86,119,1,93,28,11,77,182,100,117,170,59,82,15,122,114,39,61,164,83,42,251,242,218,108,222]
abbrev hwx7:List Nat:=[55,190,38,181,248,165,242,73,226,114,194,240,104,125,228,183,10,162,108,149,54,143,67,196,196,227,249,179,58,17,11,6]
abbrev ta8_0:List Nat:=[2,0,0,0,0,0,0,0,1,0,0,0,0,0,0,0,3,0,0,0,0,0,0,0,1,55,161,222,111,201,111,172,115,168,134,250,250,2,105,126,172,86,139,54,69,135,111,122,169,206,140,204,29,56,112,83,120,209,192,176,203,229,54,138,221,246,11,73,35,126,179,186,144,87,74,222,205,99,236,203,98,29,159,145,188,229,41,59,28]
abbrev tx8:List (List Nat):=[ta8_0]
abbrev sg8:List Nat:=[200,51,167,113,246,146,229,128,192,92,144,206,108,138,209,177,193,171,72,107,224,166,29,68,152,233,135,116,168,31,219,45,119,138,93,219,110,181,20,125,239,226,62,226,160,37,213,193,113,44,57,50,187,229,24,84,33,33,22,139,159,32,136,1]
abbrev rr8:List Nat:=[200,51,167,113,246,146,229,128,192,92,144,206,108,138,209,177,193,171,72,107,224,166,29,68,152,233,135,116,168,31,219,45]
abbrev hwx8:List Nat:=[90,126,197,91,167,166,234,240,23,238,209,122,1,15,233,137,105,114,135,69,194,107,81,179,213,220,62,233,141,129,211,9]
abbrev ta9_0:List Nat:=[2,0,0,0,0,0,0,0,2,0,0,0,0,0,0,0,0,0,0,0,0,0,0,0,1,112,205,12,236,82,59,225,42,151,206,102,160,138,216,245,116,218,228,159,110,253,66,62,33,41,42,6,94,74,194,84,228,130,156,107,242,242,57,25,80,154,141,94,16,177,141,70,236,159,22,42,241,250,171,122,121,219,93,96,21,30,111,19,109]
abbrev tx9:List (List Nat):=[ta9_0]
abbrev sg9:List Nat:=[120,8,109,13,36,102,43,155,9,41,29,202,135,245,29,209,130,253,144,46,206,96,161,197,86,246,116,60,220,188,131,147,62,248,220,239,50,180,201,67,202,220,3,254,232,186,3,134,23,143,196,63,43,16,234,105,174,64,169,47,70,147,59,15]
abbrev rr9:List Nat:=[120,8,109,13,36,102,43,155,9,41,29,202,135,245,29,209,130,253,144,46,206,96,161,197,86,246,116,60,220,188,131,147]
abbrev hwx9:List Nat:=[200,212,92,76,230,96,203,68,208,192,182,52,115,56,168,243,167,99,133,126,44,117,142,177,41,135,80,62,243,182,195,10]
abbrev dt0:List (List Nat):=[[6],[97]]
abbrev dd0:List Nat:=[115,178,215,200,23,15,195,114,255,42,107,118,247,226,212,160,44,79,40,215,146,29,112,133,36,1,52,161,244,240,57,23,110,91,250,203,86,5,18,231,237,187,96,255,9,241,17,6,251,35,92,238,250,101,54,221,47,170,206,120,118,239,220,188]
abbrev dt1:List (List Nat):=[[0],[],[]]
abbrev dd1:List Nat:=[184,36,77,2,137,129,214,147,175,123,69,106,248,239,164,202,214,61,40,46,25,255,20,148,44,36,110,80,217,53,29,34,112,74,128,42,113,195,88,11,99,112,222,76,235,41,60,50,74,132,35,52,37,87,212,229,195,132,56,240,227,105,16,238]
abbrev dt2:List (List Nat):=[[4,0],[184,36,77,2,137,129,214,147,175,123,69,106,248,239,164,202,214,61,40,46,25,255,20,148,44,36,110,80,217,53,29,34,112,74,128,42,113,195,88,11,99,112,222,76,235,41,60,50,74,132,35,52,37,87,212,229,195,132,56,240,227,105,16,238]]
abbrev dd2:List Nat:=[58,185,34,32,84,201,20,146,209,216,92,5,85,92,163,24,82,153,231,183,243,163,192,137,94,10,232,77,17,190,225,238,4,231,103,130,210,33,155,209,34,157,145,237,150,46,104,251,43,172,41,100,125,197,221,191,236,40,109,19,211,121,100,90]
abbrev dt3:List (List Nat):=[[4,1],[184,36,77,2,137,129,214,147,175,123,69,106,248,239,164,202,214,61,40,46,25,255,20,148,44,36,110,80,217,53,29,34,112,74,128,42,113,195,88,11,99,112,222,76,235,41,60,50,74,132,35,52,37,87,212,229,195,132,56,240,227,105,16,238]]
abbrev dd3:List Nat:=[177,170,54,172,149,136,0,244,88,84,120,241,134,196,228,191,214,249,229,161,204,108,85,34,46,32,186,181,46,146,61,83,18,128,133,170,249,94,129,118,157,206,41,152,21,73,21,201,61,99,91,25,187,67,183,34,18,121,199,153,44,6,25,190]
abbrev dt4:List (List Nat):=[[5],[0,0,0,0,0,0,0,1,0,0,0,0,0,0,0,108,1,0,0,0,0,0,0,0,1,97,0,0,0,0,0,0,0,1,0,0,0,0,0,0,0,1,0,0,0,0,0,0,0,0,0,0,0,0,0,0,0,0,1,118,39,161,213,224,30,18,177,85,203,24,145,136,123,155,150,45,101,208,30,180,252,203,97,134,231,51,234,91,112,187,138,57,239,45,40,43,63,233,178,101,77,90,138,223,156,146,13,80,157,34,87,207,245,55,166,77,168,234,236,135,84,214,162,9]]
abbrev dd4:List Nat:=[72,200,58,18,125,181,227,146,195,204,65,123,245,114,150,110,246,26,127,241,14,225,216,253,33,2,147,117,55,212,151,110,100,185,185,95,134,232,14,218,144,176,25,77,119,217,181,66,146,241,203,125,69,59,73,224,155,32,108,16,192,149,169,48]
abbrev dt5:List (List Nat):=[[1],[],[],[0,0,0,0,0,0,0,1,97],[72,200,58,18,125,181,227,146,195,204,65,123,245,114,150,110,246,26,127,241,14,225,216,253,33,2,147,117,55,212,151,110,100,185,185,95,134,232,14,218,144,176,25,77,119,217,181,66,146,241,203,125,69,59,73,224,155,32,108,16,192,149,169,48]]
abbrev dd5:List Nat:=[161,177,184,182,5,250,45,35,131,37,72,36,200,210,99,74,217,228,182,74,130,107,71,69,191,73,33,42,197,123,200,97,155,214,54,215,44,35,160,128,8,55,179,55,233,110,81,203,178,212,62,67,27,242,79,212,206,12,155,98,67,190,190,121]
abbrev dt6:List (List Nat):=[[4,2],[184,36,77,2,137,129,214,147,175,123,69,106,248,239,164,202,214,61,40,46,25,255,20,148,44,36,110,80,217,53,29,34,112,74,128,42,113,195,88,11,99,112,222,76,235,41,60,50,74,132,35,52,37,87,212,229,195,132,56,240,227,105,16,238]]
abbrev dd6:List Nat:=[234,231,111,164,20,40,92,71,233,125,43,236,41,115,88,123,120,218,83,36,61,197,58,245,155,235,4,232,15,41,28,111,117,199,156,150,235,56,177,197,93,15,107,226,182,209,0,100,29,114,215,59,120,118,186,159,97,217,41,106,12,34,56,5]
abbrev dt7:List (List Nat):=[[4,3],[184,36,77,2,137,129,214,147,175,123,69,106,248,239,164,202,214,61,40,46,25,255,20,148,44,36,110,80,217,53,29,34,112,74,128,42,113,195,88,11,99,112,222,76,235,41,60,50,74,132,35,52,37,87,212,229,195,132,56,240,227,105,16,238]]
abbrev dd7:List Nat:=[55,161,222,111,201,111,172,115,168,134,250,250,2,105,126,172,86,139,54,69,135,111,122,169,206,140,204,29,56,112,83,120,209,192,176,203,229,54,138,221,246,11,73,35,126,179,186,144,87,74,222,205,99,236,203,98,29,159,145,188,229,41,59,28]
abbrev dt8:List (List Nat):=[[4,1],[161,177,184,182,5,250,45,35,131,37,72,36,200,210,99,74,217,228,182,74,130,107,71,69,191,73,33,42,197,123,200,97,155,214,54,215,44,35,160,128,8,55,179,55,233,110,81,203,178,212,62,67,27,242,79,212,206,12,155,98,67,190,190,121]]
abbrev dd8:List Nat:=[47,178,46,186,84,42,66,179,237,189,137,239,211,147,165,5,195,196,110,156,48,74,140,134,179,169,39,45,127,142,193,143,209,92,133,217,124,158,185,44,9,182,19,164,150,7,243,189,255,110,48,246,24,19,124,6,9,153,122,200,209,33,166,52]
abbrev dt9:List (List Nat):=[[0]]
abbrev dd9:List Nat:=[184,36,77,2,137,129,214,147,175,123,69,106,248,239,164,202,214,61,40,46,25,255,20,148,44,36,110,80,217,53,29,34,112,74,128,42,113,195,88,11,99,112,222,76,235,41,60,50,74,132,35,52,37,87,212,229,195,132,56,240,227,105,16,238]
abbrev dt10:List (List Nat):=[[1]]
abbrev dd10:List Nat:=[123,84,182,104,54,193,251,221,19,210,68,29,158,20,52,220,98,202,103,127,182,143,95,230,106,70,75,170,222,205,189,0,87,111,141,107,90,195,188,200,8,68,183,213,11,28,198,96,52,68,187,231,207,207,143,192,170,30,227,198,54,217,227,57]
abbrev dt11:List (List Nat):=[[4,0],[123,84,182,104,54,193,251,221,19,210,68,29,158,20,52,220,98,202,103,127,182,143,95,230,106,70,75,170,222,205,189,0,87,111,141,107,90,195,188,200,8,68,183,213,11,28,198,96,52,68,187,231,207,207,143,192,170,30,227,198,54,217,227,57]]
abbrev dd11:List Nat:=[112,205,12,236,82,59,225,42,151,206,102,160,138,216,245,116,218,228,159,110,253,66,62,33,41,42,6,94,74,194,84,228,130,156,107,242,242,57,25,80,154,141,94,16,177,141,70,236,159,22,42,241,250,171,122,121,219,93,96,21,30,111,19,109]
abbrev ky0:List Nat:=[97]
abbrev kd0:List Nat:=[115,178,215,200,23,15,195,114,255,42,107,118,247,226,212,160,44,79,40,215,146,29,112,133,36,1,52,161,244,240,57,23,110,91,250,203,86,5,18,231,237,187,96,255,9,241,17,6,251,35,92,238,250,101,54,221,47,170,206,120,118,239,220,188]
abbrev kw0:List Nat:=[49,49,48,48,49,49,49,48,49,49,48,48,49,48,49,49,48,49,48,49,49,49,49,49,48,48,49,48,48,48,48,48,48,49,48,49,49,49,48,48,48,48,49,49,49,49,49,49,48,48,48,48,49,49,48,49,49,49,48,48,49,48,49,49,49,49,49,49,49,49,48,48,49,48,49,48,49,48,48,49,49,48,49,48,49,49,48,49,49,49,48,49,49,48,49,49,49,49,48,49,49,49,49,49,49,48,48,48,49,48,49,49,48,49,48,49,48,48,49,48,49,48,48,48,48,48,48,48,49,48,49,49,48,48,48,49,48,48,49,49,49,49,48,48,49,48,49,48,48,48,49,49,48,49,48,49,49,49,49,48,48,49,48,48,49,48,48,48,48,49,49,49,48,49,48,49,49,49,48,48,48,48,49,48,48,48,48,49,48,49,48,48,49,48,48,49,48,48,48,48,48,48,48,48,48,49,48,48,49,49,48,49,48,48,49,48,49,48,48,48,48,49,49,49,49,49,48,49,48,48,49,49,49,49,48,48,48,48,48,48,49,49,49,48,48,49,48,48,48,49,48,49,49,49,48,49,49,48,49,49,49,48,48,49,48,49,49,48,49,49,49,49,49,49,49,48,49,48,49,49,48,48,49,48,49,49,48,49,48,49,48,49,49,48,48,48,48,48,48,49,48,49,48,48,48,49,48,48,49,48,49,49,49,48,48,49,49,49,49,49,49,48,49,49,48,49,49,48,49,49,49,48,49,49,48,49,49,48,48,48,48,48,49,49,49,49,49,49,49,49,48,48,48,48,49,48,48,49,49,49,49,49,48,48,48,49,48,48,48,49,48,48,48,49,48,48,48,48,48,49,49,48,49,49,49,49,49,48,49,49,48,48,49,48,48,48,49,49,48,49,48,49,49,49,48,48,49,49,49,48,49,49,49,48,49,49,49,49,49,48,49,48,48,49,49,48,48,49,48,49,48,48,49,49,48,49,49,48,49,49,48,49,49,49,48,49,48,48,49,48,49,49,49,49,49,48,49,48,49,48,49,48,49,49,48,48,49,49,49,48,48,49,49,49,49,48,48,48,48,49,49,49,48,49,49,48,49,49,49,48,49,49,49,49,49,49,48,49,49,49,48,48,49,48,49,49,49,49,48,48]
theorem pub0:pubF (toB sd0)=toB pk0:=by kernel_rfl
theorem mul3:mulF (numF (drwB (toB sd1) :: tx3.map toB))=toB rr3:=by kernel_rfl
theorem mul9:mulF (numF (drwB (toB sd1) :: tx9.map toB))=toB rr9:=by kernel_rfl
theorem pub1:pubF (toB sd1)=toB pk1:=by kernel_rfl
theorem mul4:mulF (numF (drwB (toB sd1) :: tx4.map toB))=toB rr4:=by kernel_rfl
theorem pub2:pubF (toB sd2)=toB pk2:=by kernel_rfl
theorem mul5:mulF (numF (drwB (toB sd1) :: tx5.map toB))=toB rr5:=by kernel_rfl
theorem mul0:mulF (numF (drwB (toB sd2) :: tx0.map toB))=toB rr0:=by kernel_rfl
theorem mul6:mulF (numF (drwB (toB sd0) :: tx6.map toB))=toB rr6:=by kernel_rfl
theorem mul1:mulF (numF (drwB (toB sd1) :: tx1.map toB))=toB rr1:=by kernel_rfl
theorem mul7:mulF (numF (drwB (toB sd0) :: tx7.map toB))=toB rr7:=by kernel_rfl
theorem mul2:mulF (numF (drwB (toB sd0) :: tx2.map toB))=toB rr2:=by kernel_rfl
theorem mul8:mulF (numF (drwB (toB sd0) :: tx8.map toB))=toB rr8:=by kernel_rfl
theorem how0:numF (toB rr0 :: toB pk2 :: tx0.map toB)=toB hwx0:=by kernel_rfl
theorem sig0:sigF (toB sd2) (tx0.map toB)=toB sg0:=by
 unfold sigF
 rw [mul0,pub2,how0]
 kernel_rfl
theorem how1:numF (toB rr1 :: toB pk1 :: tx1.map toB)=toB hwx1:=by kernel_rfl
theorem sig1:sigF (toB sd1) (tx1.map toB)=toB sg1:=by
 unfold sigF
 rw [mul1,pub1,how1]
 kernel_rfl
theorem how2:numF (toB rr2 :: toB pk0 :: tx2.map toB)=toB hwx2:=by kernel_rfl
theorem sig2:sigF (toB sd0) (tx2.map toB)=toB sg2:=by
 unfold sigF
 rw [mul2,pub0,how2]
 kernel_rfl
theorem how3:numF (toB rr3 :: toB pk1 :: tx3.map toB)=toB hwx3:=by kernel_rfl
theorem sig3:sigF (toB sd1) (tx3.map toB)=toB sg3:=by
 unfold sigF
 rw [mul3,pub1,how3]
 kernel_rfl
theorem how4:numF (toB rr4 :: toB pk1 :: tx4.map toB)=toB hwx4:=by kernel_rfl
theorem sig4:sigF (toB sd1) (tx4.map toB)=toB sg4:=by
 unfold sigF
 rw [mul4,pub1,how4]
 kernel_rfl
theorem how5:numF (toB rr5 :: toB pk1 :: tx5.map toB)=toB hwx5:=by kernel_rfl
theorem sig5:sigF (toB sd1) (tx5.map toB)=toB sg5:=by
 unfold sigF
 rw [mul5,pub1,how5]
 kernel_rfl
theorem how6:numF (toB rr6 :: toB pk0 :: tx6.map toB)=toB hwx6:=by kernel_rfl
theorem sig6:sigF (toB sd0) (tx6.map toB)=toB sg6:=by
 unfold sigF
 rw [mul6,pub0,how6]
 kernel_rfl
theorem how7:numF (toB rr7 :: toB pk0 :: tx7.map toB)=toB hwx7:=by kernel_rfl
theorem sig7:sigF (toB sd0) (tx7.map toB)=toB sg7:=by
 unfold sigF
 rw [mul7,pub0,how7]
 kernel_rfl
theorem how8:numF (toB rr8 :: toB pk0 :: tx8.map toB)=toB hwx8:=by kernel_rfl
theorem sig8:sigF (toB sd0) (tx8.map toB)=toB sg8:=by
 unfold sigF
 rw [mul8,pub0,how8]
 kernel_rfl
theorem how9:numF (toB rr9 :: toB pk1 :: tx9.map toB)=toB hwx9:=by kernel_rfl
theorem sig9:sigF (toB sd1) (tx9.map toB)=toB sg9:=by
 unfold sigF
 rw [mul9,pub1,how9]
 kernel_rfl
theorem dig0:sha (dt0.map toB).flatten=toB dd0:=by kernel_rfl
theorem dig1:sha (dt1.map toB).flatten=toB dd1:=by kernel_rfl
theorem dig2:sha (dt2.map toB).flatten=toB dd2:=by kernel_rfl
theorem dig3:sha (dt3.map toB).flatten=toB dd3:=by kernel_rfl
theorem dig4:sha (dt4.map toB).flatten=toB dd4:=by kernel_rfl
theorem dig5:sha (dt5.map toB).flatten=toB dd5:=by kernel_rfl
theorem dig6:sha (dt6.map toB).flatten=toB dd6:=by kernel_rfl
theorem dig7:sha (dt7.map toB).flatten=toB dd7:=by kernel_rfl
theorem dig8:sha (dt8.map toB).flatten=toB dd8:=by kernel_rfl
theorem dig9:sha (dt9.map toB).flatten=toB dd9:=by kernel_rfl
theorem dig10:sha (dt10.map toB).flatten=toB dd10:=by kernel_rfl
theorem dig11:sha (dt11.map toB).flatten=toB dd11:=by kernel_rfl
theorem kdg0:dg (toB ky0)=toB kd0:=by kernel_rfl
theorem kwy0:way (toB kd0)=toB kw0:=by kernel_rfl
noncomputable def pubTab:Tab:=[([sd0],pk0),([sd1],pk1),([sd2],pk2)]
theorem pubTab_ok:PubTab pubTab:=λk r h=>by
 simp only [pubTab,List.mem_cons,Prod.mk.injEq,List.mem_nil_iff,or_false] at h
 rcases h with ⟨rfl,rfl⟩ | ⟨rfl,rfl⟩ | ⟨rfl,rfl⟩
 ·exact ⟨⟨by decide,by decide⟩,_,rfl,rfl,pub0⟩
 ·exact ⟨⟨by decide,by decide⟩,_,rfl,rfl,pub1⟩
 ·exact ⟨⟨by decide,by decide⟩,_,rfl,rfl,pub2⟩
noncomputable def sigTab:Tab:=[(sd2 :: tx0,sg0),(sd1 :: tx1,sg1),(sd0 :: tx2,sg2),(sd1 :: tx3,sg3),(sd1 :: tx4,sg4),(sd1 :: tx5,sg5),(sd0 :: tx6,sg6),(sd0 :: tx7,sg7),(sd0 :: tx8,sg8),(sd1 :: tx9,sg9)]
theorem sigTab_ok:SigTab sigTab:=λk r h=>by
 simp only [sigTab,List.mem_cons,Prod.mk.injEq,List.mem_nil_iff,or_false] at h
 rcases h with ⟨rfl,rfl⟩ | ⟨rfl,rfl⟩ | ⟨rfl,rfl⟩ | ⟨rfl,rfl⟩ | ⟨rfl,rfl⟩ | ⟨rfl,rfl⟩ | ⟨rfl,rfl⟩ | ⟨rfl,rfl⟩ | ⟨rfl,rfl⟩ | ⟨rfl,rfl⟩
 ·exact ⟨⟨by decide,by decide⟩,_,_,rfl,rfl,⟨by decide,by decide⟩,sig0⟩
 ·exact ⟨⟨by decide,by decide⟩,_,_,rfl,rfl,⟨by decide,by decide⟩,sig1⟩
 ·exact ⟨⟨by decide,by decide⟩,_,_,rfl,rfl,⟨by decide,by decide⟩,sig2⟩
 ·exact ⟨⟨by decide,by decide⟩,_,_,rfl,rfl,⟨by decide,by decide⟩,sig3⟩
 ·exact ⟨⟨by decide,by decide⟩,_,_,rfl,rfl,⟨by decide,by decide⟩,sig4⟩
 ·exact ⟨⟨by decide,by decide⟩,_,_,rfl,rfl,⟨by decide,by decide⟩,sig5⟩
 ·exact ⟨⟨by decide,by decide⟩,_,_,rfl,rfl,⟨by decide,by decide⟩,sig6⟩
 ·exact ⟨⟨by decide,by decide⟩,_,_,rfl,rfl,⟨by decide,by decide⟩,sig7⟩
 ·exact ⟨⟨by decide,by decide⟩,_,_,rfl,rfl,⟨by decide,by decide⟩,sig8⟩
 ·exact ⟨⟨by decide,by decide⟩,_,_,rfl,rfl,⟨by decide,by decide⟩,sig9⟩
noncomputable def howTab:Tab:=[(rr0 :: pk2 :: tx0,hwx0),(rr2 :: pk0 :: tx2,hwx2),(rr1 :: pk1 :: tx1,hwx1),(rr3 :: pk1 :: tx3,hwx3),(rr4 :: pk1 :: tx4,hwx4),(rr5 :: pk1 :: tx5,hwx5),(rr6 :: pk0 :: tx6,hwx6),(rr7 :: pk0 :: tx7,hwx7),(rr8 :: pk0 :: tx8,hwx8),(rr9 :: pk1 :: tx9,hwx9)]
theorem howTab_ok:HowTab howTab:=λk r h=>by
 simp only [howTab,List.mem_cons,Prod.mk.injEq,List.mem_nil_iff,or_false] at h
 rcases h with ⟨rfl,rfl⟩ | ⟨rfl,rfl⟩ | ⟨rfl,rfl⟩ | ⟨rfl,rfl⟩ | ⟨rfl,rfl⟩ | ⟨rfl,rfl⟩ | ⟨rfl,rfl⟩ | ⟨rfl,rfl⟩ | ⟨rfl,rfl⟩ | ⟨rfl,rfl⟩
 ·exact ⟨⟨by decide,by decide⟩,_,_,_,rfl,by decide,by decide,⟨by decide,by decide⟩,how0⟩
 ·exact ⟨⟨by decide,by decide⟩,_,_,_,rfl,by decide,by decide,⟨by decide,by decide⟩,how2⟩
 ·exact ⟨⟨by decide,by decide⟩,_,_,_,rfl,by decide,by decide,⟨by decide,by decide⟩,how1⟩
 ·exact ⟨⟨by decide,by decide⟩,_,_,_,rfl,by decide,by decide,⟨by decide,by decide⟩,how3⟩
 ·exact ⟨⟨by decide,by decide⟩,_,_,_,rfl,by decide,by decide,⟨by decide,by decide⟩,how4⟩
 ·exact ⟨⟨by decide,by decide⟩,_,_,_,rfl,by decide,by decide,⟨by decide,by decide⟩,how5⟩
 ·exact ⟨⟨by decide,by decide⟩,_,_,_,rfl,by decide,by decide,⟨by decide,by decide⟩,how6⟩
 ·exact ⟨⟨by decide,by decide⟩,_,_,_,rfl,by decide,by decide,⟨by decide,by decide⟩,how7⟩
 ·exact ⟨⟨by decide,by decide⟩,_,_,_,rfl,by decide,by decide,⟨by decide,by decide⟩,how8⟩
 ·exact ⟨⟨by decide,by decide⟩,_,_,_,rfl,by decide,by decide,⟨by decide,by decide⟩,how9⟩
noncomputable def digTab:Tab:=[(dt0,dd0),(dt1,dd1),(dt2,dd2),(dt3,dd3),(dt4,dd4),(dt5,dd5),(dt6,dd6),(dt7,dd7),(dt8,dd8),(dt9,dd9),(dt10,dd10),(dt11,dd11)]
theorem digTab_ok:DigTab digTab:=λk r h=>by
 simp only [digTab,List.mem_cons,Prod.mk.injEq,List.mem_nil_iff,or_false] at h
 rcases h with ⟨rfl,rfl⟩ | ⟨rfl,rfl⟩ | ⟨rfl,rfl⟩ | ⟨rfl,rfl⟩ | ⟨rfl,rfl⟩ | ⟨rfl,rfl⟩ | ⟨rfl,rfl⟩ | ⟨rfl,rfl⟩ | ⟨rfl,rfl⟩ | ⟨rfl,rfl⟩ | ⟨rfl,rfl⟩ | ⟨rfl,rfl⟩
 ·exact ⟨⟨by decide,by decide⟩,⟨by decide,by decide⟩,dig0⟩
 ·exact ⟨⟨by decide,by decide⟩,⟨by decide,by decide⟩,dig1⟩
 ·exact ⟨⟨by decide,by decide⟩,⟨by decide,by decide⟩,dig2⟩
 ·exact ⟨⟨by decide,by decide⟩,⟨by decide,by decide⟩,dig3⟩
 ·exact ⟨⟨by decide,by decide⟩,⟨by decide,by decide⟩,dig4⟩
 ·exact ⟨⟨by decide,by decide⟩,⟨by decide,by decide⟩,dig5⟩
 ·exact ⟨⟨by decide,by decide⟩,⟨by decide,by decide⟩,dig6⟩
 ·exact ⟨⟨by decide,by decide⟩,⟨by decide,by decide⟩,dig7⟩
 ·exact ⟨⟨by decide,by decide⟩,⟨by decide,by decide⟩,dig8⟩
 ·exact ⟨⟨by decide,by decide⟩,⟨by decide,by decide⟩,dig9⟩
 ·exact ⟨⟨by decide,by decide⟩,⟨by decide,by decide⟩,dig10⟩
 ·exact ⟨⟨by decide,by decide⟩,⟨by decide,by decide⟩,dig11⟩
noncomputable def shTab:ShTab:=[(ky0,1,kw0)]
theorem shTab_ok:ShOk shTab:=λk a l h=>by
 simp only [shTab,List.mem_cons,Prod.mk.injEq,List.mem_nil_iff,or_false] at h
 obtain ⟨rfl,rfl,rfl⟩:=h
 exact ⟨by decide,by decide,by rw [kdg0]; kernel_rfl,by rw [kdg0]; exact kwy0⟩
theorem GS_GE : ∀ w,GS w->GE w:=λw h=>h.ge
theorem x_pow3 (a:F5):resV (runE 417 [a.v,.int .i64 252,.int .u64 3] ⟨.lf,0⟩)=some (fpow a 3 252 ⟨1,0,0,0,0⟩).v:=by kernel_rfl
theorem x_pow5 (a:F5):resV (runE 417 [a.v,.int .i64 253,.int .u64 5] ⟨.lf,0⟩)=some (fpow a 5 253 ⟨1,0,0,0,0⟩).v:=by kernel_rfl
noncomputable def powQ (f:FuncId) (xs:List XV):Option XV:=br (Nat.beq f 417) (match xs with
 | [x,n,m]=>br (sameX n (.int .i64 252)) (br (sameX m (.int .u64 3)) (un5 (λa=>fpow a 3 252 ⟨1,0,0,0,0⟩) [x]) none) (br (sameX n (.int .i64 253)) (br (sameX m (.int .u64 5)) (un5 (λa=>fpow a 5 253 ⟨1,0,0,0,0⟩) [x]) none) none)
 | _=>none) none
theorem dry_3 (a:F5) (n m:Int):DryA [a.v,.int .i64 n,.int .u64 m]:=λ_=>rfl
theorem powQ_ok {f:FuncId} {xs:List XV} {y:XV} (hr:powQ f xs=some y) (h:Hp):QuietOk Tryz.prog GS f xs h y:=by
 unfold powQ at hr
 obtain ⟨h1,hr1⟩:=br_some hr
 clear hr
 have:=Nat.eq_of_beq_eq_true h1
 subst this
 split at hr1
 ·next x n m=>
  cases h2:sameX n (.int .i64 252) with
  | true=>
    rw [h2,br_t] at hr1
    obtain ⟨h3,hr2⟩:=br_some hr1
    obtain ⟨a,e,rfl⟩:=un5_eq hr2
    cases e
    rw [sameX_eq h2,sameX_eq h3]
    obtain ⟨h',e1⟩:=resV_ex (x_pow3 a)
    exact quiet_dry ((xcalls_ok mixed noD_ok (nE_ok GS_GE) 10).c _ _ _ _ _ e1) (dry_3 a _ _) (dry_F5 _) h
  | false=>
    rw [h2,br_f] at hr1
    obtain ⟨h3,hr2⟩:=br_some hr1
    obtain ⟨h4,hr3⟩:=br_some hr2
    obtain ⟨a,e,rfl⟩:=un5_eq hr3
    cases e
    rw [sameX_eq h3,sameX_eq h4]
    obtain ⟨h',e1⟩:=resV_ex (x_pow5 a)
    exact quiet_dry ((xcalls_ok mixed noD_ok (nE_ok GS_GE) 10).c _ _ _ _ _ e1) (dry_3 a _ _) (dry_F5 _) h
 ·cases hr1
noncomputable def baseQ (f:FuncId) (xs:List XV):Option XV:=br (Nat.beq f 173) (match xs with | []=>some (.agg baseP.w) | _=>none) none
noncomputable def qV (f:FuncId) (xs:List XV) (h:Hp):Option XV:=match rightQ f xs h with
 | some r=>some r
 | none=>(match baseQ f xs with
   | some r=>some r
   | none=>(match powQ f xs with
     | some r=>some r
     | none=>fieldQ3 f xs h))
theorem qV_ok {f:FuncId} {xs:List XV} {h:Hp} {y:XV} (hr:qV f xs h=some y):QuietOk Tryz.prog GS f xs h y:=by
 unfold qV at hr
 split at hr
 ·next r h1=>cases hr; exact rightQ_ok h1
 ·split at hr
  ·next r h1=>
   cases hr
   unfold baseQ at h1
   obtain ⟨h2,h3⟩:=br_some h1
   have:=Nat.eq_of_beq_eq_true h2
   subst this
   split at h3
   ·cases h3; exact q_Base GS_GE h
   ·cases h3
  ·split at hr
   ·next r h1=>cases hr; exact powQ_ok h1 h
   ·exact fieldQ3_ok GS_GE hr
noncomputable def nV:CallsX:=⟨orC pointC (orC (tabC 251 key3 howTab) bitsC),addE,globE,qV,λ_ _ _=>none,λ_ _ _=>none⟩
theorem nV_ok:CallsOk Tryz.prog GS nV:=⟨orC_ok (pointC_ok GS_GE) (orC_ok (howC_ok howTab_ok) bitsC_ok),λ_ _ _ h=>addE_ok h,λ_ _ _ h=>globE_ok GS_GE h,λ_ _ _ _ h=>qV_ok h,λ_ _ _ _ _ h=>(by cases h),λ_ _ _ _ _ h=>(by cases h)⟩
noncomputable abbrev runV (f:FuncId) (xs:List XV) (h:Hp):Option (XV×Hp):=(xcalls Tryz.prog noD nV 1000 12).c f xs h
noncomputable def verE (pk sg tx:List Nat) (n:Nat):Ent:=⟨468,[(none,0),(none,1),(none,2),(some 2,0)],[.slu 0 0 32 1,.slu 1 0 64 1,.sl (some (2,0)) 1 1],
 [.row (mapB pk),.row (mapB sg),.cells [.slu 3 0 (len (mapB tx)) 1],.row (mapB tx)],.bool true,[],n⟩
noncomputable def verR (e:Ent):Bool:=(λr=>br (entB e r) (keptB e r) false) (runV e.f e.xs e.heap)
theorem ver_ok {e:Ent} (h:verR e=true):EntOk Tryz.prog GS e:=by
 obtain ⟨h1,h2⟩:=br_and h
 exact ent_of (xcalls_ok mixed noD_ok nV_ok 12) rfl h1 h2
theorem ver0:verR (verE pk2 sg0 ta0_0 54857)=true:=by kernel_rfl
theorem ver5:verR (verE pk1 sg5 ta5_0 53889)=true:=by kernel_rfl
theorem ver1:verR (verE pk0 sg2 ta2_0 55149)=true:=by kernel_rfl
theorem ver6:verR (verE pk0 sg6 ta6_0 53579)=true:=by kernel_rfl
theorem ver2:verR (verE pk1 sg1 ta1_0 53191)=true:=by kernel_rfl
theorem ver7:verR (verE pk0 sg7 ta7_0 55519)=true:=by kernel_rfl
theorem ver3:verR (verE pk1 sg3 ta3_0 53385)=true:=by kernel_rfl
theorem ver8:verR (verE pk0 sg8 ta8_0 54663)=true:=by kernel_rfl
theorem ver4:verR (verE pk1 sg4 ta4_0 54840)=true:=by kernel_rfl
theorem ver9:verR (verE pk1 sg9 ta9_0 54550)=true:=by kernel_rfl
end Go.Proofs.YtmgcoepbccgjfaaGreatDoor
end
section
namespace Go.Proofs.YtmgcoepbccgjfaaGreatDoor
open Go Go.Sh
def sh75 (b:Slc) (count:Int) (w:World) (R:Ending->World->Prop):Prop:=
 condK (count==(0:Int)) (semK Tryz.prog (Instr.buildSlice 23 0 #[]) w λv w1=>∃ x:Slc,v=(.slice x.a x.len x.cap)/\R (.returned (.slice x.a x.len x.cap)) w1) (∃ j:List TV->World->Prop,(condK (decide (count<(0:Int))) ((panR R) [{v:=(.iface 9 (.string ⟨([98,121,116,101,115,58,32,110,101,103,97,116,105,118,101,32,82,101,112,101,97,116,32,99,111,117,110,116]).toArray⟩)),recovered:=false}] w) (j [] w))/\(∀ w2:World,j [] w2->callK Tryz.prog 112 [.int .u64 ((u64OfInt (b.len:Int))).toNat,.int .u64 ((u64OfInt count)).toNat] w2 (panR R) λv1 w3=>∃ xa xb:UInt64,v1=(.tuple #[.int .u64 xa.toNat,.int .u64 xb.toNat])/\∃ j1:List TV->World->Prop,(condK (decide ((0:UInt64)<xa)) ((panR R) [{v:=(.iface 9 (.string ⟨([98,121,116,101,115,58,32,82,101,112,101,97,116,32,111,117,116,112,117,116,32,108,101,110,103,116,104,32,111,118,101,114,102,108,111,119]).toArray⟩)),recovered:=false}] w3) (condK (decide ((9223372036854775807:UInt64)<xb)) ((panR R) [{v:=(.iface 9 (.string ⟨([98,121,116,101,115,58,32,82,101,112,101,97,116,32,111,117,116,112,117,116,32,108,101,110,103,116,104,32,111,118,101,114,102,108,111,119]).toArray⟩)),recovered:=false}] w3) (j1 [] w3)))/\(∀ w4:World,j1 [] w4->condK ((b.len:Int)==(0:Int)) (semK Tryz.prog (Instr.buildSlice 23 0 #[]) w4 λv2 w5=>∃ x1:Slc,v2=(.slice x1.a x1.len x1.cap)/\R (.returned (.slice x1.a x1.len x1.cap)) w5) (∃ j2:List TV->World->Prop,(condK (decide ((IntKind.i64.wrap (xb.toNat:Int)) > (8192:Int))) (((b.len:Int)≠0/\condK ((IntKind.i64.wrap ((IntKind.i64.wrap (Int.tdiv (8192:Int) (b.len:Int)))*(b.len:Int)))==(0:Int)) (j2 [.i .i64 (b.len:Int)] w4) (j2 [.i .i64 (IntKind.i64.wrap ((IntKind.i64.wrap (Int.tdiv (8192:Int) (b.len:Int)))*(b.len:Int)))] w4))) (j2 [.i .i64 (IntKind.i64.wrap (xb.toNat:Int))] w4))/\(∀ chunkMax:Int,∀ w6:World,j2 [.i .i64 chunkMax] w6->∃ v3 w7,(callFunc 113 #[.int .i64 (IntKind.i64.wrap (xb.toNat:Int))]).run Tryz.prog w6 = .ok (.value v3) w7/\∃ x2:Slc,v3=(.slice x2.a x2.len x2.cap)/\((0<=(IntKind.i64.wrap (xb.toNat:Int))/\(IntKind.i64.wrap (xb.toNat:Int))<=(IntKind.i64.wrap (xb.toNat:Int))/\(IntKind.i64.wrap (xb.toNat:Int))<=(x2.cap:Nat))/\semK Tryz.prog (Builtin.copy_ #[23,23] 3 #[.slice (cutSl x2 1 0 (((IntKind.i64.wrap (xb.toNat:Int))).toNat) (((IntKind.i64.wrap (xb.toNat:Int))).toNat)).a (cutSl x2 1 0 (((IntKind.i64.wrap (xb.toNat:Int))).toNat) (((IntKind.i64.wrap (xb.toNat:Int))).toNat)).len (cutSl x2 1 0 (((IntKind.i64.wrap (xb.toNat:Int))).toNat) (((IntKind.i64.wrap (xb.toNat:Int))).toNat)).cap,.slice b.a b.len b.cap]) w7 λv4 w8=>∃ x3:Int,v4=(.int .i64 x3)/\∃ (inv:List TV->World->Prop) (mu:List TV->World->Nat),inv [.i .i64 x3] w8/\(∀ bp:Int,∀ w9:World,inv [.i .i64 bp] w9->condK (decide (bp<(IntKind.i64.wrap (xb.toNat:Int)))) (((0<=bp/\bp<=((cutSl x2 1 0 (((IntKind.i64.wrap (xb.toNat:Int))).toNat) (((IntKind.i64.wrap (xb.toNat:Int))).toNat)).len:Nat))/\((0<=(if chunkMax<bp then chunkMax else bp)/\(if chunkMax<bp then chunkMax else bp)<=((cutSl x2 1 0 (((IntKind.i64.wrap (xb.toNat:Int))).toNat) (((IntKind.i64.wrap (xb.toNat:Int))).toNat)).cap:Nat))/\((semK Tryz.prog (Builtin.copy_ #[23,23] 3 #[.slice (cutSl (cutSl x2 1 0 (((IntKind.i64.wrap (xb.toNat:Int))).toNat) (((IntKind.i64.wrap (xb.toNat:Int))).toNat)) 1 (bp.toNat) ((cutSl x2 1 0 (((IntKind.i64.wrap (xb.toNat:Int))).toNat) (((IntKind.i64.wrap (xb.toNat:Int))).toNat)).len) ((cutSl x2 1 0 (((IntKind.i64.wrap (xb.toNat:Int))).toNat) (((IntKind.i64.wrap (xb.toNat:Int))).toNat)).cap)).a (cutSl (cutSl x2 1 0 (((IntKind.i64.wrap (xb.toNat:Int))).toNat) (((IntKind.i64.wrap (xb.toNat:Int))).toNat)) 1 (bp.toNat) ((cutSl x2 1 0 (((IntKind.i64.wrap (xb.toNat:Int))).toNat) (((IntKind.i64.wrap (xb.toNat:Int))).toNat)).len) ((cutSl x2 1 0 (((IntKind.i64.wrap (xb.toNat:Int))).toNat) (((IntKind.i64.wrap (xb.toNat:Int))).toNat)).cap)).len (cutSl (cutSl x2 1 0 (((IntKind.i64.wrap (xb.toNat:Int))).toNat) (((IntKind.i64.wrap (xb.toNat:Int))).toNat)) 1 (bp.toNat) ((cutSl x2 1 0 (((IntKind.i64.wrap (xb.toNat:Int))).toNat) (((IntKind.i64.wrap (xb.toNat:Int))).toNat)).len) ((cutSl x2 1 0 (((IntKind.i64.wrap (xb.toNat:Int))).toNat) (((IntKind.i64.wrap (xb.toNat:Int))).toNat)).cap)).cap,.slice (cutSl (cutSl x2 1 0 (((IntKind.i64.wrap (xb.toNat:Int))).toNat) (((IntKind.i64.wrap (xb.toNat:Int))).toNat)) 1 0 (((if chunkMax<bp then chunkMax else bp)).toNat) ((cutSl x2 1 0 (((IntKind.i64.wrap (xb.toNat:Int))).toNat) (((IntKind.i64.wrap (xb.toNat:Int))).toNat)).cap)).a (cutSl (cutSl x2 1 0 (((IntKind.i64.wrap (xb.toNat:Int))).toNat) (((IntKind.i64.wrap (xb.toNat:Int))).toNat)) 1 0 (((if chunkMax<bp then chunkMax else bp)).toNat) ((cutSl x2 1 0 (((IntKind.i64.wrap (xb.toNat:Int))).toNat) (((IntKind.i64.wrap (xb.toNat:Int))).toNat)).cap)).len (cutSl (cutSl x2 1 0 (((IntKind.i64.wrap (xb.toNat:Int))).toNat) (((IntKind.i64.wrap (xb.toNat:Int))).toNat)) 1 0 (((if chunkMax<bp then chunkMax else bp)).toNat) ((cutSl x2 1 0 (((IntKind.i64.wrap (xb.toNat:Int))).toNat) (((IntKind.i64.wrap (xb.toNat:Int))).toNat)).cap)).cap]) w9.drew λv5 w10=>∃ x4:Int,v5=(.int .i64 x4)/\(inv [.i .i64 (IntKind.i64.wrap (bp+x4))] w10/\mu [.i .i64 (IntKind.i64.wrap (bp+x4))] w10<mu [.i .i64 bp] w9))/\True)))) (R (.returned (.slice (cutSl x2 1 0 (((IntKind.i64.wrap (xb.toNat:Int))).toNat) (((IntKind.i64.wrap (xb.toNat:Int))).toNat)).a (cutSl x2 1 0 (((IntKind.i64.wrap (xb.toNat:Int))).toNat) (((IntKind.i64.wrap (xb.toNat:Int))).toNat)).len (cutSl x2 1 0 (((IntKind.i64.wrap (xb.toNat:Int))).toNat) (((IntKind.i64.wrap (xb.toNat:Int))).toNat)).cap)) w9))))))))
theorem call75 (b:Slc) (count:Int) {w:World} {R:Ending->World->Prop} (hden:sh75 b count w R):Calls Tryz.prog 75 #[.slice b.a b.len b.cap,.int .i64 count] w R:=
 calls_of_form (.seq none .z (.seq none (.seq none .z (.cond (.seq none .z .z) .z)) (.seq (some []) (.seq none .z (.cond .z .z)) (.seq none .z (.seq (some []) (.seq none .z (.cond .z .z)) (.seq none .z (.seq none (.seq none .z (.cond (.seq none .z .z) .z)) (.seq none .z (.seq (some [(8,(.i .i64))]) (.seq none .z (.cond (.seq none .z (.seq none .z (.cond .z .z))) .z)) (.seq none .z (.seq none .z (.seq none (.block none (.loop [(10,(.i .i64))] (.seq none (.seq none .z (.cond .z .z)) (.block none (.seq none .z (.draw 0 (.take 0 (.take 1 (.take 2 (.take 3 (.take 4 (.take 5 (.take 6 (.all [(7,(.take 8 (.take 9 .done)))])))))))))))))) (.seq none .z .z))))))))))))) Tryz.func75 (by kernel_rfl) [.sl b,.i .i64 count] (by kernel_rfl) (by kernel_rfl) hden
def sh36 (id:Int) (w:World) (R:Ending->World->Prop):Prop:=
 ∃ j:List TV->World->Prop,(condK (decide (id>=(1:Int))) (condK (decide (id<=(7:Int))) (j [.b true] w) (condK (decide (id > (10:Int))) (j [.b (decide (id<=(18:Int)))] w) (j [.b false] w))) (condK (decide (id > (10:Int))) (j [.b (decide (id<=(18:Int)))] w) (j [.b false] w)))/\(∀ x:Bool,∀ w1:World,j [.b x] w1->condK x (semK Tryz.prog (Instr.buildSlice 23 1 #[(0,(.int .u8 ((u8OfInt id)).toNat))]) w1 λv w2=>∃ x1:Slc,v=(.slice x1.a x1.len x1.cap)/\callK Tryz.prog 75 [.slice x1.a x1.len x1.cap,.int .i64 (32:Int)] w2 (panR R) λv1 w3=>∃ x2:Slc,v1=(.slice x2.a x2.len x2.cap)/\R (.returned (.slice x2.a x2.len x2.cap)) w3) (R (.returned (.slice none 0 0)) w1))
theorem call36 (id:Int) {w:World} {R:Ending->World->Prop} (hden:sh36 id w R):Calls Tryz.prog 36 #[.int .i64 id] w R:=
 calls_of_form (.seq none .z (.seq none (.seq (some [(16,.b)]) .z (.cond (.seq none .z .z) .z)) (.seq none .z .z))) Tryz.func36 (by kernel_rfl) [.i .i64 id] (by kernel_rfl) (by kernel_rfl) hden
end Go.Proofs.YtmgcoepbccgjfaaGreatDoor
end
