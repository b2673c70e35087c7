/- The forms of the translated functions,their contracts and the plain laws behind them,put together by a program. -/
import Derived.Test.YtmgcoepbccgjfaaGreatDoorPB17
import Derived.Test.YtmgcoepbccgjfaaGreatDoorProg
set_option linter.unusedSimpArgs false
set_option linter.unusedVariables false
set_option maxRecDepth 1000000
set_option maxHeartbeats 8000000
section
namespace Go.Proofs.YtmgcoepbccgjfaaGreatDoor
open Go Go.Sh Go.X
noncomputable def W64:Nat:=18446744073709551616
noncomputable def wAn (x m:Nat):Nat:=Nat.mod (Nat.land (Nat.mod x W64) (Nat.mod m W64)) W64
noncomputable def wAd (x y:Nat):Nat:=Nat.mod (Nat.add x y) W64
noncomputable def wMu (x y:Nat):Nat:=Nat.mod (Nat.mul x y) W64
noncomputable def wSr (x k:Nat):Nat:=Nat.div x (Nat.pow 2 k)
noncomputable def wSl (x k:Nat):Nat:=Nat.mod (Nat.mul x (Nat.pow 2 k)) W64
noncomputable def wOr (x m:Nat):Nat:=Nat.mod (Nat.lor (Nat.mod x W64) (Nat.mod m W64)) W64
noncomputable def wSu (x y:Nat):Nat:=Nat.mod (Nat.add x (Nat.sub W64 (Nat.mod y W64))) W64
noncomputable def mk51:Nat:=2251799813685247
noncomputable def mhi (x y:Nat):Nat:=wAd (wAd (wMu (wSr x 32) (wSr y 32)) (wSr (wAd (wMu (wSr x 32) (wAn y 4294967295)) (wSr (wMu (wAn x 4294967295) (wAn y 4294967295)) 32)) 32))
 (wSr (wAd (wAn (wAd (wMu (wSr x 32) (wAn y 4294967295)) (wSr (wMu (wAn x 4294967295) (wAn y 4294967295)) 32)) 4294967295) (wMu (wAn x 4294967295) (wSr y 32))) 32)
abbrev u64 (n:Nat):XV:=.int .u64 (.ofNat n)
abbrev a5 (a b c d e:Nat):XV:=.agg [u64 a,u64 b,u64 c,u64 d,u64 e]
noncomputable def carI (a b:Nat):Nat:=wAd (wAn a mk51) (wSr b 51)
noncomputable def carO (a e:Nat):Nat:=wAd (wAn a mk51) (wMu 19 (wSr e 51))
noncomputable def hLo (l a b:Nat):Nat:=Nat.mod (Nat.add (Nat.add l (wMu a b)) 0) W64
noncomputable def hHi (h l a b:Nat):Nat:=wAd h (wAd (mhi a b) (Nat.div (Nat.add (Nat.add l (wMu a b)) 0) W64))
noncomputable def pLo (a b c d e f g h i j:Nat):Nat:=hLo (hLo (hLo (hLo (hLo 0 a b) c d) e f) g h) i j
noncomputable def pHi (a b c d e f g h i j:Nat):Nat:=hHi (hHi (hHi (hHi (hHi 0 0 a b) (hLo 0 a b) c d) (hLo (hLo 0 a b) c d) e f) (hLo (hLo (hLo 0 a b) c d) e f) g h) (hLo (hLo (hLo (hLo 0 a b) c d) e f) g h) i j
noncomputable def pL (a b c d e f g h i j:Nat):Nat:=wAn (pLo a b c d e f g h i j) mk51
noncomputable def pU (a b c d e f g h i j:Nat):Nat:=wOr (wSl (pHi a b c d e f g h i j) 13) (wSr (pLo a b c d e f g h i j) 51)
noncomputable def addE (f:FuncId) (xs:List XV):Option XV:=br (Nat.beq f 642) (match xs with
 | [.int k a,.int k' b,.int k'' c]=>br (Nat.beq (idxK k) 7) (br (Nat.beq (idxK k') 7) (br (Nat.beq (idxK k'') 7) (Int.rec (motive:=λ_=>Option XV) (λx=>Int.rec (motive:=λ_=>Option XV) (λy=>Int.rec (motive:=λ_=>Option XV) (λz=>
    br (Nat.beq z 0) (some (.tup [u64 (Nat.mod (Nat.add (Nat.add x y) 0) W64),u64 (Nat.div (Nat.add (Nat.add x y) 0) W64)])) none) (λ_=>none) c) (λ_=>none) b) (λ_=>none) a) none) none) none
 | _=>none) none
noncomputable def xadd64E:Array Value->Sem Value:=(Extern.MathBitsCarry.rows.getD 0 ("",λ_=>pure .nilFunc)).2
theorem run_xadd64E (x y:Nat) (w:World):(xadd64E #[.int .u64 (Int.ofNat x),.int .u64 (Int.ofNat y),.int .u64 (Int.ofNat 0)]).run Tryz.prog w =
 .ok (.tuple #[.int .u64 (Int.ofNat ((x+y+0) % 18446744073709551616)),.int .u64 (Int.ofNat ((x+y+0) / 18446744073709551616))]) w:=rfl
theorem addE_ok {f:FuncId} {xs:List XV} {y:XV} (h:addE f xs=some y):ExtOk Tryz.prog f xs y:=by
 unfold addE at h
 obtain ⟨h1,hq⟩:=br_some h
 clear h
 have h1:=Nat.eq_of_beq_eq_true h1
 subst h1
 split at hq
 ·next k a k' b k'' c=>
  obtain ⟨h2,hq1⟩:=br_some hq
  obtain ⟨h3,hq2⟩:=br_some hq1
  obtain ⟨h4,hq3⟩:=br_some hq2
  clear hq hq1 hq2
  have e2:k=IntKind.u64:=idxK_inj (k':=IntKind.u64) h2
  have e3:k'=IntKind.u64:=idxK_inj (k':=IntKind.u64) h3
  have e4:k''=IntKind.u64:=idxK_inj (k':=IntKind.u64) h4
  subst e2 e3 e4
  cases a with
  | negSucc=>cases hq3
  | ofNat a=>cases b with
    | negSucc=>cases hq3
    | ofNat b=>cases c with
      | negSucc=>cases hq3
      | ofNat c=>
        have hq3:br (Nat.beq c 0) (some (.tup [u64 (Nat.mod (Nat.add (Nat.add a b) 0) W64),u64 (Nat.div (Nat.add (Nat.add a b) 0) W64)])) none=some y:=hq3
        obtain ⟨h5,h6⟩:=br_some hq3
        have h5:=Nat.eq_of_beq_eq_true h5
        subst h5
        have h6:=Option.some.inj h6
        subst h6
        intro ρ w vs hvs
        simp only [XRs,XR] at hvs
        obtain ⟨v1,r1,rfl,rfl,v2,r2,rfl,rfl,v3,r3,rfl,rfl,rfl⟩:=hvs
        refine ⟨.tuple #[.int .u64 (Int.ofNat ((a+b+0) % 18446744073709551616)),.int .u64 (Int.ofNat ((a+b+0) / 18446744073709551616))],?_,?_⟩
        ·rw [run_callFunc_extern Tryz.func642 (by kernel_rfl) (by kernel_rfl) (by kernel_rfl) (e:=xadd64E) (by kernel_rfl)]
         rw [run_xadd64E]
         rfl
        ·simp only [XR]
         exact ⟨[_,_],⟨_,_,rfl,rfl,_,_,rfl,rfl,rfl⟩,rfl⟩
 ·cases hq
noncomputable def nB:CallsX:=⟨λ_ _ _=>none,addE,λ_ _=>none,λ_ _ _=>none,λ_ _ _=>none,λ_ _ _=>none⟩
theorem nB_ok (G:World->Prop):CallsOk Tryz.prog G nB:=⟨λ_ _ _ _ _ h=>(by cases h),λ_ _ _ h=>addE_ok h,λ_ _ _ h=>(by cases h),λ_ _ _ _ h=>(by cases h),λ_ _ _ _ _ h=>(by cases h),λ_ _ _ _ _ h=>(by cases h)⟩
theorem mixed:Tryz.prog.follows .mixedOrders=true:=by kernel_rfl
noncomputable def noD:FuncId->Bool:=λ_=>false
theorem noD_ok:DefFn Tryz.prog noD:=λ_ h=>by cases h
noncomputable def resV (o:Option (XV×Hp)):Option XV:=match o with | some r=>some r.1 | none=>none
noncomputable def resN (o:Option (XV×Hp)):Nat:=match o with | some r=>r.2.n | none=>0
noncomputable def resT (o:Option (XV×Hp)) (i:Nat):Option XO:=match o with | some r=>r.2.t.get i | none=>none
theorem resV_ex {o:Option (XV×Hp)} {y:XV} (h:resV o=some y) : ∃ h',o=some (y,h'):=by
 cases o with
 | none=>cases h
 | some r=>obtain ⟨y',h'⟩:=r; cases h; exact ⟨h',rfl⟩
noncomputable abbrev run0 (f:FuncId) (xs:List XV):Option (XV×Hp):=(xcalls Tryz.prog noD nB 1000 10).c f xs ⟨.lf,0⟩
theorem x_Add (a b c d e a' b' c' d' e':Nat):resV (run0 410 [a5 a b c d e,a5 a' b' c' d' e'])=some (a5 (carO (wAd a a') (wAd e e')) (carI (wAd b b') (wAd a a')) (carI (wAd c c') (wAd b b')) (carI (wAd d d') (wAd c c')) (carI (wAd e e') (wAd d d'))):=by kernel_rfl
noncomputable def sbO (a b:Nat):Nat:=wAd a (wSu 9007199254740988 b)
noncomputable abbrev row10 (a b c d e f g h i j:Nat):List XV:=[u64 a,u64 b,u64 c,u64 d,u64 e,u64 f,u64 g,u64 h,u64 i,u64 j]
noncomputable abbrev run10 (a b c d e f g h i j:Nat):Option (XV×Hp):=(xcalls Tryz.prog noD nB 1000 10).c 419 [.sl (some (0,0)) 10 10] ⟨Tr.set (some (.cells (row10 a b c d e f g h i j))) .lf 0,1⟩
theorem x_prod (a b c d e f g h i j:Nat):resV (run10 a b c d e f g h i j)=some (.agg [u64 (pHi a b c d e f g h i j),u64 (pLo a b c d e f g h i j)]):=by kernel_rfl
theorem x_prodT (a b c d e f g h i j:Nat):resT (run10 a b c d e f g h i j) 0=some (.cells (row10 a b c d e f g h i j)):=by kernel_rfl
noncomputable def wordX (x:XV):Option Nat:=match x with
 | .int k n=>br (Nat.beq (idxK k) 7) (Int.rec (motive:=λ_=>Option Nat) (λm=>some m) (λ_=>none) n) none
 | _=>none
theorem word_eq {x:XV} {n:Nat} (h:wordX x=some n):x=u64 n:=by
 unfold wordX at h
 split at h
 ·next k m=>
  obtain ⟨h1,h⟩:=br_some h
  have:k = .u64:=idxK_inj (k':=.u64) h1
  subst this
  cases m with
  | ofNat m=>cases h; rfl
  | negSucc m=>cases h
 ·cases h
theorem words_eq : ∀ {l:List XV} {m:List Nat},mapO wordX l=some m->l=m.map u64
 | [],m,h=>by rw [mapO_nil] at h; cases h; rfl
 | x :: l,m,h=>by
   obtain ⟨y,r,rfl,h1,h2⟩:=mapO_cons h
   rw [word_eq h1,words_eq h2]; rfl
noncomputable def prodQ (f:FuncId) (xs:List XV) (h:Hp):Option XV:=br (Nat.beq f 419) (match xs with
 | [.sl (some p) n c]=>br (Nat.beq p.2 0) (br (Nat.beq n 10) (br (Nat.beq c 10) (br (Nat.blt p.1 h.n) (onO (h.t.get p.1) λo=>(match o with
   | .cells l=>onO (mapO wordX l) λm=>(match m with
     | [a,b,c,d,e,f,g,h,i,j]=>some (.agg [u64 (pHi a b c d e f g h i j),u64 (pLo a b c d e f g h i j)])
     | _=>none)
   | _=>none)) none) none) none) none
 | _=>none) none
theorem prodQ_ok {G:World->Prop} {f:FuncId} {xs:List XV} {h:Hp} {y:XV} (hr:prodQ f xs h=some y):QuietOk Tryz.prog G f xs h y:=by
 unfold prodQ at hr
 obtain ⟨h1,hq⟩:=br_some hr
 clear hr
 have h1:=Nat.eq_of_beq_eq_true h1
 subst h1
 split at hq
 ·next p n c=>
  obtain ⟨L,o⟩:=p
  obtain ⟨h2,hq1⟩:=br_some hq
  obtain ⟨h3,hq2⟩:=br_some hq1
  obtain ⟨h4,hq3⟩:=br_some hq2
  obtain ⟨h5,hq4⟩:=br_some hq3
  clear hq hq1 hq2 hq3
  have h2:=Nat.eq_of_beq_eq_true h2
  have h3:=Nat.eq_of_beq_eq_true h3
  have h4:=Nat.eq_of_beq_eq_true h4
  simp only at h2
  subst h2 h3 h4
  obtain ⟨ob,h6,hq5⟩:=onO_some hq4
  clear hq4
  cases ob with
  | cells l=>
    obtain ⟨m,h7,hr⟩:=onO_some hq5
    clear hq5
    have h8:=words_eq h7
    subst h8
    split at hr
    ·next a b c d e f g hh i j=>
     have hr:=Option.some.inj hr
     subst hr
     obtain ⟨h',e1⟩:=resV_ex (x_prod a b c d e f g hh i j)
     have hc:=(xcalls_ok mixed noD_ok (nB_ok G) 10).c _ _ _ _ _ e1
     have hkp:=x_prodT a b c d e f g hh i j
     rw [e1] at hkp
     refine quiet_frame hc [L] rfl (λM hM=>?_) (by simp) rfl (λK=>rfl) (λi' o' hio=>?_) λi' o' hio=>?_
     ·simp only [List.mem_singleton] at hM
      subst hM
      simpa [Nat.blt_eq] using h5
     ·rw [Tr.get_set] at hio
      split at hio
      ·next e0=>
       subst e0
       cases hio
       exact ⟨by simp,λK=>rfl,h6⟩
      ·cases hio
     ·rw [Tr.get_set] at hio
      split at hio
      ·next e0=>
       subst e0
       cases hio
       exact hkp
      ·cases hio
    ·cases hr
  | _=>cases hq5
 ·cases hq
noncomputable def nP:CallsX:=⟨λ_ _ _=>none,addE,λ_ _=>none,prodQ,λ_ _ _=>none,λ_ _ _=>none⟩
theorem nP_ok (G:World->Prop):CallsOk Tryz.prog G nP:=⟨λ_ _ _ _ _ h=>(by cases h),λ_ _ _ h=>addE_ok h,λ_ _ _ h=>(by cases h),λ_ _ _ _ h=>prodQ_ok h,λ_ _ _ _ _ h=>(by cases h),λ_ _ _ _ _ h=>(by cases h)⟩
noncomputable abbrev car5 {α:Type} (a b c d e:Nat) (K:Nat->Nat->Nat->Nat->Nat->α):α:=K (carO a e) (carI b a) (carI c b) (carI d c) (carI e d)
noncomputable abbrev mulK {α:Type} (a b c d e a' b' c' d' e':Nat) (K:Nat->Nat->Nat->Nat->Nat->α):α:=
 car5 (wAd (pL a a' b (wMu 19 e') c (wMu 19 d') d (wMu 19 c') e (wMu 19 b')) (wAn (wMu (pU a e' b d' c c' d b' e a') 19) mk51))
  (wAd (wAd (pL a b' b a' c (wMu 19 e') d (wMu 19 d') e (wMu 19 c')) (pU a a' b (wMu 19 e') c (wMu 19 d') d (wMu 19 c') e (wMu 19 b'))) (wOr (wSl (mhi (pU a e' b d' c c' d b' e a') 19) 13) (wSr (wMu (pU a e' b d' c c' d b' e a') 19) 51)))
  (wAd (pL a c' b b' c a' d (wMu 19 e') e (wMu 19 d')) (pU a b' b a' c (wMu 19 e') d (wMu 19 d') e (wMu 19 c')))
  (wAd (pL a d' b c' c b' d a' e (wMu 19 e')) (pU a c' b b' c a' d (wMu 19 e') e (wMu 19 d')))
  (wAd (pL a e' b d' c c' d b' e a') (pU a d' b c' c b' d a' e (wMu 19 e')))
  λa b c d e=>car5 a b c d e K
noncomputable abbrev runM (a b c d e a' b' c' d' e':Nat):Option (XV×Hp):=(xcalls Tryz.prog noD nP 1000 10).c 271 [a5 a b c d e,a5 a' b' c' d' e'] ⟨.lf,0⟩
theorem x_Mul (a b c d e a' b' c' d' e':Nat):resV (runM a b c d e a' b' c' d' e')=some (mulK a b c d e a' b' c' d' e' a5):=by kernel_rfl
structure F5 where
 a:Nat
 b:Nat
 c:Nat
 d:Nat
 e:Nat
noncomputable def fmul (x y:F5):F5:=mulK x.a x.b x.c x.d x.e y.a y.b y.c y.d y.e F5.mk
noncomputable def fcar (x:F5):F5:=⟨carO x.a x.e,carI x.b x.a,carI x.c x.b,carI x.d x.c,carI x.e x.d⟩
noncomputable def fadd (x y:F5):F5:=fcar ⟨wAd x.a y.a,wAd x.b y.b,wAd x.c y.c,wAd x.d y.d,wAd x.e y.e⟩
noncomputable def fsub (x y:F5):F5:=fcar ⟨wSu (sbO x.a y.a) 72,sbO x.b y.b,sbO x.c y.c,sbO x.d y.d,sbO x.e y.e⟩
noncomputable def F5.v (x:F5):XV:=a5 x.a x.b x.c x.d x.e
noncomputable def f5 (x:XV):Option F5:=match x with
 | .agg l=>onO (mapO wordX l) λm=>(match m with
   | [a,b,c,d,e]=>some ⟨a,b,c,d,e⟩
   | _=>none)
 | _=>none
theorem f5_eq {x:XV} {y:F5} (h:f5 x=some y):x=y.v:=by
 unfold f5 at h
 cases x with
 | agg l=>
   obtain ⟨m,h1,h2⟩:=onO_some h
   clear h
   rw [words_eq h1]
   split at h2
   ·cases h2; rfl
   ·cases h2
 | _=>cases h
noncomputable def bin5 (g:F5->F5->F5) (xs:List XV):Option XV:=match xs with
 | [x,y]=>onO (f5 x) λa=>onO (f5 y) λb=>some (g a b).v
 | _=>none
theorem bin5_eq {g:F5->F5->F5} {xs:List XV} {y:XV} (h:bin5 g xs=some y) : ∃ a b:F5,xs=[a.v,b.v]/\y=(g a b).v:=by
 unfold bin5 at h
 split at h
 ·next u v=>
  obtain ⟨a,h1,h2⟩:=onO_some h
  obtain ⟨b,h3,h4⟩:=onO_some h2
  cases h4
  exact ⟨a,b,by rw [f5_eq h1,f5_eq h3],rfl⟩
 ·cases h
theorem dry_a5 (a b c d e:Nat):DryX (a5 a b c d e):=λ_=>rfl
theorem dry_F5 (x:F5):DryX x.v:=dry_a5 _ _ _ _ _
theorem dry_A2 (x y:F5):DryA [x.v,y.v]:=λ_=>rfl
theorem q_bin {G:World->Prop} {f:FuncId} {a b:F5} {y:XV} {C:CallsX} (hC:CallsOk Tryz.prog G C) {r:Option (XV×Hp)} (hr:(xcalls Tryz.prog noD C 1000 10).c f [a.v,b.v] ⟨.lf,0⟩=r) (h1:resV r=some y) (hy:DryX y) (h:Hp):QuietOk Tryz.prog G f [a.v,b.v] h y:=by
 obtain ⟨h',e1⟩:=resV_ex h1
 exact quiet_dry ((xcalls_ok mixed noD_ok hC 10).c _ _ _ _ _ (hr.trans e1)) (dry_A2 a b) hy h
theorem q_mul (G:World->Prop) (a b:F5) (h:Hp):QuietOk Tryz.prog G 271 [a.v,b.v] h (fmul a b).v:=
 q_bin (nP_ok G) rfl (x_Mul a.a a.b a.c a.d a.e b.a b.b b.c b.d b.e) (dry_F5 (fmul a b)) h
theorem q_add (G:World->Prop) (a b:F5) (h:Hp):QuietOk Tryz.prog G 410 [a.v,b.v] h (fadd a b).v:=
 q_bin (nB_ok G) rfl (x_Add a.a a.b a.c a.d a.e b.a b.b b.c b.d b.e) (dry_F5 (fadd a b)) h
theorem x_SubF (a b:F5):resV (run0 411 [a.v,b.v])=some (fsub a b).v:=by kernel_rfl
theorem q_sub (G:World->Prop) (a b:F5) (h:Hp):QuietOk Tryz.prog G 411 [a.v,b.v] h (fsub a b).v:=
 q_bin (nB_ok G) rfl (x_SubF a b) (dry_F5 (fsub a b)) h
noncomputable def fieldQ (f:FuncId) (xs:List XV) (_h:Hp):Option XV:=
 br (Nat.beq f 271) (bin5 fmul xs) (br (Nat.beq f 410) (bin5 fadd xs) (br (Nat.beq f 411) (bin5 fsub xs) none))
theorem fieldQ_ok {G:World->Prop} {f:FuncId} {xs:List XV} {h:Hp} {y:XV} (hr:fieldQ f xs h=some y):QuietOk Tryz.prog G f xs h y:=by
 unfold fieldQ at hr
 cases h1:Nat.beq f 271 with
 | true=>
   rw [h1,br_t] at hr
   have e:=Nat.eq_of_beq_eq_true h1
   subst e
   obtain ⟨a,b,rfl,rfl⟩:=bin5_eq hr
   exact q_mul G a b h
 | false=>
   rw [h1,br_f] at hr
   cases h2:Nat.beq f 410 with
   | true=>
     rw [h2,br_t] at hr
     have e:=Nat.eq_of_beq_eq_true h2
     subst e
     obtain ⟨a,b,rfl,rfl⟩:=bin5_eq hr
     exact q_add G a b h
   | false=>
     rw [h2,br_f] at hr
     obtain ⟨h3,hr1⟩:=br_some hr
     have e:=Nat.eq_of_beq_eq_true h3
     subst e
     obtain ⟨a,b,rfl,rfl⟩:=bin5_eq hr1
     exact q_sub G a b h
structure P4 where
 X:F5
 Y:F5
 Z:F5
 T:F5
noncomputable abbrev w5 (x:F5) (r:List XV):List XV:=u64 x.a :: u64 x.b :: u64 x.c :: u64 x.d :: u64 x.e :: r
noncomputable def P4.w (p:P4):List XV:=w5 p.X (w5 p.Y (w5 p.Z (w5 p.T [])))
noncomputable def fneg (x:F5):F5:=fsub ⟨0,0,0,0,0⟩ x
noncomputable def four (e f g h:F5):P4:=⟨fmul e f,fmul g h,fmul f g,fmul e h⟩
noncomputable def twiceF:F5:=⟨1859910466990425,932731440258426,1072319116312658,1815898335770999,633789495995903⟩
noncomputable def curveF:F5:=⟨929955233495203,466365720129213,1662059464998953,2033849074728123,1442794654840575⟩
noncomputable def padd (s q:P4):P4:=
 four (fsub (fmul (fadd s.Y s.X) (fadd q.Y q.X)) (fmul (fsub s.Y s.X) (fsub q.Y q.X)))
  (fsub (fadd (fmul s.Z q.Z) (fmul s.Z q.Z)) (fmul (fmul s.T twiceF) q.T))
  (fadd (fadd (fmul s.Z q.Z) (fmul s.Z q.Z)) (fmul (fmul s.T twiceF) q.T))
  (fadd (fmul (fadd s.Y s.X) (fadd q.Y q.X)) (fmul (fsub s.Y s.X) (fsub q.Y q.X)))
noncomputable def pdbl (s:P4):P4:=
 four (fsub (fmul (fadd s.X s.Y) (fadd s.X s.Y)) (fadd (fmul s.X s.X) (fmul s.Y s.Y)))
  (fsub (fsub (fmul s.Y s.Y) (fmul s.X s.X)) (fadd (fmul s.Z s.Z) (fmul s.Z s.Z)))
  (fsub (fmul s.Y s.Y) (fmul s.X s.X))
  (fneg (fadd (fmul s.X s.X) (fmul s.Y s.Y)))
structure GE (w:World):Prop where
 twice:Rd w ⟨3,0,none⟩ [.int .u64 1859910466990425,.int .u64 932731440258426,.int .u64 1072319116312658,.int .u64 1815898335770999,.int .u64 633789495995903]
 curve:Rd w ⟨4,0,none⟩ [.int .u64 929955233495203,.int .u64 466365720129213,.int .u64 1662059464998953,.int .u64 2033849074728123,.int .u64 1442794654840575]
noncomputable def globE (g:Nat) (T:TypeId):Option XV:=br (Nat.beq T 306) (br (Nat.beq g 3) (some twiceF.v) (br (Nat.beq g 4) (some curveF.v) none)) none
theorem load5 {w:World} {g:Nat} {a b c d e:UInt64} (h:Rd w ⟨g,0,none⟩ [.int .u64 a.toNat,.int .u64 b.toNat,.int .u64 c.toNat,.int .u64 d.toNat,.int .u64 e.toNat]) :
 (Instr.loadAt 306 (.pointer (some ⟨g,0,none⟩))).run Tryz.prog w = .ok (.agg #[.int .u64 a.toNat,.int .u64 b.toNat,.int .u64 c.toNat,.int .u64 d.toNat,.int .u64 e.toNat]) w:=
 run_loadVar (t:=.agg [.u64 a,.u64 b,.u64 c,.u64 d,.u64 e]) (by kernel_rfl) (by kernel_rfl) (by kernel_rfl) rfl h
theorem globE_ok {G:World->Prop} (hG : ∀ w,G w->GE w) {g:Nat} {T:TypeId} {y:XV} (h:globE g T=some y):GlobOk Tryz.prog G g T y:=by
 unfold globE at h
 obtain ⟨h1,hq⟩:=br_some h
 clear h
 have h1:=Nat.eq_of_beq_eq_true h1
 subst h1
 intro w hw
 have hg:=hG w hw
 have lit : ∀ (a b c d e:Nat),∀ ρ,XR ρ (a5 a b c d e) (.agg #[.int .u64 (Int.ofNat a),.int .u64 (Int.ofNat b),.int .u64 (Int.ofNat c),.int .u64 (Int.ofNat d),.int .u64 (Int.ofNat e)]):=λa b c d e ρ=>by
  simp only [a5,XR]
  exact ⟨[_,_,_,_,_],⟨_,_,rfl,rfl,_,_,rfl,rfl,_,_,rfl,rfl,_,_,rfl,rfl,_,_,rfl,rfl,rfl⟩,rfl⟩
 cases h2:Nat.beq g 3 with
 | true=>
   rw [h2,br_t] at hq
   have e:=Nat.eq_of_beq_eq_true h2
   subst e
   have hq:=Option.some.inj hq
   subst hq
   exact ⟨_,load5 (a:=1859910466990425) (b:=932731440258426) (c:=1072319116312658) (d:=1815898335770999) (e:=633789495995903) hg.twice,lit _ _ _ _ _⟩
 | false=>
   rw [h2,br_f] at hq
   obtain ⟨h3,hq1⟩:=br_some hq
   have e:=Nat.eq_of_beq_eq_true h3
   subst e
   have hq1:=Option.some.inj hq1
   subst hq1
   exact ⟨_,load5 (a:=929955233495203) (b:=466365720129213) (c:=1662059464998953) (d:=2033849074728123) (e:=1442794654840575) hg.curve,lit _ _ _ _ _⟩
noncomputable def nF:CallsX:=⟨λ_ _ _=>none,addE,λ_ _=>none,fieldQ,λ_ _ _=>none,λ_ _ _=>none⟩
theorem nF_ok (G:World->Prop):CallsOk Tryz.prog G nF:=⟨λ_ _ _ _ _ h=>(by cases h),λ_ _ _ h=>addE_ok h,λ_ _ _ h=>(by cases h),λ_ _ _ _ h=>fieldQ_ok h,λ_ _ _ _ _ h=>(by cases h),λ_ _ _ _ _ h=>(by cases h)⟩
theorem x_Sq (a:F5):resV ((xcalls Tryz.prog noD nF 1000 10).c 409 [a.v] ⟨.lf,0⟩)=some (fmul a a).v:=by kernel_rfl
theorem x_Neg (a:F5):resV ((xcalls Tryz.prog noD nF 1000 10).c 413 [a.v] ⟨.lf,0⟩)=some (fneg a).v:=by kernel_rfl
theorem dry_A1 (x:F5):DryA [x.v]:=λ_=>rfl
theorem q_un {G:World->Prop} {f:FuncId} {a:F5} {y:XV} (h1:resV ((xcalls Tryz.prog noD nF 1000 10).c f [a.v] ⟨.lf,0⟩)=some y) (hy:DryX y) (h:Hp):QuietOk Tryz.prog G f [a.v] h y:=by
 obtain ⟨h',e1⟩:=resV_ex h1
 exact quiet_dry ((xcalls_ok mixed noD_ok (nF_ok G) 10).c _ _ _ _ _ e1) (dry_A1 a) hy h
noncomputable def un5 (g:F5->F5) (xs:List XV):Option XV:=match xs with
 | [x]=>onO (f5 x) λa=>some (g a).v
 | _=>none
theorem un5_eq {g:F5->F5} {xs:List XV} {y:XV} (h:un5 g xs=some y) : ∃ a:F5,xs=[a.v]/\y=(g a).v:=by
 unfold un5 at h
 split at h
 ·next u=>
  obtain ⟨a,h1,h2⟩:=onO_some h
  cases h2
  exact ⟨a,by rw [f5_eq h1],rfl⟩
 ·cases h
noncomputable def fsq (a:F5):F5:=fmul a a
noncomputable def fieldQ2 (f:FuncId) (xs:List XV) (h:Hp):Option XV:=
 br (Nat.beq f 409) (un5 fsq xs) (br (Nat.beq f 413) (un5 fneg xs) (fieldQ f xs h))
theorem fieldQ2_ok {G:World->Prop} {f:FuncId} {xs:List XV} {h:Hp} {y:XV} (hr:fieldQ2 f xs h=some y):QuietOk Tryz.prog G f xs h y:=by
 unfold fieldQ2 at hr
 cases h1:Nat.beq f 409 with
 | true=>
   rw [h1,br_t] at hr
   have e:=Nat.eq_of_beq_eq_true h1
   subst e
   obtain ⟨a,rfl,rfl⟩:=un5_eq hr
   exact q_un (x_Sq a) (dry_F5 (fmul a a)) h
 | false=>
   rw [h1,br_f] at hr
   cases h2:Nat.beq f 413 with
   | true=>
     rw [h2,br_t] at hr
     have e:=Nat.eq_of_beq_eq_true h2
     subst e
     obtain ⟨a,rfl,rfl⟩:=un5_eq hr
     exact q_un (x_Neg a) (dry_F5 (fneg a)) h
   | false=>
     rw [h2,br_f] at hr
     exact fieldQ_ok hr
noncomputable def nE:CallsX:=⟨λ_ _ _=>none,addE,globE,fieldQ2,λ_ _ _=>none,λ_ _ _=>none⟩
theorem nE_ok {G:World->Prop} (hG : ∀ w,G w->GE w):CallsOk Tryz.prog G nE:=⟨λ_ _ _ _ _ h=>(by cases h),λ_ _ _ h=>addE_ok h,λ_ _ _ h=>globE_ok hG h,λ_ _ _ _ h=>fieldQ2_ok h,λ_ _ _ _ _ h=>(by cases h),λ_ _ _ _ _ h=>(by cases h)⟩
noncomputable abbrev runE (f:FuncId) (xs:List XV) (h:Hp):Option (XV×Hp):=(xcalls Tryz.prog noD nE 1000 10).c f xs h
noncomputable abbrev hP (p:P4):Hp:=⟨Tr.set (some (.cells p.w)) .lf 0,1⟩
theorem x_dbl (p:P4):resT (runE 265 [.ptr (some (0,0))] (hP p)) 0=some (.cells (pdbl p).w):=by kernel_rfl
theorem x_add (p q:P4):resT (runE 266 [.ptr (some (0,0)),.agg q.w] (hP p)) 0=some (.cells (padd p q).w):=by kernel_rfl
theorem x_Zero:resV (runE 262 [] ⟨.lf,0⟩)=some (.agg (P4.mk ⟨0,0,0,0,0⟩ ⟨1,0,0,0,0⟩ ⟨1,0,0,0,0⟩ ⟨0,0,0,0,0⟩).w):=by kernel_rfl
noncomputable def dblE (p:P4):Ent:=⟨265,[(none,0)],[.ptr (some (0,0))],[.cells p.w],.tup [],[(0,some (.cells (pdbl p).w))],77⟩
noncomputable def addP (p q:P4):Ent:=⟨266,[(none,0)],[.ptr (some (0,0)),.agg q.w],[.cells p.w],.tup [],[(0,some (.cells (padd p q).w))],98⟩
theorem x_dblV (p:P4):resV (runE 265 [.ptr (some (0,0))] (hP p))=some (.tup []):=by kernel_rfl
theorem x_dblN (p:P4):resN (runE 265 [.ptr (some (0,0))] (hP p))=77:=by kernel_rfl
theorem x_addV (p q:P4):resV (runE 266 [.ptr (some (0,0)),.agg q.w] (hP p))=some (.tup []):=by kernel_rfl
theorem x_addN (p q:P4):resN (runE 266 [.ptr (some (0,0)),.agg q.w] (hP p))=98:=by kernel_rfl
theorem ent1 {G:World->Prop} {C:CallsX} (hC:CallsOk Tryz.prog G C) {e:Ent} {o o':XO} {r:Option (XV×Hp)} (he:C.c e.f e.xs e.heap=r) (ho:e.obs=[o]) (hu:e.ups=[(0,some o')]) (h1:resV r=some e.y) (h2:resN r=e.n) (h3:resT r 0=some o'):EntOk Tryz.prog G e:=by
 obtain ⟨h',rfl⟩:=resV_ex h1
 refine ⟨h',hC.c _ _ _ _ _ he,h2,λq hq=>?_,λi hi hq=>?_⟩
 ·rw [hu] at hq
  simp only [List.mem_singleton] at hq
  subst hq
  exact h3
 ·rw [ho] at hi
  simp only [List.length_cons,List.length_nil] at hi
  have:i=0:=by omega
  subst this
  exact absurd rfl (hq (0,some o') (by rw [hu]; simp))
theorem dblE_ok {G:World->Prop} (hG : ∀ w,G w->GE w) (p:P4):EntOk Tryz.prog G (dblE p):=
 ent1 (xcalls_ok mixed noD_ok (nE_ok hG) 10) (r:=runE 265 [.ptr (some (0,0))] (hP p)) rfl rfl rfl (x_dblV p) (x_dblN p) (x_dbl p)
theorem addP_ok {G:World->Prop} (hG : ∀ w,G w->GE w) (p q:P4):EntOk Tryz.prog G (addP p q):=
 ent1 (xcalls_ok mixed noD_ok (nE_ok hG) 10) (r:=runE 266 [.ptr (some (0,0)),.agg q.w] (hP p)) rfl rfl rfl (x_addV p q) (x_addN p q) (x_add p q)
noncomputable def p4 (l:List XV):Option P4:=onO (mapO wordX l) λm=>(match m with
 | [a0,a1,a2,a3,a4,b0,b1,b2,b3,b4,c0,c1,c2,c3,c4,d0,d1,d2,d3,d4]=>some ⟨⟨a0,a1,a2,a3,a4⟩,⟨b0,b1,b2,b3,b4⟩,⟨c0,c1,c2,c3,c4⟩,⟨d0,d1,d2,d3,d4⟩⟩
 | _=>none)
noncomputable def ptAt (h:Hp) (x:XV):Option P4:=match x with
 | .ptr (some p)=>onO (h.t.get p.1) λo=>(match o with
   | .cells l=>p4 l
   | _=>none)
 | _=>none
noncomputable def pointC (f:FuncId) (xs:List XV) (h:Hp):Option (XV×Hp):=
 br (Nat.beq f 265) (match xs with
  | [x]=>onO (ptAt h x) λp=>entC (dblE p) xs h
  | _=>none) (br (Nat.beq f 266) (match xs with
  | [x,y]=>onO (ptAt h x) λp=>(match y with
    | .agg l=>onO (p4 l) λq=>entC (addP p q) xs h
    | _=>none)
  | _=>none) none)
theorem pointC_ok {G:World->Prop} (hG : ∀ w,G w->GE w) : ∀ f xs h y h',pointC f xs h=some (y,h')->CallOk Tryz.prog G f xs h y h':=λf xs h y h' hr=>by
 unfold pointC at hr
 cases h1:Nat.beq f 265 with
 | true=>
   rw [h1,br_t] at hr
   have e:=Nat.eq_of_beq_eq_true h1
   subst e
   split at hr
   ·obtain ⟨p,_,h3⟩:=onO_some hr
    exact entC_ok (dblE_ok hG p) h3
   ·cases hr
 | false=>
   rw [h1,br_f] at hr
   obtain ⟨h2,hq⟩:=br_some hr
   clear hr
   have e:=Nat.eq_of_beq_eq_true h2
   subst e
   split at hq
   ·obtain ⟨p,_,h3⟩:=onO_some hq
    split at h3
    ·obtain ⟨q,_,h4⟩:=onO_some h3
     exact entC_ok (addP_ok hG p q) h4
    ·cases h3
   ·cases hq
def F5.of (a b c d e:UInt64):F5:=⟨a.toNat,b.toNat,c.toNat,d.toNat,e.toNat⟩
def F5.ok (x:F5):Prop:=x.a<18446744073709551616/\x.b<18446744073709551616/\x.c<18446744073709551616/\x.d<18446744073709551616/\x.e<18446744073709551616
theorem wAd_lt (x y:Nat):wAd x y<18446744073709551616:=Nat.mod_lt _ (by decide)
theorem fmul_ok (x y:F5):(fmul x y).ok:=⟨wAd_lt _ _,wAd_lt _ _,wAd_lt _ _,wAd_lt _ _,wAd_lt _ _⟩
theorem nat_u64 {n:Nat} (h:n<18446744073709551616):(UInt64.ofNat n).toNat=n:=by rw [UInt64.toNat_ofNat']; omega
theorem F5.ex {x:F5} (h:x.ok) : ∃ a b c d e:UInt64,x=F5.of a b c d e:=by
 obtain ⟨a,b,c,d,e⟩:=x
 obtain ⟨h1,h2,h3,h4,h5⟩:=h
 refine ⟨UInt64.ofNat a,UInt64.ofNat b,UInt64.ofNat c,UInt64.ofNat d,UInt64.ofNat e,?_⟩
 unfold F5.of
 rw [nat_u64 h1,nat_u64 h2,nat_u64 h3,nat_u64 h4,nat_u64 h5]
theorem us_XRs {ρ:Lab} : ∀ l:List UInt64,XRs ρ (l.map λx=>u64 x.toNat) (us l)
 | []=>rfl
 | x :: l=>⟨_,_,rfl,by simp only [XR]; rfl,us_XRs l⟩
theorem XRs_us {ρ:Lab} : ∀ {l:List UInt64} {vs:List Value},XRs ρ (l.map λx=>u64 x.toNat) vs->vs=us l
 | [],vs,h=>by simp only [List.map_nil,XRs] at h; exact h
 | x :: l,vs,h=>by
   simp only [List.map_cons,XRs] at h
   obtain ⟨v,vs',rfl,h1,h2⟩:=h
   simp only [XR] at h1
   rw [XRs_us h2,h1]; rfl
def P4.of (l:List UInt64) (p:P4):Prop:=p.w=l.map λx=>u64 x.toNat
def P4.ok (p:P4):Prop:=p.X.ok/\p.Y.ok/\p.Z.ok/\p.T.ok
theorem P4.ex {p:P4} (h:p.ok) : ∃ l:List UInt64,l.length=20/\P4.of l p:=by
 obtain ⟨X,Y,Z,T⟩:=p
 obtain ⟨h1,h2,h3,h4⟩:=h
 obtain ⟨a0,a1,a2,a3,a4,rfl⟩:=F5.ex h1
 obtain ⟨b0,b1,b2,b3,b4,rfl⟩:=F5.ex h2
 obtain ⟨c0,c1,c2,c3,c4,rfl⟩:=F5.ex h3
 obtain ⟨d0,d1,d2,d3,d4,rfl⟩:=F5.ex h4
 exact ⟨[a0,a1,a2,a3,a4,b0,b1,b2,b3,b4,c0,c1,c2,c3,c4,d0,d1,d2,d3,d4],rfl,rfl⟩
theorem four_ok (e f g h:F5):(four e f g h).ok:=⟨fmul_ok _ _,fmul_ok _ _,fmul_ok _ _,fmul_ok _ _⟩
theorem pdbl_ok (p:P4):(pdbl p).ok:=four_ok _ _ _ _
theorem padd_ok (p q:P4):(padd p q).ok:=four_ok _ _ _ _
theorem call_block {f:FuncId} {w:World} {s:Nat} {l:List UInt64} {T:TypeId} {p q:P4} {xs:List XV} {vs:List Value} {h':Hp} (hw:GE w) (hG : ∀ w',Mod (λx=>x=s) w w'->GE w')
 (hc:CallOk Tryz.prog GE f xs (hP p) (.tup []) h') (ht:h'.t.get 0=some (.cells q.w)) (hq:q.ok) (hb:Blk w s (us l) T) (hl:P4.of l p)
 (hxs:XRs (λL=>if L=0 then some (s,20) else none) xs vs) :
 Calls Tryz.prog f vs.toArray w λe w'=>e = .returned (.tuple #[])/\∃ l' T',l'.length=20/\P4.of l' q/\Blk w' s (us l') T'/\Mod (λx=>x=s) w w':=by
 have hi:Inv (λx=>x=s) w (λL=>if L=0 then some (s,20) else none) (hP p) w:=by
  refine ⟨λL hL=>?_,λL o hLo=>?_,λL L' o o' b s1 s2 e1 e2 e3 e4=>?_,Mod.refl _ _⟩
  ·have hL:1<=L:=hL
   rw [if_neg (by omega)]
  ·have hLo:(Tr.set (some (XO.cells p.w)) Tr.lf 0).get L=some o:=hLo
   rw [Tr.get_set] at hLo
   split at hLo
   ·next e0=>
    cases hLo
    refine ⟨s,20,by rw [if_pos e0],⟨us l,T,?_,hb⟩,.inl rfl⟩
    rw [hl]; exact us_XRs l
   ·cases hLo
  ·have e1:(Tr.set (some (XO.cells p.w)) Tr.lf 0).get L=some o:=e1
   have e2:(Tr.set (some (XO.cells p.w)) Tr.lf 0).get L'=some o':=e2
   rw [Tr.get_set] at e1 e2
   split at e1
   ·split at e2
    ·omega
    ·cases e2
   ·cases e1
 refine Calls.mono (hc _ _ _ w vs hG hi hxs) λe w' hr=>?_
 obtain ⟨v,ρ',rfl,h1,h2,h3⟩:=hr
 simp only [XR] at h2
 obtain ⟨us',h4,rfl⟩:=h2
 simp only [XRs] at h4
 subst h4
 refine ⟨rfl,?_⟩
 obtain ⟨b,s',g1,⟨ws,T',g2,g3⟩,_⟩:=h3.dom 0 _ ht
 have g0:some (s,20)=some (b,s'):=(h1.2 0 (by show 0<1; decide)).symm.trans g1
 cases g0
 obtain ⟨l',g4,g5⟩:=P4.ex hq
 rw [g5] at g2
 rw [XRs_us g2] at g3
 exact ⟨l',T',g4,g5,g3,h3.mod⟩
noncomputable def baseP:P4:=⟨⟨1738742601995546,1146398526822698,2070867633025821,562264141797630,587772402128613⟩,⟨1801439850948184,1351079888211148,450359962737049,900719925474099,1801439850948198⟩,⟨1,0,0,0,0⟩,⟨1841354044333475,16398895984059,755974180946558,900171276175154,1821297809914039⟩⟩
theorem x_Base:resV (runE 173 [] ⟨.lf,0⟩)=some (.agg baseP.w):=by kernel_rfl
theorem q_Base {G:World->Prop} (hG : ∀ w,G w->GE w) (h:Hp):QuietOk Tryz.prog G 173 [] h (.agg baseP.w):=by
 obtain ⟨h',e1⟩:=resV_ex x_Base
 exact quiet_dry ((xcalls_ok mixed noD_ok (nE_ok hG) 10).c _ _ _ _ _ e1) (λ_=>rfl) (λ_=>rfl) h
theorem c_dblF {w:World} {s:Nat} {l:List UInt64} {T:TypeId} {p:P4} (hw:GE w) (hG : ∀ w',Mod (λx=>x=s) w w'->GE w') (hb:Blk w s (us l) T) (hl:P4.of l p) :
 Calls Tryz.prog 265 #[.pointer (some ⟨s,0,none⟩)] w λe w'=>e = .returned (.tuple #[])/\∃ l' T',l'.length=20/\P4.of l' (pdbl p)/\Blk w' s (us l') T'/\Mod (λx=>x=s) w w':=by
 obtain ⟨h',hc,_,hu,_⟩:=dblE_ok (G:=GE) (λ_ h=>h) p
 exact call_block (vs:=[.pointer (some ⟨s,0,none⟩)]) hw hG hc (hu (0,_) List.mem_cons_self) (pdbl_ok p) hb hl ⟨_,_,rfl,by simp only [XR]; exact ⟨s,20,by simp,rfl⟩,rfl⟩
theorem c_addF {w:World} {s:Nat} {l m:List UInt64} {T:TypeId} {p q:P4} (hw:GE w) (hG : ∀ w',Mod (λx=>x=s) w w'->GE w') (hb:Blk w s (us l) T) (hl:P4.of l p) (hm:P4.of m q) :
 Calls Tryz.prog 266 #[.pointer (some ⟨s,0,none⟩),.agg (us m).toArray] w λe w'=>e = .returned (.tuple #[])/\∃ l' T',l'.length=20/\P4.of l' (padd p q)/\Blk w' s (us l') T'/\Mod (λx=>x=s) w w':=by
 obtain ⟨h',hc,_,hu,_⟩:=addP_ok (G:=GE) (λ_ h=>h) p q
 refine call_block (vs:=[.pointer (some ⟨s,0,none⟩),.agg (us m).toArray]) hw hG hc (hu (0,_) List.mem_cons_self) (padd_ok p q) hb hl ⟨_,_,rfl,by simp only [XR]; exact ⟨s,20,by simp,rfl⟩,_,_,rfl,?_,rfl⟩
 simp only [XR]
 exact ⟨us m,by rw [hm]; exact us_XRs m,rfl⟩
theorem c_q {f:FuncId} {w:World} {xs:List XV} {vs:List Value} {z:XV} {G:World->Prop} (hq:QuietOk Tryz.prog G f xs ⟨.lf,0⟩ z) (hG : ∀ w',Mod NoB w w'->G w') (hxs:XRs (λ_=>none) xs vs) :
 Calls Tryz.prog f vs.toArray w λe w'=>∃ v,e = .returned v/\XR (λ_=>none) z v/\Mod NoB w w':=
 Calls.mono (hq NoB w (λ_=>none) w vs hG (inv_none _ _) hxs) λe w' ⟨v,h1,h2,h3⟩=>⟨v,h1,h2,h3.mod⟩
theorem F5.xr {ρ:Lab} (a b c d e:UInt64):XR ρ (F5.of a b c d e).v (e5 a b c d e):=by
 simp only [F5.v,F5.of,a5,XR]
 exact ⟨[_,_,_,_,_],⟨_,_,rfl,rfl,_,_,rfl,rfl,_,_,rfl,rfl,_,_,rfl,rfl,_,_,rfl,rfl,rfl⟩,rfl⟩
theorem F5.rx {ρ:Lab} {x:F5} (h:x.ok) {v:Value} (hv:XR ρ x.v v) : ∃ a b c d e:UInt64,v=e5 a b c d e/\x=F5.of a b c d e:=by
 obtain ⟨a,b,c,d,e,rfl⟩:=F5.ex h
 refine ⟨a,b,c,d,e,?_,rfl⟩
 simp only [F5.v,F5.of,a5,XR,XRs] at hv
 obtain ⟨vs,⟨_,_,rfl,rfl,_,_,rfl,rfl,_,_,rfl,rfl,_,_,rfl,rfl,_,_,rfl,rfl,rfl⟩,rfl⟩:=hv
 rfl
def RF (x:F5) (w:World) (v:Value) (w':World):Prop:=∃ a b c d e:UInt64,v=e5 a b c d e/\x=F5.of a b c d e/\Mod NoB w w'
theorem c_MulF {w:World} {a b c d e a' b' c' d' e':UInt64} : Calls Tryz.prog 271 #[e5 a b c d e,e5 a' b' c' d' e'] w (Ret (RF (fmul (F5.of a b c d e) (F5.of a' b' c' d' e')) w)):=by
 refine Calls.mono (c_q (q_mul (λ_=>True) _ _ _) (λ_ _=>trivial) (vs:=[e5 a b c d e,e5 a' b' c' d' e']) ⟨_,_,rfl,F5.xr _ _ _ _ _,_,_,rfl,F5.xr _ _ _ _ _,rfl⟩) λe w' ⟨v,h1,h2,h3⟩=>?_
 obtain ⟨p,q,r,s,t,h4,h5⟩:=F5.rx (fmul_ok _ _) h2
 subst h1
 exact ⟨p,q,r,s,t,h4,h5,h3⟩
noncomputable def fpow (a:F5) (less:Nat) (n:Nat):F5->F5:=Nat.rec (motive:=λ_=>F5->F5) (λo=>o) (λi ih o=>ih (X.br (X.br (Nat.ble 6 i) true (Nat.beq (Nat.mod (Nat.div (Nat.sub 64 less) (Nat.pow 2 i)) 2) 1)) (fmul (fsq o) a) (fsq o))) n
noncomputable def finv (a:F5):F5:=fpow a 21 255 ⟨1,0,0,0,0⟩
theorem x_Invert (a:F5):resV (runE 269 [a.v] ⟨.lf,0⟩)=some (finv a).v:=by kernel_rfl
noncomputable def limb (x:F5) (i:Nat):Nat:=X.br (Nat.beq i 0) x.a (X.br (Nat.beq i 1) x.b (X.br (Nat.beq i 2) x.c (X.br (Nat.beq i 3) x.d x.e)))
noncomputable def canQ (x:F5):Nat:=wSr (wAd x.e (wSr (wAd x.d (wSr (wAd x.c (wSr (wAd x.b (wSr (wAd x.a 19) 51)) 51)) 51)) 51)) 51
noncomputable def can1 (x:F5) (q:Nat):F5:=⟨wAd x.a (wMu 19 q),x.b,x.c,x.d,x.e⟩
noncomputable def can2 (x:F5):F5:=
 ⟨wAn x.a mk51,wAn (wAd x.b (wSr x.a 51)) mk51,wAn (wAd x.c (wSr (wAd x.b (wSr x.a 51)) 51)) mk51,wAn (wAd x.d (wSr (wAd x.c (wSr (wAd x.b (wSr x.a 51)) 51)) 51)) mk51,wAn (wAd x.e (wSr (wAd x.d (wSr (wAd x.c (wSr (wAd x.b (wSr x.a 51)) 51)) 51)) 51)) mk51⟩
noncomputable def fcan (x:F5):F5:=can2 (can1 (fcar (fcar x)) (canQ (fcar (fcar x))))
theorem x_canonical (a:F5):resV (runE 418 [a.v] ⟨.lf,0⟩)=some (fcan a).v:=by kernel_rfl
noncomputable def fodd (x:F5):Nat:=wAn (fcan x).a 1
theorem q_un2 {G:World->Prop} (hG : ∀ w,G w->GE w) {f:FuncId} {a:F5} {y:XV} (h1:resV (runE f [a.v] ⟨.lf,0⟩)=some y) (hy:DryX y) (h:Hp):QuietOk Tryz.prog G f [a.v] h y:=by
 obtain ⟨h',e1⟩:=resV_ex h1
 exact quiet_dry ((xcalls_ok mixed noD_ok (nE_ok hG) 10).c _ _ _ _ _ e1) (dry_A1 a) hy h
noncomputable def fieldQ3 (f:FuncId) (xs:List XV) (h:Hp):Option XV:=
 X.br (Nat.beq f 418) (un5 fcan xs) (X.br (Nat.beq f 269) (un5 finv xs) (fieldQ2 f xs h))
theorem fieldQ3_ok {G:World->Prop} (hG : ∀ w,G w->GE w) {f:FuncId} {xs:List XV} {h:Hp} {y:XV} (hr:fieldQ3 f xs h=some y):QuietOk Tryz.prog G f xs h y:=by
 unfold fieldQ3 at hr
 cases h1:Nat.beq f 418 with
 | true=>
   rw [h1,br_t] at hr
   have e:=Nat.eq_of_beq_eq_true h1
   subst e
   obtain ⟨a,rfl,rfl⟩:=un5_eq hr
   exact q_un2 hG (x_canonical a) (dry_F5 (fcan a)) h
 | false=>
   rw [h1,br_f] at hr
   cases h2:Nat.beq f 269 with
   | true=>
     rw [h2,br_t] at hr
     have e:=Nat.eq_of_beq_eq_true h2
     subst e
     obtain ⟨a,rfl,rfl⟩:=un5_eq hr
     exact q_un2 hG (x_Invert a) (dry_F5 (finv a)) h
   | false=>
     rw [h2,br_f] at hr
     exact fieldQ2_ok hr
noncomputable def nG:CallsX:=⟨λ_ _ _=>none,addE,globE,fieldQ3,λ_ _ _=>none,λ_ _ _=>none⟩
theorem nG_ok {G:World->Prop} (hG : ∀ w,G w->GE w):CallsOk Tryz.prog G nG:=⟨λ_ _ _ _ _ h=>(by cases h),λ_ _ _ h=>addE_ok h,λ_ _ _ h=>globE_ok hG h,λ_ _ _ _ h=>fieldQ3_ok hG h,λ_ _ _ _ _ h=>(by cases h),λ_ _ _ _ _ h=>(by cases h)⟩
noncomputable abbrev runG (f:FuncId) (xs:List XV) (h:Hp):Option (XV×Hp):=(xcalls Tryz.prog noD nG 1000 10).c f xs h
noncomputable def orB (x y:Nat):Nat:=Nat.mod (Nat.lor (Nat.mod x 256) (Nat.mod y 256)) 256
noncomputable def bitB (x:F5) (k:Nat):Nat:=Nat.mod (Nat.mul (Nat.mod (wAn (wSr (limb x (Nat.div k 51)) (Nat.mod k 51)) 1) 256) (Nat.pow 2 (Nat.mod k 8))) 256
noncomputable def byteB (x:F5) (m:Nat):Nat->Nat->Nat:=Nat.rec (motive:=λ_=>Nat->Nat->Nat) (λ_ acc=>acc) (λ_ ih k acc=>ih (Nat.succ k) (orB acc (bitB x k))) m
noncomputable def rowB (x:F5) (n:Nat):Nat->List Nat:=Nat.rec (motive:=λ_=>Nat->List Nat) (λk=>[byteB x 7 k 0]) (λ_ ih k=>byteB x 8 k 0 :: ih (Nat.add k 8)) n
noncomputable def putB (x:F5):List Nat:=rowB (fcan x) 31 0
abbrev u8 (n:Nat):XV:=.int .u8 (.ofNat n)
noncomputable def mapB (l:List Nat):List XV:=List.rec (motive:=λ_=>List XV) [] (λa _ ih=>u8 a :: ih) l
theorem x_PutV (a:F5):resV (runG 270 [a.v] ⟨.lf,0⟩)=some (.sl (some (1,0)) 32 32):=by kernel_rfl
theorem x_PutT (a:F5):resT (runG 270 [a.v] ⟨.lf,0⟩) 1=some (.cells (mapB (putB a))):=by kernel_rfl
end Go.Proofs.YtmgcoepbccgjfaaGreatDoor
end
section
namespace Go.Proofs.YtmgcoepbccgjfaaGreatDoor
open Go Go.Sh
def sh250 (a b c:Slc) (w:World) (R:Ending->World->Prop):Prop:=
 semK Tryz.prog (Instr.buildSlice 55 3 #[(0,(.slice a.a a.len a.cap)),(1,(.slice b.a b.len b.cap)),(2,(.slice c.a c.len c.cap))]) w λv w1=>∃ x:Slc,v=(.slice x.a x.len x.cap)/\callK Tryz.prog 362 [.slice x.a x.len x.cap] w1 (panR R) λv1 w2=>∃ x1:Bool,v1=(.bool x1)/\condK (!x1) (R (.returned (.slice none 0 0)) w2) (semK Tryz.prog (Instr.makeSlice 520 (.int .i64 (66:Int)) (.int .i64 (66:Int))) w2 λv2 w3=>∃ x2:Slc,v2=(.slice x2.a x2.len x2.cap)/\∃ (inv:List TV->World->Prop) (mu:List TV->World->Nat),inv [.i .i64 (0:Int)] w3/\(∀ x3:Int,∀ w4:World,inv [.i .i64 x3] w4->condK (decide (x3<(32:Int))) (∃ sx:World->Prop,sx w4.drew/\((0<=x3/\x3<(x2.len:Nat))/\onSome x2.a λa1=>((0<=x3/\x3<(c.len:Nat))/\onSome c.a λa2=>∃ x4:UInt64,(∀ w',sx w'->Rd w' (a1.add (x3.toNat*1)) [.int .u64 x4.toNat])/\∃ x5:UInt8,(∀ w',sx w'->Rd w' (a2.add (x3.toNat*1)) [.int .u8 x5.toNat])/\((0<=x3/\x3<(x2.len:Nat))/\onSome x2.a λa3=>((semU Tryz.prog (storeVar 304 (a3.add (x3.toNat*1)) (.int .u64 ((x4+(x5).toUInt64)).toNat)) w4.drew λw5=>∃ (inv1:List TV->World->Prop) (mu1:List TV->World->Nat),inv1 [.i .i64 (0:Int)] w5/\(∀ x6:Int,∀ w6:World,inv1 [.i .i64 x6] w6->condK (decide (x6<(32:Int))) (∃ sx1:World->Prop,sx1 w6.drew/\((0<=(IntKind.i64.wrap (x3+x6))/\(IntKind.i64.wrap (x3+x6))<(x2.len:Nat))/\onSome x2.a λa4=>((0<=x3/\x3<(a.len:Nat))/\onSome a.a λa5=>((0<=x6/\x6<(b.len:Nat))/\onSome b.a λa6=>∃ x7:UInt64,(∀ w',sx1 w'->Rd w' (a4.add (((IntKind.i64.wrap (x3+x6))).toNat*1)) [.int .u64 x7.toNat])/\∃ x8:UInt8,(∀ w',sx1 w'->Rd w' (a5.add (x3.toNat*1)) [.int .u8 x8.toNat])/\∃ x9:UInt8,(∀ w',sx1 w'->Rd w' (a6.add (x6.toNat*1)) [.int .u8 x9.toNat])/\((0<=(IntKind.i64.wrap (x3+x6))/\(IntKind.i64.wrap (x3+x6))<(x2.len:Nat))/\onSome x2.a λa7=>((semU Tryz.prog (storeVar 304 (a7.add (((IntKind.i64.wrap (x3+x6))).toNat*1)) (.int .u64 ((x7+((x8).toUInt64*(x9).toUInt64))).toNat)) w6.drew λw7=>(inv1 [.i .i64 (IntKind.i64.wrap (x6+(1:Int)))] w7/\mu1 [.i .i64 (IntKind.i64.wrap (x6+(1:Int)))] w7<mu1 [.i .i64 x6] w6))/\True)))))) ((inv [.i .i64 (IntKind.i64.wrap (x3+(1:Int)))] w6/\mu [.i .i64 (IntKind.i64.wrap (x3+(1:Int)))] w6<mu [.i .i64 x3] w4))))/\True))))) (semK Tryz.prog (Instr.makeSlice 23 (.int .i64 (x2.len:Int)) (.int .i64 (x2.len:Int))) w4 λv3 w8=>∃ x10:Slc,v3=(.slice x10.a x10.len x10.cap)/\∃ (inv2:List TV->World->Prop) (mu2:List TV->World->Nat),inv2 [.u64 (0:UInt64),.i .i64 (0:Int)] w8/\(∀ carry:UInt64,∀ x11:Int,∀ w9:World,inv2 [.u64 carry,.i .i64 x11] w9->condK (decide (x11<(x2.len:Int))) (((0<=x11/\x11<(x2.len:Nat))/\onSome x2.a λa8=>∃ x12:UInt64,Rd w9 (a8.add (x11.toNat*1)) [.int .u64 x12.toNat]/\((0<=x11/\x11<(x10.len:Nat))/\onSome x10.a λa9=>semU Tryz.prog (storeVar 5 (a9.add (x11.toNat*1)) (.int .u8 (((carry+x12)).toUInt8).toNat)) w9 λw10=>(0<=(((8:UInt64)).toNat:Int)/\(inv2 [.u64 (shrU64 (carry+x12) ((((8:UInt64)).toNat:Int)).toNat),.i .i64 (IntKind.i64.wrap (x11+(1:Int)))] w10/\mu2 [.u64 (shrU64 (carry+x12) ((((8:UInt64)).toNat:Int)).toNat),.i .i64 (IntKind.i64.wrap (x11+(1:Int)))] w10<mu2 [.u64 carry,.i .i64 x11] w9))))) (callK Tryz.prog 363 [.slice x10.a x10.len x10.cap] w9 (panR R) λv4 w11=>∃ x13:Slc,v4=(.slice x13.a x13.len x13.cap)/\R (.returned (.slice x13.a x13.len x13.cap)) w11)))))
theorem call250 (a b c:Slc) {w:World} {R:Ending->World->Prop} (hden:sh250 a b c w R):Calls Tryz.prog 250 #[.slice a.a a.len a.cap,.slice b.a b.len b.cap,.slice c.a c.len c.cap] w R:=
 calls_of_form (.seq none .z (.seq none (.seq none .z (.cond (.seq none .z .z) .z)) (.seq none .z (.seq none (.seq none .z (.block none (.loop [(21,(.i .i64))] (.seq none .z (.seq none (.cond .z .z) (.seq none (.block none (.seq none .z (.seq none (.draw 1 (.take 0 (.take 1 (.take 2 (.take 4 (.take 5 (.take 6 (.take 3 (.take 7 (.take 8 (.take 9 (.take 10 (.all [(11,.done)]))))))))))))) (.seq none .z (.block none (.loop [(35,(.i .i64))] (.seq none .z (.seq none (.cond .z .z) (.seq none (.block none (.seq none .z (.draw 1 (.take 0 (.take 1 (.take 2 (.take 3 (.take 4 (.take 6 (.take 7 (.take 8 (.take 11 (.take 12 (.take 13 (.take 5 (.take 9 (.take 10 (.take 14 (.take 15 (.take 16 (.take 17 (.take 18 (.all [(19,.done)]))))))))))))))))))))))) .z))))))))) .z)))))) (.seq none .z (.seq none .z (.seq none (.seq none .z (.block none (.loop [(11,.u64),(64,(.i .i64))] (.seq none .z (.seq none (.cond .z .z) (.seq none (.block none (.seq none .z (.seq none .z (.seq none .z .z)))) .z)))))) (.seq none .z .z)))))))) Tryz.func250 (by kernel_rfl) [.sl a,.sl b,.sl c] (by kernel_rfl) (by kernel_rfl) hden
def sh359 (b:Slc) (w:World) (R:Ending->World->Prop):Prop:=
 condK (decide ((b.len:Int) > (64:Int))) (R (.returned (.slice none 0 0)) w) (callK Tryz.prog 363 [.slice b.a b.len b.cap] w (panR R) λv w1=>∃ x:Slc,v=(.slice x.a x.len x.cap)/\R (.returned (.slice x.a x.len x.cap)) w1)
theorem call359 (b:Slc) {w:World} {R:Ending->World->Prop} (hden:sh359 b w R):Calls Tryz.prog 359 #[.slice b.a b.len b.cap] w R:=
 calls_of_form (.seq none .z (.seq none (.seq none .z (.cond (.seq none .z .z) .z)) (.seq none .z .z))) Tryz.func359 (by kernel_rfl) [.sl b] (by kernel_rfl) (by kernel_rfl) hden
def sh264 (b:Slc) (w:World) (R:Ending->World->Prop):Prop:=
 condK ((b.len:Int) != (32:Int)) (R (.returned (.slice none 0 0)) w) (callK Tryz.prog 408 [.slice b.a b.len b.cap] w (panR R) λv w1=>∃ x:Value,v=x/\callK Tryz.prog 407 [x] w1 (panR R) λv1 w2=>∃ x1:Slc,v1=(.slice x1.a x1.len x1.cap)/\R (.returned (.slice x1.a x1.len x1.cap)) w2)
theorem call264 (b:Slc) {w:World} {R:Ending->World->Prop} (hden:sh264 b w R):Calls Tryz.prog 264 #[.slice b.a b.len b.cap] w R:=
 calls_of_form (.seq none .z (.seq none (.seq none .z (.cond (.seq none .z .z) .z)) (.seq none .z .z))) Tryz.func264 (by kernel_rfl) [.sl b] (by kernel_rfl) (by kernel_rfl) hden
def sh591 (b:Slc) (w:World) (R:Ending->World->Prop):Prop:=
 condK ((b.len:Int)==(32:Int)) (callK Tryz.prog 363 [.slice b.a b.len b.cap] w (panR R) λv w1=>∃ x:Slc,v=(.slice x.a x.len x.cap)/\callK Tryz.prog 437 [.slice x.a x.len x.cap,.slice b.a b.len b.cap] w1 (panR R) λv1 w2=>∃ x1:Bool,v1=(.bool x1)/\R (.returned (.bool x1)) w2) (R (.returned (.bool false)) w)
theorem call591 (b:Slc) {w:World} {R:Ending->World->Prop} (hden:sh591 b w R):Calls Tryz.prog 591 #[.slice b.a b.len b.cap] w R:=
 calls_of_form (.seq none .z (.seq none .z .z)) Tryz.func591 (by kernel_rfl) [.sl b] (by kernel_rfl) (by kernel_rfl) hden
def sh437 (s1 s2:Slc) (w:World) (R:Ending->World->Prop):Prop:=
 condK ((s1.len:Int) != (s2.len:Int)) (R (.returned (.bool false)) w) (∃ (inv:List TV->World->Prop) (mu:List TV->World->Nat),inv [.i .i64 (0:Int)] w/\(∀ x:Int,∀ w1:World,inv [.i .i64 x] w1->condK (decide (x<(s1.len:Int))) (((0<=x/\x<(s1.len:Nat))/\onSome s1.a λa=>((0<=x/\x<(s2.len:Nat))/\onSome s2.a λa1=>∃ x1:UInt8,Rd w1.drew (a.add (x.toNat*1)) [.int .u8 x1.toNat]/\∃ x2:UInt8,Rd w1.drew (a1.add (x.toNat*1)) [.int .u8 x2.toNat]/\condK (x1 != x2) (R (.returned (.bool false)) w1.drew) ((inv [.i .i64 (IntKind.i64.wrap (x+(1:Int)))] w1.drew/\mu [.i .i64 (IntKind.i64.wrap (x+(1:Int)))] w1.drew<mu [.i .i64 x] w1))))) (R (.returned (.bool true)) w1)))
theorem call437 (s1 s2:Slc) {w:World} {R:Ending->World->Prop} (hden:sh437 s1 s2 w R):Calls Tryz.prog 437 #[.slice s1.a s1.len s1.cap,.slice s2.a s2.len s2.cap] w R:=
 calls_of_form (.seq none .z (.seq none (.seq none .z (.cond (.seq none .z .z) .z)) (.seq none (.seq none .z (.block none (.loop [(13,(.i .i64))] (.seq none .z (.seq none (.cond .z .z) (.seq none (.block none (.seq none .z (.seq none (.draw 2 (.take 0 (.take 1 (.take 2 (.take 4 (.take 5 (.take 6 (.take 3 (.take 7 (.take 8 .done)))))))))) (.cond (.seq none .z .z) .z)))) .z)))))) (.seq none .z .z)))) Tryz.func437 (by kernel_rfl) [.sl s1,.sl s2] (by kernel_rfl) (by kernel_rfl) hden
def sh362 (l:Slc) (w:World) (R:Ending->World->Prop):Prop:=
 callK Tryz.prog 69 [.slice l.a l.len l.cap,.func (.func 522) #[] #[]] w (panR R) λv w1=>∃ x:Bool,v=(.bool x)/\R (.returned (.bool (!x))) w1
theorem call362 (l:Slc) {w:World} {R:Ending->World->Prop} (hden:sh362 l w R):Calls Tryz.prog 362 #[.slice l.a l.len l.cap] w R:=
 calls_of_form (.seq none .z (.seq none .z .z)) Tryz.func362 (by kernel_rfl) [.sl l] (by kernel_rfl) (by kernel_rfl) hden
def sh363 (l:Slc) (w:World) (R:Ending->World->Prop):Prop:=
 semK Tryz.prog (Instr.alloc 647 true (.tuple #[])) w λv w1=>∃ r:Option Addr,v=(.pointer r)/\callK Tryz.prog 523 [.slice l.a l.len l.cap] w1 (panR R) λv1 w2=>∃ x:Value,v1=x/\∃ (fn:FuncId) (first cap:Array Value),x = .func (.func fn) first cap/\enters Tryz.prog fn=true/\∀ (rec:LoopState->Option Code->Obj) (dd ll:Nat) (w3:World),dd=w2.heap.size->ll=dd+1->w3=(w2.alloc (.deferred (some []))).alloc (rec .ready none)->(∀ x1:Int,∀ x2:UInt8,∀ (w4:World) (kk:Value->World->Prop),w4.heap[ll]? = some (rec .ready none)->((w4.heap[ll]? = some (rec .ready none)/\callK Tryz.prog 524 [.pointer r,.int .u8 x2.toNat] (w4.putObj ll (rec .busy none)) (λ_ _=>False) λv2 w5=>v2=(.tuple #[])/\(w5.heap[ll]? = some (rec .busy none)/\kk (.bool true) (w5.putObj ll (rec .ready none)))))->yieldK Tryz.prog ll [.int .i64 x1,.int .u8 x2.toNat] w4 kk)->callK Tryz.prog fn (first.toList++[.func (.yield ll) #[] #[]]++cap.toList) w3 (panRK R [(mkD dd)]) λ_ w6=>(w6.heap[ll]? = some (rec .ready none)/\semK Tryz.prog (Instr.makeSlice 23 (.int .i64 (32:Int)) (.int .i64 (32:Int))) (w6.putObj ll (rec .exhausted none)) λv3 w7=>∃ x3:Slc,v3=(.slice x3.a x3.len x3.cap)/\∃ (inv:List TV->World->Prop) (mu:List TV->World->Nat),inv [.i .i64 (0:Int)] w7/\(∀ x4:Int,∀ w8:World,inv [.i .i64 x4] w8->condK (decide (x4<(x3.len:Int))) (((8:Int)≠0/\onSome r λa=>((0<=(IntKind.i64.wrap (Int.tdiv x4 (8:Int)))/\(IntKind.i64.wrap (Int.tdiv x4 (8:Int)))<(5:Nat))/\∃ x5:UInt64,Rd w8 ((a.add 0).add (((IntKind.i64.wrap (Int.tdiv x4 (8:Int)))).toNat*1)) [.int .u64 x5.toNat]/\((8:Int)≠0/\(0<=(IntKind.i64.wrap ((8:Int)*(Int.tmod x4 (8:Int))))/\((0<=x4/\x4<(x3.len:Nat))/\onSome x3.a λa1=>semU Tryz.prog (storeVar 5 (a1.add (x4.toNat*1)) (.int .u8 (((shrU64 x5 ((IntKind.i64.wrap ((8:Int)*(Int.tmod x4 (8:Int))))).toNat)).toUInt8).toNat)) w8 λw9=>(inv [.i .i64 (IntKind.i64.wrap (x4+(1:Int)))] w9/\mu [.i .i64 (IntKind.i64.wrap (x4+(1:Int)))] w9<mu [.i .i64 x4] w8))))))) ((w8.heap[dd]? = some (.deferred (some []))/\R (.returned (.slice x3.a x3.len x3.cap)) (w8.putObj dd (.deferred none))))))\/False\/False
theorem call363 (l:Slc) {w:World} {R:Ending->World->Prop} (hden:sh363 l w R):Calls Tryz.prog 363 #[.slice l.a l.len l.cap] w R:=
 calls_of_form (.seq none .z (.seq none .z (.seq none (.seq none .z (.block none (.rf false [] [(.i .i64),.u8] .z (.block none .z)))) (.seq none .z (.seq none (.seq none .z (.block none (.loop [(17,(.i .i64))] (.seq none .z (.seq none (.cond .z .z) (.seq none (.block none (.seq none .z .z)) .z)))))) (.seq none .z .z)))))) Tryz.func363 (by kernel_rfl) [.sl l] (by kernel_rfl) (by kernel_rfl) hden
def sh407 (seq:Value) (w:World) (R:Ending->World->Prop):Prop:=
 callK Tryz.prog 548 [.slice none 0 0,seq] w (panR R) λv w1=>∃ x:Slc,v=(.slice x.a x.len x.cap)/\R (.returned (.slice x.a x.len x.cap)) w1
theorem call407 (seq:Value) {w:World} {R:Ending->World->Prop} (hden:sh407 seq w R):Calls Tryz.prog 407 #[seq] w R:=
 calls_of_form (.seq none .z (.seq none .z .z)) Tryz.func407 (by kernel_rfl) [.v seq] (by kernel_rfl) (by kernel_rfl) hden
def sh408 (b:Slc) (w:World) (R:Ending->World->Prop):Prop:=
 semK Tryz.prog (Instr.box 23 (.slice b.a b.len b.cap)) w λv w1=>∃ b1:Option Addr,v=(.pointer b1)/\R (.returned (.func (.func 549) #[] #[.pointer b1])) w1
theorem call408 (b:Slc) {w:World} {R:Ending->World->Prop} (hden:sh408 b w R):Calls Tryz.prog 408 #[.slice b.a b.len b.cap] w R:=
 calls_of_form (.seq none .z (.seq none .z .z)) Tryz.func408 (by kernel_rfl) [.sl b] (by kernel_rfl) (by kernel_rfl) hden
def sh69 (s:Slc) (f:Value) (w:World) (R:Ending->World->Prop):Prop:=
 callK Tryz.prog 110 [.slice s.a s.len s.cap,f] w (panR R) λv w1=>∃ x:Int,v=(.int .i64 x)/\R (.returned (.bool (decide (x>=(0:Int))))) w1
theorem call69 (s:Slc) (f:Value) {w:World} {R:Ending->World->Prop} (hden:sh69 s f w R):Calls Tryz.prog 69 #[.slice s.a s.len s.cap,f] w R:=
 calls_of_form (.seq none .z (.seq none .z .z)) Tryz.func69 (by kernel_rfl) [.sl s,.v f] (by kernel_rfl) (by kernel_rfl) hden
def sh522 (b:Slc) (w:World) (R:Ending->World->Prop):Prop:=
 R (.returned (.bool ((b.len:Int) != (32:Int)))) w
theorem call522 (b:Slc) {w:World} {R:Ending->World->Prop} (hden:sh522 b w R):Calls Tryz.prog 522 #[.slice b.a b.len b.cap] w R:=
 calls_of_form (.seq none .z (.seq none .z .z)) Tryz.func522 (by kernel_rfl) [.sl b] (by kernel_rfl) (by kernel_rfl) hden
def sh523 (s:Slc) (w:World) (R:Ending->World->Prop):Prop:=
 semK Tryz.prog (Instr.box 23 (.slice s.a s.len s.cap)) w λv w1=>∃ s1:Option Addr,v=(.pointer s1)/\R (.returned (.func (.func 631) #[] #[.pointer s1])) w1
theorem call523 (s:Slc) {w:World} {R:Ending->World->Prop} (hden:sh523 s w R):Calls Tryz.prog 523 #[.slice s.a s.len s.cap] w R:=
 calls_of_form (.seq none .z (.seq none .z .z)) Tryz.func523 (by kernel_rfl) [.sl s] (by kernel_rfl) (by kernel_rfl) hden
def sh524 (r:Option Addr) (b:UInt8) (w:World) (R:Ending->World->Prop):Prop:=
 ∃ (inv:List TV->World->Prop) (mu:List TV->World->Nat),inv [.i .i64 (4:Int)] w/\(∀ i:Int,∀ w1:World,inv [.i .i64 i] w1->condK (decide (i > (0:Int))) (∃ sx:World->Prop,sx w1.drew/\onSome r λa=>((0<=i/\i<(5:Nat))/\onSome r λa1=>((0<=(IntKind.i64.wrap (i - (1:Int)))/\(IntKind.i64.wrap (i - (1:Int)))<(5:Nat))/\onSome r λa2=>∃ x:UInt64,(∀ w',sx w'->Rd w' ((a.add 0).add (i.toNat*1)) [.int .u64 x.toNat])/\(0<=(((8:UInt64)).toNat:Int)/\∃ x1:UInt64,(∀ w',sx w'->Rd w' ((a1.add 0).add (((IntKind.i64.wrap (i - (1:Int)))).toNat*1)) [.int .u64 x1.toNat])/\(0<=(((56:UInt64)).toNat:Int)/\((0<=i/\i<(5:Nat))/\((semU Tryz.prog (storeVar 304 ((a2.add 0).add (i.toNat*1)) (.int .u64 (((shlU64 x ((((8:UInt64)).toNat:Int)).toNat) ||| (shrU64 x1 ((((56:UInt64)).toNat:Int)).toNat))).toNat)) w1.drew λw2=>(inv [.i .i64 (IntKind.i64.wrap (i - (1:Int)))] w2/\mu [.i .i64 (IntKind.i64.wrap (i - (1:Int)))] w2<mu [.i .i64 i] w1))/\True))))))) (∃ sx1:World->Prop,sx1 w1.drew/\onSome r λa3=>((0<=(0:Int)/\(0:Int)<(5:Nat))/\onSome r λa4=>∃ x2:UInt64,(∀ w',sx1 w'->Rd w' ((a3.add 0).add (((0:Int)).toNat*1)) [.int .u64 x2.toNat])/\(0<=(((8:UInt64)).toNat:Int)/\((0<=(0:Int)/\(0:Int)<(5:Nat))/\((semU Tryz.prog (storeVar 304 ((a4.add 0).add (((0:Int)).toNat*1)) (.int .u64 (((shlU64 x2 ((((8:UInt64)).toNat:Int)).toNat) ||| (b).toUInt64)).toNat)) w1.drew λw3=>∃ (inv1:List TV->World->Prop) (mu1:List TV->World->Nat),inv1 [.i .i64 (8:Int)] w3/\(∀ by0:Int,∀ w4:World,inv1 [.i .i64 by0] w4->condK (decide (by0>=(0:Int))) (callK Tryz.prog 632 [.pointer r,.int .u64 ((u64OfInt by0)).toNat] w4 (panR R) λv w5=>v=(.tuple #[])/\(inv1 [.i .i64 (IntKind.i64.wrap (by0 - (1:Int)))] w5/\mu1 [.i .i64 (IntKind.i64.wrap (by0 - (1:Int)))] w5<mu1 [.i .i64 by0] w4)) (R (.returned (.tuple #[])) w4)))/\True))))))
theorem call524 (r:Option Addr) (b:UInt8) {w:World} {R:Ending->World->Prop} (hden:sh524 r b w R):Calls Tryz.prog 524 #[.pointer r,.int .u8 b.toNat] w R:=
 calls_of_form (.seq none (.seq none .z (.block none (.loop [(4,(.i .i64))] (.seq none (.seq none .z (.cond .z .z)) (.seq none (.block none (.draw 1 (.take 0 (.take 1 (.take 2 (.take 3 (.take 4 (.take 5 (.take 6 (.take 9 (.take 10 (.take 11 (.take 12 (.take 13 (.take 14 (.take 18 (.take 19 (.take 7 (.take 8 (.take 15 (.take 16 (.take 17 (.take 20 (.all [(21,.done)])))))))))))))))))))))))) .z))))) (.seq none (.draw 1 (.take 0 (.take 1 (.take 2 (.take 3 (.take 4 (.take 7 (.take 8 (.take 10 (.take 11 (.take 5 (.take 6 (.take 9 (.take 12 (.all [(13,.done)]))))))))))))))) (.seq none .z (.block none (.loop [(5,(.i .i64))] (.seq none (.seq none .z (.cond .z .z)) (.seq none (.block none .z) .z))))))) Tryz.func524 (by kernel_rfl) [.p r,.u8 b] (by kernel_rfl) (by kernel_rfl) hden
def sh548 (s:Slc) (seq:Value) (w:World) (R:Ending->World->Prop):Prop:=
 semK Tryz.prog (Instr.box 421 (.slice s.a s.len s.cap)) w λv w1=>∃ s1:Option Addr,v=(.pointer s1)/\∃ (fn:FuncId) (first cap:Array Value),seq = .func (.func fn) first cap/\enters Tryz.prog fn=true/\∀ (rec:LoopState->Option Code->Obj) (dd ll:Nat) (w2:World),dd=w1.heap.size->ll=dd+1->w2=(w1.alloc (.deferred (some []))).alloc (rec .ready none)->(∀ x:Bool,∀ (w3:World) (kk:Value->World->Prop),w3.heap[ll]? = some (rec .ready none)->((w3.heap[ll]? = some (rec .ready none)/\onSome s1 λa=>∃ x1:Slc,Rd (w3.putObj ll (rec .busy none)) a [.slice x1.a x1.len x1.cap]/\semK Tryz.prog (Instr.buildSlice 421 1 #[(0,(.bool x))]) (w3.putObj ll (rec .busy none)) λv1 w4=>∃ x2:Slc,v1=(.slice x2.a x2.len x2.cap)/\semK Tryz.prog (Builtin.append_ #[421,421] 421 #[.slice x1.a x1.len x1.cap,.slice x2.a x2.len x2.cap]) w4 λv2 w5=>∃ x3:Slc,v2=(.slice x3.a x3.len x3.cap)/\onSome s1 λa1=>semU Tryz.prog (storeVar 421 a1 (.slice x3.a x3.len x3.cap)) w5 λw6=>(w6.heap[ll]? = some (rec .busy none)/\kk (.bool true) (w6.putObj ll (rec .ready none)))))->yieldK Tryz.prog ll [.bool x] w3 kk)->callK Tryz.prog fn (first.toList++[.func (.yield ll) #[] #[]]++cap.toList) w2 (panRK R [(mkD dd)]) λ_ w7=>(w7.heap[ll]? = some (rec .ready none)/\onSome s1 λa2=>∃ x4:Slc,Rd (w7.putObj ll (rec .exhausted none)) a2 [.slice x4.a x4.len x4.cap]/\((w7.putObj ll (rec .exhausted none)).heap[dd]? = some (.deferred (some []))/\R (.returned (.slice x4.a x4.len x4.cap)) ((w7.putObj ll (rec .exhausted none)).putObj dd (.deferred none))))\/False\/False
theorem call548 (s:Slc) (seq:Value) {w:World} {R:Ending->World->Prop} (hden:sh548 s seq w R):Calls Tryz.prog 548 #[.slice s.a s.len s.cap,seq] w R:=
 calls_of_form (.seq none .z (.seq none (.seq none .z (.block none (.rf false [] [.b] .z (.block none .z)))) (.seq none .z .z))) Tryz.func548 (by kernel_rfl) [.sl s,.v seq] (by kernel_rfl) (by kernel_rfl) hden
def sh549 (yield:Value) (c:Option Addr) (w:World) (R:Ending->World->Prop):Prop:=
 onSome c λa=>∃ x:Slc,Rd w a [.slice x.a x.len x.cap]/\∃ (inv:List TV->World->Prop) (mu:List TV->World->Nat),inv [.i .i64 (0:Int)] w/\(∀ x1:Int,∀ w1:World,inv [.i .i64 x1] w1->condK (decide (x1<(IntKind.i64.wrap ((8:Int)*(x.len:Int))))) (onSome c λa1=>∃ x2:Slc,Rd w1 a1 [.slice x2.a x2.len x2.cap]/\((8:Int)≠0/\((0<=(IntKind.i64.wrap (Int.tdiv x1 (8:Int)))/\(IntKind.i64.wrap (Int.tdiv x1 (8:Int)))<(x2.len:Nat))/\onSome x2.a λa2=>∃ x3:UInt8,Rd w1 (a2.add (((IntKind.i64.wrap (Int.tdiv x1 (8:Int)))).toNat*1)) [.int .u8 x3.toNat]/\((8:Int)≠0/\(0<=(Int.tmod x1 (8:Int))/\callFV Tryz.prog yield [.bool (((shrU8 x3 ((Int.tmod x1 (8:Int))).toNat) &&& (1:UInt8))==(1:UInt8))] w1 (panR R) λv w2=>∃ x4:Bool,v=(.bool x4)/\condK (!x4) (R (.returned (.tuple #[])) w2) ((inv [.i .i64 (IntKind.i64.wrap (x1+(1:Int)))] w2/\mu [.i .i64 (IntKind.i64.wrap (x1+(1:Int)))] w2<mu [.i .i64 x1] w1))))))) (R (.returned (.tuple #[])) w1))
theorem call549 (yield:Value) (c:Option Addr) {w:World} {R:Ending->World->Prop} (hden:sh549 yield c w R):Calls Tryz.prog 549 #[yield,.pointer c] w R:=
 calls_of_form (.seq none .z (.block none (.loop [(7,(.i .i64))] (.seq none .z (.seq none (.cond .z .z) (.seq none (.block none (.seq none .z (.seq none .z (.cond .z .z)))) .z)))))) Tryz.func549 (by kernel_rfl) [.v yield,.p c] (by kernel_rfl) (by kernel_rfl) hden
def sh110 (s:Slc) (f:Value) (w:World) (R:Ending->World->Prop):Prop:=
 ∃ (inv:List TV->World->Prop) (mu:List TV->World->Nat),inv [.i .i64 (0:Int)] w/\(∀ x:Int,∀ w1:World,inv [.i .i64 x] w1->condK (decide (x<(s.len:Int))) (((0<=x/\x<(s.len:Nat))/\onSome s.a λa=>∃ x1:Slc,Rd w1 (a.add (x.toNat*1)) [.slice x1.a x1.len x1.cap]/\callFV Tryz.prog f [.slice x1.a x1.len x1.cap] w1 (panR R) λv w2=>∃ x2:Bool,v=(.bool x2)/\condK x2 (R (.returned (.int .i64 x)) w2) ((inv [.i .i64 (IntKind.i64.wrap (x+(1:Int)))] w2/\mu [.i .i64 (IntKind.i64.wrap (x+(1:Int)))] w2<mu [.i .i64 x] w1)))) (R (.returned (.int .i64 (-1:Int))) w1))
theorem call110 (s:Slc) (f:Value) {w:World} {R:Ending->World->Prop} (hden:sh110 s f w R):Calls Tryz.prog 110 #[.slice s.a s.len s.cap,f] w R:=
 calls_of_form (.seq none .z (.seq none (.seq none .z (.block none (.loop [(8,(.i .i64))] (.seq none .z (.seq none (.cond .z .z) (.seq none (.block none (.seq none .z (.seq none .z (.cond (.seq none .z .z) .z)))) .z)))))) (.seq none .z .z))) Tryz.func110 (by kernel_rfl) [.sl s,.v f] (by kernel_rfl) (by kernel_rfl) hden
def sh631 (yield:Value) (c:Option Addr) (w:World) (R:Ending->World->Prop):Prop:=
 onSome c λa=>∃ x:Slc,Rd w a [.slice x.a x.len x.cap]/\∃ (inv:List TV->World->Prop) (mu:List TV->World->Nat),inv [.i .i64 (IntKind.i64.wrap ((x.len:Int) - (1:Int)))] w/\(∀ i:Int,∀ w1:World,inv [.i .i64 i] w1->condK (decide (i>=(0:Int))) (onSome c λa1=>∃ x1:Slc,Rd w1 a1 [.slice x1.a x1.len x1.cap]/\((0<=i/\i<(x1.len:Nat))/\onSome x1.a λa2=>∃ x2:UInt8,Rd w1 (a2.add (i.toNat*1)) [.int .u8 x2.toNat]/\callFV Tryz.prog yield [.int .i64 i,.int .u8 x2.toNat] w1 (panR R) λv w2=>∃ x3:Bool,v=(.bool x3)/\condK (!x3) (R (.returned (.tuple #[])) w2) ((inv [.i .i64 (IntKind.i64.wrap (i - (1:Int)))] w2/\mu [.i .i64 (IntKind.i64.wrap (i - (1:Int)))] w2<mu [.i .i64 i] w1)))) (R (.returned (.tuple #[])) w1))
theorem call631 (yield:Value) (c:Option Addr) {w:World} {R:Ending->World->Prop} (hden:sh631 yield c w R):Calls Tryz.prog 631 #[yield,.pointer c] w R:=
 calls_of_form (.seq none .z (.block none (.loop [(3,(.i .i64))] (.seq none (.seq none .z (.cond .z .z)) (.seq none (.block none (.seq none .z (.cond .z .z))) .z))))) Tryz.func631 (by kernel_rfl) [.v yield,.p c] (by kernel_rfl) (by kernel_rfl) hden
def sh632 (r:Option Addr) (by0:UInt64) (w:World) (R:Ending->World->Prop):Prop:=
 semK Tryz.prog (Instr.alloc 645 true (.tuple #[])) w λv w1=>∃ m:Option Addr,v=(.pointer m)/\callK Tryz.prog 688 [] w1 (panR R) λv1 w2=>∃ xa xb xc xd xe:UInt64,v1=(e5 xa xb xc xd xe)/\semK Tryz.prog (Instr.alloc 645 true (.tuple #[])) w2 λv2 w3=>∃ l:Option Addr,v2=(.pointer l)/\onSome l λa=>semU Tryz.prog (storeVar 645 a (e5 xa xb xc xd xe)) w3 λw4=>∃ (inv:List TV->World->Prop) (mu:List TV->World->Nat),inv [.i .i64 (0:Int)] w4/\(∀ x:Int,∀ w5:World,inv [.i .i64 x] w5->condK (decide (x<(5:Int))) (((0<=x/\x<(5:Nat))/\onSome l λa1=>∃ x1:UInt64,Rd w5 (a1.add (x.toNat*1)) [.int .u64 x1.toNat]/\(0<=(by0.toNat:Int)/\((0<=x/\x<(5:Nat))/\onSome m λa2=>semU Tryz.prog (storeVar 304 (a2.add (x.toNat*1)) (.int .u64 ((shlU64 x1 ((by0.toNat:Int)).toNat)).toNat)) w5 λw6=>∃ j:List TV->World->Prop,(condK (decide (x > (0:Int))) (j [.b (decide ((0:UInt64)<by0))] w6) (j [.b false] w6))/\(∀ x2:Bool,∀ w7:World,j [.b x2] w7->condK x2 (∃ sx:World->Prop,sx w7.drew/\((0<=x/\x<(5:Nat))/\onSome m λa3=>((0<=(IntKind.i64.wrap (x - (1:Int)))/\(IntKind.i64.wrap (x - (1:Int)))<(5:Nat))/\onSome l λa4=>∃ x3:UInt64,(∀ w',sx w'->Rd w' (a3.add (x.toNat*1)) [.int .u64 x3.toNat])/\∃ x4:UInt64,(∀ w',sx w'->Rd w' (a4.add (((IntKind.i64.wrap (x - (1:Int)))).toNat*1)) [.int .u64 x4.toNat])/\(0<=((((64:UInt64) - by0)).toNat:Int)/\((0<=x/\x<(5:Nat))/\onSome m λa5=>((semU Tryz.prog (storeVar 304 (a5.add (x.toNat*1)) (.int .u64 ((x3 ||| (shrU64 x4 (((((64:UInt64) - by0)).toNat:Int)).toNat))).toNat)) w7.drew λw8=>(inv [.i .i64 (IntKind.i64.wrap (x+(1:Int)))] w8/\mu [.i .i64 (IntKind.i64.wrap (x+(1:Int)))] w8<mu [.i .i64 x] w5))/\True)))))) ((inv [.i .i64 (IntKind.i64.wrap (x+(1:Int)))] w7/\mu [.i .i64 (IntKind.i64.wrap (x+(1:Int)))] w7<mu [.i .i64 x] w5))))))) (∃ sx1:World->Prop,sx1 w5.drew/\onSome r λa6=>∃ xa1 xb1 xc1 xd1 xe1:UInt64,(∀ w',sx1 w'->Rd w' (a6.add 0) (l5 xa1 xb1 xc1 xd1 xe1))/\onSome m λa7=>∃ xa2 xb2 xc2 xd2 xe2:UInt64,(∀ w',sx1 w'->Rd w' a7 (l5 xa2 xb2 xc2 xd2 xe2))/\((callK Tryz.prog 689 [e5 xa1 xb1 xc1 xd1 xe1,e5 xa2 xb2 xc2 xd2 xe2] w5.drew (panR R) λv3 w9=>∃ x5:Bool,v3=(.bool x5)/\condK x5 (R (.returned (.tuple #[])) w9) (∃ (inv1:List TV->World->Prop) (mu1:List TV->World->Nat),inv1 [.u64 (0:UInt64),.i .i64 (0:Int)] w9/\(∀ borrow:UInt64,∀ x6:Int,∀ w10:World,inv1 [.u64 borrow,.i .i64 x6] w10->condK (decide (x6<(5:Int))) (∃ sx2:World->Prop,sx2 w10.drew/\onSome r λa8=>((0<=x6/\x6<(5:Nat))/\((0<=x6/\x6<(5:Nat))/\onSome m λa9=>onSome r λa10=>∃ x7:UInt64,(∀ w',sx2 w'->Rd w' ((a8.add 0).add (x6.toNat*1)) [.int .u64 x7.toNat])/\∃ x8:UInt64,(∀ w',sx2 w'->Rd w' (a9.add (x6.toNat*1)) [.int .u64 x8.toNat])/\((∃ v4 w11,(callFunc 690 #[.int .u64 x7.toNat,.int .u64 x8.toNat,.int .u64 borrow.toNat]).run Tryz.prog w10.drew = .ok (.value v4) w11/\∃ xa3 xb3:UInt64,v4=(.tuple #[.int .u64 xa3.toNat,.int .u64 xb3.toNat])/\((0<=x6/\x6<(5:Nat))/\((semU Tryz.prog (storeVar 304 ((a10.add 0).add (x6.toNat*1)) (.int .u64 xa3.toNat)) w11 λw12=>(inv1 [.u64 xb3,.i .i64 (IntKind.i64.wrap (x6+(1:Int)))] w12/\mu1 [.u64 xb3,.i .i64 (IntKind.i64.wrap (x6+(1:Int)))] w12<mu1 [.u64 borrow,.i .i64 x6] w10))/\True)))/\True)))) (R (.returned (.tuple #[])) w10))))/\True)))
theorem call632 (r:Option Addr) (by0:UInt64) {w:World} {R:Ending->World->Prop} (hden:sh632 r by0 w R):Calls Tryz.prog 632 #[.pointer r,.int .u64 by0.toNat] w R:=
 calls_of_form (.seq none .z (.seq none .z (.seq none (.seq none .z (.block none (.loop [(10,(.i .i64))] (.seq none .z (.seq none (.cond .z .z) (.seq none (.block none (.seq none .z (.seq none .z (.seq (some [(25,.b)]) .z (.cond (.draw 1 (.take 0 (.take 1 (.take 3 (.take 4 (.take 5 (.take 7 (.take 8 (.take 2 (.take 6 (.take 9 (.take 10 (.take 11 (.all [(12,.done)])))))))))))))) .z))))) .z)))))) (.seq none (.seq none (.draw 1 (.take 0 (.take 1 (.take 2 (.take 3 (.take 4 (.all [(5,.done)]))))))) (.cond .z .z)) (.seq none .z (.seq none .z (.block none (.loop [(7,.u64),(45,(.i .i64))] (.seq none .z (.seq none (.cond .z .z) (.seq none (.block none (.seq none .z (.draw 1 (.take 0 (.take 1 (.take 2 (.take 3 (.take 4 (.take 5 (.take 6 (.take 8 (.take 9 (.take 11 (.take 16 (.take 17 (.take 7 (.take 10 (.all [(12,(.take 13 (.take 14 (.take 15 (.take 18 (.all [(19,(.take 20 .done))]))))))])))))))))))))))))) .z))))))))))) Tryz.func632 (by kernel_rfl) [.p r,.u64 by0] (by kernel_rfl) (by kernel_rfl) hden
def sh688 (w:World) (R:Ending->World->Prop):Prop:=
 semK Tryz.prog (Instr.alloc 645 true (.tuple #[])) w λv w1=>∃ x:Option Addr,v=(.pointer x)/\onSome x λa=>semU Tryz.prog (storeVar 645 a (.agg #[.int .u64 ((6346243789798364141:UInt64)).toNat,.int .u64 ((1503914060200516822:UInt64)).toNat,.int .u64 ((0:UInt64)).toNat,.int .u64 ((1152921504606846976:UInt64)).toNat,.int .u64 ((0:UInt64)).toNat])) w1 λw2=>onSome x λa1=>∃ xa xb xc xd xe:UInt64,Rd w2 a1 (l5 xa xb xc xd xe)/\R (.returned (e5 xa xb xc xd xe)) w2
theorem call688 {w:World} {R:Ending->World->Prop} (hden:sh688 w R):Calls Tryz.prog 688 #[] w R:=
 calls_of_form (.seq none .z (.seq none .z .z)) Tryz.func688 (by kernel_rfl) [] (by kernel_rfl) (by kernel_rfl) hden
def sh689 (na nb nc nd ne ma mb mc md me:UInt64) (w:World) (R:Ending->World->Prop):Prop:=
 semK Tryz.prog (Instr.box 645 (e5 na nb nc nd ne)) w λv w1=>∃ n:Option Addr,v=(.pointer n)/\semK Tryz.prog (Instr.box 645 (e5 ma mb mc md me)) w1 λv1 w2=>∃ m:Option Addr,v1=(.pointer m)/\onSome n λa=>∃ xa xb xc xd xe:UInt64,Rd w2 a (l5 xa xb xc xd xe)/\onSome m λa1=>∃ xa1 xb1 xc1 xd1 xe1:UInt64,Rd w2 a1 (l5 xa1 xb1 xc1 xd1 xe1)/\pureSem Tryz.prog (do eqGuard .eql 645 (.tmp 6) (.tmp 7) (e5 xa xb xc xd xe) (e5 xa1 xb1 xc1 xd1 xe1); binOp .eql 645 (e5 xa xb xc xd xe) (e5 xa1 xb1 xc1 xd1 xe1)) λv2=>∃ x:Bool,v2=(.bool x)/\condK x (R (.returned (.bool false)) w2) (∃ (inv:List TV->World->Prop) (mu:List TV->World->Nat),inv [.i .i64 (4:Int)] w2/\(∀ i:Int,∀ w3:World,inv [.i .i64 i] w3->condK (decide (i>=(0:Int))) (((0<=i/\i<(5:Nat))/\onSome n λa2=>((0<=i/\i<(5:Nat))/\onSome m λa3=>∃ x1:UInt64,Rd w3.drew (a2.add (i.toNat*1)) [.int .u64 x1.toNat]/\∃ x2:UInt64,Rd w3.drew (a3.add (i.toNat*1)) [.int .u64 x2.toNat]/\condK (x1 != x2) (((0<=i/\i<(5:Nat))/\onSome n λa4=>((0<=i/\i<(5:Nat))/\onSome m λa5=>∃ x3:UInt64,Rd w3.drew.drew (a4.add (i.toNat*1)) [.int .u64 x3.toNat]/\∃ x4:UInt64,Rd w3.drew.drew (a5.add (i.toNat*1)) [.int .u64 x4.toNat]/\R (.returned (.bool (decide (x3<x4)))) w3.drew.drew))) ((inv [.i .i64 (IntKind.i64.wrap (i - (1:Int)))] w3.drew/\mu [.i .i64 (IntKind.i64.wrap (i - (1:Int)))] w3.drew<mu [.i .i64 i] w3))))) (R (.returned (.bool false)) w3)))
theorem call689 (na nb nc nd ne ma mb mc md me:UInt64) {w:World} {R:Ending->World->Prop} (hden:sh689 na nb nc nd ne ma mb mc md me w R):Calls Tryz.prog 689 #[e5 na nb nc nd ne,e5 ma mb mc md me] w R:=
 calls_of_form (.seq none .z (.seq none (.seq none .z (.cond (.seq none .z .z) .z)) (.seq none (.seq none .z (.block none (.loop [(5,(.i .i64))] (.seq none (.seq none .z (.cond .z .z)) (.seq none (.block none (.seq none (.draw 2 (.take 0 (.take 1 (.take 3 (.take 4 (.take 2 (.take 5 (.take 6 .done)))))))) (.cond (.seq none (.draw 2 (.take 0 (.take 1 (.take 3 (.take 4 (.take 2 (.take 5 (.take 6 (.take 7 .done))))))))) .z) .z))) .z))))) (.seq none .z .z)))) Tryz.func689 (by kernel_rfl) [.agg [.u64 na,.u64 nb,.u64 nc,.u64 nd,.u64 ne],.agg [.u64 ma,.u64 mb,.u64 mc,.u64 md,.u64 me]] (by kernel_rfl) (by kernel_rfl) hden
end Go.Proofs.YtmgcoepbccgjfaaGreatDoor
end
section
namespace Go.Sh
open Go
def val64:List UInt64->Nat
 | []=>0
 | x :: l=>x.toNat+18446744073709551616*val64 l
def le:List UInt8->Nat
 | []=>0
 | x :: l=>x.toNat+256*le l
def leb:Nat->Nat->List UInt8
 | 0,_=>[]
 | k+1,v=>UInt8.ofNat (v % 256) :: leb k (v / 256)
def LO:Nat:=7237005577332262213973186563042994240857116359379907606001950938285454250989
theorem LO_pos:0<LO:=by decide +kernel
theorem LO_lt:LO<256 ^ 32:=by decide +kernel
@[simp] theorem leb_len : ∀ k v,(leb k v).length=k
 | 0,_=>rfl
 | k+1,v=>by simp [leb,leb_len k]
theorem le_lt : ∀ l:List UInt8,le l<256 ^ l.length
 | []=>by simp [le]
 | x :: l=>by
   have:=le_lt l
   have:=x.toNat_lt
   simp only [le,List.length_cons,Nat.pow_succ]
   omega
theorem le_leb : ∀ k v,le (leb k v)=v % 256 ^ k
 | 0,v=>by simp [leb,le,Nat.mod_one]
 | k+1,v=>by
   have h:(UInt8.ofNat (v % 256)).toNat=v % 256:=by simp
   rw [leb,le,le_leb k,h,Nat.pow_succ,Nat.mul_comm (256 ^ k) 256,Nat.mod_mul]
theorem leb_le : ∀ l:List UInt8,leb l.length (le l)=l
 | []=>rfl
 | x :: l=>by
   have:=x.toNat_lt
   have e1:(x.toNat+256*le l) % 256=x.toNat:=by omega
   have e2:(x.toNat+256*le l) / 256=le l:=by omega
   simp only [le,List.length_cons,leb,e1,e2,leb_le l]
   simp
theorem leb_at : ∀ k v i,i<k->(leb k v)[i]? = some (UInt8.ofNat (v / 256 ^ i % 256))
 | 0,v,i,h=>by omega
 | k+1,v,0,h=>by simp [leb]
 | k+1,v,i+1,h=>by
   simp only [leb,List.getElem?_cons_succ,leb_at k (v / 256) i (by omega),Nat.div_div_eq_div_mul]
   rw [Nat.pow_succ,Nat.mul_comm 256]
theorem le_append : ∀ a b:List UInt8,le (a++b)=le a+256 ^ a.length*le b
 | [],b=>by simp [le]
 | x :: a,b=>by
   simp only [List.cons_append,le,le_append a b,List.length_cons,Nat.pow_succ]
   rw [Nat.mul_comm (256 ^ a.length) 256,Nat.mul_assoc]; omega
theorem val64_lt : ∀ l:List UInt64,val64 l<18446744073709551616 ^ l.length
 | []=>by simp [val64]
 | x :: l=>by
   have:=val64_lt l
   have:=x.toNat_lt
   simp only [val64,List.length_cons,Nat.pow_succ]
   omega
theorem val64_append : ∀ a b:List UInt64,val64 (a++b)=val64 a+18446744073709551616 ^ a.length*val64 b
 | [],b=>by simp [val64]
 | x :: a,b=>by
   simp only [List.cons_append,val64,val64_append a b,List.length_cons,Nat.pow_succ]
   rw [Nat.mul_comm (_ ^ a.length) 18446744073709551616,Nat.mul_assoc]; omega
theorem val_cmp : ∀ (n m:List UInt64) (i:Nat),n.length=m.length->(h:i<n.length)->(h':i<m.length)->n.drop (i+1)=m.drop (i+1)->n[i]≠m[i]->(val64 n<val64 m↔n[i]<m[i])
 | [],_,i,_,h,_,_,_=>by simp at h
 | x :: n,[],i,hl,_,_,_,_=>by simp at hl
 | x :: n,y :: m,0,hl,h,h',hd,hne=>by
   simp only [Nat.zero_add,List.drop_succ_cons,List.drop_zero] at hd
   subst hd
   simp only [val64,List.getElem_cons_zero,UInt64.lt_iff_toNat_lt]
   omega
 | x :: n,y :: m,i+1,hl,h,h',hd,hne=>by
   simp only [List.length_cons] at hl h h'
   simp only [List.drop_succ_cons] at hd
   simp only [List.getElem_cons_succ] at hne ⊢
   have h1:=val_cmp n m i (by omega) (by omega) (by omega) hd hne
   have h2:=val_cmp m n i (by omega) (by omega) (by omega) hd.symm (Ne.symm hne)
   have a1:=x.toNat_lt; have a2:=y.toNat_lt
   simp only [val64]
   rw [UInt64.lt_iff_toNat_lt] at h1 h2 ⊢
   have hne':n[i].toNat≠m[i].toNat:=λe=>hne (UInt64.toNat_inj.1 e)
   omega
theorem sub_step {x y b d b':Nat} (hb:b<=1) (hx:x<18446744073709551616) (hy:y<18446744073709551616) (hd:d=(x+18446744073709551616 - y - b) % 18446744073709551616) (hb':b'=if x<y+b then 1 else 0):x+b'*18446744073709551616=d+y+b/\b'<=1:=by
 subst hd hb'
 split <;> omega
theorem sub_keep {n m q:List UInt64} {k b b':Nat} {d:UInt64} (hk:k<n.length) (hk':k<m.length) (hq:q.length=k) (h:val64 (n.take k)+b*18446744073709551616 ^ k=val64 q+val64 (m.take k))
 (hs:n[k].toNat+b'*18446744073709551616=d.toNat+m[k].toNat+b):val64 (n.take (k+1))+b'*18446744073709551616 ^ (k+1)=val64 (q++[d])+val64 (m.take (k+1)):=by
 rw [List.take_succ_eq_append_getElem hk,List.take_succ_eq_append_getElem hk',val64_append,val64_append,val64_append]
 have e1:(n.take k).length=k:=by rw [List.length_take]; omega
 have e2:(m.take k).length=k:=by rw [List.length_take]; omega
 rw [e1,e2,hq]
 simp only [val64,Nat.mul_zero,Nat.add_zero,Nat.pow_succ]
 generalize 18446744073709551616 ^ k=Q at h ⊢
 have:=congrArg (Q * ·) hs
 simp only [Nat.mul_add] at this
 rw [Nat.mul_comm b Q] at h
 have e3:b'*(Q*18446744073709551616)=Q*(b'*18446744073709551616):=by rw [<-Nat.mul_assoc,<-Nat.mul_assoc,Nat.mul_comm b' Q]
 rw [e3]
 omega
theorem sub_end {n m q:List UInt64} {b:Nat} (hl:n.length=m.length) (hq:q.length=n.length) (h:val64 n+b*18446744073709551616 ^ n.length=val64 q+val64 m) (hge:val64 m<=val64 n):val64 q=val64 n - val64 m:=by
 have hq':=val64_lt q
 rw [hq] at hq'
 rcases Nat.eq_zero_or_pos b with rfl | hb
 ·omega
 ·have:18446744073709551616 ^ n.length<=b*18446744073709551616 ^ n.length:=Nat.le_mul_of_pos_left _ hb
  omega
theorem or_low (x s:Nat) (hs:s<256):((x <<< 8) % 18446744073709551616) ||| s=(x % 72057594037927936)*256+s:=by
 have e:(x <<< 8) % 18446744073709551616=(x % 72057594037927936) <<< 8:=by
  rw [Nat.shiftLeft_eq,Nat.shiftLeft_eq,show (18446744073709551616:Nat)=72057594037927936*2 ^ 8 from rfl,Nat.mul_mod_mul_right]
 rw [e,<-Nat.shiftLeft_add_eq_or_of_lt (by simpa using hs),Nat.shiftLeft_eq]
theorem shl8_byte (x:UInt64) (c:UInt8):(shlU64 x 8 ||| c.toUInt64).toNat=(x.toNat % 72057594037927936)*256+c.toNat:=by
 have:shlU64 x 8=x <<< 8:=rfl
 rw [this,UInt64.toNat_or,UInt64.toNat_shiftLeft]
 exact or_low _ _ c.toNat_lt
theorem shl8_limb (x y:UInt64):(shlU64 x 8 ||| shrU64 y 56).toNat=(x.toNat % 72057594037927936)*256+y.toNat / 72057594037927936:=by
 have e1:shlU64 x 8=x <<< 8:=rfl
 have e2:shrU64 y 56=y >>> 56:=rfl
 have hy:=y.toNat_lt
 rw [e1,e2,UInt64.toNat_or,UInt64.toNat_shiftLeft,UInt64.toNat_shiftRight]
 have e3:y.toNat >>> ((56:UInt64).toNat % 64)=y.toNat / 72057594037927936:=by
  rw [show (56:UInt64).toNat % 64=56 from rfl,Nat.shiftRight_eq_div_pow]
 rw [e3]
 exact or_low _ _ (by omega)
def times256 (n:List UInt64) (c:UInt8):List UInt64:=
 (List.range 5).map λi=>if i=0 then shlU64 (n.getD 0 0) 8 ||| c.toUInt64 else shlU64 (n.getD i 0) 8 ||| shrU64 (n.getD (i - 1) 0) 56
theorem times256_len (n:List UInt64) (c:UInt8):(times256 n c).length=5:=by simp [times256]
theorem times256_val {n:List UInt64} {c:UInt8} (hl:n.length=5) (hv:val64 n<2 ^ 312):val64 (times256 n c)=256*val64 n+c.toNat:=by
 match n,hl with
 | [a,b,d,g,f],_=>
   have e:times256 [a,b,d,g,f] c=[shlU64 a 8 ||| c.toUInt64,shlU64 b 8 ||| shrU64 a 56,shlU64 d 8 ||| shrU64 b 56,shlU64 g 8 ||| shrU64 d 56,shlU64 f 8 ||| shrU64 g 56]:=rfl
   rw [e]
   simp only [val64,shl8_byte,shl8_limb] at hv ⊢
   have:=a.toNat_lt; have:=b.toNat_lt; have:=d.toNat_lt; have:=g.toNat_lt; have:=f.toNat_lt; have:=c.toNat_lt
   omega
def lLimbs:List UInt64:=[6346243789798364141,1503914060200516822,0,1152921504606846976,0]
def lShift (k:Nat):List UInt64:=(List.range 5).map λi=>if 0<i/\0<k then shlU64 (lLimbs.getD i 0) k ||| shrU64 (lLimbs.getD (i - 1) 0) (64 - k) else shlU64 (lLimbs.getD i 0) k
theorem lShift_len (k:Nat):(lShift k).length=5:=by simp [lShift]
theorem lShift_all : ∀ k:Fin 9,val64 (lShift k.val)=LO*2 ^ k.val:=by decide +kernel
theorem lShift_val {k:Nat} (h:k<9):val64 (lShift k)=LO*2 ^ k:=lShift_all ⟨k,h⟩
theorem mod_step {v V k:Nat} (h:v % LO=V % LO) (hv:v<LO*2 ^ (k+1)) {u:Nat} (hu:u=if v<LO*2 ^ k then v else v - LO*2 ^ k):u % LO=V % LO/\u<LO*2 ^ k:=by
 subst hu
 rw [Nat.pow_succ,<-Nat.mul_assoc] at hv
 split
 ·exact ⟨h,by omega⟩
 ·refine ⟨?_,by omega⟩
  rw [<-h]
  exact Nat.sub_mul_mod (by omega)
theorem val64_limb : ∀ (l:List UInt64) (k:Nat),k<l.length->val64 l / 18446744073709551616 ^ k % 18446744073709551616=(l.getD k 0).toNat
 | [],k,h=>by simp at h
 | x :: l,0,h=>by have:=x.toNat_lt; simp [val64]
 | x :: l,k+1,h=>by
   have:=val64_limb l k (by simpa using h)
   have hx:=x.toNat_lt
   rw [Nat.pow_succ,Nat.mul_comm (_ ^ k),<-Nat.div_div_eq_div_mul]
   have e:val64 (x :: l) / 18446744073709551616=val64 l:=by simp only [val64]; omega
   rw [e,this]
   simp [List.getD]
theorem limb_byte {l:List UInt64} {i:Nat} (h:i<8*l.length):(shrU64 (l.getD (i / 8) 0) (8*(i % 8))).toUInt8=UInt8.ofNat (val64 l / 256 ^ i % 256):=by
 apply UInt8.toNat_inj.1
 have h1:=val64_limb l (i / 8) (by omega)
 have e0:(256:Nat) ^ i=18446744073709551616 ^ (i / 8)*256 ^ (i % 8):=by
  rw [show (18446744073709551616:Nat)=256 ^ 8 from rfl,<-Nat.pow_mul,<-Nat.pow_add]
  congr 1; omega
 have e1:shrU64 (l.getD (i / 8) 0) (8*(i % 8))=l.getD (i / 8) 0 >>> UInt64.ofNat (8*(i % 8)):=by unfold shrU64; rw [if_pos (by omega)]
 have e2:(UInt64.ofNat (8*(i % 8))).toNat % 64=8*(i % 8):=by
  rw [UInt64.toNat_ofNat',Nat.mod_eq_of_lt (by omega:8*(i % 8)<2 ^ 64)]; omega
 rw [e1,UInt64.toNat_toUInt8,UInt64.toNat_shiftRight,e2,<-h1,Nat.shiftRight_eq_div_pow,UInt8.toNat_ofNat',e0,<-Nat.div_div_eq_div_mul]
 generalize val64 l / 18446744073709551616 ^ (i / 8)=v
 have e3:(2:Nat) ^ (8*(i % 8))=256 ^ (i % 8):=by rw [Nat.pow_mul]
 rw [e3]
 have hj:i % 8<8:=Nat.mod_lt _ (by omega)
 generalize i % 8=j at hj
 rw [Nat.mod_mod]
 match j,hj with
 | 0,_=>simp only [Nat.pow_zero,Nat.div_one]; omega
 | 1,_=>simp only [Nat.pow_one]; omega
 | 2,_=>show v % 18446744073709551616 / 65536 % 2 ^ 8=v / 65536 % 256; omega
 | 3,_=>show v % 18446744073709551616 / 16777216 % 2 ^ 8=v / 16777216 % 256; omega
 | 4,_=>show v % 18446744073709551616 / 4294967296 % 2 ^ 8=v / 4294967296 % 256; omega
 | 5,_=>show v % 18446744073709551616 / 1099511627776 % 2 ^ 8=v / 1099511627776 % 256; omega
 | 6,_=>show v % 18446744073709551616 / 281474976710656 % 2 ^ 8=v / 281474976710656 % 256; omega
 | 7,_=>show v % 18446744073709551616 / 72057594037927936 % 2 ^ 8=v / 72057594037927936 % 256; omega
def val256:List UInt64->Nat
 | []=>0
 | x :: l=>x.toNat+256*val256 l
theorem val256_set : ∀ (l:List UInt64) (k:Nat) (x:UInt64),k<l.length->val256 (l.set k x)+256 ^ k*(l.getD k 0).toNat=val256 l+256 ^ k*x.toNat
 | [],k,x,h=>by simp at h
 | y :: l,0,x,h=>by simp [val256,List.getD]; omega
 | y :: l,k+1,x,h=>by
   have:=val256_set l k x (by simpa using h)
   have e:(y :: l).getD (k+1) 0=l.getD k 0:=rfl
   rw [e]
   simp only [List.set_cons_succ,val256,Nat.pow_succ,Nat.mul_comm (256 ^ k) 256,Nat.mul_assoc]
   omega
theorem val256_append : ∀ a b:List UInt64,val256 (a++b)=val256 a+256 ^ a.length*val256 b
 | [],b=>by simp [val256]
 | x :: a,b=>by
   simp only [List.cons_append,val256,val256_append a b,List.length_cons,Nat.pow_succ]
   rw [Nat.mul_comm (256 ^ a.length) 256,Nat.mul_assoc]; omega
theorem val256_zeros (n:Nat):val256 (List.replicate n 0)=0:=by
 induction n with
 | zero=>rfl
 | succ n ih=>simp [List.replicate_succ,val256,ih]
def redN (v:Nat):List UInt8:=leb 32 (v % LO)
@[simp] theorem redN_len (v:Nat):(redN v).length=32:=by simp [redN]
theorem le_redN (v:Nat):le (redN v)=v % LO:=by
 rw [redN,le_leb,Nat.mod_eq_of_lt]
 exact Nat.lt_trans (Nat.mod_lt _ LO_pos) LO_lt
theorem redN_le (b:List UInt8) (h:b.length=32):(redN (le b)=b)↔le b<LO:=by
 constructor
 ·intro e
  have:=le_redN (le b)
  rw [e] at this
  rw [this]; exact Nat.mod_lt _ LO_pos
 ·intro h'
  rw [redN,Nat.mod_eq_of_lt h',<-h,leb_le]
end Go.Sh
end
