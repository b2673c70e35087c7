/- The forms of the translated functions,their contracts and the plain laws behind them,put together by a program. -/
import Derived.Test.YtmgcoepbccgjfaaGreatDoorPB27
set_option linter.unusedSimpArgs false
set_option linter.unusedVariables false
set_option maxRecDepth 1000000
set_option maxHeartbeats 8000000
section
namespace Go.X
open Go Go.Sh
section
variable {P:Program} {G:World->Prop} {C:CallsX} {Y:Outs} {D:FuncId->Bool} {N fuel:Nat} {h h':Hp}
abbrev QL (D:FuncId->Bool) (N:Nat) (M:Nat->Prop) (S0:Nat->Prop) (w0:World) (ρ:Lab) (n:Nat) (LO:List Out) (e:Exit) (a:Act) (w:World):Prop:=∃ o∈LO,QX D N M S0 w0 ρ n o e a w
theorem ycode_wp (hm:P.follows .mixedOrders=true) (hC:CallsOk P G C) (hY : ∀ f xs h L,Y f xs h=some L->CallOkL P G f xs h L) {mg:Bool} : ∀ (c:Code) {S0:Nat->Prop} {w0:World} {M:Nat->Prop} {ρ:Lab} {h:Hp} {w:World} {env:XE} {a:Act} {LO:List Out},GOk G S0 w0->(∀ b,M b->Mk0 S0 w0 b)->Inv S0 w0 ρ h w->Fit N ρ env a->DefOk D M a.defers->ycode P D C Y N fuel mg c env h=some LO->
 c.wpIn (Fr none) 0 P (QL D N M S0 w0 ρ h.n LO) a w:=by
 intro c
 induction c with
 | skip=>
   intro S0 w0 M ρ h w env a LO hG hM hi he hd hr
   cases hr
   exact wpIn_skip ⟨_,List.mem_singleton.2 rfl,_,_,rfl,EndX.here hi he hd⟩
 | ret=>
   intro S0 w0 M ρ h w env a LO hG hM hi he hd hr
   cases hr
   exact wpIn_ret ⟨_,List.mem_singleton.2 rfl,_,_,rfl,EndX.here hi he hd⟩
 | exit id=>
   intro S0 w0 M ρ h w env a LO hG hM hi he hd hr
   cases hr
   exact wpIn_exit ⟨_,List.mem_singleton.2 rfl,_,_,rfl,EndX.here hi he hd⟩
 | region id ops draw=>
   intro S0 w0 M ρ h w env a LO hG hM hi he hd hr
   have hr:br draw (onO (xdraw P C N ops.toList env h) λq=>some [.nrm q.1 q.2]) (onO (yops P D C Y N ops.toList ops.toList env h) λl=>some (mapL (λq=>.nrm q.1 q.2) l))=some LO:=hr
   cases draw with
   | true=>
     rw [br_t] at hr
     obtain ⟨⟨e,h2⟩,h1,hr⟩:=onO_some hr
     cases hr
     have:=xdraw_wp (P:=P) (W:=DefOk D M) (r:=none) (id:=id) (Q:=QL D N M S0 w0 ρ h.n [.nrm e h2]) hm hC hG hi he hd h1 λa' w' ρ' g1 g2 g3 g4=>⟨_,List.mem_singleton.2 rfl,_,_,rfl,xdraw_mono h1,ρ',g1,g2,g3.mono λ_=>.inl,g4⟩
     simpa using this
   | false=>
     rw [br_f] at hr
     obtain ⟨l,h1,hr⟩:=onO_some hr
     cases hr
     have:=wp_region_list' (P:=P) (r:=none) (id:=id) (ops:=ops.toList) (Q:=QL D N M S0 w0 ρ h.n (mapL (λq=>.nrm q.1 q.2) l)) (a:=a) (w:=w)
      (yops_wp (W:=DefOk D M) (defIs λ_ _=>rfl) hC hY hG ops.toList hi he hd h1 λq hq a' w' ρ' g1 g2 g3 g4=>⟨.nrm q.1 q.2,by rw [mapL_eq]; exact List.mem_map.2 ⟨q,hq,rfl⟩,_,_,rfl,yops_mono _ h1 q hq,ρ',g1,g2,g3.mono λ_=>.inl,g4⟩)
     simpa using this
 | seq x y ihx ihy=>
   intro S0 w0 M ρ h w env a LO hG hM hi he hd hr
   have hr:(onO (ycode P D C Y N fuel mg x env h) λl=>allL (λo=>match o with
    | .nrm e h=>ycode P D C Y N fuel mg y e h
    | .ret e h=>some [.ret e h]
    | .ext i e h=>some [.ext i e h]) l)=some LO:=hr
   obtain ⟨l,h1,hr⟩:=onO_some hr
   refine wpIn_seq (wpIn_mono (ihx hG hM hi he hd h1) ?_)
   intro e a' w' hq
   obtain ⟨o1,ho1,hq⟩:=hq
   obtain ⟨x1,hx1,hin⟩:=allL_some hr o1 ho1
   cases e with
   | normal=>
     obtain ⟨e,h2,rfl,h3,ρ',h4,h5,h6,h7⟩:=hq
     exact wpIn_mono (ihy (InvG.gok hG (InvG.of h7)) (mk_step hM h7) (InvG.of h7).loc.to h5 h6 hx1) λ_ _ _ ⟨o,ho,hq⟩=>⟨o,hin o ho,QX.back h7 h4 h3 hq⟩
   | ret=>
     obtain ⟨e,h2,rfl,h3⟩:=hq
     cases hx1
     exact ⟨_,hin _ (List.mem_singleton.2 rfl),e,h2,rfl,h3⟩
   | exit i=>
     obtain ⟨e,h2,rfl,h3⟩:=hq
     cases hx1
     exact ⟨_,hin _ (List.mem_singleton.2 rfl),e,h2,rfl,h3⟩
   | _=>exact hq.elim
 | cond c x y ihx ihy=>
   intro S0 w0 M ρ h w env a LO hG hM hi he hd hr
   have hr:(onO (evX env c) λx'=>match x' with
    | .bool b=>br b (ycode P D C Y N fuel mg x env h) (ycode P D C Y N fuel mg y env h)
    | _=>none)=some LO:=hr
   obtain ⟨v,h1,hr⟩:=onO_some hr
   have hv:=evX_ok he.1 h1
   cases v with
   | bool b=>
     simp only [XR] at hv
     cases b with
     | true=>exact wpIn_cond_true hv (ihx hG hM hi he hd hr)
     | false=>exact wpIn_cond_false hv (ihy hG hM hi he hd hr)
   | _=>cases hr
 | block id x ih=>
   intro S0 w0 M ρ h w env a LO hG hM hi he hd hr
   have hr:(onO (ycode P D C Y N fuel mg x env h) λl=>some (mapL (λo=>match o with
    | .nrm e h=>.nrm e h
    | .ret e h=>.ret e h
    | .ext i e h=>br (Nat.beq i id) (.nrm e h) (.ext i e h)) l))=some LO:=hr
   obtain ⟨l,h1,hr⟩:=onO_some hr
   cases hr
   rw [mapL_eq]
   refine wpIn_block (wpIn_mono (ih hG hM hi he hd h1) ?_)
   intro e a' w' hq
   obtain ⟨o1,ho1,hq⟩:=hq
   cases e with
   | normal=>
     obtain ⟨e,h2,rfl,h3⟩:=hq
     exact ⟨.nrm e h2,List.mem_map.2 ⟨_,ho1,rfl⟩,e,h2,rfl,h3⟩
   | ret=>
     obtain ⟨e,h2,rfl,h3⟩:=hq
     exact ⟨.ret e h2,List.mem_map.2 ⟨_,ho1,rfl⟩,e,h2,rfl,h3⟩
   | exit i=>
     obtain ⟨e,h2,rfl,h3⟩:=hq
     simp only [Exit.inBlock]
     by_cases hii:i=id
     ·subst hii
      rw [if_pos rfl]
      refine ⟨.nrm e h2,List.mem_map.2 ⟨_,ho1,?_⟩,e,h2,rfl,h3⟩
      simp only [br_eq]
      rw [if_pos (Nat.beq_refl i)]
     ·rw [if_neg hii]
      refine ⟨.ext i e h2,List.mem_map.2 ⟨_,ho1,?_⟩,e,h2,rfl,h3⟩
      simp only [br_eq]
      rw [if_neg (λhb=>hii (Nat.eq_of_beq_eq_true hb))]
   | _=>exact hq.elim
 | loop x ih=>
   intro S0 w0 M ρ h w env a LO hG hM hi he hd hr
   have hr:(onO (yloop (ycode P D C Y N fuel mg x) fuel env h) λl=>br mg (mergeO N l) (some l))=some LO:=hr
   obtain ⟨l,hl,hr⟩:=onO_some hr
   have key : ∀ (m:Nat) {S0:Nat->Prop} {w0:World} {M:Nat->Prop} {ρ:Lab} {h:Hp} {w:World} {env:XE} {a:Act} {LO:List Out},GOk G S0 w0->(∀ b,M b->Mk0 S0 w0 b)->Inv S0 w0 ρ h w->Fit N ρ env a->DefOk D M a.defers->yloop (ycode P D C Y N fuel mg x) m env h=some LO->Code.roundsIn (Fr none) 0 P x (QL D N M S0 w0 ρ h.n LO) m a w:=by
    intro m
    induction m with
    | zero=>intro S0 w0 M ρ h w env a LO _ _ _ _ _ hr; cases hr
    | succ m ihm=>
      intro S0 w0 M ρ h w env a LO hG hM hi he hd hr
      have hr:(onO (ycode P D C Y N fuel mg x env h) λl=>allL (λo=>match o with
       | .nrm e h=>yloop (ycode P D C Y N fuel mg x) m e h
       | .ret e h=>some [.ret e h]
       | .ext i e h=>some [.ext i e h]) l)=some LO:=hr
      obtain ⟨l,h1,hr⟩:=onO_some hr
      rw [roundsIn_succ]
      refine wpIn_mono (ih hG hM hi he hd h1) ?_
      intro e a' w' hq
      obtain ⟨o1,ho1,hq⟩:=hq
      obtain ⟨x1,hx1,hin⟩:=allL_some hr o1 ho1
      cases e with
      | normal=>
        obtain ⟨e,h2,rfl,h3,ρ',h4,h5,h6,h7⟩:=hq
        have hmono : ∀ (m:Nat) (Q Q':Exit->Act->World->Prop) (a:Act) (w:World),(∀ e a w,Q e a w->Q' e a w)->Code.roundsIn (Fr none) 0 P x Q m a w->Code.roundsIn (Fr none) 0 P x Q' m a w:=by
         intro m
         induction m with
         | zero=>intro Q Q' a w _ h; exact h
         | succ m ihm=>
           intro Q Q' a w hQ h
           rw [roundsIn_succ] at h ⊢
           refine wpIn_mono h λe a w hh=>?_
           cases e with
           | normal=>exact ihm Q Q' a w hQ hh
           | _=>exact hQ _ _ _ hh
        exact hmono m _ _ _ _ (λ_ _ _ ⟨o,ho,hq⟩=>⟨o,hin o ho,QX.back h7 h4 h3 hq⟩) (ihm (InvG.gok hG (InvG.of h7)) (mk_step hM h7) (InvG.of h7).loc.to h5 h6 hx1)
      | ret=>
        obtain ⟨e,h2,rfl,h3⟩:=hq
        cases hx1
        exact ⟨_,hin _ (List.mem_singleton.2 rfl),e,h2,rfl,h3⟩
      | exit i=>
        obtain ⟨e,h2,rfl,h3⟩:=hq
        cases hx1
        exact ⟨_,hin _ (List.mem_singleton.2 rfl),e,h2,rfl,h3⟩
      | _=>exact hq.elim
   have hw:=wpIn_loop_rounds fuel (key fuel hG hM hi he hd hl)
   refine wpIn_mono hw λe a' w' hq=>?_
   cases mg with
   | false=>
     rw [br_f] at hr
     cases hr
     exact hq
   | true=>
     rw [br_t] at hr
     obtain ⟨o,ho,hq⟩:=hq
     exact mergeO_ok hr ho hq
 | rangeFunc g ps x y _ _=>
   intro S0 w0 M ρ h w env a LO hG hM hi he hd hr
   have hr:(onO (evX env g) λv=>match xrf P C N ps x y env h v with
    | some o=>some [o]
    | none=>yrf P Y N ps x y env h v)=some LO:=hr
   obtain ⟨v,h2,hr⟩:=onO_some hr
   cases hx:xrf P C N ps x y env h v with
   | some o=>
     rw [hx] at hr
     cases hr
     exact wpIn_mono (xrf_wp hC hG hM hi he hd h2 hx) λ_ _ _ hq=>⟨_,List.mem_singleton.2 rfl,hq⟩
   | none=>
     rw [hx] at hr
     exact yrf_wp hY hG hM hi he hd h2 hr
 | scope _ _=>intro S0 w0 M ρ h w env a o hG hM hi he hd hr; cases hr
 | label _=>intro S0 w0 M ρ h w env a o hG hM hi he hd hr; cases hr
 | goto _=>intro S0 w0 M ρ h w env a o hG hM hi he hd hr; cases hr
 | refuse _=>intro S0 w0 M ρ h w env a o hG hM hi he hd hr; cases hr
theorem ybody_ok (hm:P.follows .mixedOrders=true) (hD:DefFn P D) (hC:CallsOk P G C) (hY : ∀ f xs h L,Y f xs h=some L->CallOkL P G f xs h L) {mg:Bool} {f:FuncId} {fn:Func} (hf:P.funcs[f]? = some fn) {xs:List XV} {LO:List (XV×Hp)} (hr:ybody P D C Y fuel mg fn xs h=some LO):CallOkL P G f xs h LO:=by
 intro S0 w0 ρ w vs hG hi hxs
 unfold ybody at hr
 cases hb:fn.body with
 | none=>rw [hb] at hr; cases hr
 | some c=>
   rw [hb] at hr
   simp only at hr
   obtain ⟨h1,hr⟩:=br_some hr
   obtain ⟨l,h2,hr⟩:=onO_some hr
   rw [len_eq] at h1
   have hfit:=enter_fit hxs (Nat.le_of_ble_eq_true h1)
   refine callsIn_wide.1 (callsIn_of_wp_marks (F:=Fence.wide) (n:=0) hf hb trivial ?_)
   refine wpIn_mono (ycode_wp (M:=λ_=>False) hm hC hY c hG (λ_ e=>e.elim) hi hfit defOk_nil h2) ?_
   have fin : ∀ (e:XE) (h2:Hp) (a:Act) (w':World) (x:List (XV×Hp)),(onO (resX P e h2 fn.results.toList) λl=>some [(packX1 l,h2)])=some x->(∀ b∈x,b∈LO)->EndX D fn.ntmps (λ_=>False) S0 w0 ρ h.n e h2 a w'->
    LeavesInM Fence.wide 0 P fn a.tmps (λe w'=>∃ q∈LO,∃ v ρ',e = .returned v/\Lab.up h.n ρ ρ'/\XR ρ' q.1 v/\Inv S0 w0 ρ' q.2 w') a.defers .returning w':=λe h2 a w' x hr hin hq=>by
    obtain ⟨h3,ρ',h4,h5,h6,h7⟩:=hq
    obtain ⟨l,h8,h9⟩:=onO_some hr
    cases h9
    refine leave_quiet hD _ _ h7 (h6.mono λb hb=>hb.elim (λe=>e.elim) id) λw2 h7'=>?_
    obtain ⟨v,h10,h11⟩:=results_run h7' h5.1 h8
    exact ⟨v,h10,_,hin _ (List.mem_singleton.2 rfl),v,ρ',rfl,h4,h11,h7'⟩
   intro e a w' hq
   obtain ⟨o1,ho1,hq⟩:=hq
   obtain ⟨x1,hx1,hin⟩:=allL_some hr o1 ho1
   cases e with
   | normal=>
     obtain ⟨e,h3,rfl,h4⟩:=hq
     exact fin e h3 a w' x1 hx1 hin h4
   | ret=>
     obtain ⟨e,h3,rfl,h4⟩:=hq
     exact fin e h3 a w' x1 hx1 hin h4
   | exit i=>
     obtain ⟨e,h3,rfl,h4⟩:=hq
     cases hx1
   | _=>exact hq.elim
end
noncomputable def rangeX (a k:Nat):List Nat:=Nat.rec (motive:=λ_=>Nat->List Nat) (λ_=>[]) (λ_ ih a=>a :: ih (Nat.succ a)) k a
noncomputable def labsOf (l:List XV):List Nat:=List.rec (motive:=λ_=>List Nat) [] (λx _ ih=>match labOf x with
 | some L=>L :: ih
 | none=>ih) l
noncomputable def reach2 (xs:List XV) (h:Hp):List Nat:=app (labsOf (flat3 xs)) (List.rec (motive:=λ_=>List Nat) [] (λL _ ih=>match h.t.get L with
 | some o=>app (labsOf (cellsOf o)) ih
 | none=>ih) (labsOf (flat3 xs)))
noncomputable def idO (o:XO):Bool:=match renO (λi=>i) o with
 | some o'=>sameB o o'
 | none=>false
theorem idO_ok {o:XO} (h:idO o=true):renO (λi=>i) o=some o:=by
 unfold idO at h
 cases hr:renO (λi=>i) o with
 | none=>rw [hr] at h; cases h
 | some o'=>rw [hr] at h; rw [sameB_eq h]
noncomputable def keepT (t:Tr XO) (K:List Nat):Tr XO:=List.rec (motive:=λ_=>Tr XO) .lf (λL _ ih=>match t.get L with
 | some o=>ih.set (some o) L
 | none=>ih) K
theorem keepT_get {t:Tr XO} : ∀ (K:List Nat) {j:Nat} {o:XO},(keepT t K).get j=some o->t.get j=some o/\j∈K
 | [],j,o,h=>by
   have h:(Tr.lf:Tr XO).get j=some o:=h
   rw [Tr.get_l] at h; cases h
 | L :: K,j,o,h=>by
   have h:(match t.get L with
    | some o=>(keepT t K).set (some o) L
    | none=>keepT t K).get j=some o:=h
   cases hL:t.get L with
   | none=>
     rw [hL] at h
     obtain ⟨h1,h2⟩:=keepT_get K h
     exact ⟨h1,List.mem_cons_of_mem _ h2⟩
   | some o1=>
     rw [hL] at h
     simp only [Tr.get_set] at h
     by_cases hj:j=L
     ·subst hj
      rw [if_pos rfl] at h; cases h
      exact ⟨hL,List.mem_cons_self⟩
     ·rw [if_neg hj] at h
      obtain ⟨h1,h2⟩:=keepT_get K h
      exact ⟨h1,List.mem_cons_of_mem _ h2⟩
noncomputable def backT (t t0:Tr XO) (ls:List Nat):Tr XO:=List.rec (motive:=λ_=>Tr XO) t (λL _ ih=>match t0.get L with
 | some o=>ih.set (br (idO o) (some o) none) L
 | none=>ih.set none L) ls
theorem backT_get {t t0:Tr XO} : ∀ (ls:List Nat) {j:Nat} {o:XO},(backT t t0 ls).get j=some o->(t0.get j=some o/\renO (λi=>i) o=some o)\/(t.get j=some o/\j ∉ ls)
 | [],j,o,h=>.inr ⟨h,List.not_mem_nil⟩
 | L :: ls,j,o,h=>by
   have h:(match t0.get L with
    | some o=>(backT t t0 ls).set (br (idO o) (some o) none) L
    | none=>(backT t t0 ls).set none L).get j=some o:=h
   have rest:j≠L->(backT t t0 ls).get j=some o->(t0.get j=some o/\renO (λi=>i) o=some o)\/(t.get j=some o/\j ∉ L :: ls):=λhj h=>by
    rcases backT_get ls h with h1 | ⟨h1,h2⟩
    ·exact .inl h1
    ·exact .inr ⟨h1,λhm=>(List.mem_cons.1 hm).elim hj h2⟩
   cases hL:t0.get L with
   | none=>
     rw [hL] at h
     simp only [Tr.get_set] at h
     by_cases hj:j=L
     ·rw [if_pos hj] at h; cases h
     ·rw [if_neg hj] at h; exact rest hj h
   | some o1=>
     rw [hL] at h
     simp only [Tr.get_set] at h
     by_cases hj:j=L
     ·subst hj
      rw [if_pos rfl] at h
      cases hi:idO o1 with
      | false=>rw [hi,br_f] at h; cases h
      | true=>
        rw [hi,br_t] at h; cases h
        exact .inl ⟨hL,idO_ok hi⟩
     ·rw [if_neg hj] at h; exact rest hj h
noncomputable def viaK (K:List Nat) (run:Hp->Option (XV×Hp)) (xs:List XV) (h:Hp):Option (XV×Hp):=
 br (allX (λL=>Nat.blt L h.n) K) (br (match renA (λi=>i) xs with | some xs'=>sameA xs xs' | none=>false) (br (allX (λL=>match h.t.get L with | some o=>idO o | none=>true) K)
  (onO (run ⟨keepT h.t K,h.n⟩) λq=>br (Nat.ble h.n q.2.n) (br (match renX (λi=>i) q.1 with | some y'=>sameX q.1 y' | none=>false)
   (some (q.1,⟨backT h.t q.2.t (app K (rangeX h.n (Nat.sub q.2.n h.n))),q.2.n⟩)) none) none) none) none) none
theorem ph_range (n i:Nat):ph (List.range n) n i=i:=by
 rcases Nat.lt_or_ge i n with h | h
 ·exact ph_lt (by rw [List.getElem?_range h])
 ·rw [ph_ge (by simpa using h)]; simp; omega
theorem viaK_ok {P:Program} {G:World->Prop} {f:FuncId} {K:List Nat} {run:Hp->Option (XV×Hp)} {xs:List XV} {h h':Hp} {y:XV} (hrun : ∀ h0 y h1,run h0=some (y,h1)->CallOk P G f xs h0 y h1) (hr:viaK K run xs h=some (y,h')):CallOk P G f xs h y h':=by
 have hph:ph (List.range h.n) h.n=λi=>i:=funext (ph_range h.n)
 unfold viaK at hr
 obtain ⟨h1,hr⟩:=br_some hr
 obtain ⟨h2,hr⟩:=br_some hr
 obtain ⟨h3,hr⟩:=br_some hr
 obtain ⟨⟨y1,h0'⟩,h4,hr⟩:=onO_some hr
 obtain ⟨h5,hr⟩:=br_some hr
 obtain ⟨h6,hr⟩:=br_some hr
 cases hr
 rw [allX_eq,List.all_eq_true] at h1 h3
 have h5:=Nat.le_of_ble_eq_true h5
 have hxs:renA (λi=>i) xs=some xs:=by
  cases hq:renA (λi=>i) xs with
  | none=>rw [hq] at h2; cases h2
  | some xs'=>rw [hq] at h2; rw [sameA_eq h2]
 have h6:(match renX (λi=>i) y1 with | some y'=>sameX y1 y' | none=>false)=true:=h6
 have hy:renX (λi=>i) y1=some y1:=by
  cases hq:renX (λi=>i) y1 with
  | none=>rw [hq] at h6; cases h6
  | some y'=>rw [hq] at h6; rw [sameX_eq h6]
 refine call_frame (hrun _ _ _ h4) (List.range h.n) (by simp) (λM hM=>by simpa using hM) List.nodup_range (by rw [hph]; exact hxs) (by rw [hph]; exact hy) (λi o hio=>?_) ?_ λM o hM=>?_
 ·obtain ⟨g1,g2⟩:=keepT_get K hio
  have g3:=h1 i g2
  have g4:=h3 i g2
  rw [g1] at g4
  rw [hph]
  exact ⟨by simpa [Nat.blt_eq] using g3,o,idO_ok g4,g1⟩
 ·show h0'.n=h.n+(h0'.n - (List.range h.n).length)
  simp only [] at h5
  rw [List.length_range]; omega
 ·rw [hph]
  rcases backT_get _ hM with ⟨g1,g2⟩ | ⟨g1,g2⟩
  ·exact .inl ⟨M,o,rfl,g1,g2⟩
  ·refine .inr ⟨g1,λi hi e=>?_⟩
   subst e
   cases hg:(keepT h.t K).get M with
   | none=>exact hi hg
   | some o1=>
     refine g2 ?_
     rw [app_eq]
     exact List.mem_append_left _ (keepT_get K hg).2
noncomputable def commL {α:Type} (same:α->α->Bool) (t:Tr α) (l:List (Tr α)) (ls:List Nat):Tr α:=
 List.rec (motive:=λ_=>Tr α) .lf (λi _ r=>match t.get i with
  | none=>r
  | some o=>br (allX (λ(s:Tr α)=>match s.get i with | none=>false | some o'=>same o o') l) (r.set (some o) i) r) ls
theorem commL_get {α:Type} {same:α->α->Bool} (hs : ∀ a b,same a b=true->a=b) {t:Tr α} {l:List (Tr α)} : ∀ (ls:List Nat) {j:Nat} {o:α},(commL same t l ls).get j=some o->t.get j=some o/\∀ s∈l,s.get j=some o
 | [],j,o,h=>by
   have h:(Tr.lf:Tr α).get j=some o:=h
   rw [Tr.get_l] at h; cases h
 | n :: ls,j,o,h=>by
   have h:(match t.get n with
    | none=>commL same t l ls
    | some o=>br (allX (λ(s:Tr α)=>match s.get n with | none=>false | some o'=>same o o') l) ((commL same t l ls).set (some o) n) (commL same t l ls)).get j=some o:=h
   cases ht:t.get n with
   | none=>rw [ht] at h; exact commL_get hs ls h
   | some o1=>
     rw [ht] at h
     simp only at h
     cases ha:allX (λ(s:Tr α)=>match s.get n with | none=>false | some o'=>same o1 o') l with
     | false=>rw [ha,br_f] at h; exact commL_get hs ls h
     | true=>
       rw [ha,br_t,Tr.get_set] at h
       by_cases hj:j=n
       ·subst hj
        rw [if_pos rfl] at h; cases h
        refine ⟨ht,λs hm=>?_⟩
        rw [allX_eq,List.all_eq_true] at ha
        have:=ha s hm
        cases hsg:s.get j with
        | none=>rw [hsg] at this; cases this
        | some o'=>rw [hsg] at this; rw [hs _ _ this]
       ·rw [if_neg hj] at h; exact commL_get hs ls h
noncomputable def mergeK (K:List Nat) (n:Nat) (l:List (XV×Hp)):Option (XV×Hp):=match l with
 | []=>none
 | q :: r=>match r with
   | []=>some q
   | _ :: _=>br (allX (λp=>sameX q.1 p.1) r) (some (q.1,⟨commL sameB q.2.t (mapL (λp=>p.2.t) r) (app K (rangeX n (Nat.sub q.2.n n))),maxN q.2.n (mapL Prod.snd r)⟩)) none
theorem mergeK_ok {P:Program} {G:World->Prop} {f:FuncId} {xs:List XV} {h h':Hp} {K:List Nat} {n:Nat} {LO:List (XV×Hp)} (hL:CallOkL P G f xs h LO) {y:XV} (hr:mergeK K n LO=some (y,h')):CallOk P G f xs h y h':=by
 intro S0 w0 ρ w vs hG hi hxs
 refine Calls.mono (hL S0 w0 ρ w vs hG hi hxs) λe w' ⟨q,hq,v,ρ',h1,h2,h3,h4⟩=>⟨v,ρ',h1,h2,?_⟩
 unfold mergeK at hr
 cases LO with
 | nil=>cases hq
 | cons q0 r=>
   simp only at hr
   cases r with
   | nil=>
     cases hr
     obtain rfl:=List.mem_singleton.1 hq
     exact ⟨h3,h4⟩
   | cons q1 r1=>
     simp only at hr
     obtain ⟨ha,hr⟩:=br_some hr
     cases hr
     rw [allX_eq,List.all_eq_true] at ha
     obtain ⟨m1,m2⟩:=maxN_ge (n:=q0.2.n) (mapL Prod.snd (q1 :: r1))
     rcases List.mem_cons.1 hq with rfl | hq
     ·exact ⟨h3,h4.less m1 λL o e=>(commL_get (λa b=>sameB_eq) _ e).1⟩
     ·have hm:q.2∈mapL Prod.snd (q1 :: r1):=by rw [mapL_eq]; exact List.mem_map.2 ⟨q,hq,rfl⟩
      have hm2:q.2.t∈mapL (λp:XV×Hp=>p.2.t) (q1 :: r1):=by rw [mapL_eq]; exact List.mem_map.2 ⟨q,hq,rfl⟩
      exact ⟨by rw [sameX_eq (ha q hq)]; exact h3,h4.less (m2 _ hm) λL o e=>(commL_get (λa b=>sameB_eq) _ e).2 _ hm2⟩
noncomputable def wcalls (P:Program) (D:FuncId->Bool) (nat:CallsX) (kd:FuncId->Nat) (fuel:Nat) (d:Nat):CallsX×Outs:=
 Nat.rec (motive:=λ_=>CallsX×Outs) (nat,λ_ _ _=>none) (λ_ ih=>(⟨λf xs h=>match nat.c f xs h with
  | some r=>some r
  | none=>onO (P.funcs[f]?) λfn=>br (Nat.beq (kd f) 0) (xbody P D ih.1 fuel fn xs h) (br (Nat.beq (kd f) 1) none (br (Nat.beq (kd f) 2)
    (viaK (reach2 xs h) (λh0=>onO (ybody P D ih.1 ih.2 fuel false fn xs h0) (mergeK (reach2 xs h) h.n)) xs h)
    (onO (ybody P D ih.1 ih.2 fuel true fn xs h) (mergeK [] 0)))),
  nat.e,nat.g,nat.q,λL xs h=>xyield P ih.1 fuel L xs h,nat.x⟩,
  λf xs h=>br (Nat.beq (kd f) 1) (onO (P.funcs[f]?) λfn=>ybody P D ih.1 ih.2 fuel false fn xs h) none)) d
theorem wcalls_ok {P:Program} {G:World->Prop} {D:FuncId->Bool} {fuel:Nat} (hm:P.follows .mixedOrders=true) (hD:DefFn P D) {nat:CallsX} (hn:CallsOk P G nat) (kd:FuncId->Nat) : ∀ d,CallsOk P G (wcalls P D nat kd fuel d).1/\∀ f xs h L,(wcalls P D nat kd fuel d).2 f xs h=some L->CallOkL P G f xs h L
 | 0=>⟨hn,λf xs h L hr=>by cases hr⟩
 | d+1=>by
   obtain ⟨i1,i2⟩:=wcalls_ok (fuel:=fuel) hm hD hn kd d
   refine ⟨⟨λf xs h y h' hr=>?_,hn.e,hn.g,hn.q,λL xs h y h' hr=>xyield_ok hm i1 hr,hn.x⟩,λf xs h L hr=>?_⟩
   ·have hr:(match nat.c f xs h with
     | some r=>some r
     | none=>onO (P.funcs[f]?) λfn=>br (Nat.beq (kd f) 0) (xbody P D (wcalls P D nat kd fuel d).1 fuel fn xs h) (br (Nat.beq (kd f) 1) none (br (Nat.beq (kd f) 2)
       (viaK (reach2 xs h) (λh0=>onO (ybody P D (wcalls P D nat kd fuel d).1 (wcalls P D nat kd fuel d).2 fuel false fn xs h0) (mergeK (reach2 xs h) h.n)) xs h)
       (onO (ybody P D (wcalls P D nat kd fuel d).1 (wcalls P D nat kd fuel d).2 fuel true fn xs h) (mergeK [] 0)))))=some (y,h'):=hr
    cases hnat:nat.c f xs h with
    | some r=>
      rw [hnat] at hr
      cases hr
      exact hn.c f xs h y h' hnat
    | none=>
      rw [hnat] at hr
      simp only at hr
      obtain ⟨fn,h1,hr⟩:=onO_some hr
      cases k0:Nat.beq (kd f) 0 with
      | true=>
        rw [k0,br_t] at hr
        exact xbody_ok hm hD i1 h1 hr
      | false=>
        rw [k0,br_f] at hr
        obtain ⟨_,hr⟩:=br_none hr
        cases k2:Nat.beq (kd f) 2 with
        | true=>
          rw [k2,br_t] at hr
          refine viaK_ok (λh0 y h1' hq=>?_) hr
          obtain ⟨LO,h2,hq⟩:=onO_some hq
          exact mergeK_ok (ybody_ok hm hD i1 i2 h1 h2) hq
        | false=>
          rw [k2,br_f] at hr
          obtain ⟨LO,h2,hr⟩:=onO_some hr
          exact mergeK_ok (ybody_ok hm hD i1 i2 h1 h2) hr
   ·have hr:br (Nat.beq (kd f) 1) (onO (P.funcs[f]?) λfn=>ybody P D (wcalls P D nat kd fuel d).1 (wcalls P D nat kd fuel d).2 fuel false fn xs h) none=some L:=hr
    obtain ⟨_,hr⟩:=br_some hr
    obtain ⟨fn,h1,hr⟩:=onO_some hr
    exact ybody_ok hm hD i1 i2 h1 hr
end Go.X
end
section
namespace Go.Proofs.YtmgcoepbccgjfaaGreatDoor
open Go Go.Sh Go.X
noncomputable def kd (f:FuncId):Nat:=X.br (Nat.beq f 204) 1 (X.br (Nat.beq f 302) 1 (X.br (Nat.beq f 203) 1 (X.br (Nat.beq f 121) 2 (X.br (Nat.beq f 391) 1 (X.br (Nat.beq f 170) 2 (X.br (Nat.beq f 100) 2 (X.br (Nat.beq f 56) 3 0)))))))
end Go.Proofs.YtmgcoepbccgjfaaGreatDoor
end
section
namespace Go.X
open Go Go.Sh
structure EntG where
 f:FuncId
 paths:List (Option Nat×Nat)
 xs:List XV
 obs:List (Option XO)
 y:XV
 ups:List (Nat×Option XO)
 n:Nat
noncomputable def mkG (l:List (Option XO)):Nat->Tr XO->Tr XO:=List.rec (motive:=λ_=>Nat->Tr XO->Tr XO) (λ_ t=>t) (λo _ ih i t=>ih (Nat.succ i) (match o with | none=>t | some o=>t.set (some o) i)) l
theorem mkG_get : ∀ (l:List (Option XO)) (i:Nat) (t:Tr XO) (j:Nat),(mkG l i t).get j=if j<i then t.get j else match l[j - i]? with | some (some o)=>some o | _=>t.get j
 | [],i,t,j=>by
   show t.get j=_
   simp
 | o :: l,i,t,j=>by
   show (mkG l (i+1) (match o with | none=>t | some o=>t.set (some o) i)).get j=_
   rw [mkG_get l (i+1) _ j]
   have hget:(match o with | none=>t | some o=>t.set (some o) i).get j=if j=i then (match o with | none=>t.get j | some o=>some o) else t.get j:=by
    cases o with
    | none=>simp
    | some o=>simp only [Tr.get_set]
   rw [hget]
   by_cases h1:j<i
   ·rw [if_pos (by omega),if_neg (by omega),if_pos h1]
   ·by_cases h2:j=i
    ·subst h2
     rw [if_pos (by omega),if_pos rfl,if_neg (by omega)]
     simp
     cases o <;> rfl
    ·rw [if_neg (by omega),if_neg h2,if_neg h1]
     obtain ⟨k,hk⟩ : ∃ k,j - i=k+1:=⟨j - i - 1,by omega⟩
     rw [hk,List.getElem?_cons_succ,show j - (i+1)=k by omega]
noncomputable def EntG.heap (e:EntG):Hp:=⟨mkG e.obs 0 .lf,len e.obs⟩
theorem EntG.get (e:EntG) {i:Nat} {o:XO} : e.heap.t.get i=some o↔e.obs[i]? = some (some o):=by
 show (mkG e.obs 0 .lf).get i=_↔_
 rw [mkG_get,if_neg (by omega),Nat.sub_zero]
 cases h:e.obs[i]? with
 | none=>simp [Tr.get_l]
 | some o'=>cases o' <;> simp [Tr.get_l]
def EntGOk (P:Program) (G:World->Prop) (e:EntG):Prop:=∃ h',CallOk P G e.f e.xs e.heap e.y h'/\h'.n=e.n/\(∀ q∈e.ups,h'.t.get q.1=q.2)/\∀ i o,e.obs[i]? = some (some o)->(∀ q∈e.ups,q.1≠i)->h'.t.get i=some o
noncomputable def keptG (t:Tr XO) (ups:List (Nat×Option XO)) (l:List (Option XO)) (i:Nat):Bool:=List.rec (motive:=λ_=>Nat->Bool) (λ_=>true) (λo _ ih i=>br (match o with
 | none=>true
 | some o=>br (allX (λu=>br (Nat.beq u.1 i) false true) ups) (match t.get i with | none=>false | some o'=>sameB o o') true) (ih (Nat.succ i)) false) l i
theorem keptG_spec {t:Tr XO} {ups:List (Nat×Option XO)} : ∀ (l:List (Option XO)) (i:Nat),keptG t ups l i=true->
 ∀ j o,l[j]? = some (some o)->(∀ q∈ups,q.1≠i+j)->t.get (i+j)=some o
 | [],i,h,j,o,hj,_=>by simp at hj
 | o' :: l,i,h,j,o,hj,hq=>by
   obtain ⟨h1,h2⟩:=br_and h
   cases j with
   | zero=>
     simp only [List.getElem?_cons_zero,Option.some.injEq] at hj
     subst hj
     have:allX (λu=>br (Nat.beq u.1 i) false true) ups=true:=by
      rw [allX_eq,List.all_eq_true]
      intro u hu
      have:=hq u hu
      rw [br_not]
      cases hb:Nat.beq u.1 i with
      | false=>rfl
      | true=>exact absurd (Nat.eq_of_beq_eq_true hb) this
     simp only at h1
     rw [this,br_t] at h1
     cases ht:t.get i with
     | none=>rw [ht] at h1; cases h1
     | some o2=>rw [ht] at h1; rw [sameB_eq h1]
   | succ j=>
     simp only [List.getElem?_cons_succ] at hj
     have:=keptG_spec l (i+1) h2 j o hj λq hq'=>by have:=hq q hq'; omega
     rw [show i+(j+1)=i+1+j by omega]
     exact this
noncomputable def obsG (φ:Nat->Nat) (t:Tr XO) (l:List (Option XO)):Nat->Bool:=List.rec (motive:=λ_=>Nat->Bool) (λ_=>true) (λo _ ih i=>br (match o with
 | none=>true
 | some o=>(match renO φ o with
   | none=>false
   | some o'=>(match t.get (φ i) with | none=>false | some o2=>sameB o' o2))) (ih (Nat.succ i)) false) l
theorem obsG_ok {φ:Nat->Nat} {t:Tr XO} : ∀ {l:List (Option XO)} {i:Nat},obsG φ t l i=true->∀ j o,l[j]? = some (some o)->∃ o',renO φ o=some o'/\t.get (φ (i+j))=some o'
 | [],i,h,j,o,hj=>by simp at hj
 | o1 :: l,i,h,j,o,hj=>by
   obtain ⟨h1,h2⟩:=br_and h
   cases j with
   | zero=>
     simp only [List.getElem?_cons_zero,Option.some.injEq] at hj
     subst hj
     simp only at h1
     cases hr:renO φ o with
     | none=>rw [hr] at h1; cases h1
     | some o'=>
       rw [hr] at h1
       simp only at h1
       cases ht:t.get (φ i) with
       | none=>rw [ht] at h1; cases h1
       | some o2=>rw [ht] at h1; exact ⟨o',rfl,by rw [sameB_eq h1]⟩
   | succ j=>
     simp only [List.getElem?_cons_succ] at hj
     obtain ⟨o',h3,h4⟩:=obsG_ok h2 j o hj
     exact ⟨o',h3,by rw [show i+(j+1)=i+1+j by omega]; exact h4⟩
noncomputable def entG (e:EntG) (xs:List XV) (h:Hp):Option (XV×Hp):=
 onO (findL h xs e.paths []) λl=>br (br (Nat.beq (len l) (len e.obs)) (br (allX (λM=>Nat.blt M h.n) l) (br (nodupX l) (br (match renA (ph l h.n) e.xs with | none=>false | some xs'=>sameA xs' xs) (obsG (ph l h.n) h.t e.obs 0) false) false) false) false)
  (onO (renX (ph l h.n) e.y) λy=>onO (upsX (ph l h.n) e.ups h.t) λt=>some (y,⟨t,Nat.add h.n (Nat.sub e.n (len l))⟩)) none
theorem entG_ok {P:Program} {G:World->Prop} {e:EntG} (he:EntGOk P G e) {xs:List XV} {h h':Hp} {y:XV} (hr:entG e xs h=some (y,h')):CallOk P G e.f xs h y h':=by
 unfold entG at hr
 obtain ⟨l,_,hr1⟩:=onO_some hr
 obtain ⟨h1,hr2⟩:=br_some hr1
 obtain ⟨y',h2,hr3⟩:=onO_some hr2
 obtain ⟨t,h3,hr4⟩:=onO_some hr3
 clear hr hr1 hr2 hr3
 cases hr4
 obtain ⟨a1,a2⟩:=br_and h1
 obtain ⟨a2,a3⟩:=br_and a2
 obtain ⟨a3,a4⟩:=br_and a3
 obtain ⟨a4,a5⟩:=br_and a4
 obtain ⟨h0',c1,c2,c3,c4⟩:=he
 have hll:=Nat.eq_of_beq_eq_true a1
 rw [len_eq,len_eq] at hll
 have hxs:renA (ph l h.n) e.xs=some xs:=by
  cases hq:renA (ph l h.n) e.xs with
  | none=>rw [hq] at a4; cases a4
  | some xs'=>rw [hq] at a4; rw [sameA_eq a4]
 refine call_frame c1 l (by show len e.obs=_; rw [len_eq]; exact hll.symm) (λM hM=>?_) (nodupX_ok a3) hxs h2 (λi o hio=>?_) (by show h.n+(e.n - len l)=_; rw [c2,len_eq]) λM o hM=>?_
 ·rw [allX_eq,List.all_eq_true] at a2
  have:=a2 M hM
  simpa [Nat.blt_eq] using this
 ·rw [e.get] at hio
  refine ⟨by rw [hll]; exact (List.getElem?_eq_some_iff.1 hio).1,?_⟩
  obtain ⟨o',g1,g2⟩:=obsG_ok a5 i o hio
  rw [Nat.zero_add] at g2
  exact ⟨o',g1,g2⟩
 ·rcases upsX_ok h3 M o hM with ⟨i,o0,g1,g2,g3⟩ | ⟨g1,g2⟩
  ·exact .inl ⟨i,o0,g2,c3 _ g1,g3⟩
  ·by_cases hex : ∃ i,e.heap.t.get i≠none/\M=ph l h.n i
   ·obtain ⟨i,g3,g4⟩:=hex
    cases ho:e.heap.t.get i with
    | none=>exact absurd ho g3
    | some o1=>
      rw [e.get] at ho
      have hk:=c4 i o1 ho λq hq hqi=>by
       have:=g2 q hq
       rw [hqi] at this
       exact this g4
      obtain ⟨o',g5,g6⟩:=obsG_ok a5 i o1 ho
      rw [Nat.zero_add,<-g4,g1] at g6
      cases g6
      exact .inl ⟨i,o1,g4,hk,g5⟩
   ·exact .inr ⟨g1,λi hi e=>hex ⟨i,hi,e⟩⟩
noncomputable def firstG (l:List EntG) (xs:List XV) (h:Hp):Option (XV×Hp):=List.rec (motive:=λ_=>Option (XV×Hp)) none (λe _ ih=>match entG e xs h with
 | some r=>some r
 | none=>ih) l
theorem firstG_ok {P:Program} {G:World->Prop} {f:FuncId} : ∀ {l:List EntG},(∀ e∈l,e.f=f/\EntGOk P G e)->∀ {xs:List XV} {h h':Hp} {y:XV},firstG l xs h=some (y,h')->CallOk P G f xs h y h'
 | [],_,xs,h,h',y,hr=>by cases hr
 | e :: l,he,xs,h,h',y,hr=>by
   have hr:(match entG e xs h with
    | some r=>some r
    | none=>firstG l xs h)=some (y,h'):=hr
   cases hc:entG e xs h with
   | none=>
     rw [hc] at hr
     exact firstG_ok (λe' h'=>he e' (List.mem_cons_of_mem _ h')) hr
   | some r=>
     rw [hc] at hr
     cases hr
     obtain ⟨h1,h2⟩:=he e List.mem_cons_self
     rw [<-h1]
     exact entG_ok h2 hc
noncomputable def atG (t:Tr (List EntG)) (f:FuncId):List EntG:=match t.get f with
 | none=>[]
 | some l=>l
noncomputable def addG (t:Tr (List EntG)) (e:EntG):Tr (List EntG):=t.set (some (e :: atG t e.f)) e.f
def EsG (P:Program) (G:World->Prop) (t:Tr (List EntG)):Prop:=∀ f,∀ e∈atG t f,e.f=f/\EntGOk P G e
theorem EsG.nil {P:Program} {G:World->Prop} : EsG P G .lf:=λf e he=>by
 have he:e∈(match (Tr.lf:Tr (List EntG)).get f with | none=>[] | some l=>l):=he
 rw [Tr.get_l] at he; cases he
theorem EsG.add {P:Program} {G:World->Prop} {t:Tr (List EntG)} (h:EsG P G t) {e:EntG} (he:EntGOk P G e):EsG P G (addG t e):=λf x hx=>by
 have hx:x∈(match (t.set (some (e :: atG t e.f)) e.f).get f with | none=>[] | some l=>l):=hx
 rw [Tr.get_set] at hx
 by_cases hf:f=e.f
 ·subst hf
  rw [if_pos rfl] at hx
  rcases List.mem_cons.1 hx with rfl | hx
  ·exact ⟨rfl,he⟩
  ·exact h _ _ hx
 ·rw [if_neg hf] at hx
  exact h f x hx
noncomputable def withG (C:CallsX) (t:Tr (List EntG)):CallsX:=⟨orC (λf xs h=>firstG (atG t f) xs h) C.c,C.e,C.g,C.q,C.y,C.x⟩
theorem withG_ok {P:Program} {G:World->Prop} {C:CallsX} (hC:CallsOk P G C) {t:Tr (List EntG)} (h:EsG P G t):CallsOk P G (withG C t):=
 ⟨orC_ok (λf xs h' y h2 hr=>firstG_ok (h f) hr) hC.c,hC.e,hC.g,hC.q,hC.y,hC.x⟩
noncomputable def cutX (n:Nat) (ks:List Nat) (N i:Nat):Nat:=br (Nat.blt i n) i (match nth ks (Nat.sub i n) with | some k=>k | none=>N)
theorem cutX_lt {n:Nat} {ks:List Nat} {N i:Nat} (h:i<n):cutX n ks N i=i:=by
 unfold cutX; rw [show Nat.blt i n=true by simpa [Nat.blt_eq] using h,br_t]
theorem cutX_ge {n:Nat} {ks:List Nat} {N i:Nat} (h:n<=i):cutX n ks N i=match ks[i - n]? with | some k=>k | none=>N:=by
 unfold cutX
 rw [show Nat.blt i n=false by cases hb:Nat.blt i n with
  | false=>rfl
  | true=>rw [Nat.blt_eq] at hb; omega,br_f,nth_eq]
 rfl
theorem call_cut {P:Program} {G:World->Prop} {f:FuncId} {xs:List XV} {y y':XV} {h h':Hp} {t:Tr XO} (hc:CallOk P G f xs h y' h') (ks:List Nat) (hk : ∀ k∈ks,h.n<=k/\k<h'.n) (hnd:ks.Nodup) (hle:h.n<=h'.n)
 (hy:renX (cutX h.n ks h'.n) y=some y') (ht : ∀ i o,t.get i=some o->i<h.n+ks.length/\∃ o',renO (cutX h.n ks h'.n) o=some o'/\h'.t.get (cutX h.n ks h'.n i)=some o') :
 CallOk P G f xs h y ⟨t,h.n+ks.length⟩:=by
 intro S0 w0 ρ w vs hG hi hxs
 have pinj : ∀ i j,i<h.n+ks.length->j<h.n+ks.length->cutX h.n ks h'.n i=cutX h.n ks h'.n j->i=j:=λi j hi' hj' e=>by
  have g : ∀ i,h.n<=i->i<h.n+ks.length->∃ hl:i - h.n<ks.length,cutX h.n ks h'.n i=ks[i - h.n]:=λi a b=>by
   refine ⟨by omega,?_⟩
   rw [cutX_ge a,List.getElem?_eq_getElem (by omega)]
  by_cases h1:i<h.n <;> by_cases h2:j<h.n
  ·rw [cutX_lt h1,cutX_lt h2] at e; exact e
  ·obtain ⟨hl,e2⟩:=g j (by omega) hj'
   rw [cutX_lt h1,e2] at e
   have:=(hk _ (List.getElem_mem hl)).1
   omega
  ·obtain ⟨hl,e2⟩:=g i (by omega) hi'
   rw [cutX_lt h2,e2] at e
   have:=(hk _ (List.getElem_mem hl)).1
   omega
  ·obtain ⟨hl,e1⟩:=g i (by omega) hi'
   obtain ⟨hl',e2⟩:=g j (by omega) hj'
   rw [e1,e2] at e
   have:=(List.getElem_inj hnd).1 e
   omega
 refine Calls.mono (hc S0 w0 ρ w vs hG hi hxs) λe w' ⟨v,ρ',h1,h2,h3,h4⟩=>⟨v,λL=>ρ' (cutX h.n ks h'.n L),h1,⟨λL p hL=>?_,λL hL=>?_⟩,(renX_iff hy v).1 h3,⟨λL hL=>?_,λL o hL=>?_,λL L' o o' b s s' e1 e2 e3 e4=>?_,h4.mod⟩⟩
 ·have hlt:L<h.n:=by
   rcases Nat.lt_or_ge L h.n with g | g
   ·exact g
   ·rw [hi.fresh L g] at hL; cases hL
  simp only [cutX_lt hlt]
  exact h2.1 L p hL
 ·simp only [cutX_lt hL]
  exact h2.2 L hL
 ·have hL:h.n+ks.length<=L:=hL
  show ρ' (cutX h.n ks h'.n L)=none
  rw [cutX_ge (by omega),List.getElem?_eq_none (by omega)]
  exact h4.fresh _ (Nat.le_refl _)
 ·obtain ⟨g1,o',g2,g3⟩:=ht L o hL
  obtain ⟨b,s,g4,g5,g6⟩:=h4.dom _ _ g3
  exact ⟨b,s,g4,(renO_iff g2 w' b s).1 g5,g6⟩
 ·obtain ⟨g1,o1,g2,g3⟩:=ht L o e1
  obtain ⟨g4,o2,g5,g6⟩:=ht L' o' e2
  exact pinj L L' g1 g4 (h4.inj _ _ _ _ _ _ _ g3 g6 e3 e4)
noncomputable def tG (l:List (Nat×Option XO)) (t:Tr XO):Tr XO:=List.rec (motive:=λ_=>Tr XO) t (λu _ ih=>ih.set u.2 u.1) l
theorem tG_dom {t:Tr XO} : ∀ {l:List (Nat×Option XO)} {i:Nat} {o:XO},(tG l t).get i=some o->(∃ u∈l,u.1=i)\/t.get i=some o
 | [],i,o,h=>.inr h
 | u :: l,i,o,h=>by
   have h:((tG l t).set u.2 u.1).get i=some o:=h
   rw [Tr.get_set] at h
   by_cases e:i=u.1
   ·exact .inl ⟨u,List.mem_cons_self,e.symm⟩
   ·rw [if_neg e] at h
    rcases tG_dom h with ⟨u',h1,h2⟩ | h1
    ·exact .inl ⟨u',List.mem_cons_of_mem _ h1,h2⟩
    ·exact .inr h1
noncomputable def tellB (φ:Nat->Nat) (n:Nat) (t t':Tr XO) (l:List Nat):Bool:=allX (λi=>match t.get i with
 | none=>true
 | some o=>br (Nat.blt i n) (match renO φ o with
   | none=>false
   | some o'=>(match t'.get (φ i) with | none=>false | some o2=>sameB o' o2)) false) l
noncomputable def upsB (t:Tr XO) (l:List (Nat×Option XO)):Bool:=allX (λu=>match u.2 with
 | none=>(match t.get u.1 with | none=>true | some _=>false)
 | some o=>(match t.get u.1 with | none=>false | some o'=>sameB o o')) l
noncomputable def cutB (e:EntG) (ks:List Nat) (q:XV×Hp) (t:Tr XO):Bool:=
 br (match renX (cutX (len e.obs) ks q.2.n) e.y with | none=>false | some y'=>sameX y' q.1)
  (br (allX (λk=>br (Nat.ble (len e.obs) k) (Nat.blt k q.2.n) false) ks) (br (nodupX ks) (br (Nat.ble (len e.obs) q.2.n) (br (Nat.beq e.n (Nat.add (len e.obs) (len ks)))
   (br (tellB (cutX (len e.obs) ks q.2.n) e.n t q.2.t (app (rangeX 0 (len e.obs)) (mapL Prod.fst e.ups))) (br (upsB t e.ups) (keptG t e.ups e.obs 0) false) false) false) false) false) false) false
noncomputable def okK (e:EntG) (ks:List Nat) (r:Option (XV×Hp)):Bool:=match r with
 | none=>false
 | some q=>cutB e ks q (tG e.ups (mkG e.obs 0 .lf))
theorem mem_rangeX : ∀ {a k i:Nat},a<=i->i<a+k->i∈rangeX a k
 | a,0,i,h1,h2=>by omega
 | a,k+1,i,h1,h2=>by
   show i∈a :: rangeX (a+1) k
   by_cases e:i=a
   ·subst e; exact List.mem_cons_self
   ·exact List.mem_cons_of_mem _ (mem_rangeX (by omega) (by omega))
theorem entK_of {P:Program} {G:World->Prop} {e:EntG} {ks:List Nat} {r:Option (XV×Hp)} (hc : ∀ y h',r=some (y,h')->CallOk P G e.f e.xs e.heap y h') (h:okK e ks r=true):EntGOk P G e:=by
 cases r with
 | none=>cases h
 | some q=>
   obtain ⟨y',h'⟩:=q
   have h:cutB e ks (y',h') (tG e.ups (mkG e.obs 0 .lf))=true:=h
   have hln:e.heap.n=e.obs.length:=by show len e.obs=_; rw [len_eq]
   unfold cutB at h
   rw [len_eq,len_eq] at h
   obtain ⟨a1,h⟩:=br_and h
   obtain ⟨a2,h⟩:=br_and h
   obtain ⟨a3,h⟩:=br_and h
   obtain ⟨a4,h⟩:=br_and h
   obtain ⟨a5,h⟩:=br_and h
   obtain ⟨a6,h⟩:=br_and h
   obtain ⟨a7,a8⟩:=br_and h
   simp only at a1 a4
   have a4:=Nat.le_of_ble_eq_true a4
   have a5:e.n=e.obs.length+ks.length:=Nat.eq_of_beq_eq_true a5
   rw [allX_eq,List.all_eq_true] at a2
   have hy:renX (cutX e.obs.length ks h'.n) e.y=some y':=by
    cases hq:renX (cutX e.obs.length ks h'.n) e.y with
    | none=>rw [hq] at a1; cases a1
    | some y2=>rw [hq] at a1; rw [sameX_eq a1]
   have hcut:=call_cut (y:=e.y) (t:=tG e.ups (mkG e.obs 0 .lf)) (hc y' h' rfl) ks (λk hk=>by
    have:=a2 k hk
    obtain ⟨b1,b2⟩:=br_and this
    rw [hln]
    exact ⟨Nat.le_of_ble_eq_true b1,by simpa [Nat.blt_eq] using b2⟩) (nodupX_ok a3) (by rw [hln]; exact a4) (by rw [hln]; exact hy) (λi o hio=>by
    rw [hln]
    have hmem:i∈app (rangeX 0 e.obs.length) (mapL Prod.fst e.ups):=by
     rw [app_eq]
     rcases tG_dom hio with ⟨u,h1,h2⟩ | h1
     ·refine List.mem_append_right _ ?_
      rw [mapL_eq]
      exact List.mem_map.2 ⟨u,h1,h2⟩
     ·have:=(e.get (i:=i) (o:=o)).1 h1
      have:=(List.getElem?_eq_some_iff.1 this).1
      exact List.mem_append_left _ (mem_rangeX (by omega) (by omega))
    unfold tellB at a6
    rw [allX_eq,List.all_eq_true] at a6
    have:=a6 i hmem
    rw [hio] at this
    simp only at this
    obtain ⟨b1,b2⟩:=br_and this
    rw [a5] at b1
    refine ⟨by simpa [Nat.blt_eq] using b1,?_⟩
    cases hr:renO (cutX e.obs.length ks h'.n) o with
    | none=>rw [hr] at b2; cases b2
    | some o'=>
      rw [hr] at b2
      simp only at b2
      cases hg:h'.t.get (cutX e.obs.length ks h'.n i) with
      | none=>rw [hg] at b2; cases b2
      | some o2=>rw [hg] at b2; exact ⟨o',rfl,by rw [sameB_eq b2]⟩)
   refine ⟨_,hcut,by show e.heap.n+ks.length=_; rw [hln,a5],λu hu=>?_,λi o hi hq=>?_⟩
   ·unfold upsB at a7
    rw [allX_eq,List.all_eq_true] at a7
    have:=a7 u hu
    obtain ⟨i,oo⟩:=u
    show (tG e.ups (mkG e.obs 0 .lf)).get i=oo
    cases oo with
    | none=>
      simp only at this
      cases hg:(tG e.ups (mkG e.obs 0 .lf)).get i with
      | none=>rfl
      | some o=>rw [hg] at this; cases this
    | some o=>
      simp only at this
      cases hg:(tG e.ups (mkG e.obs 0 .lf)).get i with
      | none=>rw [hg] at this; cases this
      | some o'=>rw [hg] at this; rw [sameB_eq this]
   ·have h3:=keptG_spec e.obs 0 a8 i o hi λq hq'=>by have:=hq q hq'; omega
    rw [Nat.zero_add] at h3
    exact h3
theorem tG_out {t:Tr XO} : ∀ {l:List (Nat×Option XO)} {i:Nat},(∀ u∈l,u.1≠i)->(tG l t).get i=t.get i
 | [],i,_=>rfl
 | u :: l,i,h=>by
   show ((tG l t).set u.2 u.1).get i=_
   rw [Tr.get_set,if_neg (λe=>h u List.mem_cons_self e.symm)]
   exact tG_out λv hv=>h v (List.mem_cons_of_mem _ hv)
structure EntA where
 f:FuncId
 n0:Nat
 xs:List XV
 ls:List Nat
 y:XV
 ups:List (Nat×Option XO)
 n:Nat
noncomputable def sameId (t:Tr XO) (l:List Nat):Bool:=allX (λi=>match t.get i with | none=>true | some o=>idO o) l
noncomputable def idXs (l:List XV):Bool:=match renA (λi=>i) l with | none=>false | some m=>sameA m l
theorem idXs_ok {l:List XV} (h:idXs l=true):renA (λi=>i) l=some l:=by
 unfold idXs at h
 cases hq:renA (λi=>i) l with
 | none=>rw [hq] at h; cases h
 | some m=>rw [hq] at h; rw [sameA_eq h]
noncomputable def EntA.t0 (e:EntA) (base:Tr XO):Tr XO:=keepT base e.ls
noncomputable def EntA.t1 (e:EntA) (base:Tr XO):Tr XO:=tG e.ups (keepT base e.ls)
structure EntAOk (P:Program) (G:World->Prop) (base:Tr XO) (e:EntA):Prop where
 call:CallOk P G e.f e.xs ⟨e.t0 base,e.n0⟩ e.y ⟨e.t1 base,e.n⟩
 le:e.n0<=e.n
 xid:renA (λi=>i) e.xs=some e.xs
 yid:renX (λi=>i) e.y=some e.y
 oid : ∀ i o,i∈e.ls->base.get i=some o->renO (λi=>i) o=some o
 uid : ∀ q∈e.ups,(e.t1 base).get q.1=q.2/\∀ o,q.2=some o->renO (λi=>i) o=some o
 lt : ∀ i∈e.ls,i<e.n0
noncomputable def cutA (base:Tr XO) (e:EntA) (ks:List Nat) (q:XV×Hp):Bool:=
 br (match renX (cutX e.n0 ks q.2.n) e.y with | none=>false | some y'=>sameX y' q.1)
  (br (allX (λk=>br (Nat.ble e.n0 k) (Nat.blt k q.2.n) false) ks) (br (nodupX ks) (br (Nat.ble e.n0 q.2.n) (br (Nat.beq e.n (Nat.add e.n0 (len ks)))
   (br (tellB (cutX e.n0 ks q.2.n) e.n (e.t1 base) q.2.t (app e.ls (mapL Prod.fst e.ups))) (br (upsB (e.t1 base) e.ups) (br (br (idXs e.xs) (idXs [e.y]) false) (br (sameId base e.ls) (br (allX (λu=>match u.2 with | none=>true | some o=>idO o) e.ups) (allX (λi=>Nat.blt i e.n0) e.ls) false) false) false) false) false) false) false) false) false) false
noncomputable def okA (base:Tr XO) (e:EntA) (ks:List Nat) (r:Option (XV×Hp)):Bool:=match r with
 | none=>false
 | some q=>cutA base e ks q
theorem entA_of {P:Program} {G:World->Prop} {base:Tr XO} {e:EntA} {ks:List Nat} {r:Option (XV×Hp)} (hc : ∀ y h',r=some (y,h')->CallOk P G e.f e.xs ⟨e.t0 base,e.n0⟩ y h') (h:okA base e ks r=true):EntAOk P G base e:=by
 cases r with
 | none=>cases h
 | some q=>
   obtain ⟨y',h'⟩:=q
   have h:cutA base e ks (y',h')=true:=h
   unfold cutA at h
   obtain ⟨a1,h⟩:=br_and h
   obtain ⟨a2,h⟩:=br_and h
   obtain ⟨a3,h⟩:=br_and h
   obtain ⟨a4,h⟩:=br_and h
   obtain ⟨a5,h⟩:=br_and h
   obtain ⟨a6,h⟩:=br_and h
   obtain ⟨a7,h⟩:=br_and h
   obtain ⟨a8,h⟩:=br_and h
   obtain ⟨a9,h⟩:=br_and h
   obtain ⟨a10,a11⟩:=br_and h
   obtain ⟨a8,a8'⟩:=br_and a8
   simp only at a1 a4
   have a4:=Nat.le_of_ble_eq_true a4
   have a5:e.n=e.n0+ks.length:=by have:=Nat.eq_of_beq_eq_true a5; rw [len_eq] at this; exact this
   rw [allX_eq,List.all_eq_true] at a2 a10 a11
   have hy:renX (cutX e.n0 ks h'.n) e.y=some y':=by
    cases hq:renX (cutX e.n0 ks h'.n) e.y with
    | none=>rw [hq] at a1; cases a1
    | some y2=>rw [hq] at a1; rw [sameX_eq a1]
   have hyid:renX (λi=>i) e.y=some e.y:=by
    have:=idXs_ok a8'
    unfold renA at this
    obtain ⟨y2,r2,e1,e2,e3⟩:=mapO_cons this
    cases e1
    exact e2
   have hcut:=call_cut (y:=e.y) (t:=e.t1 base) (hc y' h' rfl) ks (λk hk=>by
    have:=a2 k hk
    obtain ⟨b1,b2⟩:=br_and this
    exact ⟨Nat.le_of_ble_eq_true b1,by simpa [Nat.blt_eq] using b2⟩) (nodupX_ok a3) a4 hy (λi o hio=>by
    have hmem:i∈app e.ls (mapL Prod.fst e.ups):=by
     rw [app_eq]
     rcases tG_dom hio with ⟨u,h1,h2⟩ | h1
     ·refine List.mem_append_right _ ?_
      rw [mapL_eq]
      exact List.mem_map.2 ⟨u,h1,h2⟩
     ·exact List.mem_append_left _ (keepT_get _ h1).2
    unfold tellB at a6
    rw [allX_eq,List.all_eq_true] at a6
    have:=a6 i hmem
    rw [hio] at this
    simp only at this
    obtain ⟨b1,b2⟩:=br_and this
    rw [a5] at b1
    refine ⟨by simpa [Nat.blt_eq] using b1,?_⟩
    cases hr:renO (cutX e.n0 ks h'.n) o with
    | none=>rw [hr] at b2; cases b2
    | some o'=>
      rw [hr] at b2
      simp only at b2
      cases hg:h'.t.get (cutX e.n0 ks h'.n i) with
      | none=>rw [hg] at b2; cases b2
      | some o2=>rw [hg] at b2; exact ⟨o',rfl,by rw [sameB_eq b2]⟩)
   refine ⟨by rw [a5]; exact hcut,by omega,idXs_ok a8,hyid,λi o hi ho=>?_,λu hu=>⟨?_,λo ho=>?_⟩,λi hi=>by simpa [Nat.blt_eq] using a11 i hi⟩
   ·unfold sameId at a9
    rw [allX_eq,List.all_eq_true] at a9
    have:=a9 i hi
    rw [ho] at this
    exact idO_ok this
   ·unfold upsB at a7
    rw [allX_eq,List.all_eq_true] at a7
    have:=a7 u hu
    obtain ⟨i,oo⟩:=u
    cases oo with
    | none=>
      simp only at this ⊢
      cases hg:(e.t1 base).get i with
      | none=>rfl
      | some o=>rw [hg] at this; cases this
    | some o=>
      simp only at this ⊢
      cases hg:(e.t1 base).get i with
      | none=>rw [hg] at this; cases this
      | some o'=>rw [hg] at this; rw [sameB_eq this]
   ·have:=a10 u hu
    rw [ho] at this
    exact idO_ok this
noncomputable def agreeB (a b:Tr XO) (l:List Nat):Bool:=allX (λi=>match a.get i with
 | none=>true
 | some o=>(match b.get i with | none=>false | some o'=>sameB o o')) l
noncomputable def entA (base:Tr XO) (e:EntA) (f:FuncId) (xs:List XV) (h:Hp):Option (XV×Hp):=
 br (Nat.beq e.f f) (br (Nat.beq e.n0 h.n) (br (sameA e.xs xs) (br (agreeB base h.t e.ls) (some (e.y,⟨tG e.ups h.t,e.n⟩)) none) none) none) none
theorem entA_ok {P:Program} {G:World->Prop} {base:Tr XO} {e:EntA} (he:EntAOk P G base e) {f:FuncId} {xs:List XV} {h h':Hp} {y:XV} (hr:entA base e f xs h=some (y,h')):CallOk P G f xs h y h':=by
 unfold entA at hr
 obtain ⟨h1,hr⟩:=br_some hr
 obtain ⟨h2,hr⟩:=br_some hr
 obtain ⟨h3,hr⟩:=br_some hr
 obtain ⟨h4,hr⟩:=br_some hr
 cases hr
 have h1:=Nat.eq_of_beq_eq_true h1
 have h2:=Nat.eq_of_beq_eq_true h2
 have h3:=sameA_eq h3
 subst h1 h3
 unfold agreeB at h4
 rw [allX_eq,List.all_eq_true] at h4
 have hag : ∀ i o,i∈e.ls->base.get i=some o->h.t.get i=some o:=λi o hi ho=>by
  have:=h4 i hi
  rw [ho] at this
  simp only at this
  cases hg:h.t.get i with
  | none=>rw [hg] at this; cases this
  | some o'=>rw [hg] at this; rw [sameB_eq this]
 have hph:ph (List.range h.n) h.n=λi=>i:=funext (ph_range h.n)
 have hle:=he.le
 refine call_frame he.call (List.range h.n) (by simpa using h2) (λM hM=>by simpa using hM) List.nodup_range (by rw [hph]; exact he.xid) (by rw [hph]; exact he.yid) (λi o hio=>?_) (by show e.n=h.n+(e.n - (List.range h.n).length); rw [List.length_range]; omega) λM o hM=>?_
 ·obtain ⟨g1,g2⟩:=keepT_get e.ls hio
  rw [hph]
  exact ⟨by rw [List.length_range,<-h2]; exact he.lt i g2,o,he.oid i o g2 g1,hag i o g2 g1⟩
 ·rw [hph]
  by_cases hex : ∃ u∈e.ups,u.1=M
  ·obtain ⟨u,hu,rfl⟩:=hex
   obtain ⟨g1,g2⟩:=he.uid u hu
   have key : ∀ (l:List (Nat×Option XO)) (a b:Tr XO) (i:Nat),(∃ u∈l,u.1=i)->(tG l a).get i=(tG l b).get i:=by
    intro l
    induction l with
    | nil=>intro a b i ⟨u,hu,_⟩; cases hu
    | cons v l ih=>
      intro a b i hi
      show ((tG l a).set v.2 v.1).get i=((tG l b).set v.2 v.1).get i
      rw [Tr.get_set,Tr.get_set]
      by_cases e:i=v.1
      ·rw [if_pos e,if_pos e]
      ·rw [if_neg e,if_neg e]
       obtain ⟨u,hu,h5⟩:=hi
       rcases List.mem_cons.1 hu with rfl | hu
       ·exact absurd h5.symm e
       ·exact ih a b i ⟨u,hu,h5⟩
   have hM:(tG e.ups h.t).get u.1=some o:=hM
   rw [key e.ups h.t (keepT base e.ls) u.1 ⟨u,hu,rfl⟩] at hM
   have hM':(e.t1 base).get u.1=some o:=hM
   refine .inl ⟨u.1,o,rfl,hM',?_⟩
   rw [g1] at hM'
   exact g2 o hM'
  ·have hno : ∀ u∈e.ups,u.1≠M:=λu hu e=>hex ⟨u,hu,e⟩
   have hM:(tG e.ups h.t).get M=some o:=hM
   rw [tG_out hno] at hM
   by_cases hk:(keepT base e.ls).get M=none
   ·exact .inr ⟨hM,λi hi e=>by subst e; exact hi hk⟩
   ·cases hb:(keepT base e.ls).get M with
    | none=>exact absurd hb hk
    | some o1=>
      obtain ⟨g1,g2⟩:=keepT_get e.ls hb
      have:=hag M o1 g2 g1
      rw [hM] at this
      cases this
      refine .inl ⟨M,o,rfl,?_,he.oid M o g2 g1⟩
      show (tG e.ups (keepT base e.ls)).get M=some o
      rw [tG_out hno]
      exact hb
noncomputable def withA (C:CallsX) (base:Tr XO) (e:EntA):CallsX:=⟨orC (entA base e) C.c,C.e,C.g,C.q,C.y,C.x⟩
theorem withA_ok {P:Program} {G:World->Prop} {C:CallsX} (hC:CallsOk P G C) {base:Tr XO} {e:EntA} (h:EntAOk P G base e):CallsOk P G (withA C base e):=
 ⟨orC_ok (λf xs h' y h2 hr=>entA_ok h hr) hC.c,hC.e,hC.g,hC.q,hC.y,hC.x⟩
end Go.X
end
