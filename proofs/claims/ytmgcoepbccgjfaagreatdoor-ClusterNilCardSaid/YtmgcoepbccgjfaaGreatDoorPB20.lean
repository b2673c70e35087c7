/- The forms of the translated functions,their contracts and the plain laws behind them,put together by a program. -/
import Derived.Test.YtmgcoepbccgjfaaGreatDoorPB19
import Derived.RecoverIn
import Derived.Test.YtmgcoepbccgjfaaGreatDoorProg
set_option linter.unusedSimpArgs false
set_option linter.unusedVariables false
set_option maxRecDepth 1000000
set_option maxHeartbeats 8000000
section
namespace Go.Sh
open Go
section
variable {P:Program} {N:Nat}
theorem recoverD_of {c0:Frame} {cs:List Frame} {u:FrameMode} : recoverD ({c0 with mode:=u} :: cs)=(recU u).map λp=>(p.1,{c0 with mode:=p.2} :: cs):=by
 cases u with
 | run=>rfl
 | returning=>rfl
 | panicking c=>
   match c with
   | []=>rfl
   | {v,recovered:=true,goexit} :: r=>rfl
   | {v,recovered:=false,goexit:=true} :: r=>rfl
   | {v,recovered:=false,goexit:=false} :: r=>rfl
theorem okS_run {o:Oper} {env:Env} {a:Act} {w:World} {pan:List PanicEntry->World->Prop} {next:TV->World->Prop} (hsim:Sim N env a.tmps) (ho:okS o.op=true) (h:stateK P o env w pan next) :
 (∃ t v w',(execOp a.eval o).run P w = .ok (.value v) w'/\(t.isBad=false->v=t.enc)/\next t w')\/(∃ w',(execOp a.eval o).run P w = .ok .skip w'/\next .bad w')\/∃ v,(execOp a.eval o).run P w = .halt (.panic v) w/\pan [{v:=v,recovered:=false}] w:=by
 obtain ⟨dst,op,type,pos,after,guard⟩:=o
 unfold stateK at h
 cases op <;> simp [okS] at ho <;> simp only at h
 case store T x y=>
  split at h
  ·rename_i q hx
   obtain ⟨ad,rfl,h⟩:=onSome_out h
   cases hg:(!(ev env y).isBad) with
   | false=>simp [hg,onSome] at h
   | true=>
     simp only [hg,cond_true] at h
     obtain ⟨w',hr,h⟩:=h
     refine .inr (.inl ⟨w',?_,h⟩)
     have he:execOp a.eval {dst,op:=.store T x y,type,pos,after,guard} = (do storeVar T ad (ev env y).enc; pure Next.skip):=by
      simp only [execOp,hsim.is hx rfl,good_is hsim hg,TV.enc]
      rfl
     rw [he]; simp [hr]
  ·exact h.elim
 case load T x=>
  split at h
  ·rename_i q hx
   obtain ⟨ad,rfl,h⟩:=onSome_out h
   cases hf:kdFit P T with
   | false=>simp [hf,onSome] at h
   | true=>
     simp only [hf,cond_true] at h
     obtain ⟨t,t1,t2,t3,hr,h⟩:=exK_out _ _ h
     refine .inl ⟨t,t.enc,w,?_,λ_=>rfl,h⟩
     simp [execOp,hsim.is hx rfl,TV.enc,Instr.loadAt,Instr.sureAddr,run_loadVar hf t1 t2 t3 hr]
  ·exact h.elim
 case alloc T=>
  obtain ⟨v,w',hr,h1⟩:=h
  have h2:exK .p λt=>v=t.enc/\next t w':=h1
  obtain ⟨t,_,_,_,hv,h3⟩:=exK_out _ _ h2
  refine .inl ⟨t,v,w',?_,λ_=>hv,h3⟩
  simp only [execOp]
  simp [hr]
 case typeAssert x T b ok=>
  cases hg:(!(ev env x).isBad) with
  | false=>simp [hg] at h
  | true=>
    simp only [hg,cond_true] at h
    obtain ⟨v,w',hr,h1⟩:=h
    have h2:exK (kindOf P 20 type) λt=>v=t.enc/\next t w':=h1
    obtain ⟨t,_,_,_,hv,h3⟩:=exK_out _ _ h2
    refine .inl ⟨t,v,w',?_,λ_=>hv,h3⟩
    simp only [execOp,good_is hsim hg]
    simp [hr]
 case panic x=>
  split at h
  ·rename_i z hx
   unfold panV at h
   split at h
   ·rename_i T y
    refine .inr (.inr ⟨.iface T y,?_,h⟩)
    simp [execOp,hsim.is hx rfl,TV.enc,Instr.panic]
   ·exact h.elim
  ·exact h.elim
def QS (N:Nat) (k:KtS) (c0:Frame) (cs:List Frame):Exit->Act->List Frame->World->Prop
 | .normal,a,cs',w=>a.defers=[]/\∃ u,cs' = {c0 with mode:=u} :: cs/\∃ env,Sim N env a.tmps/\k.nrm u env w
 | .ret,a,cs',w=>a.defers=[]/\∃ u,cs' = {c0 with mode:=u} :: cs/\∃ env,Sim N env a.tmps/\k.ret u env w
 | .panic c,a,cs',w=>a.defers=[]/\∃ u,cs' = {c0 with mode:=u} :: cs/\k.pan u c w
 | _,_,_,_=>False
theorem opsS_wp {ops:List Oper} {k:KtS} {c0:Frame} {cs:List Frame} : ∀ (suf pre:List Oper) (nrm:FrameMode->Env->World->Prop) (u:FrameMode) (env:Env) (a:Act) (w:World),ops=pre++suf->Sim N env a.tmps->a.defers=[]->
 opsS P N k.pan suf nrm u env w->wpOpsSIn Fence.wide 0 P ops.toArray (QS N {k with nrm:=nrm} c0 cs) (List.range' pre.length suf.length) a ({c0 with mode:=u} :: cs) w
 | [],pre,nrm,u,env,a,w,_,hs,hd,h=>⟨hd,u,rfl,env,hs,h⟩
 | o :: q,pre,nrm,u,env,a,w,e,hs,hd,h=>by
   have ho:ops.toArray[pre.length]? = some o:=by simp [e]
   have ih : ∀ u env a w,Sim N env a.tmps->a.defers=[]->opsS P N k.pan q nrm u env w->wpOpsSIn Fence.wide 0 P ops.toArray (QS N {k with nrm:=nrm} c0 cs) (List.range' (pre.length+1) q.length) a ({c0 with mode:=u} :: cs) w:=λu env a w h1 h2 h3=>by
    have:=opsS_wp (ops:=ops) (k:=k) (c0:=c0) (cs:=cs) q (pre++[o]) nrm u env a w (by simp [e]) h1 h2 h3
    simpa using this
   unfold opsS at h
   cases hc:(inRange N o.dst&&o.guard.isNone) with
   | false=>simp only [hc,cond_false] at h
   | true=>
     simp only [hc,cond_true] at h
     simp only [Bool.and_eq_true,Option.isNone_iff_eq_none] at hc
     have hw:Region.wanted o (yielded ops.toArray a.tmps)=true:=by unfold Region.wanted; rw [hc.2]
     simp only [List.length_cons,List.range'_succ,wpOpsSIn,ho,hw,if_true]
     refine ⟨λ_ _=>trivial,?_⟩
     cases hr:isRec o.op with
     | true=>
       simp only [hr,cond_true] at h
       have hrun:(execOp a.eval o).run P w = .ok .recover w:=by
        obtain ⟨dst,op,type,pos,after,guard⟩:=o
        have hr':isRec op=true:=hr
        unfold isRec at hr'
        split at hr'
        ·rename_i args at_
         simp [execOp,resolve,invoke,builtin]
        ·cases hr'
       rw [hrun]
       simp only [recoverD_of]
       unfold recK at h
       cases hu:recU u with
       | none=>
         simp only [hu] at h
         simp only [Option.map_none]
         exact ih _ _ _ _ (hs.putD' hc.1 λ_=>rfl) (by rw [put_defers]; exact hd) h
       | some p=>
         simp only [hu] at h
         simp only [Option.map_some]
         exact ih _ _ _ _ (hs.putD' hc.1 λ_=>rfl) (by rw [put_defers]; exact hd) h
     | false=>
       simp only [hr,cond_false] at h
       cases hp:isPure P o with
       | true=>
         simp only [hp,cond_true] at h
         obtain ⟨t,v,hrun,hv,h⟩:=pureK_run hs h
         rw [hrun w]
         exact ih _ _ _ _ (hs.putD' hc.1 hv) (by rw [put_defers]; exact hd) h
       | false=>
         simp only [hp,cond_false] at h
         cases hk:okS o.op with
         | false=>simp [hk] at h
         | true=>
           simp only [hk,cond_true] at h
           rcases okS_run hs hk h with ⟨t,v,w',hrun,hv,h⟩ | ⟨w',hrun,h⟩ | ⟨v,hrun,h⟩
           ·rw [hrun]
            exact ih _ _ _ _ (hs.putD' hc.1 hv) (by rw [put_defers]; exact hd) h
           ·rw [hrun]
            exact ih _ _ _ _ (hs.putD' hc.1 λe=>by simp [TV.isBad] at e) (by rw [put_defers]; exact hd) h
           ·rw [hrun]
            exact ⟨hd,u,rfl,h⟩
theorem wpSIn_mono {c:Code} {F:Fence} {n:Nat} {Q Q':Exit->Act->List Frame->World->Prop} {a:Act} {cs:List Frame} {w:World} (h:c.wpSIn F n P Q a cs w) (hq : ∀ e a cs w,Q e a cs w->Q' e a cs w):c.wpSIn F n P Q' a cs w:=
 λb k h1 h2 h3 h4=>let ⟨e,a',cs',w',l,q,r⟩:=h b k h1 h2 h3 h4; ⟨e,a',cs',w',l,hq _ _ _ _ q,r⟩
theorem denS_wp {c0:Frame} {cs:List Frame} : ∀ (c:Code) (k:KtS) (u:FrameMode) (env:Env) (a:Act) (w:World),Sim N env a.tmps->a.defers=[]->denS P N c k u env w->c.wpSIn Fence.wide 0 P (QS N k c0 cs) a ({c0 with mode:=u} :: cs) w
 | .skip,k,u,env,a,w,hs,hd,h=>wpSIn_of_wpIn rfl (wpIn_skip (show QS N k c0 cs .normal a ({c0 with mode:=u} :: cs) w from ⟨hd,u,rfl,env,hs,by simpa [denS] using h⟩))
 | .ret,k,u,env,a,w,hs,hd,h=>wpSIn_of_wpIn rfl (wpIn_ret (show QS N k c0 cs .ret a ({c0 with mode:=u} :: cs) w from ⟨hd,u,rfl,env,hs,by simpa [denS] using h⟩))
 | .seq x y,k,u,env,a,w,hs,hd,h=>by
   unfold denS at h
   refine wpSIn_seq (wpSIn_mono (denS_wp x _ u env a w hs hd h) ?_)
   intro e a' cs' w' hq
   cases e with
   | normal=>
     obtain ⟨hd',u',rfl,env',hs',hk⟩:=hq
     exact denS_wp y k u' env' a' w' hs' hd' hk
   | ret=>exact hq
   | panic c=>exact hq
   | exit i=>exact hq.elim
   | goto l=>exact hq.elim
   | outgrown=>exact hq.elim
 | .cond c x y,k,u,env,a,w,hs,hd,h=>by
   unfold denS at h
   split at h
   ·rename_i t hc
    have he:=hs.is (a:=a) hc rfl
    refine wpSIn_cond (t:=t) he ?_
    cases t with
    | true=>exact denS_wp x k u _ a w (subB_sim hs hc) hd h
    | false=>exact denS_wp y k u _ a w (subB_sim hs hc) hd h
   ·exact h.elim
 | .region id ops false,k,u,env,a,w,hs,hd,h=>by
   unfold denS at h
   refine wpSIn_region ?_
   have:=opsS_wp (ops:=ops.toList) (k:=k) (c0:=c0) (cs:=cs) ops.toList [] k.nrm u env a w rfl hs hd h
   simpa [List.range_eq_range'] using this
 | .region id ops true,k,u,env,a,w,hs,hd,h=>by simp [denS] at h
 | .block _ _,k,u,env,a,w,hs,hd,h=>by simp [denS] at h
 | .loop _,k,u,env,a,w,hs,hd,h=>by simp [denS] at h
 | .exit _,k,u,env,a,w,hs,hd,h=>by simp [denS] at h
 | .rangeFunc _ _ _ _,k,u,env,a,w,hs,hd,h=>by simp [denS] at h
 | .scope _,k,u,env,a,w,hs,hd,h=>by simp [denS] at h
 | .label _,k,u,env,a,w,hs,hd,h=>by simp [denS] at h
 | .goto _,k,u,env,a,w,hs,hd,h=>by simp [denS] at h
 | .refuse _,k,u,env,a,w,hs,hd,h=>by simp [denS] at h
end
end Go.Sh
end
section
namespace Go.Proofs.YtmgcoepbccgjfaaGreatDoor
open Go Go.Sh
def sh185 (x y:UInt64) (w:World) (R:Ending->World->Prop):Prop:=
 (0<=(((32:UInt64)).toNat:Int)/\(0<=(((32:UInt64)).toNat:Int)/\(0<=(((32:UInt64)).toNat:Int)/\(0<=(((32:UInt64)).toNat:Int)/\(0<=(((32:UInt64)).toNat:Int)/\R (.returned (.tuple #[.int .u64 (((((shrU64 x ((((32:UInt64)).toNat:Int)).toNat)*(shrU64 y ((((32:UInt64)).toNat:Int)).toNat))+(shrU64 (((shrU64 x ((((32:UInt64)).toNat:Int)).toNat)*(y &&& (4294967295:UInt64)))+(shrU64 ((x &&& (4294967295:UInt64))*(y &&& (4294967295:UInt64))) ((((32:UInt64)).toNat:Int)).toNat)) ((((32:UInt64)).toNat:Int)).toNat))+(shrU64 (((((shrU64 x ((((32:UInt64)).toNat:Int)).toNat)*(y &&& (4294967295:UInt64)))+(shrU64 ((x &&& (4294967295:UInt64))*(y &&& (4294967295:UInt64))) ((((32:UInt64)).toNat:Int)).toNat)) &&& (4294967295:UInt64))+((x &&& (4294967295:UInt64))*(shrU64 y ((((32:UInt64)).toNat:Int)).toNat))) ((((32:UInt64)).toNat:Int)).toNat))).toNat,.int .u64 ((x*y)).toNat])) w)))))
theorem call185 (x y:UInt64) {w:World} {R:Ending->World->Prop} (hden:sh185 x y w R):Calls Tryz.prog 185 #[.int .u64 x.toNat,.int .u64 y.toNat] w R:=
 calls_of_form (.seq none .z (.seq none .z (.seq none .z (.seq none .z (.seq none .z (.seq none .z (.seq none .z (.seq none .z (.seq none .z (.seq none .z (.seq none .z (.seq none .z .z)))))))))))) Tryz.func185 (by kernel_rfl) [.u64 x,.u64 y] (by kernel_rfl) (by kernel_rfl) hden
theorem zi5:ZI Tryz.prog 306 5:=by
 obtain ⟨i,h1,h2,_,_⟩:=info_of (P:=Tryz.prog) (T:=306) (z:=.agg #[.int .u64 0,.int .u64 0,.int .u64 0,.int .u64 0,.int .u64 0]) (n:=5) (m:=40) (by kernel_rfl) (by kernel_rfl) (by kernel_rfl)
 exact ⟨i,_,h1,h2,rfl⟩
theorem lst20 {l:List UInt64} (h:l.length=20) : ∃ x0:UInt64,∃ x1:UInt64,∃ x2:UInt64,∃ x3:UInt64,∃ x4:UInt64,∃ x5:UInt64,∃ x6:UInt64,∃ x7:UInt64,∃ x8:UInt64,∃ x9:UInt64,∃ x10:UInt64,∃ x11:UInt64,∃ x12:UInt64,∃ x13:UInt64,∃ x14:UInt64,∃ x15:UInt64,∃ x16:UInt64,∃ x17:UInt64,∃ x18:UInt64,∃ x19:UInt64,l=[x0,x1,x2,x3,x4,x5,x6,x7,x8,x9,x10,x11,x12,x13,x14,x15,x16,x17,x18,x19]:=by
 match l,h with
 | [x0,x1,x2,x3,x4,x5,x6,x7,x8,x9,x10,x11,x12,x13,x14,x15,x16,x17,x18,x19],_=>exact ⟨x0,x1,x2,x3,x4,x5,x6,x7,x8,x9,x10,x11,x12,x13,x14,x15,x16,x17,x18,x19,rfl⟩
theorem zi20:ZI Tryz.prog 308 20:=by
 obtain ⟨i,h1,h2,_,_⟩:=info_of (P:=Tryz.prog) (T:=308) (z:=.agg #[.int .u64 0,.int .u64 0,.int .u64 0,.int .u64 0,.int .u64 0,.int .u64 0,.int .u64 0,.int .u64 0,.int .u64 0,.int .u64 0,.int .u64 0,.int .u64 0,.int .u64 0,.int .u64 0,.int .u64 0,.int .u64 0,.int .u64 0,.int .u64 0,.int .u64 0,.int .u64 0]) (n:=20) (m:=160) (by kernel_rfl) (by kernel_rfl) (by kernel_rfl)
 exact ⟨i,_,h1,h2,rfl⟩
theorem zi20':ZI Tryz.prog 417 20:=by
 obtain ⟨i,h1,h2,_,_⟩:=info_of (P:=Tryz.prog) (T:=417) (z:=.agg #[.int .u64 0,.int .u64 0,.int .u64 0,.int .u64 0,.int .u64 0,.int .u64 0,.int .u64 0,.int .u64 0,.int .u64 0,.int .u64 0,.int .u64 0,.int .u64 0,.int .u64 0,.int .u64 0,.int .u64 0,.int .u64 0,.int .u64 0,.int .u64 0,.int .u64 0,.int .u64 0]) (n:=20) (m:=160) (by kernel_rfl) (by kernel_rfl) (by kernel_rfl)
 exact ⟨i,_,h1,h2,rfl⟩
def insF (K:Nat) (T:TypeId) (f g:FuncId) (s:Slc) (i:Int) (v:Slc) (w:World) (R:Ending->World->Prop):Prop:=
 ((0<=i/\i<=(s.len:Nat))/\condK ((v.len:Int)==(0:Int)) (R (.returned (.slice s.a s.len s.cap)) w) (condK (i==(s.len:Int)) (semK Tryz.prog (Builtin.append_ #[T,T] T #[.slice s.a s.len s.cap,.slice v.a v.len v.cap]) w λv1 w1=>∃ x:Slc,v1=(.slice x.a x.len x.cap)/\R (.returned (.slice x.a x.len x.cap)) w1) (condK (decide ((IntKind.i64.wrap ((s.len:Int)+(v.len:Int))) > (s.cap:Int))) (((0<=i/\i<=(s.cap:Nat))/\semK Tryz.prog (Builtin.append_ #[T,3] T #[.slice (cutSl s K 0 (i.toNat) s.cap).a (cutSl s K 0 (i.toNat) s.cap).len (cutSl s K 0 (i.toNat) s.cap).cap,.int .i64 (IntKind.i64.wrap ((IntKind.i64.wrap ((s.len:Int)+(v.len:Int))) - i))]) w λv2 w2=>∃ x1:Slc,v2=(.slice x1.a x1.len x1.cap)/\((0<=i/\i<=(x1.len:Nat))/\semK Tryz.prog (Builtin.copy_ #[T,T] 3 #[.slice (cutSl x1 K (i.toNat) x1.len x1.cap).a (cutSl x1 K (i.toNat) x1.len x1.cap).len (cutSl x1 K (i.toNat) x1.len x1.cap).cap,.slice v.a v.len v.cap]) w2 λv3 w3=>∃ x2:Int,v3=(.int .i64 x2)/\((0<=(IntKind.i64.wrap (i+(v.len:Int)))/\(IntKind.i64.wrap (i+(v.len:Int)))<=(x1.len:Nat))/\((0<=i/\i<=(s.len:Nat))/\((semK Tryz.prog (Builtin.copy_ #[T,T] 3 #[.slice (cutSl x1 K (((IntKind.i64.wrap (i+(v.len:Int)))).toNat) x1.len x1.cap).a (cutSl x1 K (((IntKind.i64.wrap (i+(v.len:Int)))).toNat) x1.len x1.cap).len (cutSl x1 K (((IntKind.i64.wrap (i+(v.len:Int)))).toNat) x1.len x1.cap).cap,.slice (cutSl s K (i.toNat) s.len s.cap).a (cutSl s K (i.toNat) s.len s.cap).len (cutSl s K (i.toNat) s.len s.cap).cap]) w3.drew λv4 w4=>∃ x3:Int,v4=(.int .i64 x3)/\R (.returned (.slice x1.a x1.len x1.cap)) w4)/\True)))))) (((0<=(IntKind.i64.wrap ((s.len:Int)+(v.len:Int)))/\(IntKind.i64.wrap ((s.len:Int)+(v.len:Int)))<=(s.cap:Nat))/\((0<=(IntKind.i64.wrap (i+(v.len:Int)))/\(IntKind.i64.wrap (i+(v.len:Int)))<=((cutSl s K 0 (((IntKind.i64.wrap ((s.len:Int)+(v.len:Int)))).toNat) s.cap).len:Nat))/\∃ v5 w5,(callFunc f #[.slice v.a v.len v.cap,.slice (cutSl (cutSl s K 0 (((IntKind.i64.wrap ((s.len:Int)+(v.len:Int)))).toNat) s.cap) K (((IntKind.i64.wrap (i+(v.len:Int)))).toNat) ((cutSl s K 0 (((IntKind.i64.wrap ((s.len:Int)+(v.len:Int)))).toNat) s.cap).len) ((cutSl s K 0 (((IntKind.i64.wrap ((s.len:Int)+(v.len:Int)))).toNat) s.cap).cap)).a (cutSl (cutSl s K 0 (((IntKind.i64.wrap ((s.len:Int)+(v.len:Int)))).toNat) s.cap) K (((IntKind.i64.wrap (i+(v.len:Int)))).toNat) ((cutSl s K 0 (((IntKind.i64.wrap ((s.len:Int)+(v.len:Int)))).toNat) s.cap).len) ((cutSl s K 0 (((IntKind.i64.wrap ((s.len:Int)+(v.len:Int)))).toNat) s.cap).cap)).len (cutSl (cutSl s K 0 (((IntKind.i64.wrap ((s.len:Int)+(v.len:Int)))).toNat) s.cap) K (((IntKind.i64.wrap (i+(v.len:Int)))).toNat) ((cutSl s K 0 (((IntKind.i64.wrap ((s.len:Int)+(v.len:Int)))).toNat) s.cap).len) ((cutSl s K 0 (((IntKind.i64.wrap ((s.len:Int)+(v.len:Int)))).toNat) s.cap).cap)).cap]).run Tryz.prog w = .ok (.value v5) w5/\∃ x4:Bool,v5=(.bool x4)/\condK (!x4) (((0<=(IntKind.i64.wrap (i+(v.len:Int)))/\(IntKind.i64.wrap (i+(v.len:Int)))<=((cutSl s K 0 (((IntKind.i64.wrap ((s.len:Int)+(v.len:Int)))).toNat) s.cap).len:Nat))/\((0<=i/\i<=((cutSl s K 0 (((IntKind.i64.wrap ((s.len:Int)+(v.len:Int)))).toNat) s.cap).len:Nat))/\((semK Tryz.prog (Builtin.copy_ #[T,T] 3 #[.slice (cutSl (cutSl s K 0 (((IntKind.i64.wrap ((s.len:Int)+(v.len:Int)))).toNat) s.cap) K (((IntKind.i64.wrap (i+(v.len:Int)))).toNat) ((cutSl s K 0 (((IntKind.i64.wrap ((s.len:Int)+(v.len:Int)))).toNat) s.cap).len) ((cutSl s K 0 (((IntKind.i64.wrap ((s.len:Int)+(v.len:Int)))).toNat) s.cap).cap)).a (cutSl (cutSl s K 0 (((IntKind.i64.wrap ((s.len:Int)+(v.len:Int)))).toNat) s.cap) K (((IntKind.i64.wrap (i+(v.len:Int)))).toNat) ((cutSl s K 0 (((IntKind.i64.wrap ((s.len:Int)+(v.len:Int)))).toNat) s.cap).len) ((cutSl s K 0 (((IntKind.i64.wrap ((s.len:Int)+(v.len:Int)))).toNat) s.cap).cap)).len (cutSl (cutSl s K 0 (((IntKind.i64.wrap ((s.len:Int)+(v.len:Int)))).toNat) s.cap) K (((IntKind.i64.wrap (i+(v.len:Int)))).toNat) ((cutSl s K 0 (((IntKind.i64.wrap ((s.len:Int)+(v.len:Int)))).toNat) s.cap).len) ((cutSl s K 0 (((IntKind.i64.wrap ((s.len:Int)+(v.len:Int)))).toNat) s.cap).cap)).cap,.slice (cutSl (cutSl s K 0 (((IntKind.i64.wrap ((s.len:Int)+(v.len:Int)))).toNat) s.cap) K (i.toNat) ((cutSl s K 0 (((IntKind.i64.wrap ((s.len:Int)+(v.len:Int)))).toNat) s.cap).len) ((cutSl s K 0 (((IntKind.i64.wrap ((s.len:Int)+(v.len:Int)))).toNat) s.cap).cap)).a (cutSl (cutSl s K 0 (((IntKind.i64.wrap ((s.len:Int)+(v.len:Int)))).toNat) s.cap) K (i.toNat) ((cutSl s K 0 (((IntKind.i64.wrap ((s.len:Int)+(v.len:Int)))).toNat) s.cap).len) ((cutSl s K 0 (((IntKind.i64.wrap ((s.len:Int)+(v.len:Int)))).toNat) s.cap).cap)).len (cutSl (cutSl s K 0 (((IntKind.i64.wrap ((s.len:Int)+(v.len:Int)))).toNat) s.cap) K (i.toNat) ((cutSl s K 0 (((IntKind.i64.wrap ((s.len:Int)+(v.len:Int)))).toNat) s.cap).len) ((cutSl s K 0 (((IntKind.i64.wrap ((s.len:Int)+(v.len:Int)))).toNat) s.cap).cap)).cap]) w5.drew λv6 w6=>∃ x5:Int,v6=(.int .i64 x5)/\((0<=i/\i<=((cutSl s K 0 (((IntKind.i64.wrap ((s.len:Int)+(v.len:Int)))).toNat) s.cap).len:Nat))/\semK Tryz.prog (Builtin.copy_ #[T,T] 3 #[.slice (cutSl (cutSl s K 0 (((IntKind.i64.wrap ((s.len:Int)+(v.len:Int)))).toNat) s.cap) K (i.toNat) ((cutSl s K 0 (((IntKind.i64.wrap ((s.len:Int)+(v.len:Int)))).toNat) s.cap).len) ((cutSl s K 0 (((IntKind.i64.wrap ((s.len:Int)+(v.len:Int)))).toNat) s.cap).cap)).a (cutSl (cutSl s K 0 (((IntKind.i64.wrap ((s.len:Int)+(v.len:Int)))).toNat) s.cap) K (i.toNat) ((cutSl s K 0 (((IntKind.i64.wrap ((s.len:Int)+(v.len:Int)))).toNat) s.cap).len) ((cutSl s K 0 (((IntKind.i64.wrap ((s.len:Int)+(v.len:Int)))).toNat) s.cap).cap)).len (cutSl (cutSl s K 0 (((IntKind.i64.wrap ((s.len:Int)+(v.len:Int)))).toNat) s.cap) K (i.toNat) ((cutSl s K 0 (((IntKind.i64.wrap ((s.len:Int)+(v.len:Int)))).toNat) s.cap).len) ((cutSl s K 0 (((IntKind.i64.wrap ((s.len:Int)+(v.len:Int)))).toNat) s.cap).cap)).cap,.slice v.a v.len v.cap]) w6 λv7 w7=>∃ x6:Int,v7=(.int .i64 x6)/\R (.returned (.slice (cutSl s K 0 (((IntKind.i64.wrap ((s.len:Int)+(v.len:Int)))).toNat) s.cap).a (cutSl s K 0 (((IntKind.i64.wrap ((s.len:Int)+(v.len:Int)))).toNat) s.cap).len (cutSl s K 0 (((IntKind.i64.wrap ((s.len:Int)+(v.len:Int)))).toNat) s.cap).cap)) w7))/\True)))) (((0<=(s.len:Int)/\(s.len:Int)<=((cutSl s K 0 (((IntKind.i64.wrap ((s.len:Int)+(v.len:Int)))).toNat) s.cap).len:Nat))/\semK Tryz.prog (Builtin.copy_ #[T,T] 3 #[.slice (cutSl (cutSl s K 0 (((IntKind.i64.wrap ((s.len:Int)+(v.len:Int)))).toNat) s.cap) K (((s.len:Int)).toNat) ((cutSl s K 0 (((IntKind.i64.wrap ((s.len:Int)+(v.len:Int)))).toNat) s.cap).len) ((cutSl s K 0 (((IntKind.i64.wrap ((s.len:Int)+(v.len:Int)))).toNat) s.cap).cap)).a (cutSl (cutSl s K 0 (((IntKind.i64.wrap ((s.len:Int)+(v.len:Int)))).toNat) s.cap) K (((s.len:Int)).toNat) ((cutSl s K 0 (((IntKind.i64.wrap ((s.len:Int)+(v.len:Int)))).toNat) s.cap).len) ((cutSl s K 0 (((IntKind.i64.wrap ((s.len:Int)+(v.len:Int)))).toNat) s.cap).cap)).len (cutSl (cutSl s K 0 (((IntKind.i64.wrap ((s.len:Int)+(v.len:Int)))).toNat) s.cap) K (((s.len:Int)).toNat) ((cutSl s K 0 (((IntKind.i64.wrap ((s.len:Int)+(v.len:Int)))).toNat) s.cap).len) ((cutSl s K 0 (((IntKind.i64.wrap ((s.len:Int)+(v.len:Int)))).toNat) s.cap).cap)).cap,.slice v.a v.len v.cap]) w5 λv8 w8=>∃ x7:Int,v8=(.int .i64 x7)/\((0<=i/\i<=((cutSl s K 0 (((IntKind.i64.wrap ((s.len:Int)+(v.len:Int)))).toNat) s.cap).len:Nat))/\callK Tryz.prog g [.slice (cutSl (cutSl s K 0 (((IntKind.i64.wrap ((s.len:Int)+(v.len:Int)))).toNat) s.cap) K (i.toNat) ((cutSl s K 0 (((IntKind.i64.wrap ((s.len:Int)+(v.len:Int)))).toNat) s.cap).len) ((cutSl s K 0 (((IntKind.i64.wrap ((s.len:Int)+(v.len:Int)))).toNat) s.cap).cap)).a (cutSl (cutSl s K 0 (((IntKind.i64.wrap ((s.len:Int)+(v.len:Int)))).toNat) s.cap) K (i.toNat) ((cutSl s K 0 (((IntKind.i64.wrap ((s.len:Int)+(v.len:Int)))).toNat) s.cap).len) ((cutSl s K 0 (((IntKind.i64.wrap ((s.len:Int)+(v.len:Int)))).toNat) s.cap).cap)).len (cutSl (cutSl s K 0 (((IntKind.i64.wrap ((s.len:Int)+(v.len:Int)))).toNat) s.cap) K (i.toNat) ((cutSl s K 0 (((IntKind.i64.wrap ((s.len:Int)+(v.len:Int)))).toNat) s.cap).len) ((cutSl s K 0 (((IntKind.i64.wrap ((s.len:Int)+(v.len:Int)))).toNat) s.cap).cap)).cap,.int .i64 (v.len:Int)] w8 (panR R) λv9 w9=>v9=(.tuple #[])/\R (.returned (.slice (cutSl s K 0 (((IntKind.i64.wrap ((s.len:Int)+(v.len:Int)))).toNat) s.cap).a (cutSl s K 0 (((IntKind.i64.wrap ((s.len:Int)+(v.len:Int)))).toNat) s.cap).len (cutSl s K 0 (((IntKind.i64.wrap ((s.len:Int)+(v.len:Int)))).toNat) s.cap).cap)) w9)))))))))
def sh263 (s:Slc) (w:World) (R:Ending->World->Prop):Prop:=
 semK Tryz.prog (Instr.box 421 (.slice s.a s.len s.cap)) w λv w1=>∃ s1:Option Addr,v=(.pointer s1)/\R (.returned (.func (.func 406) #[] #[.pointer s1])) w1
theorem call263 (s:Slc) {w:World} {R:Ending->World->Prop} (hden:sh263 s w R):Calls Tryz.prog 263 #[.slice s.a s.len s.cap] w R:=
 calls_of_form (.seq none .z (.seq none .z .z)) Tryz.func263 (by kernel_rfl) [.sl s] (by kernel_rfl) (by kernel_rfl) hden
def sh406 (yield:Value) (c:Option Addr) (w:World) (R:Ending->World->Prop):Prop:=
 onSome c λa=>∃ x:Slc,Rd w a [.slice x.a x.len x.cap]/\∃ (inv:List TV->World->Prop) (mu:List TV->World->Nat),inv [.i .i64 (IntKind.i64.wrap ((x.len:Int) - (1:Int)))] w/\(∀ i:Int,∀ w1:World,inv [.i .i64 i] w1->condK (decide (i>=(0:Int))) (onSome c λa1=>∃ x1:Slc,Rd w1 a1 [.slice x1.a x1.len x1.cap]/\((0<=i/\i<(x1.len:Nat))/\onSome x1.a λa2=>∃ x2:Bool,Rd w1 (a2.add (i.toNat*1)) [.bool x2]/\callFV Tryz.prog yield [.int .i64 i,.bool x2] w1 (panR R) λv w2=>∃ x3:Bool,v=(.bool x3)/\condK (!x3) (R (.returned (.tuple #[])) w2) ((inv [.i .i64 (IntKind.i64.wrap (i - (1:Int)))] w2/\mu [.i .i64 (IntKind.i64.wrap (i - (1:Int)))] w2<mu [.i .i64 i] w1)))) (R (.returned (.tuple #[])) w1))
theorem call406 (yield:Value) (c:Option Addr) {w:World} {R:Ending->World->Prop} (hden:sh406 yield c w R):Calls Tryz.prog 406 #[yield,.pointer c] w R:=
 calls_of_form (.seq none .z (.block none (.loop [(3,(.i .i64))] (.seq none (.seq none .z (.cond .z .z)) (.seq none (.block none (.seq none .z (.cond .z .z))) .z))))) Tryz.func406 (by kernel_rfl) [.v yield,.p c] (by kernel_rfl) (by kernel_rfl) hden
def sh174 (paa pab pac pad pae pba pbb pbc pbd pbe pca pcb pcc pcd pce pda pdb pdc pdd pde:UInt64) (w:World) (R:Ending->World->Prop):Prop:=
 semK Tryz.prog (Instr.box 308 (e20 paa pab pac pad pae pba pbb pbc pbd pbe pca pcb pcc pcd pce pda pdb pdc pdd pde)) w λv w1=>∃ p:Option Addr,v=(.pointer p)/\onSome p λa=>∃ xa xb xc xd xe:UInt64,Rd w1 (a.add 10) (l5 xa xb xc xd xe)/\callK Tryz.prog 269 [e5 xa xb xc xd xe] w1 (panR R) λv1 w2=>∃ xa1 xb1 xc1 xd1 xe1:UInt64,v1=(e5 xa1 xb1 xc1 xd1 xe1)/\semK Tryz.prog (Instr.alloc 306 true (.tuple #[])) w2 λv2 w3=>∃ z:Option Addr,v2=(.pointer z)/\onSome z λa1=>semU Tryz.prog (storeVar 306 a1 (e5 xa1 xb1 xc1 xd1 xe1)) w3 λw4=>onSome p λa2=>∃ xa2 xb2 xc2 xd2 xe2:UInt64,Rd w4 (a2.add 5) (l5 xa2 xb2 xc2 xd2 xe2)/\onSome z λa3=>∃ xa3 xb3 xc3 xd3 xe3:UInt64,Rd w4 a3 (l5 xa3 xb3 xc3 xd3 xe3)/\callK Tryz.prog 271 [e5 xa2 xb2 xc2 xd2 xe2,e5 xa3 xb3 xc3 xd3 xe3] w4 (panR R) λv3 w5=>∃ xa4 xb4 xc4 xd4 xe4:UInt64,v3=(e5 xa4 xb4 xc4 xd4 xe4)/\callK Tryz.prog 270 [e5 xa4 xb4 xc4 xd4 xe4] w5 (panR R) λv4 w6=>∃ x:Slc,v4=(.slice x.a x.len x.cap)/\onSome p λa4=>∃ xa5 xb5 xc5 xd5 xe5:UInt64,Rd w6 (a4.add 0) (l5 xa5 xb5 xc5 xd5 xe5)/\onSome z λa5=>∃ xa6 xb6 xc6 xd6 xe6:UInt64,Rd w6 a5 (l5 xa6 xb6 xc6 xd6 xe6)/\callK Tryz.prog 271 [e5 xa5 xb5 xc5 xd5 xe5,e5 xa6 xb6 xc6 xd6 xe6] w6 (panR R) λv5 w7=>∃ xa7 xb7 xc7 xd7 xe7:UInt64,v5=(e5 xa7 xb7 xc7 xd7 xe7)/\callK Tryz.prog 272 [e5 xa7 xb7 xc7 xd7 xe7] w7 (panR R) λv6 w8=>∃ x1:Bool,v6=(.bool x1)/\condK x1 (((0<=(31:Int)/\(31:Int)<(x.len:Nat))/\onSome x.a λa6=>∃ x2:UInt8,Rd w8 (a6.add (((31:Int)).toNat*1)) [.int .u8 x2.toNat]/\((0<=(31:Int)/\(31:Int)<(x.len:Nat))/\onSome x.a λa7=>semU Tryz.prog (storeVar 5 (a7.add (((31:Int)).toNat*1)) (.int .u8 ((x2 ||| (128:UInt8))).toNat)) w8 λw9=>R (.returned (.slice x.a x.len x.cap)) w9))) (R (.returned (.slice x.a x.len x.cap)) w8)
theorem call174 (paa pab pac pad pae pba pbb pbc pbd pbe pca pcb pcc pcd pce pda pdb pdc pdd pde:UInt64) {w:World} {R:Ending->World->Prop} (hden:sh174 paa pab pac pad pae pba pbb pbc pbd pbe pca pcb pcc pcd pce pda pdb pdc pdd pde w R):Calls Tryz.prog 174 #[e20 paa pab pac pad pae pba pbb pbc pbd pbe pca pcb pcc pcd pce pda pdb pdc pdd pde] w R:=
 calls_of_form (.seq none .z (.seq none .z (.seq none .z (.seq none (.seq none .z (.cond .z .z)) (.seq none .z .z))))) Tryz.func174 (by kernel_rfl) [.agg [.agg [.u64 paa,.u64 pab,.u64 pac,.u64 pad,.u64 pae],.agg [.u64 pba,.u64 pbb,.u64 pbc,.u64 pbd,.u64 pbe],.agg [.u64 pca,.u64 pcb,.u64 pcc,.u64 pcd,.u64 pce],.agg [.u64 pda,.u64 pdb,.u64 pdc,.u64 pdd,.u64 pde]]] (by kernel_rfl) (by kernel_rfl) hden
def sh172 (a:Slc) (paa pab pac pad pae pba pbb pbc pbd pbe pca pcb pcc pcd pce pda pdb pdc pdd pde:UInt64) (w:World) (R:Ending->World->Prop):Prop:=
 semK Tryz.prog (Instr.box 308 (e20 paa pab pac pad pae pba pbb pbc pbd pbe pca pcb pcc pcd pce pda pdb pdc pdd pde)) w λv w1=>∃ p:Option Addr,v=(.pointer p)/\semK Tryz.prog (Instr.alloc 308 true (.tuple #[])) w1 λv1 w2=>∃ x:Option Addr,v1=(.pointer x)/\callK Tryz.prog 262 [] w2 (panR R) λv2 w3=>∃ xaa xab xac xad xae xba xbb xbc xbd xbe xca xcb xcc xcd xce xda xdb xdc xdd xde:UInt64,v2=(e20 xaa xab xac xad xae xba xbb xbc xbd xbe xca xcb xcc xcd xce xda xdb xdc xdd xde)/\semK Tryz.prog (Instr.alloc 417 true (.tuple #[])) w3 λv3 w4=>∃ s:Option Addr,v3=(.pointer s)/\onSome s λa1=>semU Tryz.prog (storeVar 417 a1 (e20 xaa xab xac xad xae xba xbb xbc xbd xbe xca xcb xcc xcd xce xda xdb xdc xdd xde)) w4 λw5=>callK Tryz.prog 264 [.slice a.a a.len a.cap] w5 (panR R) λv4 w6=>∃ x1:Slc,v4=(.slice x1.a x1.len x1.cap)/\callK Tryz.prog 263 [.slice x1.a x1.len x1.cap] w6 (panR R) λv5 w7=>∃ x2:Value,v5=x2/\∃ (fn:FuncId) (first cap:Array Value),x2 = .func (.func fn) first cap/\enters Tryz.prog fn=true/\∀ (rec:LoopState->Option Code->Obj) (dd ll:Nat) (w8:World),dd=w7.heap.size->ll=dd+1->w8=(w7.alloc (.deferred (some []))).alloc (rec .ready none)->(∀ x3:Int,∀ x4:Bool,∀ (w9:World) (kk:Value->World->Prop),w9.heap[ll]? = some (rec .ready none)->((w9.heap[ll]? = some (rec .ready none)/\callK Tryz.prog 265 [.pointer s] (w9.putObj ll (rec .busy none)) (λ_ _=>False) λv6 w10=>v6=(.tuple #[])/\condK x4 (onSome p λa2=>∃ xaa1 xab1 xac1 xad1 xae1 xba1 xbb1 xbc1 xbd1 xbe1 xca1 xcb1 xcc1 xcd1 xce1 xda1 xdb1 xdc1 xdd1 xde1:UInt64,Rd w10 a2 (l20 xaa1 xab1 xac1 xad1 xae1 xba1 xbb1 xbc1 xbd1 xbe1 xca1 xcb1 xcc1 xcd1 xce1 xda1 xdb1 xdc1 xdd1 xde1)/\callK Tryz.prog 266 [.pointer s,e20 xaa1 xab1 xac1 xad1 xae1 xba1 xbb1 xbc1 xbd1 xbe1 xca1 xcb1 xcc1 xcd1 xce1 xda1 xdb1 xdc1 xdd1 xde1] w10 (λ_ _=>False) λv7 w11=>v7=(.tuple #[])/\(w11.heap[ll]? = some (rec .busy none)/\kk (.bool true) (w11.putObj ll (rec .ready none)))) ((w10.heap[ll]? = some (rec .busy none)/\kk (.bool true) (w10.putObj ll (rec .ready none))))))->yieldK Tryz.prog ll [.int .i64 x3,.bool x4] w9 kk)->callK Tryz.prog fn (first.toList++[.func (.yield ll) #[] #[]]++cap.toList) w8 (panRK R [(mkD dd)]) λ_ w12=>(w12.heap[ll]? = some (rec .ready none)/\onSome s λa3=>∃ xaa2 xab2 xac2 xad2 xae2 xba2 xbb2 xbc2 xbd2 xbe2 xca2 xcb2 xcc2 xcd2 xce2 xda2 xdb2 xdc2 xdd2 xde2:UInt64,Rd (w12.putObj ll (rec .exhausted none)) (a3.add 0) (l20 xaa2 xab2 xac2 xad2 xae2 xba2 xbb2 xbc2 xbd2 xbe2 xca2 xcb2 xcc2 xcd2 xce2 xda2 xdb2 xdc2 xdd2 xde2)/\onSome x λa4=>semU Tryz.prog (storeVar 308 a4 (e20 xaa2 xab2 xac2 xad2 xae2 xba2 xbb2 xbc2 xbd2 xbe2 xca2 xcb2 xcc2 xcd2 xce2 xda2 xdb2 xdc2 xdd2 xde2)) (w12.putObj ll (rec .exhausted none)) λw13=>(w13.heap[dd]? = some (.deferred (some []))/\onSome x λa5=>∃ xaa3 xab3 xac3 xad3 xae3 xba3 xbb3 xbc3 xbd3 xbe3 xca3 xcb3 xcc3 xcd3 xce3 xda3 xdb3 xdc3 xdd3 xde3:UInt64,Rd (w13.putObj dd (.deferred none)) a5 (l20 xaa3 xab3 xac3 xad3 xae3 xba3 xbb3 xbc3 xbd3 xbe3 xca3 xcb3 xcc3 xcd3 xce3 xda3 xdb3 xdc3 xdd3 xde3)/\R (.returned (e20 xaa3 xab3 xac3 xad3 xae3 xba3 xbb3 xbc3 xbd3 xbe3 xca3 xcb3 xcc3 xcd3 xce3 xda3 xdb3 xdc3 xdd3 xde3)) (w13.putObj dd (.deferred none))))\/False\/False
theorem call172 (a:Slc) (paa pab pac pad pae pba pbb pbc pbd pbe pca pcb pcc pcd pce pda pdb pdc pdd pde:UInt64) {w:World} {R:Ending->World->Prop} (hden:sh172 a paa pab pac pad pae pba pbb pbc pbd pbe pca pcb pcc pcd pce pda pdb pdc pdd pde w R):Calls Tryz.prog 172 #[.slice a.a a.len a.cap,e20 paa pab pac pad pae pba pbb pbc pbd pbe pca pcb pcc pcd pce pda pdb pdc pdd pde] w R:=
 calls_of_form (.seq none .z (.seq none .z (.seq none (.seq none .z (.block none (.rf false [] [(.i .i64),.b] .z (.block none (.seq none .z (.seq none .z (.cond .z .z))))))) (.seq none .z .z)))) Tryz.func172 (by kernel_rfl) [.sl a,.agg [.agg [.u64 paa,.u64 pab,.u64 pac,.u64 pad,.u64 pae],.agg [.u64 pba,.u64 pbb,.u64 pbc,.u64 pbd,.u64 pbe],.agg [.u64 pca,.u64 pcb,.u64 pcc,.u64 pcd,.u64 pce],.agg [.u64 pda,.u64 pdb,.u64 pdc,.u64 pdd,.u64 pde]]] (by kernel_rfl) (by kernel_rfl) hden
def sh112 (x y:UInt64) (w:World) (R:Ending->World->Prop):Prop:=
 callK Tryz.prog 185 [.int .u64 x.toNat,.int .u64 y.toNat] w (panR R) λv w1=>∃ xa xb:UInt64,v=(.tuple #[.int .u64 xa.toNat,.int .u64 xb.toNat])/\R (.returned (.tuple #[.int .u64 xa.toNat,.int .u64 xb.toNat])) w1
theorem call112 (x y:UInt64) {w:World} {R:Ending->World->Prop} (hden:sh112 x y w R):Calls Tryz.prog 112 #[.int .u64 x.toNat,.int .u64 y.toNat] w R:=
 calls_of_form (.seq none .z (.seq none (.cond (.seq none .z (.seq none .z .z)) .z) (.seq none .z (.seq none .z .z)))) Tryz.func112 (by kernel_rfl) [.u64 x,.u64 y] (by kernel_rfl) (by kernel_rfl) hden
def sh102 (seed:Slc) (w:World) (R:Ending->World->Prop):Prop:=
 condK ((seed.len:Int) != (32:Int)) (R (.returned (.tuple #[.pointer none,.bool false])) w) (semK Tryz.prog (Instr.buildSlice 55 1 #[(0,(.slice seed.a seed.len seed.cap))]) w λv w1=>∃ x:Slc,v=(.slice x.a x.len x.cap)/\callK Tryz.prog 94 [.slice x.a x.len x.cap] w1 (panR R) λv1 w2=>∃ x1:Slc,v1=(.slice x1.a x1.len x1.cap)/\((0<=(32:Int)/\(32:Int)<=(32:Int)/\(32:Int)<=(x1.cap:Nat))/\((0<=(0:Int)/\(0:Int)<((cutSl x1 1 0 (((32:Int)).toNat) (((32:Int)).toNat)).len:Nat))/\onSome (cutSl x1 1 0 (((32:Int)).toNat) (((32:Int)).toNat)).a λa=>∃ x2:UInt8,Rd w2 (a.add (((0:Int)).toNat*1)) [.int .u8 x2.toNat]/\((0<=(0:Int)/\(0:Int)<((cutSl x1 1 0 (((32:Int)).toNat) (((32:Int)).toNat)).len:Nat))/\onSome (cutSl x1 1 0 (((32:Int)).toNat) (((32:Int)).toNat)).a λa1=>semU Tryz.prog (storeVar 5 (a1.add (((0:Int)).toNat*1)) (.int .u8 ((x2 &&& ~~~(7:UInt8))).toNat)) w2 λw3=>((0<=(31:Int)/\(31:Int)<((cutSl x1 1 0 (((32:Int)).toNat) (((32:Int)).toNat)).len:Nat))/\onSome (cutSl x1 1 0 (((32:Int)).toNat) (((32:Int)).toNat)).a λa2=>∃ x3:UInt8,Rd w3 (a2.add (((31:Int)).toNat*1)) [.int .u8 x3.toNat]/\((0<=(31:Int)/\(31:Int)<((cutSl x1 1 0 (((32:Int)).toNat) (((32:Int)).toNat)).len:Nat))/\onSome (cutSl x1 1 0 (((32:Int)).toNat) (((32:Int)).toNat)).a λa3=>semU Tryz.prog (storeVar 5 (a3.add (((31:Int)).toNat*1)) (.int .u8 (((x3 &&& (63:UInt8)) ||| (64:UInt8))).toNat)) w3 λw4=>((0<=(32:Int)/\(32:Int)<=(x1.len:Nat))/\((callK Tryz.prog 173 [] w4.drew (panR R) λv2 w5=>∃ xaa xab xac xad xae xba xbb xbc xbd xbe xca xcb xcc xcd xce xda xdb xdc xdd xde:UInt64,v2=(e20 xaa xab xac xad xae xba xbb xbc xbd xbe xca xcb xcc xcd xce xda xdb xdc xdd xde)/\((callK Tryz.prog 172 [.slice (cutSl x1 1 0 (((32:Int)).toNat) (((32:Int)).toNat)).a (cutSl x1 1 0 (((32:Int)).toNat) (((32:Int)).toNat)).len (cutSl x1 1 0 (((32:Int)).toNat) (((32:Int)).toNat)).cap,e20 xaa xab xac xad xae xba xbb xbc xbd xbe xca xcb xcc xcd xce xda xdb xdc xdd xde] w5 (panR R) λv3 w6=>∃ xaa1 xab1 xac1 xad1 xae1 xba1 xbb1 xbc1 xbd1 xbe1 xca1 xcb1 xcc1 xcd1 xce1 xda1 xdb1 xdc1 xdd1 xde1:UInt64,v3=(e20 xaa1 xab1 xac1 xad1 xae1 xba1 xbb1 xbc1 xbd1 xbe1 xca1 xcb1 xcc1 xcd1 xce1 xda1 xdb1 xdc1 xdd1 xde1)/\((semK Tryz.prog (Instr.box 312 (.agg #[.int .u64 xaa1.toNat,.int .u64 xab1.toNat,.int .u64 xac1.toNat,.int .u64 xad1.toNat,.int .u64 xae1.toNat,.int .u64 xba1.toNat,.int .u64 xbb1.toNat,.int .u64 xbc1.toNat,.int .u64 xbd1.toNat,.int .u64 xbe1.toNat,.int .u64 xca1.toNat,.int .u64 xcb1.toNat,.int .u64 xcc1.toNat,.int .u64 xcd1.toNat,.int .u64 xce1.toNat,.int .u64 xda1.toNat,.int .u64 xdb1.toNat,.int .u64 xdc1.toNat,.int .u64 xdd1.toNat,.int .u64 xde1.toNat,.slice (cutSl x1 1 0 (((32:Int)).toNat) (((32:Int)).toNat)).a (cutSl x1 1 0 (((32:Int)).toNat) (((32:Int)).toNat)).len (cutSl x1 1 0 (((32:Int)).toNat) (((32:Int)).toNat)).cap,.slice (cutSl x1 1 (((32:Int)).toNat) x1.len x1.cap).a (cutSl x1 1 (((32:Int)).toNat) x1.len x1.cap).len (cutSl x1 1 (((32:Int)).toNat) x1.len x1.cap).cap])) w6 λv4 w7=>∃ x4:Option Addr,v4=(.pointer x4)/\R (.returned (.tuple #[.pointer x4,.bool true])) w7)/\True))/\True))/\True))))))))
theorem call102 (seed:Slc) {w:World} {R:Ending->World->Prop} (hden:sh102 seed w R):Calls Tryz.prog 102 #[.slice seed.a seed.len seed.cap] w R:=
 calls_of_form (.seq none .z (.seq none (.seq none .z (.cond (.seq none .z .z) .z)) (.seq none .z (.seq none .z (.seq none .z (.seq none .z (.seq none (.draw 0 (.take 0 (.take 3 (.take 4 (.take 5 (.all [(1,(.all [(2,(.take 6 (.all [(7,(.take 8 (.take 9 .done)))])))]))])))))) .z))))))) Tryz.func102 (by kernel_rfl) [.sl seed] (by kernel_rfl) (by kernel_rfl) hden
def sh103 (o:Option Addr) (w:World) (R:Ending->World->Prop):Prop:=
 onSome o λa=>∃ xaa xab xac xad xae xba xbb xbc xbd xbe xca xcb xcc xcd xce xda xdb xdc xdd xde:UInt64,Rd w (a.add 0) (l20 xaa xab xac xad xae xba xbb xbc xbd xbe xca xcb xcc xcd xce xda xdb xdc xdd xde)/\callK Tryz.prog 174 [e20 xaa xab xac xad xae xba xbb xbc xbd xbe xca xcb xcc xcd xce xda xdb xdc xdd xde] w (panR R) λv w1=>∃ x:Slc,v=(.slice x.a x.len x.cap)/\R (.returned (.slice x.a x.len x.cap)) w1
theorem call103 (o:Option Addr) {w:World} {R:Ending->World->Prop} (hden:sh103 o w R):Calls Tryz.prog 103 #[.pointer o] w R:=
 calls_of_form (.seq none .z (.seq none .z .z)) Tryz.func103 (by kernel_rfl) [.p o] (by kernel_rfl) (by kernel_rfl) hden
def sh248 (first parts:Slc) (w:World) (R:Ending->World->Prop):Prop:=
 callK Tryz.prog 73 [.slice parts.a parts.len parts.cap] w (panR R) λv w1=>∃ x:Slc,v=(.slice x.a x.len x.cap)/\semK Tryz.prog (Instr.buildSlice 55 1 #[(0,(.slice first.a first.len first.cap))]) w1 λv1 w2=>∃ x1:Slc,v1=(.slice x1.a x1.len x1.cap)/\callK Tryz.prog 360 [.slice x.a x.len x.cap,.int .i64 (0:Int),.slice x1.a x1.len x1.cap] w2 (panR R) λv2 w3=>∃ x2:Slc,v2=(.slice x2.a x2.len x2.cap)/\callK Tryz.prog 94 [.slice x2.a x2.len x2.cap] w3 (panR R) λv3 w4=>∃ x3:Slc,v3=(.slice x3.a x3.len x3.cap)/\callK Tryz.prog 359 [.slice x3.a x3.len x3.cap] w4 (panR R) λv4 w5=>∃ x4:Slc,v4=(.slice x4.a x4.len x4.cap)/\R (.returned (.slice x4.a x4.len x4.cap)) w5
theorem call248 (first parts:Slc) {w:World} {R:Ending->World->Prop} (hden:sh248 first parts w R):Calls Tryz.prog 248 #[.slice first.a first.len first.cap,.slice parts.a parts.len parts.cap] w R:=
 calls_of_form (.seq none .z (.seq none .z .z)) Tryz.func248 (by kernel_rfl) [.sl first,.sl parts] (by kernel_rfl) (by kernel_rfl) hden
def sh251 (point public0 text:Slc) (w:World) (R:Ending->World->Prop):Prop:=
 callK Tryz.prog 73 [.slice text.a text.len text.cap] w (panR R) λv w1=>∃ x:Slc,v=(.slice x.a x.len x.cap)/\semK Tryz.prog (Instr.buildSlice 55 1 #[(0,(.slice public0.a public0.len public0.cap))]) w1 λv1 w2=>∃ x1:Slc,v1=(.slice x1.a x1.len x1.cap)/\callK Tryz.prog 360 [.slice x.a x.len x.cap,.int .i64 (0:Int),.slice x1.a x1.len x1.cap] w2 (panR R) λv2 w3=>∃ x2:Slc,v2=(.slice x2.a x2.len x2.cap)/\callK Tryz.prog 248 [.slice point.a point.len point.cap,.slice x2.a x2.len x2.cap] w3 (panR R) λv3 w4=>∃ x3:Slc,v3=(.slice x3.a x3.len x3.cap)/\R (.returned (.slice x3.a x3.len x3.cap)) w4
theorem call251 (point public0 text:Slc) {w:World} {R:Ending->World->Prop} (hden:sh251 point public0 text w R):Calls Tryz.prog 251 #[.slice point.a point.len point.cap,.slice public0.a public0.len public0.cap,.slice text.a text.len text.cap] w R:=
 calls_of_form (.seq none .z (.seq none .z .z)) Tryz.func251 (by kernel_rfl) [.sl point,.sl public0,.sl text] (by kernel_rfl) (by kernel_rfl) hden
def sh61 (seed:Slc) (w:World) (R:Ending->World->Prop):Prop:=
 callK Tryz.prog 102 [.slice seed.a seed.len seed.cap] w (panR R) λv w1=>∃ xa:Option Addr,∃ xb:Bool,v=(.tuple #[.pointer xa,.bool xb])/\condK (!xb) (R (.returned (.slice none 0 0)) w1) (callK Tryz.prog 103 [.pointer xa] w1 (panR R) λv1 w2=>∃ x:Slc,v1=(.slice x.a x.len x.cap)/\R (.returned (.slice x.a x.len x.cap)) w2)
theorem call61 (seed:Slc) {w:World} {R:Ending->World->Prop} (hden:sh61 seed w R):Calls Tryz.prog 61 #[.slice seed.a seed.len seed.cap] w R:=
 calls_of_form (.seq none .z (.seq none .z (.seq none (.seq none .z (.cond (.seq none .z .z) .z)) (.seq none .z .z)))) Tryz.func61 (by kernel_rfl) [.sl seed] (by kernel_rfl) (by kernel_rfl) hden
def sh163 (seed text:Slc) (w:World) (R:Ending->World->Prop):Prop:=
 callK Tryz.prog 102 [.slice seed.a seed.len seed.cap] w (panR R) λv w1=>∃ xa:Option Addr,∃ xb:Bool,v=(.tuple #[.pointer xa,.bool xb])/\condK (!xb) (R (.returned (.slice none 0 0)) w1) (onSome xa λa=>∃ x:Slc,Rd w1 (a.add 21) [.slice x.a x.len x.cap]/\callK Tryz.prog 248 [.slice x.a x.len x.cap,.slice text.a text.len text.cap] w1 (panR R) λv1 w2=>∃ x1:Slc,v1=(.slice x1.a x1.len x1.cap)/\callK Tryz.prog 173 [] w2 (panR R) λv2 w3=>∃ xaa xab xac xad xae xba xbb xbc xbd xbe xca xcb xcc xcd xce xda xdb xdc xdd xde:UInt64,v2=(e20 xaa xab xac xad xae xba xbb xbc xbd xbe xca xcb xcc xcd xce xda xdb xdc xdd xde)/\callK Tryz.prog 172 [.slice x1.a x1.len x1.cap,e20 xaa xab xac xad xae xba xbb xbc xbd xbe xca xcb xcc xcd xce xda xdb xdc xdd xde] w3 (panR R) λv3 w4=>∃ xaa1 xab1 xac1 xad1 xae1 xba1 xbb1 xbc1 xbd1 xbe1 xca1 xcb1 xcc1 xcd1 xce1 xda1 xdb1 xdc1 xdd1 xde1:UInt64,v3=(e20 xaa1 xab1 xac1 xad1 xae1 xba1 xbb1 xbc1 xbd1 xbe1 xca1 xcb1 xcc1 xcd1 xce1 xda1 xdb1 xdc1 xdd1 xde1)/\callK Tryz.prog 174 [e20 xaa1 xab1 xac1 xad1 xae1 xba1 xbb1 xbc1 xbd1 xbe1 xca1 xcb1 xcc1 xcd1 xce1 xda1 xdb1 xdc1 xdd1 xde1] w4 (panR R) λv4 w5=>∃ x2:Slc,v4=(.slice x2.a x2.len x2.cap)/\∃ sx:World->Prop,sx w5.drew/\onSome xa λa1=>∃ x3:Slc,(∀ w',sx w'->Rd w' (a1.add 20) [.slice x3.a x3.len x3.cap])/\((callK Tryz.prog 103 [.pointer xa] w5.drew (panR R) λv5 w6=>∃ x4:Slc,v5=(.slice x4.a x4.len x4.cap)/\(sx w6/\((callK Tryz.prog 251 [.slice x2.a x2.len x2.cap,.slice x4.a x4.len x4.cap,.slice text.a text.len text.cap] w6 (panR R) λv6 w7=>∃ x5:Slc,v6=(.slice x5.a x5.len x5.cap)/\(sx w7/\((callK Tryz.prog 250 [.slice x5.a x5.len x5.cap,.slice x3.a x3.len x3.cap,.slice x1.a x1.len x1.cap] w7 (panR R) λv7 w8=>∃ x6:Slc,v7=(.slice x6.a x6.len x6.cap)/\((semK Tryz.prog (Instr.buildSlice 55 2 #[(0,(.slice x2.a x2.len x2.cap)),(1,(.slice x6.a x6.len x6.cap))]) w8 λv8 w9=>∃ x7:Slc,v8=(.slice x7.a x7.len x7.cap)/\(sx w9/\((callK Tryz.prog 249 [.slice x7.a x7.len x7.cap] w9 (panR R) λv9 w10=>∃ x8:Slc,v9=(.slice x8.a x8.len x8.cap)/\(sx w10/\R (.returned (.slice x8.a x8.len x8.cap)) w10))/\True)))/\True))/\True)))/\True)))/\True))
theorem call163 (seed text:Slc) {w:World} {R:Ending->World->Prop} (hden:sh163 seed text w R):Calls Tryz.prog 163 #[.slice seed.a seed.len seed.cap,.slice text.a text.len text.cap] w R:=
 calls_of_form (.seq none .z (.seq none .z (.seq none (.seq none .z (.cond (.seq none .z .z) .z)) (.seq none .z (.seq none .z (.seq none (.draw 1 (.take 0 (.take 1 (.take 2 (.take 4 (.take 6 (.take 7 (.take 8 (.take 10 (.take 9 (.all [(3,(.all [(5,(.all [(11,(.all [(12,(.all [(13,(.take 14 .done))]))]))]))]))]))))))))))) .z)))))) Tryz.func163 (by kernel_rfl) [.sl seed,.sl text] (by kernel_rfl) (by kernel_rfl) hden
def sh73 (s:Slc) (w:World) (R:Ending->World->Prop):Prop:=
 pureSem Tryz.prog (do eqGuard .eql 55 (.tmp 3) (.const (.slice none 0 0)) (.slice s.a s.len s.cap) (.slice none 0 0); binOp .eql 55 (.slice s.a s.len s.cap) (.slice none 0 0)) λv=>∃ x:Bool,v=(.bool x)/\condK x (R (.returned (.slice none 0 0)) w) (semK Tryz.prog (Instr.buildSlice 55 0 #[]) w λv1 w1=>∃ x1:Slc,v1=(.slice x1.a x1.len x1.cap)/\semK Tryz.prog (Builtin.append_ #[55,55] 55 #[.slice x1.a x1.len x1.cap,.slice s.a s.len s.cap]) w1 λv2 w2=>∃ x2:Slc,v2=(.slice x2.a x2.len x2.cap)/\R (.returned (.slice x2.a x2.len x2.cap)) w2)
theorem call73 (s:Slc) {w:World} {R:Ending->World->Prop} (hden:sh73 s w R):Calls Tryz.prog 73 #[.slice s.a s.len s.cap] w R:=
 calls_of_form (.seq none .z (.seq none (.seq none .z (.cond (.seq none .z .z) .z)) (.seq none .z .z))) Tryz.func73 (by kernel_rfl) [.sl s] (by kernel_rfl) (by kernel_rfl) hden
def sh360 (s:Slc) (i:Int) (v:Slc) (w:World) (R:Ending->World->Prop):Prop:=
 insF 1 55 520 521 s i v w R
theorem call360 (s:Slc) (i:Int) (v:Slc) {w:World} {R:Ending->World->Prop} (hden:sh360 s i v w R):Calls Tryz.prog 360 #[.slice s.a s.len s.cap,.int .i64 i,.slice v.a v.len v.cap] w R:=
 calls_of_form (.seq none .z (.seq none .z (.seq none .z (.seq none (.seq none .z (.cond (.seq none .z .z) .z)) (.seq none .z (.seq none (.seq none .z (.cond (.seq none .z .z) .z)) (.seq none (.seq none .z (.cond (.seq none .z (.seq none .z (.seq none (.draw 0 (.take 0 (.take 1 (.take 2 (.take 3 (.take 4 (.take 5 (.take 6 (.take 7 (.all [(8,.done)])))))))))) (.seq none .z .z)))) .z)) (.seq none .z (.seq none (.seq none .z (.cond (.seq none (.draw 0 (.take 0 (.take 1 (.take 2 (.take 3 (.take 4 (.take 5 (.take 6 (.take 7 (.all [(8,.done)])))))))))) (.seq none .z (.seq none .z .z))) .z)) (.seq none .z (.seq none .z (.seq none .z .z)))))))))))) Tryz.func360 (by kernel_rfl) [.sl s,.i .i64 i,.sl v] (by kernel_rfl) (by kernel_rfl) hden
def sh249 (slices:Slc) (w:World) (R:Ending->World->Prop):Prop:=
 ∃ (inv:List TV->World->Prop) (mu:List TV->World->Nat),inv [.i .i64 (0:Int),.i .i64 (0:Int)] w/\(∀ size x:Int,∀ w1:World,inv [.i .i64 size,.i .i64 x] w1->condK (decide (x<(slices.len:Int))) (((0<=x/\x<(slices.len:Nat))/\onSome slices.a λa=>∃ x1:Slc,Rd w1 (a.add (x.toNat*1)) [.slice x1.a x1.len x1.cap]/\condK (decide ((IntKind.i64.wrap (size+(x1.len:Int)))<(0:Int))) ((panR R) [{v:=(.iface 9 (.string ⟨([108,101,110,32,111,117,116,32,111,102,32,114,97,110,103,101]).toArray⟩)),recovered:=false}] w1) ((inv [.i .i64 (IntKind.i64.wrap (size+(x1.len:Int))),.i .i64 (IntKind.i64.wrap (x+(1:Int)))] w1/\mu [.i .i64 (IntKind.i64.wrap (size+(x1.len:Int))),.i .i64 (IntKind.i64.wrap (x+(1:Int)))] w1<mu [.i .i64 size,.i .i64 x] w1)))) (callK Tryz.prog 361 [.slice none 0 0,.int .i64 size] w1 (panR R) λv w2=>∃ x2:Slc,v=(.slice x2.a x2.len x2.cap)/\∃ (inv1:List TV->World->Prop) (mu1:List TV->World->Nat),inv1 [.sl x2,.i .i64 (0:Int)] w2/\(∀ newslice:Slc,∀ x3:Int,∀ w3:World,inv1 [.sl newslice,.i .i64 x3] w3->condK (decide (x3<(slices.len:Int))) (((0<=x3/\x3<(slices.len:Nat))/\onSome slices.a λa1=>∃ x4:Slc,Rd w3 (a1.add (x3.toNat*1)) [.slice x4.a x4.len x4.cap]/\semK Tryz.prog (Builtin.append_ #[23,23] 23 #[.slice newslice.a newslice.len newslice.cap,.slice x4.a x4.len x4.cap]) w3 λv1 w4=>∃ x5:Slc,v1=(.slice x5.a x5.len x5.cap)/\(inv1 [.sl x5,.i .i64 (IntKind.i64.wrap (x3+(1:Int)))] w4/\mu1 [.sl x5,.i .i64 (IntKind.i64.wrap (x3+(1:Int)))] w4<mu1 [.sl newslice,.i .i64 x3] w3))) (R (.returned (.slice newslice.a newslice.len newslice.cap)) w3))))
theorem call249 (slices:Slc) {w:World} {R:Ending->World->Prop} (hden:sh249 slices w R):Calls Tryz.prog 249 #[.slice slices.a slices.len slices.cap] w R:=
 calls_of_form (.seq none .z (.seq none .z (.seq none (.seq none .z (.block none (.loop [(3,(.i .i64)),(11,(.i .i64))] (.seq none .z (.seq none (.cond .z .z) (.seq none (.block none (.seq none .z (.seq none .z (.seq none .z (.cond .z .z))))) .z)))))) (.seq none .z (.seq none (.seq none .z (.block none (.loop [(6,.sl),(27,(.i .i64))] (.seq none .z (.seq none (.cond .z .z) (.seq none (.block none (.seq none .z .z)) .z)))))) (.seq none .z .z)))))) Tryz.func249 (by kernel_rfl) [.sl slices] (by kernel_rfl) (by kernel_rfl) hden
def sh361 (s:Slc) (n:Int) (w:World) (R:Ending->World->Prop):Prop:=
 ∃ j:List TV->World->Prop,(condK (decide (n<(0:Int))) ((panR R) [{v:=(.iface 9 (.string ⟨([99,97,110,110,111,116,32,98,101,32,110,101,103,97,116,105,118,101]).toArray⟩)),recovered:=false}] w) (j [] w))/\(∀ w1:World,j [] w1->condK (decide ((IntKind.i64.wrap (n - (IntKind.i64.wrap ((s.cap:Int) - (s.len:Int))))) > (0:Int))) (((0<=(s.cap:Int)/\(s.cap:Int)<=(s.cap:Nat))/\semK Tryz.prog (Builtin.append_ #[23,3] 23 #[.slice (cutSl s 1 0 (((s.cap:Int)).toNat) s.cap).a (cutSl s 1 0 (((s.cap:Int)).toNat) s.cap).len (cutSl s 1 0 (((s.cap:Int)).toNat) s.cap).cap,.int .i64 (IntKind.i64.wrap (n - (IntKind.i64.wrap ((s.cap:Int) - (s.len:Int)))))]) w1 λv w2=>∃ x:Slc,v=(.slice x.a x.len x.cap)/\((0<=(s.len:Int)/\(s.len:Int)<=(x.cap:Nat))/\R (.returned (.slice (cutSl x 1 0 (((s.len:Int)).toNat) x.cap).a (cutSl x 1 0 (((s.len:Int)).toNat) x.cap).len (cutSl x 1 0 (((s.len:Int)).toNat) x.cap).cap)) w2))) (R (.returned (.slice s.a s.len s.cap)) w1))
theorem call361 (s:Slc) (n:Int) {w:World} {R:Ending->World->Prop} (hden:sh361 s n w R):Calls Tryz.prog 361 #[.slice s.a s.len s.cap,.int .i64 n] w R:=
 calls_of_form (.seq none .z (.seq (some []) (.seq none .z (.cond .z .z)) (.seq none (.seq none .z (.seq none .z (.cond .z .z))) (.seq none .z .z)))) Tryz.func361 (by kernel_rfl) [.sl s,.i .i64 n] (by kernel_rfl) (by kernel_rfl) hden
end Go.Proofs.YtmgcoepbccgjfaaGreatDoor
end
section
namespace Go.Proofs.YtmgcoepbccgjfaaGreatDoor
open Go Go.Sh Go.X
noncomputable def zeroP:P4:=⟨⟨0,0,0,0,0⟩,⟨1,0,0,0,0⟩,⟨1,0,0,0,0⟩,⟨0,0,0,0,0⟩⟩
noncomputable def mulB (p:P4) (l:List Bool):P4:=List.rec (motive:=λ_=>P4) zeroP (λb _ t=>X.br b (padd (pdbl t) p) (pdbl t)) l
theorem q_Zero {G:World->Prop} (hG : ∀ w,G w->GE w) (h:Hp):QuietOk Tryz.prog G 262 [] h (.agg zeroP.w):=by
 obtain ⟨h',e1⟩:=resV_ex x_Zero
 exact quiet_dry ((xcalls_ok mixed noD_ok (nE_ok hG) 10).c _ _ _ _ _ e1) (λ_=>rfl) (λ_=>rfl) h
def RPt (p:P4) (w:World) (v:Value) (w':World):Prop:=∃ l:List UInt64,l.length=20/\P4.of l p/\v = .agg (us l).toArray/\Mod NoB w w'
theorem pt_of {p:P4} (h:p.ok) {v:Value} (hv:XR (λ_=>none) (.agg p.w) v) : ∃ l:List UInt64,l.length=20/\P4.of l p/\v = .agg (us l).toArray:=by
 obtain ⟨l,h1,h2⟩:=P4.ex h
 simp only [XR] at hv
 obtain ⟨vs,h3,rfl⟩:=hv
 rw [h2] at h3
 exact ⟨l,h1,h2,by rw [XRs_us h3]⟩
theorem zeroP_ok:zeroP.ok:=by refine ⟨⟨?_,?_,?_,?_,?_⟩,⟨?_,?_,?_,?_,?_⟩,⟨?_,?_,?_,?_,?_⟩,⟨?_,?_,?_,?_,?_⟩⟩ <;> (simp only [zeroP]; decide)
theorem baseP_ok:baseP.ok:=by refine ⟨⟨?_,?_,?_,?_,?_⟩,⟨?_,?_,?_,?_,?_⟩,⟨?_,?_,?_,?_,?_⟩,⟨?_,?_,?_,?_,?_⟩⟩ <;> (simp only [baseP]; decide)
theorem c_ZeroF {w:World} (hw:GE w):Calls Tryz.prog 262 #[] w (Ret (RPt zeroP w)):=
 Calls.mono (c_q (q_Zero (G:=GE) (λ_ h=>h) _) (λw' hm=>⟨hw.twice.mod hm λh=>h,hw.curve.mod hm λh=>h⟩) (vs:=[]) rfl) λe w' ⟨v,h1,h2,h3⟩=>by
  obtain ⟨l,g1,g2,g3⟩:=pt_of zeroP_ok h2
  subst h1
  exact ⟨l,g1,g2,g3,h3⟩
theorem c_BaseF {w:World} (hw:GE w):Calls Tryz.prog 173 #[] w (Ret (RPt baseP w)):=
 Calls.mono (c_q (q_Base (G:=GE) (λ_ h=>h) _) (λw' hm=>⟨hw.twice.mod hm λh=>h,hw.curve.mod hm λh=>h⟩) (vs:=[]) rfl) λe w' ⟨v,h1,h2,h3⟩=>by
  obtain ⟨l,g1,g2,g3⟩:=pt_of baseP_ok h2
  subst h1
  exact ⟨l,g1,g2,g3,h3⟩
theorem c_backFB {w:World} {s:Slc} : Calls Tryz.prog 263 #[.slice s.a s.len s.cap] w (Ret λv w'=>∃ p,v = .func (.func 406) #[] #[.pointer (some ⟨p,0,none⟩)]/\(∃ T,Blk w' p [s.val] T)/\w.heap.size<=p/\Mod NoB w w'):=by
 refine call263 _ ?_
 unfold sh263
 refine sem_box (l:=[s.val]) rfl λp w1 hN1 hb1=>⟨_,rfl,?_⟩
 have h1:=hN1.at_
 exact ⟨p,rfl,⟨_,hb1⟩,by omega,hN1.mod⟩
theorem c_backB {w:World} {ll p:Nat} {s:Slc} {l:List Bool} {I:Nat->World->Prop} (hl:l.length=s.len) (hn:l.length<=1000000000000000) (hp : ∃ T,Blk w p [s.val] T) (h0:I l.length w)
 (hI : ∀ k w1,k<l.length->I (k+1) w1->Rd w1 ⟨p,0,none⟩ [s.val]/\SlRd w1 s 1 (bls l)/\∀ h:k<l.length,yieldK Tryz.prog ll [.int .i64 k,.bool l[k]] w1 λv w2=>v = .bool true/\I k w2) :
 Calls Tryz.prog 406 #[.func (.yield ll) #[] #[],.pointer (some ⟨p,0,none⟩)] w (Ret λv w'=>v = .tuple #[]/\I 0 w'):=by
 refine call406 _ _ ?_
 unfold sh406
 obtain ⟨T,hp⟩:=hp
 refine ⟨s,hp.rd1 rfl,?_⟩
 refine ⟨λl' w'=>match l' with | [.i _ x]=>∃ k:Nat,x=(k:Int) - 1/\k<=l.length/\I k w' | _=>False,λl' _=>match l' with | [.i _ x]=>(x+1).toNat | _=>0,⟨l.length,by rw [wrap_i64 (by omega),hl],by omega,h0⟩,?_⟩
 rintro i w1 ⟨k,rfl,hk,hI1⟩
 refine condK_i (λhge=>?_) λhlt=>?_
 ·have hk0:0<k:=by simp at hge; omega
  obtain ⟨hr1,hr2,hy⟩:=hI (k - 1) w1 (by omega) (by rw [Nat.sub_add_cancel hk0]; exact hI1)
  obtain ⟨a,ea,hra⟩:=rd_bool hr2 (i:=k - 1) (by omega)
  have e1:((k:Int) - 1)=((k - 1:Nat):Int):=by omega
  rw [e1]
  refine ⟨s,hr1,⟨by omega,by omega⟩,?_⟩
  rw [ea]
  refine ⟨_,hra,?_⟩
  show yieldK _ _ _ _ _
  obtain ⟨f,tmps,assign,body,g1,g2⟩:=hy (by omega)
  refine ⟨f,tmps,assign,body,g1,RoundIn.mono g2 λe w2 he=>?_⟩
  obtain ⟨v,rfl,rfl,hI2⟩:=he
  refine ⟨_,rfl,true,rfl,?_⟩
  refine condK_i (λe=>by cases e) λ_=>⟨⟨k - 1,by rw [wrap_i64 (by omega)],by omega,hI2⟩,?_⟩
  rw [wrap_i64 (by omega)]; (try simp only []); omega
 ·have:k=0:=by simp at hlt; omega
  subst this
  exact ⟨rfl,hI1⟩
theorem mulB_cons (p:P4) (b:Bool) (l:List Bool):mulB p (b :: l)=X.br b (padd (pdbl (mulB p l)) p) (pdbl (mulB p l)):=rfl
theorem c_eMulF {w:World} {a:Slc} {l:List UInt8} {q:P4} {x0 x1 x2 x3 x4 x5 x6 x7 x8 x9 x10 x11 x12 x13 x14 x15 x16 x17 x18 x19:UInt64} (hw:GE w) (ha:SlRd w a 1 (bys l)) (hal : ∀ x,a.blk=some x->x<w.heap.size)
 (hq:P4.of [x0,x1,x2,x3,x4,x5,x6,x7,x8,x9,x10,x11,x12,x13,x14,x15,x16,x17,x18,x19] q) :
 Calls Tryz.prog 172 #[.slice a.a a.len a.cap,e20 x0 x1 x2 x3 x4 x5 x6 x7 x8 x9 x10 x11 x12 x13 x14 x15 x16 x17 x18 x19] w (Ret (RPt (mulB q (bitsT l)) w)):=by
 have hgl:3<w.heap.size/\4<w.heap.size:=⟨rd_lt hw.twice (by simp),rd_lt hw.curve (by simp)⟩
 have keep : ∀ {w':World} {S:Nat->Prop},Mod S w w'->(∀ x,S x->w.heap.size<=x)->GE w':=λhm hS=>⟨hw.twice.mod hm (λe=>by have:=hS _ e; have:=hgl.1; simp only [] at *; omega),hw.curve.mod hm (λe=>by have:=hS _ e; have:=hgl.2; simp only [] at *; omega)⟩
 refine call172 _ _ _ _ _ _ _ _ _ _ _ _ _ _ _ _ _ _ _ _ _ ?_
 unfold sh172
 refine sem_box (l:=us [x0,x1,x2,x3,x4,x5,x6,x7,x8,x9,x10,x11,x12,x13,x14,x15,x16,x17,x18,x19]) rfl λp w1 hN1 hb1=>⟨_,rfl,?_⟩
 obtain ⟨iz,zz,z1,z2,z3⟩:=zi20
 refine sem_alloc (l:=us (List.replicate 20 0)) z1 z2 z3 λx w2 hN2 hb2=>⟨_,rfl,?_⟩
 have hM2:=hN1.mod.tr hN2.mod
 refine callK_ret (c_ZeroF (keep hM2 λ_ h=>h.elim)) ?_
 rintro v w3 ⟨zl,hz1,hz2,rfl,hm3⟩
 obtain ⟨y0,y1,y2,y3,y4,y5,y6,y7,y8,y9,y10,y11,y12,y13,y14,y15,y16,y17,y18,y19,rfl⟩:=lst20 hz1
 refine ⟨y0,y1,y2,y3,y4,y5,y6,y7,y8,y9,y10,y11,y12,y13,y14,y15,y16,y17,y18,y19,rfl,?_⟩
 obtain ⟨iz',zz',z1',z2',z3'⟩:=zi20'
 refine sem_alloc (l:=us (List.replicate 20 0)) z1' z2' z3' λs w4 hN4 hb4=>⟨_,rfl,?_⟩
 have hM3:=hM2.tr hm3
 have hM4:=hM3.tr hN4.mod
 refine semU_store (o:=0) (vs:=us [y0,y1,y2,y3,y4,y5,y6,y7,y8,y9,y10,y11,y12,y13,y14,y15,y16,y17,y18,y19]) (by kernel_rfl) (by kernel_rfl) rfl hb4 (by simp [us]) (us_one _) λw5 ht5 hb5=>?_
 obtain ⟨E5,hb5⟩ : ∃ E,Blk w5 s (us [y0,y1,y2,y3,y4,y5,y6,y7,y8,y9,y10,y11,y12,y13,y14,y15,y16,y17,y18,y19]) E:=⟨_,by simpa [putAt,us] using hb5⟩
 have hs4:=hN4.at_
 have hp1:=hN1.at_
 have hx2:=hN2.at_
 have hsz1:=hb1.lt
 have hsz2:=hb2.lt
 have hM5:Mod NoB w w5:=hM4.fresh ht5.mod λz e=>by have:=hM3.size; have:z=s:=e; omega
 have hbp5:Blk w5 p (us [x0,x1,x2,x3,x4,x5,x6,x7,x8,x9,x10,x11,x12,x13,x14,x15,x16,x17,x18,x19]) _:=((((hb1.mod hN2.mod (λh=>h)).mod hm3 (λh=>h)).mod hN4.mod (λh=>h)).mod ht5.mod (λe=>by have:=hN2.mod.size; have:=hm3.size; have:p=s:=e; omega))
 have hbx5:Blk w5 x (us (List.replicate 20 0)) _:=(((hb2.mod hm3 (λh=>h)).mod hN4.mod (λh=>h)).mod ht5.mod (λe=>by have:=hm3.size; have:x=s:=e; omega))
 refine callK_ret (c_bitsS (ha.mod hM5 λ_ _ h=>h) λz hz=>Nat.lt_of_lt_of_le (hal z hz) hM5.size) ?_
 rintro v w6 ⟨y,rfl,hoy,hfy,hm6⟩
 refine ⟨y,rfl,?_⟩
 refine callK_ret c_backFB ?_
 rintro v w7 ⟨pb,rfl,⟨T,hpb⟩,hps,hm7⟩
 refine ⟨_,rfl,406,#[],#[.pointer (some ⟨pb,0,none⟩)],rfl,by kernel_rfl,?_⟩
 rintro rec dd ll w8 hdd hll hw8 hY
 have hM8:Mod NoB w7 w8:=by rw [hw8]; exact (alloc_mod _ _).tr (alloc_mod _ _)
 have hsz8:w8.heap.size=ll+1:=by rw [hw8]; simp; omega
 have hld8:w8.heap[ll]? = some (rec .ready none):=by
  rw [hw8,hll,hdd]
  have:=heap_alloc_new (w7.alloc (.deferred (some []))) (rec .ready none)
  simpa using this
 have hdd8:w8.heap[dd]? = some (.deferred (some [])):=by
  rw [hw8,hdd,heap_alloc_old _ _ (by simp)]
  exact heap_alloc_new _ _
 have h58:Mod NoB w5 w8:=(hm6.tr hm7).tr hM8
 have hbs8:=hb5.mod h58 (λh=>h)
 have hbp8:=hbp5.mod h58 (λh=>h)
 have hbx8:=hbx5.mod h58 (λh=>h)
 have hs5:=hb5.lt
 have hp5:=hbp5.lt
 have hx5:=hbx5.lt
 have h57:w5.heap.size<=w7.heap.size:=Nat.le_trans hm6.size hm7.size
 have hls:s≠ll/\s≠dd/\p≠ll/\p≠dd/\x≠ll/\x≠dd/\p≠s/\x≠s:=by
  have:=hN2.mod.size; have:=hm3.size
  omega
 have hyl:=rd_lenB hoy.rd
 have hy7:SlRd w7 y 1 (bls (bitsT l)):=(hoy.no hm7).rd
 have hsb : ∀ z,y.blk=some z->w5.heap.size<=z/\z<w7.heap.size:=λz hz=>⟨hfy z hz,Nat.lt_of_lt_of_le (hoy.lt hz) hm7.size⟩
 have hpbl:=hpb.lt
 have hpbs:s<pb:=by have:=hm6.size; omega
 have hW8:Mod NoB w w8:=hM5.tr h58
 have hw5s:=hM5.size
 have hws:w.heap.size<=s:=by have:=hM3.size; omega
 let I:Nat->World->Prop:=λk w'=>w'.heap[ll]? = some (rec .ready none)/\(∃ ls E,ls.length=20/\P4.of ls (mulB q ((bitsT l).drop k))/\Blk w' s (us ls) E)/\Mod (λz=>z=s\/z=ll) w8 w'
 have hGE : ∀ {w':World} {S:Nat->Prop},Mod S w8 w'->(∀ z,S z->z=s\/z=ll)->GE w':=λhm hS=>keep (S:=λz=>z=s\/z=ll) (hW8.trans hm (λ_ _ h=>h.elim) λz _ e=>hS z e) λz e=>by rcases e with e | e <;> omega
 have hseq:=c_backB (w:=w8) (ll:=ll) (p:=pb) (s:=y) (l:=bitsT l) (I:=I) hyl (by rw [bitsT]; split <;> simp) ⟨T,hpb.no hM8⟩ ⟨hld8,⟨_,_,rfl,by rw [List.drop_length]; exact hz2,hbs8⟩,Mod.refl _ _⟩ (by
  rintro k w9 hk ⟨hl9,⟨ls,E,hls1,hls2,hls3⟩,hm9⟩
  refine ⟨((hpb.no hM8).mod hm9 (by omega)).rd1 rfl,(hy7.mod hM8 λ_ _ h=>h).mod hm9 (λz hz e=>by have:=hsb z hz; omega),λhk'=>?_⟩
  refine hY _ _ w9 _ hl9 ⟨hl9,?_⟩
  have hll9:=lt_of_get hl9
  obtain ⟨hmp,hgp,hsp⟩:=put_mod (o:=rec .busy none) hll9
  have hmb:Mod (λz=>z=s\/z=ll) w8 (w9.putObj ll (rec .busy none)):=hm9.tr (hmp.mono λx _ e=>.inr e)
  have hbs9:=hls3.mod hmp (λe=>hls.1 e)
  have hd:=c_dblF (hGE hmb λ_ h=>h) (λw' hm=>hGE (hmb.tr (hm.mono λx _ e=>.inl e)) λ_ h=>h) hbs9 hls2
  refine callK_ret (Q:=λv w'=>v = .tuple #[]/\∃ l' T',l'.length=20/\P4.of l' (pdbl (mulB q ((bitsT l).drop (k+1))))/\Blk w' s (us l') T'/\Mod (λx=>x=s) (w9.putObj ll (rec .busy none)) w') (Calls.mono hd λe w' h=>by obtain ⟨rfl,h⟩:=h; exact ⟨rfl,h⟩) ?_
  rintro v w10 ⟨rfl,l10,E10,e1,e2,e3,hT10⟩
  refine ⟨rfl,?_⟩
  have hl10:w10.heap[ll]? = some (rec .busy none):=by rw [hT10.block ll (by omega) (by omega)]; exact hgp
  have hm10:Mod (λz=>z=s\/z=ll) w8 w10:=hmb.tr (hT10.mono λx _ e=>.inl e)
  have hdk:(bitsT l).drop k=(bitsT l)[k] :: (bitsT l).drop (k+1):=List.drop_eq_getElem_cons hk
  refine condK_i (λhbit=>?_) λhbit=>?_
  ·have hbp10:=hbp8.mod hm10 (by omega)
   refine ⟨x0,x1,x2,x3,x4,x5,x6,x7,x8,x9,x10,x11,x12,x13,x14,x15,x16,x17,x18,x19,hbp10.rd λj v hj=>by simpa [us] using hj,?_⟩
   have hd:=c_addF (m:=[x0,x1,x2,x3,x4,x5,x6,x7,x8,x9,x10,x11,x12,x13,x14,x15,x16,x17,x18,x19]) (hGE hm10 λ_ h=>h) (λw' hm=>hGE (hm10.tr (hm.mono λx _ e=>.inl e)) λ_ h=>h) e3 e2 hq
   refine callK_ret (Q:=λv w'=>v = .tuple #[]/\∃ l' T',l'.length=20/\P4.of l' (padd (pdbl (mulB q ((bitsT l).drop (k+1)))) q)/\Blk w' s (us l') T'/\Mod (λx=>x=s) w10 w') (Calls.mono hd λe w' h=>by obtain ⟨rfl,h⟩:=h; exact ⟨rfl,h⟩) ?_
   rintro v w11 ⟨rfl,l11,E11,f1,f2,f3,hT11⟩
   refine ⟨rfl,?_⟩
   have hl11:w11.heap[ll]? = some (rec .busy none):=by rw [hT11.block ll (lt_of_get hl10) (by omega)]; exact hl10
   have hll11:=lt_of_get hl11
   obtain ⟨hmq,hgq,hsq⟩:=put_mod (o:=rec .ready none) hll11
   exact ⟨hl11,rfl,hgq,⟨l11,E11,f1,by rw [hdk,mulB_cons,hbit]; exact f2,f3.mod hmq (λe=>hls.1 e)⟩,(hm10.tr (hT11.mono λx _ e=>.inl e)).tr (hmq.mono λx _ e=>.inr e)⟩
  ·have hll10:=lt_of_get hl10
   obtain ⟨hmq,hgq,hsq⟩:=put_mod (o:=rec .ready none) hll10
   have hbf:(bitsT l)[k]=false:=by simpa using hbit
   exact ⟨hl10,rfl,hgq,⟨l10,E10,e1,by rw [hdk,mulB_cons,hbf]; exact e2,e3.mod hmq (λe=>hls.1 e)⟩,hm10.tr (hmq.mono λx _ e=>.inr e)⟩)
 refine callK_of hseq ?_ (λ_ _ h=>h.elim) (λ_ h=>h)
 rintro v w9 ⟨rfl,hl9,⟨ls,E,hls1,hls2,hls3⟩,hm9⟩
 left
 refine ⟨hl9,?_⟩
 have hll9:=lt_of_get hl9
 obtain ⟨hmp,hgp,hsp⟩:=put_mod (o:=rec .exhausted none) hll9
 rw [List.drop_zero] at hls2
 obtain ⟨u0,u1,u2,u3,u4,u5,u6,u7,u8,u9,u10,u11,u12,u13,u14,u15,u16,u17,u18,u19,rfl⟩:=lst20 hls1
 have hbs10:=hls3.mod hmp (λe=>hls.1 e)
 have hbx10:=(hbx8.mod hm9 (by omega)).mod hmp (λe=>by have:x=ll:=e; omega)
 refine ⟨u0,u1,u2,u3,u4,u5,u6,u7,u8,u9,u10,u11,u12,u13,u14,u15,u16,u17,u18,u19,hbs10.rd λj v hj=>by simpa [us] using hj,?_⟩
 refine semU_store (o:=0) (vs:=us [u0,u1,u2,u3,u4,u5,u6,u7,u8,u9,u10,u11,u12,u13,u14,u15,u16,u17,u18,u19]) (by kernel_rfl) (by kernel_rfl) rfl hbx10 (by simp [us]) (us_one _) λw11 ht11 hb11=>?_
 obtain ⟨E11,hb11⟩ : ∃ E,Blk w11 x (us [u0,u1,u2,u3,u4,u5,u6,u7,u8,u9,u10,u11,u12,u13,u14,u15,u16,u17,u18,u19]) E:=⟨_,by simpa [putAt,us] using hb11⟩
 have hd9:w9.heap[dd]? = some (.deferred (some [])):=by rw [hm9.block dd (by omega) (by omega)]; exact hdd8
 have hd10:(w9.putObj ll (rec .exhausted none)).heap[dd]? = some (.deferred (some [])):=by rw [hmp.block dd (lt_of_get hd9) (by omega)]; exact hd9
 have hd11:w11.heap[dd]? = some (.deferred (some [])):=by rw [ht11.mod.block dd (lt_of_get hd10) (λe=>hls.2.2.2.2.2.1 (Eq.symm e))]; exact hd10
 refine ⟨hd11,?_⟩
 obtain ⟨hmd,hgd,hsd⟩:=put_mod (o:=.deferred none) (lt_of_get hd11)
 have hb12:=hb11.mod hmd (λe=>hls.2.2.2.2.2.1 e)
 refine ⟨u0,u1,u2,u3,u4,u5,u6,u7,u8,u9,u10,u11,u12,u13,u14,u15,u16,u17,u18,u19,hb12.rd λj v hj=>by simpa [us] using hj,?_⟩
 have hwx:w.heap.size<=x:=by have:=hN1.mod.size; omega
 exact ⟨[u0,u1,u2,u3,u4,u5,u6,u7,u8,u9,u10,u11,u12,u13,u14,u15,u16,u17,u18,u19],rfl,hls2,rfl,(((hW8.fresh hm9 λz e=>by rcases e with e | e <;> omega).fresh hmp λz e=>by have:z=ll:=e; omega).fresh ht11.mod λz e=>by have:z=x:=e; omega).fresh hmd λz e=>by have:z=dd:=e; omega⟩
theorem br_ok {b:Bool} {x y:F5} (hx:x.ok) (hy:y.ok):(X.br b x y).ok:=by cases b <;> assumption
theorem fpow_ok (a:F5) (less:Nat) : ∀ (n:Nat) (o:F5),o.ok->(fpow a less n o).ok
 | 0,o,h=>h
 | n+1,o,h=>fpow_ok a less n _ (br_ok (fmul_ok _ _) (fmul_ok _ _))
theorem finv_ok (a:F5):(finv a).ok:=fpow_ok a 21 255 _ ⟨by decide,by decide,by decide,by decide,by decide⟩
theorem GE_no {w:World} (hw:GE w) : ∀ w',Mod NoB w w'->GE w':=λw' hm=>⟨hw.twice.mod hm λh=>h,hw.curve.mod hm λh=>h⟩
theorem c_un {w:World} {f:FuncId} {x z:F5} {a b c d e:UInt64} (hx:x=F5.of a b c d e) (hw:GE w) (hq:QuietOk Tryz.prog GE f [x.v] ⟨.lf,0⟩ z.v) (hz:z.ok):Calls Tryz.prog f #[e5 a b c d e] w (Ret (RF z w)):=by
 subst hx
 refine Calls.mono (c_q hq (GE_no hw) (vs:=[e5 a b c d e]) ⟨_,_,rfl,F5.xr _ _ _ _ _,rfl⟩) λe' w' ⟨v,h1,h2,h3⟩=>?_
 obtain ⟨p,q,r,s,t,h4,h5⟩:=F5.rx hz h2
 subst h1
 exact ⟨p,q,r,s,t,h4,h5,h3⟩
theorem c_InvertF {w:World} {a b c d e:UInt64} (hw:GE w):Calls Tryz.prog 269 #[e5 a b c d e] w (Ret (RF (finv (F5.of a b c d e)) w)):=
 c_un rfl hw (q_un2 (λ_ h=>h) (x_Invert _) (dry_F5 (finv _)) _) (finv_ok _)
theorem x_Odd (a:F5):resV (runG 272 [a.v] ⟨.lf,0⟩)=some (.bool (Nat.beq (fodd a) 1)):=by kernel_rfl
theorem c_OddF {w:World} {a b c d e:UInt64} (hw:GE w):Calls Tryz.prog 272 #[e5 a b c d e] w (Ret λv w'=>v = .bool (Nat.beq (fodd (F5.of a b c d e)) 1)/\Mod NoB w w'):=by
 obtain ⟨h',e1⟩:=resV_ex (x_Odd (F5.of a b c d e))
 have hq:=quiet_dry ((xcalls_ok mixed noD_ok (nG_ok (G:=GE) λ_ h=>h) 10).c _ _ _ _ _ e1) (dry_A1 _) (λ_=>rfl) ⟨.lf,0⟩
 refine Calls.mono (c_q hq (GE_no hw) (vs:=[e5 a b c d e]) ⟨_,_,rfl,F5.xr _ _ _ _ _,rfl⟩) λe' w' ⟨v,h1,h2,h3⟩=>?_
 simp only [XR] at h2
 subst h1
 exact ⟨h2,h3⟩
theorem orB_lt (x y:Nat):orB x y<256:=Nat.mod_lt _ (by decide)
theorem byteB_lt (x:F5) : ∀ (m k acc:Nat),acc<256->byteB x m k acc<256
 | 0,k,acc,h=>h
 | m+1,k,acc,h=>byteB_lt x m (k+1) _ (orB_lt _ _)
theorem rowB_lt (x:F5) : ∀ (n k:Nat),∀ b∈rowB x n k,b<256
 | 0,k,b,h=>by
   have h:b∈[byteB x 7 k 0]:=h
   simp only [List.mem_singleton] at h
   rw [h]; exact byteB_lt x 7 k 0 (by decide)
 | n+1,k,b,h=>by
   have h:b∈byteB x 8 k 0 :: rowB x n (k+8):=h
   rcases List.mem_cons.1 h with rfl | h
   ·exact byteB_lt x 8 k 0 (by decide)
   ·exact rowB_lt x n (k+8) b h
theorem rowB_len (x:F5) : ∀ (n k:Nat),(rowB x n k).length=n+1
 | 0,k=>rfl
 | n+1,k=>by
   show (byteB x 8 k 0 :: rowB x n (k+8)).length=_
   rw [List.length_cons,rowB_len x n (k+8)]
theorem putB_lt (x:F5) : ∀ b∈putB x,b<256:=rowB_lt _ _ _
theorem putB_len (x:F5):(putB x).length=32:=rowB_len _ _ _
def toB (l:List Nat):List UInt8:=l.map UInt8.ofNat
theorem XRs_bys {ρ:Lab} : ∀ {l:List Nat} {vs:List Value},(∀ b∈l,b<256)->XRs ρ (mapB l) vs->vs=bys (toB l)
 | [],vs,_,h=>by
   have h:XRs ρ [] vs:=h
   simp only [XRs] at h; exact h
 | a :: l,vs,hl,h=>by
   have h:XRs ρ (u8 a :: mapB l) vs:=h
   simp only [XRs] at h
   obtain ⟨v,vs',rfl,h1,h2⟩:=h
   simp only [XR] at h1
   rw [XRs_bys (λb hb=>hl b (List.mem_cons_of_mem _ hb)) h2,h1]
   have:(UInt8.ofNat a).toNat=a:=by
    rw [UInt8.toNat_ofNat']
    have:=hl a List.mem_cons_self
    omega
   simp [bys,toB,this]
def RBy (l:List UInt8) (w:World) (v:Value) (w':World):Prop:=∃ b T,v = .slice (some ⟨b,0,none⟩) l.length l.length/\Blk w' b (bys l) T/\w.heap.size<=b/\Mod NoB w w'
theorem c_fPutF {w:World} {a b c d e:UInt64} (hw:GE w):Calls Tryz.prog 270 #[e5 a b c d e] w (Ret (RBy (toB (putB (F5.of a b c d e))) w)):=by
 obtain ⟨h',e1⟩:=resV_ex (x_PutV (F5.of a b c d e))
 have hT:=x_PutT (F5.of a b c d e)
 rw [e1] at hT
 have hc:=(xcalls_ok mixed noD_ok (nG_ok (G:=GE) λ_ h=>h) 10).c _ _ _ _ _ e1
 refine Calls.mono (hc NoB w (λ_=>none) w [e5 a b c d e] (GE_no hw) (inv_none _ _) ⟨_,_,rfl,F5.xr _ _ _ _ _,rfl⟩) λe' w' ⟨v,ρ',h1,h2,h3,h4⟩=>?_
 subst h1
 simp only [XR] at h3
 obtain ⟨bb,s,g1,rfl⟩:=h3
 obtain ⟨b2,s2,g2,⟨vs,T,g3,g4⟩,g5⟩:=h4.dom 1 _ hT
 rw [g1] at g2; cases g2
 rw [XRs_bys (putB_lt _) g3] at g4
 refine ⟨bb,T,?_,g4,?_,h4.mod⟩
 ·simp [toB,putB_len]
 ·rcases g5 with g5 | g5
  ·exact g5.elim
  ·exact g5
noncomputable def topB (b:Bool) (l:List UInt8):List UInt8:=if b=true then l.set 31 (l.getD 31 0 ||| 128) else l
noncomputable def putP (p:P4):List UInt8:=topB (Nat.beq (fodd (fmul p.X (finv p.Z))) 1) (toB (putB (fmul p.Y (finv p.Z))))
theorem putP_len (p:P4):(putP p).length=32:=by unfold putP topB; split <;> simp [toB,putB_len]
theorem P4.parts {l:List UInt64} {p:P4} {x0 x1 x2 x3 x4 x5 x6 x7 x8 x9 x10 x11 x12 x13 x14 x15 x16 x17 x18 x19:UInt64} (h:P4.of [x0,x1,x2,x3,x4,x5,x6,x7,x8,x9,x10,x11,x12,x13,x14,x15,x16,x17,x18,x19] p) :
 p=⟨F5.of x0 x1 x2 x3 x4,F5.of x5 x6 x7 x8 x9,F5.of x10 x11 x12 x13 x14,F5.of x15 x16 x17 x18 x19⟩:=by
 obtain ⟨⟨a0,a1,a2,a3,a4⟩,⟨b0,b1,b2,b3,b4⟩,⟨c0,c1,c2,c3,c4⟩,⟨d0,d1,d2,d3,d4⟩⟩:=p
 unfold P4.of P4.w at h
 simp only [List.map_cons,List.map_nil,List.cons.injEq,XV.int.injEq,true_and,and_true,Int.ofNat.injEq,Int.ofNat_eq_natCast,Int.natCast_inj] at h
 obtain ⟨h0,h1,h2,h3,h4,h5,h6,h7,h8,h9,h10,h11,h12,h13,h14,h15,h16,h17,h18,h19⟩:=h
 subst h0 h1 h2 h3 h4 h5 h6 h7 h8 h9 h10 h11 h12 h13 h14 h15 h16 h17 h18 h19
 rfl
theorem putAt1X {l:List Value} {o:Nat} {x:Value} (h:o<l.length):putAt l o [x]=l.set o x:=by
 unfold putAt
 rw [List.set_eq_take_append_cons_drop,if_pos h]
 simp
theorem rd5 {w:World} {q o:Nat} {l y:List UInt64} {T:TypeId} (hb:Blk w q (us l) T) (e:(l.drop o).take 5=y):Rd w ⟨q,o,none⟩ (us y):=hb.rd λj v hj=>by
 subst e
 simp only [us,List.getElem?_map,List.getElem?_take,List.getElem?_drop] at hj ⊢
 split at hj
 ·exact hj
 ·simp at hj
theorem c_ePutF {w:World} {p:P4} {x0 x1 x2 x3 x4 x5 x6 x7 x8 x9 x10 x11 x12 x13 x14 x15 x16 x17 x18 x19:UInt64} (hw:GE w)
 (hp:P4.of [x0,x1,x2,x3,x4,x5,x6,x7,x8,x9,x10,x11,x12,x13,x14,x15,x16,x17,x18,x19] p) :
 Calls Tryz.prog 174 #[e20 x0 x1 x2 x3 x4 x5 x6 x7 x8 x9 x10 x11 x12 x13 x14 x15 x16 x17 x18 x19] w (Ret (RBy (putP p) w)):=by
 have hpp:=P4.parts (l:=[]) hp
 subst hpp
 refine call174 _ _ _ _ _ _ _ _ _ _ _ _ _ _ _ _ _ _ _ _ ?_
 unfold sh174
 refine sem_box (l:=us [x0,x1,x2,x3,x4,x5,x6,x7,x8,x9,x10,x11,x12,x13,x14,x15,x16,x17,x18,x19]) rfl λq w1 hN1 hb1=>⟨_,rfl,?_⟩
 obtain ⟨E1,hb1⟩ : ∃ E,Blk w1 q (us [x0,x1,x2,x3,x4,x5,x6,x7,x8,x9,x10,x11,x12,x13,x14,x15,x16,x17,x18,x19]) E:=⟨_,hb1⟩
 refine ⟨x10,x11,x12,x13,x14,rd5 (o:=10) hb1 rfl,?_⟩
 have hw1:=GE_no hw _ hN1.mod
 refine callK_ret (c_InvertF hw1) ?_
 rintro v w2 ⟨z0,z1,z2,z3,z4,rfl,hz,hm2⟩
 refine ⟨z0,z1,z2,z3,z4,rfl,?_⟩
 obtain ⟨iz,zz,k1,k2,k3⟩:=zi5
 refine sem_alloc (l:=us (List.replicate 5 0)) k1 k2 k3 λz w3 hN3 hb3=>⟨_,rfl,?_⟩
 refine semU_store (o:=0) (vs:=us [z0,z1,z2,z3,z4]) (by kernel_rfl) (by kernel_rfl) rfl hb3 (by simp [us]) (us_one _) λw4 ht4 hb4=>?_
 obtain ⟨E4,hb4⟩ : ∃ E,Blk w4 z (us [z0,z1,z2,z3,z4]) E:=⟨_,by simpa [putAt,us] using hb4⟩
 have hz3:=hN3.at_
 have hq1:=hb1.lt
 have hqz:q≠z:=by have:=hm2.size; omega
 have hM2:Mod NoB w w2:=hN1.mod.tr hm2
 have hM3:Mod NoB w w3:=hM2.tr hN3.mod
 have hwz:w.heap.size<=z:=by have:=hM2.size; omega
 have hM4:Mod NoB w w4:=hM3.fresh ht4.mod λy e=>by have:y=z:=e; omega
 have hq4:Blk w4 q (us [x0,x1,x2,x3,x4,x5,x6,x7,x8,x9,x10,x11,x12,x13,x14,x15,x16,x17,x18,x19]) E1:=((hb1.mod hm2 λh=>h).mod hN3.mod λh=>h).mod ht4.mod hqz
 refine ⟨x5,x6,x7,x8,x9,rd5 (o:=5) hq4 rfl,?_⟩
 refine ⟨z0,z1,z2,z3,z4,rd5 (o:=0) hb4 rfl,?_⟩
 refine callK_ret c_MulF ?_
 rintro v w5 ⟨m0,m1,m2,m3,m4,rfl,hm,hm5⟩
 refine ⟨m0,m1,m2,m3,m4,rfl,?_⟩
 have hM5:=hM4.tr hm5
 refine callK_ret (c_fPutF (GE_no hw _ hM5)) ?_
 rintro v w6 ⟨bb,T6,rfl,hb6,hs6,hm6⟩
 refine ⟨⟨some ⟨bb,0,none⟩,32,32⟩,by rw [show (toB (putB (F5.of m0 m1 m2 m3 m4))).length=32 by simp [toB,putB_len]],?_⟩
 have hM6:=hM5.tr hm6
 have hq6:=(hq4.mod hm5 λh=>h).mod hm6 λh=>h
 have hz6:=(hb4.mod hm5 λh=>h).mod hm6 λh=>h
 refine ⟨x0,x1,x2,x3,x4,rd5 (o:=0) hq6 rfl,?_⟩
 refine ⟨z0,z1,z2,z3,z4,rd5 (o:=0) hz6 rfl,?_⟩
 refine callK_ret c_MulF ?_
 rintro v w7 ⟨n0,n1,n2,n3,n4,rfl,hn,hm7⟩
 refine ⟨n0,n1,n2,n3,n4,rfl,?_⟩
 have hM7:=hM6.tr hm7
 refine callK_ret (c_OddF (GE_no hw _ hM7)) ?_
 rintro v w8 ⟨rfl,hm8⟩
 refine ⟨_,rfl,?_⟩
 have hM8:=hM7.tr hm8
 have hb8:=(hb6.mod hm7 λh=>h).mod hm8 λh=>h
 have hwb:w.heap.size<=bb:=by have:=hM5.size; omega
 have hlen:(toB (putB (fmul (F5.of x5 x6 x7 x8 x9) (finv (F5.of x10 x11 x12 x13 x14))))).length=32:=by simp [toB,putB_len]
 rw [<-hm,<-hz] at hb8
 rw [<-hn,<-hz]
 have hlp:=putP_len ⟨F5.of x0 x1 x2 x3 x4,F5.of x5 x6 x7 x8 x9,F5.of x10 x11 x12 x13 x14,F5.of x15 x16 x17 x18 x19⟩
 refine condK_i (λho=>?_) λho=>?_
 ·have ep:putP ⟨F5.of x0 x1 x2 x3 x4,F5.of x5 x6 x7 x8 x9,F5.of x10 x11 x12 x13 x14,F5.of x15 x16 x17 x18 x19⟩=(toB (putB (fmul (F5.of x5 x6 x7 x8 x9) (finv (F5.of x10 x11 x12 x13 x14))))).set 31 ((toB (putB (fmul (F5.of x5 x6 x7 x8 x9) (finv (F5.of x10 x11 x12 x13 x14))))).getD 31 0 ||| 128):=by
   unfold putP topB
   simp only [ho,if_true]
  have h31:(31:Int)<((32:Nat):Int):=by decide
  refine ⟨⟨by omega,h31⟩,?_⟩
  refine ⟨(toB (putB (fmul (F5.of x5 x6 x7 x8 x9) (finv (F5.of x10 x11 x12 x13 x14))))).getD 31 0,hb8.rd λj v hj=>?_,⟨by omega,h31⟩,?_⟩
  ·cases j with
   | zero=>
     simp only [List.getElem?_cons_zero,Option.some.injEq] at hj
     subst hj
     simp only [bys,List.getElem?_map]
     rw [List.getElem?_eq_getElem (by rw [hlen]; decide)]
     simp [List.getD,hlen]
   | succ j=>simp at hj
  ·refine semU_store (o:=31) (vs:=[.int .u8 _]) (by kernel_rfl) (by kernel_rfl) rfl hb8 (by simp [bys,hlen]) (by intro u hu; simp at hu; subst hu; rfl) λw9 ht9 hb9=>?_
   refine ⟨bb,T6,by rw [hlp],?_,hwb,hM8.fresh ht9.mod λy e=>by have:y=bb:=e; omega⟩
   rw [ep]
   rw [<-bys_set,<-putAt1X (by simp [bys,hlen])]
   exact hb9
 ·have ep:putP ⟨F5.of x0 x1 x2 x3 x4,F5.of x5 x6 x7 x8 x9,F5.of x10 x11 x12 x13 x14,F5.of x15 x16 x17 x18 x19⟩=toB (putB (fmul (F5.of x5 x6 x7 x8 x9) (finv (F5.of x10 x11 x12 x13 x14)))):=by
   unfold putP topB
   have ho:Nat.beq (fodd (fmul (F5.of x0 x1 x2 x3 x4) (finv (F5.of x10 x11 x12 x13 x14)))) 1=false:=by simpa using ho
   simp only [ho]; rfl
  refine ⟨bb,T6,by rw [hlp],?_,hwb,hM8⟩
  rw [ep]; exact hb8
end Go.Proofs.YtmgcoepbccgjfaaGreatDoor
end
