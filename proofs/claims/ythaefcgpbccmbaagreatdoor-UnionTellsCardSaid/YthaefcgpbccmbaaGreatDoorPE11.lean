/- The forms of the translated functions,their contracts and the plain laws behind them,put together by a program. -/
import Derived.Test.YthaefcgpbccmbaaGreatDoorPE10
import Derived.RecoverIn
import Derived.Test.YthaefcgpbccmbaaGreatDoorProg
set_option linter.unusedSimpArgs false
set_option linter.unusedVariables false
set_option maxRecDepth 100000
set_option maxHeartbeats 4000000
section
namespace Go.Sh
open Go
section
variable {P:Program} {N:Nat}
theorem xN {c0:Frame} {cs:List Frame} {u:FrameMode} : recoverD ({c0 with mode:=u} :: cs)=(jAT u).map λp=>(p.1,{c0 with mode:=p.2} :: cs):=by
 cases u with
 | run=>rfl
 | returning=>rfl
 | panicking c=>
   match c with
   | []=>rfl
   | {v,recovered:=true,goexit} :: r=>rfl
   | {v,recovered:=false,goexit:=true} :: r=>rfl
   | {v,recovered:=false,goexit:=false} :: r=>rfl
theorem qNU {o:Oper} {env:Env} {a:Act} {w:World} {pan:List PanicEntry->World->Prop} {next:TV->World->Prop} (h9:Sim N env a.tmps) (ho:okS o.op=true) (h:nB P o env w pan next) :
 (∃ t v w',(execOp a.eval o).run P w = .ok (.value v) w'/\(t.isBad=false->v=t.enc)/\next t w')\/(∃ w',(execOp a.eval o).run P w = .ok .skip w'/\next .bad w')\/∃ v,(execOp a.eval o).run P w = .halt (.panic v) w/\pan [{v:=v,recovered:=false}] w:=by
 obtain ⟨dst,op,type,pos,after,guard⟩:=o
 unfold nB at h
 cases op <;> simp [okS] at ho <;> simp only at h
 case store T x y=>
  split at h
  ·rename_i q hx
   obtain ⟨ad,rfl,h⟩:=cK h
   cases hg:(!(ev env y).isBad) with
   | false=>simp [hg,aA] at h
   | true=>
     simp only [hg,cond_true] at h
     obtain ⟨w',hr,h⟩:=h
     refine .inr (.inl ⟨w',?_,h⟩)
     have he:execOp a.eval {dst,op:=.store T x y,type,pos,after,guard} = (do storeVar T ad (ev env y).enc; pure Next.skip):=by
      simp only [execOp,h9.is hx rfl,bV h9 hg,TV.enc]
      rfl
     rw [he]; simp [hr]
  ·exact h.elim
 case load T x=>
  split at h
  ·rename_i q hx
   obtain ⟨ad,rfl,h⟩:=cK h
   cases hf:gM P T with
   | false=>simp [hf,aA] at h
   | true=>
     simp only [hf,cond_true] at h
     obtain ⟨t,t1,t2,t3,hr,h⟩:=dL _ _ h
     refine .inl ⟨t,t.enc,w,?_,λ_=>rfl,h⟩
     simp [execOp,h9.is hx rfl,TV.enc,Instr.loadAt,Instr.sureAddr,fD hf t1 t2 t3 hr]
  ·exact h.elim
 case alloc T=>
  obtain ⟨v,w',hr,h1⟩:=h
  have h2:exK .p λt=>v=t.enc/\next t w':=h1
  obtain ⟨t,_,_,_,hv,h3⟩:=dL _ _ h2
  refine .inl ⟨t,v,w',?_,λ_=>hv,h3⟩
  simp only [execOp]
  simp [hr]
 case typeAssert x T b ok=>
  cases hg:(!(ev env x).isBad) with
  | false=>simp [hg] at h
  | true=>
    simp only [hg,cond_true] at h
    obtain ⟨v,w',hr,h1⟩:=h
    have h2:exK (kindOf P 20 type) λt=>v=t.enc/\next t w':=h1
    obtain ⟨t,_,_,_,hv,h3⟩:=dL _ _ h2
    refine .inl ⟨t,v,w',?_,λ_=>hv,h3⟩
    simp only [execOp,bV h9 hg]
    simp [hr]
 case panic x=>
  split at h
  ·rename_i z hx
   unfold zV at h
   split at h
   ·rename_i T y
    refine .inr (.inr ⟨.iface T y,?_,h⟩)
    simp [execOp,h9.is hx rfl,TV.enc,Instr.panic]
   ·exact h.elim
  ·exact h.elim
def QS (N:Nat) (k:KtS) (c0:Frame) (cs:List Frame):Exit->Act->List Frame->World->Prop
 | .normal,a,cs',w=>a.defers=[]/\∃ u,cs' = {c0 with mode:=u} :: cs/\∃ env,Sim N env a.tmps/\k.nrm u env w
 | .ret,a,cs',w=>a.defers=[]/\∃ u,cs' = {c0 with mode:=u} :: cs/\∃ env,Sim N env a.tmps/\k.ret u env w
 | .panic c,a,cs',w=>a.defers=[]/\∃ u,cs' = {c0 with mode:=u} :: cs/\k.pan u c w
 | _,_,_,_=>False
theorem qCP {ops:List Oper} {k:KtS} {c0:Frame} {cs:List Frame} : ∀ (suf pre:List Oper) (nrm:FrameMode->Env->World->Prop) (u:FrameMode) (env:Env) (a:Act) (w:World),ops=pre++suf->Sim N env a.tmps->a.defers=[]->
 qAR P N k.pan suf nrm u env w->wpOpsSIn Fence.wide 0 P ops.toArray (QS N {k with nrm:=nrm} c0 cs) (List.range' pre.length suf.length) a ({c0 with mode:=u} :: cs) w
 | [],pre,nrm,u,env,a,w,_,hs,hd,h=>⟨hd,u,rfl,env,hs,h⟩
 | o :: q,pre,nrm,u,env,a,w,e,hs,hd,h=>by
   have ho:ops.toArray[pre.length]? = some o:=by simp [e]
   have ih : ∀ u env a w,Sim N env a.tmps->a.defers=[]->qAR P N k.pan q nrm u env w->wpOpsSIn Fence.wide 0 P ops.toArray (QS N {k with nrm:=nrm} c0 cs) (List.range' (pre.length+1) q.length) a ({c0 with mode:=u} :: cs) w:=λu env a w h1 h2 h3=>by
    have:=qCP (ops:=ops) (k:=k) (c0:=c0) (cs:=cs) q (pre++[o]) nrm u env a w (by simp [e]) h1 h2 h3
    simpa using this
   unfold qAR at h
   cases hc:(eH N o.dst&&o.guard.isNone) with
   | false=>simp only [hc,cond_false] at h
   | true=>
     simp only [hc,cond_true] at h
     simp only [Bool.and_eq_true,Option.isNone_iff_eq_none] at hc
     have hw:Region.wanted o (yielded ops.toArray a.tmps)=true:=by unfold Region.wanted; rw [hc.2]
     simp only [List.length_cons,List.range'_succ,wpOpsSIn,ho,hw,if_true]
     refine ⟨λ_ _=>trivial,?_⟩
     cases hr:qDY o.op with
     | true=>
       simp only [hr,cond_true] at h
       have hrun:(execOp a.eval o).run P w = .ok .recover w:=by
        obtain ⟨dst,op,type,pos,after,guard⟩:=o
        have h9:qDY op=true:=hr
        unfold qDY at h9
        split at h9
        ·rename_i args at_
         simp [execOp,resolve,invoke,builtin]
        ·cases h9
       rw [hrun]
       simp only [xN]
       unfold qEJ at h
       cases hu:jAT u with
       | none=>
         simp only [hu] at h
         simp only [Option.map_none]
         exact ih _ _ _ _ (hs.putD' hc.1 λ_=>rfl) (by rw [put_defers]; exact hd) h
       | some p=>
         simp only [hu] at h
         simp only [Option.map_some]
         exact ih _ _ _ _ (hs.putD' hc.1 λ_=>rfl) (by rw [put_defers]; exact hd) h
     | false=>
       simp only [hr,cond_false] at h
       cases hp:iR P o with
       | true=>
         simp only [hp,cond_true] at h
         obtain ⟨t,v,hrun,hv,h⟩:=jD hs h
         rw [hrun w]
         exact ih _ _ _ _ (hs.putD' hc.1 hv) (by rw [put_defers]; exact hd) h
       | false=>
         simp only [hp,cond_false] at h
         cases hk:okS o.op with
         | false=>simp [hk] at h
         | true=>
           simp only [hk,cond_true] at h
           rcases qNU hs hk h with ⟨t,v,w',hrun,hv,h⟩ | ⟨w',hrun,h⟩ | ⟨v,hrun,h⟩
           ·rw [hrun]
            exact ih _ _ _ _ (hs.putD' hc.1 hv) (by rw [put_defers]; exact hd) h
           ·rw [hrun]
            exact ih _ _ _ _ (hs.putD' hc.1 λe=>by simp [TV.isBad] at e) (by rw [put_defers]; exact hd) h
           ·rw [hrun]
            exact ⟨hd,u,rfl,h⟩
theorem rC {c:Code} {F:Fence} {n:Nat} {Q Q':Exit->Act->List Frame->World->Prop} {a:Act} {cs:List Frame} {w:World} (h:c.wpSIn F n P Q a cs w) (hq : ∀ e a cs w,Q e a cs w->Q' e a cs w):c.wpSIn F n P Q' a cs w:=
 λb k h1 h2 h3 h4=>let ⟨e,a',cs',w',l,q,r⟩:=h b k h1 h2 h3 h4; ⟨e,a',cs',w',l,hq _ _ _ _ q,r⟩
theorem nS {c0:Frame} {cs:List Frame} : ∀ (c:Code) (k:KtS) (u:FrameMode) (env:Env) (a:Act) (w:World),Sim N env a.tmps->a.defers=[]->gQ P N c k u env w->c.wpSIn Fence.wide 0 P (QS N k c0 cs) a ({c0 with mode:=u} :: cs) w
 | .skip,k,u,env,a,w,hs,hd,h=>wpSIn_of_wpIn rfl (wpIn_skip (show QS N k c0 cs .normal a ({c0 with mode:=u} :: cs) w from ⟨hd,u,rfl,env,hs,by simpa [gQ] using h⟩))
 | .ret,k,u,env,a,w,hs,hd,h=>wpSIn_of_wpIn rfl (wpIn_ret (show QS N k c0 cs .ret a ({c0 with mode:=u} :: cs) w from ⟨hd,u,rfl,env,hs,by simpa [gQ] using h⟩))
 | .seq x y,k,u,env,a,w,hs,hd,h=>by
   unfold gQ at h
   refine wpSIn_seq (rC (nS x _ u env a w hs hd h) ?_)
   intro e a' cs' w' hq
   cases e with
   | normal=>
     obtain ⟨h9,u',rfl,env',k3,hk⟩:=hq
     exact nS y k u' env' a' w' k3 h9 hk
   | ret=>exact hq
   | panic c=>exact hq
   | exit i=>exact hq.elim
   | goto l=>exact hq.elim
   | outgrown=>exact hq.elim
 | .cond c x y,k,u,env,a,w,hs,hd,h=>by
   unfold gQ at h
   split at h
   ·rename_i t hc
    have he:=hs.is (a:=a) hc rfl
    refine wpSIn_cond (t:=t) he ?_
    cases t with
    | true=>exact nS x k u _ a w (oO hs hc) hd h
    | false=>exact nS y k u _ a w (oO hs hc) hd h
   ·exact h.elim
 | .region id ops false,k,u,env,a,w,hs,hd,h=>by
   unfold gQ at h
   refine wpSIn_region ?_
   have:=qCP (ops:=ops.toList) (k:=k) (c0:=c0) (cs:=cs) ops.toList [] k.nrm u env a w rfl hs hd h
   simpa [List.range_eq_range'] using this
 | .region id ops true,k,u,env,a,w,hs,hd,h=>by simp [gQ] at h
 | .block _ _,k,u,env,a,w,hs,hd,h=>by simp [gQ] at h
 | .loop _,k,u,env,a,w,hs,hd,h=>by simp [gQ] at h
 | .exit _,k,u,env,a,w,hs,hd,h=>by simp [gQ] at h
 | .rangeFunc _ _ _ _,k,u,env,a,w,hs,hd,h=>by simp [gQ] at h
 | .scope _,k,u,env,a,w,hs,hd,h=>by simp [gQ] at h
 | .label _,k,u,env,a,w,hs,hd,h=>by simp [gQ] at h
 | .goto _,k,u,env,a,w,hs,hd,h=>by simp [gQ] at h
 | .refuse _,k,u,env,a,w,hs,hd,h=>by simp [gQ] at h
theorem gU {f:FuncId} {fn:Func} {c:Code} (hf:P.funcs[f]? = some fn) (hb:fn.body=some c) (args:List TV) (hl:args.length<=fn.ntmps) {u:FrameMode} {w:World} {R:Ending->FrameMode->World->Prop}
 (h:gQ P fn.ntmps c (zI P fn R) u (gK 0 args) w):CallsDIn Fence.wide 0 P f (dQ args).toArray u w R:=by
 refine callsDIn_of_wpSIn hf hb trivial λc0 cs hu=>?_
 have hs:Sim fn.ntmps (gK 0 args) ((dQ args).toArray++Array.replicate (fn.ntmps - (dQ args).toArray.size) undef):=by
  have hle:=oJ args
  refine ⟨by simp [hle]; omega,λt ht=>?_⟩
  obtain ⟨j,x,h1,h2,h3⟩:=nI 0 args t ht
  rw [h3]
  have:t=j:=by omega
  subst this
  have hjl:t<args.length:=(List.getElem?_eq_some_iff.1 h2).1
  rw [Array.getElem?_append_left (by simpa [hle] using hjl)]
  simp [sB,h2]
 have hc0:c0 = {c0 with mode:=u}:=by subst hu; rfl
 rw [hc0]
 refine rC (nS (c0:=c0) (cs:=cs) c _ u _ _ w hs rfl h) ?_
 intro e a cs' w' hq
 cases e with
 | normal=>
   obtain ⟨hd,u',rfl,env,h9,hk⟩:=hq
   have:=mH (R:=λe w=>R e u' w) h9 hk
   exact ⟨hd,u',rfl,this⟩
 | ret=>
   obtain ⟨hd,u',rfl,env,h9,hk⟩:=hq
   have:=mH (R:=λe w=>R e u' w) h9 hk
   exact ⟨hd,u',rfl,this⟩
 | panic c=>
   obtain ⟨hd,u',rfl,hk⟩:=hq
   exact ⟨hd,u',rfl,hk⟩
 | exit i=>exact hq.elim
 | goto l=>exact hq.elim
 | outgrown=>exact hq.elim
end
end Go.Sh
end
section
namespace Go.Proofs.YthaefcgpbccmbaaGreatDoor
open Go Go.Sh
open Go.Proofs.Tryz
def qXF (aa ab ac ad ae ba bb bc bd be:UInt64) (w:World) (R:RW):Prop:=
 aH prog (Instr.box 285 (e5 aa ab ac ad ae)) w λv w1=>∃ a:zO,v=(.pointer a)/\aH prog (Instr.box 285 (e5 ba bb bc bd be)) w1 λv1 w2=>∃ b:zO,v1=(.pointer b)/\aH prog (Instr.alloc 285 true (.tuple #[])) w2 λv2 w3=>∃ x:zO,v2=(.pointer x)/\aH prog (Instr.alloc 284 true (.tuple #[])) w3 λv3 w4=>∃ n:zO,v3=(.pointer n)/\∃ (inv:zT) (mu:zU),inv [.i .i64 0] w4/\(∀ x1:Int,∀ w5:World,inv [.i .i64 x1] w5->aE (decide (x1<5)) (((0<=x1/\x1<(5:Nat))/\aA b λa1=>∃ x2:UInt64,Rd w5 (a1.add (x1.toNat*1)) [.int .u64 x2.toNat]/\((0<=x1/\x1<(5:Nat))/\aA n λa2=>aJ prog (storeVar 188 (a2.add (x1.toNat*1)) (.int .u64 (((19:UInt64)*x2)).toNat)) w5 λw6=>(inv [.i .i64 (zW (x1+1))] w6/\mu [.i .i64 (zW (x1+1))] w6<mu [.i .i64 x1] w5)))) (∃ sx:zP,sx w5.drew/\(∃ ts:Nat->Value->zP,(∀ i v w1 w2,Mod NoB w1 w2->ts i v w1->ts i v w2)/\sx w5.drew/\((0<=(0:Int)/\(0:Int)<(5:Nat))/\aA a λa3=>∃ x3:UInt64,(∀ w',sx w'->Rd w' (a3.add (((0:Int)).toNat*1)) [.int .u64 x3.toNat])/\((0<=(0:Int)/\(0:Int)<(5:Nat))/\aA b λa4=>∃ x4:UInt64,(∀ w',sx w'->Rd w' (a4.add (((0:Int)).toNat*1)) [.int .u64 x4.toNat])/\((0<=(1:Int)/\(1:Int)<(5:Nat))/\aA a λa5=>∃ x5:UInt64,(∀ w',sx w'->Rd w' (a5.add (((1:Int)).toNat*1)) [.int .u64 x5.toNat])/\((0<=(4:Int)/\(4:Int)<(5:Nat))/\aA n λa6=>∃ x6:UInt64,(∀ w',sx w'->Rd w' (a6.add (((4:Int)).toNat*1)) [.int .u64 x6.toNat])/\((0<=(2:Int)/\(2:Int)<(5:Nat))/\aA a λa7=>∃ x7:UInt64,(∀ w',sx w'->Rd w' (a7.add (((2:Int)).toNat*1)) [.int .u64 x7.toNat])/\((0<=(3:Int)/\(3:Int)<(5:Nat))/\aA n λa8=>∃ x8:UInt64,(∀ w',sx w'->Rd w' (a8.add (((3:Int)).toNat*1)) [.int .u64 x8.toNat])/\((0<=(3:Int)/\(3:Int)<(5:Nat))/\aA a λa9=>∃ x9:UInt64,(∀ w',sx w'->Rd w' (a9.add (((3:Int)).toNat*1)) [.int .u64 x9.toNat])/\((0<=(2:Int)/\(2:Int)<(5:Nat))/\aA n λa10=>∃ x10:UInt64,(∀ w',sx w'->Rd w' (a10.add (((2:Int)).toNat*1)) [.int .u64 x10.toNat])/\((0<=(4:Int)/\(4:Int)<(5:Nat))/\aA a λa11=>∃ x11:UInt64,(∀ w',sx w'->Rd w' (a11.add (((4:Int)).toNat*1)) [.int .u64 x11.toNat])/\((0<=(1:Int)/\(1:Int)<(5:Nat))/\aA n λa12=>∃ x12:UInt64,(∀ w',sx w'->Rd w' (a12.add (((1:Int)).toNat*1)) [.int .u64 x12.toNat])/\((∀ w7,Mod NoB w5.drew w7->sx w7->aH prog (Instr.buildSlice 187 10 #[(0,(.int .u64 x3.toNat)),(1,(.int .u64 x4.toNat)),(2,(.int .u64 x5.toNat)),(3,(.int .u64 x6.toNat)),(4,(.int .u64 x7.toNat)),(5,(.int .u64 x8.toNat)),(6,(.int .u64 x9.toNat)),(7,(.int .u64 x10.toNat)),(8,(.int .u64 x11.toNat)),(9,(.int .u64 x12.toNat))]) w7 λv4 w8=>∃ x13:Slc,v4=(zS x13)/\(Mod NoB w7 w8/\sx w8/\ts 20 (zS x13) w8))/\∀ x14:Slc,((∀ w9,Mod NoB w5.drew w9->sx w9->ts 20 (zS x14) w9->aD prog 300 [zS x14] w9 (aG R) λv5 w10=>∃ xa xb:UInt64,v5=(.agg #[.int .u64 xa.toNat,.int .u64 xb.toNat])/\(Mod NoB w9 w10/\sx w10/\ts 21 (.agg #[.int .u64 xa.toNat,.int .u64 xb.toNat]) w10))/\∀ xa1 xb1:UInt64,((0<=(0:Int)/\(0:Int)<(5:Nat))/\aA a λa13=>∃ x15:UInt64,(∀ w',sx w'->Rd w' (a13.add (((0:Int)).toNat*1)) [.int .u64 x15.toNat])/\((0<=(1:Int)/\(1:Int)<(5:Nat))/\aA b λa14=>∃ x16:UInt64,(∀ w',sx w'->Rd w' (a14.add (((1:Int)).toNat*1)) [.int .u64 x16.toNat])/\((0<=(1:Int)/\(1:Int)<(5:Nat))/\aA a λa15=>∃ x17:UInt64,(∀ w',sx w'->Rd w' (a15.add (((1:Int)).toNat*1)) [.int .u64 x17.toNat])/\((0<=(0:Int)/\(0:Int)<(5:Nat))/\aA b λa16=>∃ x18:UInt64,(∀ w',sx w'->Rd w' (a16.add (((0:Int)).toNat*1)) [.int .u64 x18.toNat])/\((0<=(2:Int)/\(2:Int)<(5:Nat))/\aA a λa17=>∃ x19:UInt64,(∀ w',sx w'->Rd w' (a17.add (((2:Int)).toNat*1)) [.int .u64 x19.toNat])/\((0<=(4:Int)/\(4:Int)<(5:Nat))/\aA n λa18=>∃ x20:UInt64,(∀ w',sx w'->Rd w' (a18.add (((4:Int)).toNat*1)) [.int .u64 x20.toNat])/\((0<=(3:Int)/\(3:Int)<(5:Nat))/\aA a λa19=>∃ x21:UInt64,(∀ w',sx w'->Rd w' (a19.add (((3:Int)).toNat*1)) [.int .u64 x21.toNat])/\((0<=(3:Int)/\(3:Int)<(5:Nat))/\aA n λa20=>∃ x22:UInt64,(∀ w',sx w'->Rd w' (a20.add (((3:Int)).toNat*1)) [.int .u64 x22.toNat])/\((0<=(4:Int)/\(4:Int)<(5:Nat))/\aA a λa21=>∃ x23:UInt64,(∀ w',sx w'->Rd w' (a21.add (((4:Int)).toNat*1)) [.int .u64 x23.toNat])/\((0<=(2:Int)/\(2:Int)<(5:Nat))/\aA n λa22=>∃ x24:UInt64,(∀ w',sx w'->Rd w' (a22.add (((2:Int)).toNat*1)) [.int .u64 x24.toNat])/\((∀ w11,Mod NoB w5.drew w11->sx w11->aH prog (Instr.buildSlice 187 10 #[(0,(.int .u64 x15.toNat)),(1,(.int .u64 x16.toNat)),(2,(.int .u64 x17.toNat)),(3,(.int .u64 x18.toNat)),(4,(.int .u64 x19.toNat)),(5,(.int .u64 x20.toNat)),(6,(.int .u64 x21.toNat)),(7,(.int .u64 x22.toNat)),(8,(.int .u64 x23.toNat)),(9,(.int .u64 x24.toNat))]) w11 λv6 w12=>∃ x25:Slc,v6=(zS x25)/\(Mod NoB w11 w12/\sx w12/\ts 42 (zS x25) w12))/\∀ x26:Slc,((∀ w13,Mod NoB w5.drew w13->sx w13->ts 42 (zS x26) w13->ts 21 (.agg #[.int .u64 xa1.toNat,.int .u64 xb1.toNat]) w13->aD prog 300 [zS x26] w13 (aG R) λv7 w14=>∃ xa2 xb2:UInt64,v7=(.agg #[.int .u64 xa2.toNat,.int .u64 xb2.toNat])/\(Mod NoB w13 w14/\sx w14/\ts 43 (.agg #[.int .u64 xa2.toNat,.int .u64 xb2.toNat]) w14))/\∀ xa3 xb3:UInt64,((0<=(0:Int)/\(0:Int)<(5:Nat))/\aA a λa23=>∃ x27:UInt64,(∀ w',sx w'->Rd w' (a23.add (((0:Int)).toNat*1)) [.int .u64 x27.toNat])/\((0<=(2:Int)/\(2:Int)<(5:Nat))/\aA b λa24=>∃ x28:UInt64,(∀ w',sx w'->Rd w' (a24.add (((2:Int)).toNat*1)) [.int .u64 x28.toNat])/\((0<=(1:Int)/\(1:Int)<(5:Nat))/\aA a λa25=>∃ x29:UInt64,(∀ w',sx w'->Rd w' (a25.add (((1:Int)).toNat*1)) [.int .u64 x29.toNat])/\((0<=(1:Int)/\(1:Int)<(5:Nat))/\aA b λa26=>∃ x30:UInt64,(∀ w',sx w'->Rd w' (a26.add (((1:Int)).toNat*1)) [.int .u64 x30.toNat])/\((0<=(2:Int)/\(2:Int)<(5:Nat))/\aA a λa27=>∃ x31:UInt64,(∀ w',sx w'->Rd w' (a27.add (((2:Int)).toNat*1)) [.int .u64 x31.toNat])/\((0<=(0:Int)/\(0:Int)<(5:Nat))/\aA b λa28=>∃ x32:UInt64,(∀ w',sx w'->Rd w' (a28.add (((0:Int)).toNat*1)) [.int .u64 x32.toNat])/\((0<=(3:Int)/\(3:Int)<(5:Nat))/\aA a λa29=>∃ x33:UInt64,(∀ w',sx w'->Rd w' (a29.add (((3:Int)).toNat*1)) [.int .u64 x33.toNat])/\((0<=(4:Int)/\(4:Int)<(5:Nat))/\aA n λa30=>∃ x34:UInt64,(∀ w',sx w'->Rd w' (a30.add (((4:Int)).toNat*1)) [.int .u64 x34.toNat])/\((0<=(4:Int)/\(4:Int)<(5:Nat))/\aA a λa31=>∃ x35:UInt64,(∀ w',sx w'->Rd w' (a31.add (((4:Int)).toNat*1)) [.int .u64 x35.toNat])/\((0<=(3:Int)/\(3:Int)<(5:Nat))/\aA n λa32=>∃ x36:UInt64,(∀ w',sx w'->Rd w' (a32.add (((3:Int)).toNat*1)) [.int .u64 x36.toNat])/\((∀ w15,Mod NoB w5.drew w15->sx w15->aH prog (Instr.buildSlice 187 10 #[(0,(.int .u64 x27.toNat)),(1,(.int .u64 x28.toNat)),(2,(.int .u64 x29.toNat)),(3,(.int .u64 x30.toNat)),(4,(.int .u64 x31.toNat)),(5,(.int .u64 x32.toNat)),(6,(.int .u64 x33.toNat)),(7,(.int .u64 x34.toNat)),(8,(.int .u64 x35.toNat)),(9,(.int .u64 x36.toNat))]) w15 λv8 w16=>∃ x37:Slc,v8=(zS x37)/\(Mod NoB w15 w16/\sx w16/\ts 64 (zS x37) w16))/\∀ x38:Slc,((∀ w17,Mod NoB w5.drew w17->sx w17->ts 64 (zS x38) w17->ts 43 (.agg #[.int .u64 xa3.toNat,.int .u64 xb3.toNat]) w17->aD prog 300 [zS x38] w17 (aG R) λv9 w18=>∃ xa4 xb4:UInt64,v9=(.agg #[.int .u64 xa4.toNat,.int .u64 xb4.toNat])/\(Mod NoB w17 w18/\sx w18/\ts 65 (.agg #[.int .u64 xa4.toNat,.int .u64 xb4.toNat]) w18))/\∀ xa5 xb5:UInt64,((0<=(0:Int)/\(0:Int)<(5:Nat))/\aA a λa33=>∃ x39:UInt64,(∀ w',sx w'->Rd w' (a33.add (((0:Int)).toNat*1)) [.int .u64 x39.toNat])/\((0<=(3:Int)/\(3:Int)<(5:Nat))/\aA b λa34=>∃ x40:UInt64,(∀ w',sx w'->Rd w' (a34.add (((3:Int)).toNat*1)) [.int .u64 x40.toNat])/\((0<=(1:Int)/\(1:Int)<(5:Nat))/\aA a λa35=>∃ x41:UInt64,(∀ w',sx w'->Rd w' (a35.add (((1:Int)).toNat*1)) [.int .u64 x41.toNat])/\((0<=(2:Int)/\(2:Int)<(5:Nat))/\aA b λa36=>∃ x42:UInt64,(∀ w',sx w'->Rd w' (a36.add (((2:Int)).toNat*1)) [.int .u64 x42.toNat])/\((0<=(2:Int)/\(2:Int)<(5:Nat))/\aA a λa37=>∃ x43:UInt64,(∀ w',sx w'->Rd w' (a37.add (((2:Int)).toNat*1)) [.int .u64 x43.toNat])/\((0<=(1:Int)/\(1:Int)<(5:Nat))/\aA b λa38=>∃ x44:UInt64,(∀ w',sx w'->Rd w' (a38.add (((1:Int)).toNat*1)) [.int .u64 x44.toNat])/\((0<=(3:Int)/\(3:Int)<(5:Nat))/\aA a λa39=>∃ x45:UInt64,(∀ w',sx w'->Rd w' (a39.add (((3:Int)).toNat*1)) [.int .u64 x45.toNat])/\((0<=(0:Int)/\(0:Int)<(5:Nat))/\aA b λa40=>∃ x46:UInt64,(∀ w',sx w'->Rd w' (a40.add (((0:Int)).toNat*1)) [.int .u64 x46.toNat])/\((0<=(4:Int)/\(4:Int)<(5:Nat))/\aA a λa41=>∃ x47:UInt64,(∀ w',sx w'->Rd w' (a41.add (((4:Int)).toNat*1)) [.int .u64 x47.toNat])/\((0<=(4:Int)/\(4:Int)<(5:Nat))/\aA n λa42=>∃ x48:UInt64,(∀ w',sx w'->Rd w' (a42.add (((4:Int)).toNat*1)) [.int .u64 x48.toNat])/\((∀ w19,Mod NoB w5.drew w19->sx w19->aH prog (Instr.buildSlice 187 10 #[(0,(.int .u64 x39.toNat)),(1,(.int .u64 x40.toNat)),(2,(.int .u64 x41.toNat)),(3,(.int .u64 x42.toNat)),(4,(.int .u64 x43.toNat)),(5,(.int .u64 x44.toNat)),(6,(.int .u64 x45.toNat)),(7,(.int .u64 x46.toNat)),(8,(.int .u64 x47.toNat)),(9,(.int .u64 x48.toNat))]) w19 λv10 w20=>∃ x49:Slc,v10=(zS x49)/\(Mod NoB w19 w20/\sx w20/\ts 86 (zS x49) w20))/\∀ x50:Slc,((∀ w21,Mod NoB w5.drew w21->sx w21->ts 86 (zS x50) w21->ts 65 (.agg #[.int .u64 xa5.toNat,.int .u64 xb5.toNat]) w21->aD prog 300 [zS x50] w21 (aG R) λv11 w22=>∃ xa6 xb6:UInt64,v11=(.agg #[.int .u64 xa6.toNat,.int .u64 xb6.toNat])/\(Mod NoB w21 w22/\sx w22/\ts 87 (.agg #[.int .u64 xa6.toNat,.int .u64 xb6.toNat]) w22))/\∀ xa7 xb7:UInt64,((0<=(0:Int)/\(0:Int)<(5:Nat))/\aA a λa43=>∃ x51:UInt64,(∀ w',sx w'->Rd w' (a43.add (((0:Int)).toNat*1)) [.int .u64 x51.toNat])/\((0<=(4:Int)/\(4:Int)<(5:Nat))/\aA b λa44=>∃ x52:UInt64,(∀ w',sx w'->Rd w' (a44.add (((4:Int)).toNat*1)) [.int .u64 x52.toNat])/\((0<=(1:Int)/\(1:Int)<(5:Nat))/\aA a λa45=>∃ x53:UInt64,(∀ w',sx w'->Rd w' (a45.add (((1:Int)).toNat*1)) [.int .u64 x53.toNat])/\((0<=(3:Int)/\(3:Int)<(5:Nat))/\aA b λa46=>∃ x54:UInt64,(∀ w',sx w'->Rd w' (a46.add (((3:Int)).toNat*1)) [.int .u64 x54.toNat])/\((0<=(2:Int)/\(2:Int)<(5:Nat))/\aA a λa47=>∃ x55:UInt64,(∀ w',sx w'->Rd w' (a47.add (((2:Int)).toNat*1)) [.int .u64 x55.toNat])/\((0<=(2:Int)/\(2:Int)<(5:Nat))/\aA b λa48=>∃ x56:UInt64,(∀ w',sx w'->Rd w' (a48.add (((2:Int)).toNat*1)) [.int .u64 x56.toNat])/\((0<=(3:Int)/\(3:Int)<(5:Nat))/\aA a λa49=>∃ x57:UInt64,(∀ w',sx w'->Rd w' (a49.add (((3:Int)).toNat*1)) [.int .u64 x57.toNat])/\((0<=(1:Int)/\(1:Int)<(5:Nat))/\aA b λa50=>∃ x58:UInt64,(∀ w',sx w'->Rd w' (a50.add (((1:Int)).toNat*1)) [.int .u64 x58.toNat])/\((0<=(4:Int)/\(4:Int)<(5:Nat))/\aA a λa51=>∃ x59:UInt64,(∀ w',sx w'->Rd w' (a51.add (((4:Int)).toNat*1)) [.int .u64 x59.toNat])/\((0<=(0:Int)/\(0:Int)<(5:Nat))/\aA b λa52=>∃ x60:UInt64,(∀ w',sx w'->Rd w' (a52.add (((0:Int)).toNat*1)) [.int .u64 x60.toNat])/\((∀ w23,Mod NoB w5.drew w23->sx w23->aH prog (Instr.buildSlice 187 10 #[(0,(.int .u64 x51.toNat)),(1,(.int .u64 x52.toNat)),(2,(.int .u64 x53.toNat)),(3,(.int .u64 x54.toNat)),(4,(.int .u64 x55.toNat)),(5,(.int .u64 x56.toNat)),(6,(.int .u64 x57.toNat)),(7,(.int .u64 x58.toNat)),(8,(.int .u64 x59.toNat)),(9,(.int .u64 x60.toNat))]) w23 λv12 w24=>∃ x61:Slc,v12=(zS x61)/\(Mod NoB w23 w24/\sx w24/\ts 108 (zS x61) w24))/\∀ x62:Slc,((∀ w25,Mod NoB w5.drew w25->sx w25->ts 108 (zS x62) w25->ts 87 (.agg #[.int .u64 xa7.toNat,.int .u64 xb7.toNat]) w25->aD prog 300 [zS x62] w25 (aG R) λv13 w26=>∃ xa8 xb8:UInt64,v13=(.agg #[.int .u64 xa8.toNat,.int .u64 xb8.toNat])/\(Mod NoB w25 w26/\sx w26/\ts 109 (.agg #[.int .u64 xa8.toNat,.int .u64 xb8.toNat]) w26))/\∀ xa9 xb9:UInt64,((∀ w27,Mod NoB w5.drew w27->sx w27->aH prog (Instr.alloc 405 true (.tuple #[])) w27 λv14 w28=>∃ all:zO,v14=(.pointer all)/\(Mod NoB w27 w28/\sx w28/\ts 111 (.pointer all) w28))/\∀ all1:zO,∀ w29,Mod NoB w5.drew w29->sx w29->ts 111 (.pointer all1) w29->ts 109 (.agg #[.int .u64 xa9.toNat,.int .u64 xb9.toNat]) w29->ts 108 (zS x62) w29->ts 87 (.agg #[.int .u64 xa7.toNat,.int .u64 xb7.toNat]) w29->ts 86 (zS x50) w29->ts 65 (.agg #[.int .u64 xa5.toNat,.int .u64 xb5.toNat]) w29->ts 64 (zS x38) w29->ts 43 (.agg #[.int .u64 xa3.toNat,.int .u64 xb3.toNat]) w29->ts 42 (zS x26) w29->ts 21 (.agg #[.int .u64 xa1.toNat,.int .u64 xb1.toNat]) w29->ts 20 (zS x14) w29->((aA all1 λa53=>aJ prog (storeVar 405 a53 (.agg #[.int .u64 xa1.toNat,.int .u64 xb1.toNat,.int .u64 xa3.toNat,.int .u64 xb3.toNat,.int .u64 xa5.toNat,.int .u64 xb5.toNat,.int .u64 xa7.toNat,.int .u64 xb7.toNat,.int .u64 xa9.toNat,.int .u64 xb9.toNat])) w29 λw30=>aH prog (Instr.alloc 285 true (.tuple #[])) w30 λv15 w31=>∃ out:zO,v15=(.pointer out)/\aH prog (Instr.alloc 285 true (.tuple #[])) w31 λv16 w32=>∃ up:zO,v16=(.pointer up)/\aA all1 λa54=>∃ xaa xab xba xbb xca xcb xda xdb xea xeb:UInt64,Rd w32 a54 [.int .u64 xaa.toNat,.int .u64 xab.toNat,.int .u64 xba.toNat,.int .u64 xbb.toNat,.int .u64 xca.toNat,.int .u64 xcb.toNat,.int .u64 xda.toNat,.int .u64 xdb.toNat,.int .u64 xea.toNat,.int .u64 xeb.toNat]/\∃ (inv1:zT) (mu1:zU),inv1 [.i .i64 0] w32/\(∀ x63:Int,∀ w33:World,inv1 [.i .i64 x63] w33->aE (decide (x63<5)) (((0<=x63/\x63<(5:Nat))/\(∀ z∈([.agg [.agg [.u64 xaa,.u64 xab]],.agg [.agg [.u64 xba,.u64 xbb]],.agg [.agg [.u64 xca,.u64 xcb]],.agg [.agg [.u64 xda,.u64 xdb]],.agg [.agg [.u64 xea,.u64 xeb]]]:List TV),z.cells.length=2)/\∃ xa10 xb10:UInt64,([.agg [.agg [.u64 xaa,.u64 xab]],.agg [.agg [.u64 xba,.u64 xbb]],.agg [.agg [.u64 xca,.u64 xcb]],.agg [.agg [.u64 xda,.u64 xdb]],.agg [.agg [.u64 xea,.u64 xeb]]]:List TV)[x63.toNat]? = some (.agg [.agg [.u64 xa10,.u64 xb10]])/\aH prog (Instr.alloc 403 true (.tuple #[])) w33 λv17 w34=>∃ s:zO,v17=(.pointer s)/\aA s λa55=>aJ prog (storeVar 403 a55 (.agg #[.int .u64 xa10.toNat,.int .u64 xb10.toNat])) w34 λw35=>aA s λa56=>∃ xa11 xb11:UInt64,Rd w35 a56 [.int .u64 xa11.toNat,.int .u64 xb11.toNat]/\aD prog 301 [.agg #[.int .u64 xa11.toNat,.int .u64 xb11.toNat]] w35 (aG R) λv18 w36=>∃ xa12 xb12:UInt64,v18=(.tuple #[.int .u64 xa12.toNat,.int .u64 xb12.toNat])/\((0<=x63/\x63<(5:Nat))/\aA out λa57=>aJ prog (storeVar 188 (a57.add (x63.toNat*1)) (.int .u64 xa12.toNat)) w36 λw37=>((0<=x63/\x63<(5:Nat))/\aA up λa58=>aJ prog (storeVar 188 (a58.add (x63.toNat*1)) (.int .u64 xb12.toNat)) w37 λw38=>(inv1 [.i .i64 (zW (x63+1))] w38/\mu1 [.i .i64 (zW (x63+1))] w38<mu1 [.i .i64 x63] w33))))) (∃ (inv2:zT) (mu2:zU),inv2 [.i .i64 0] w33/\(∀ x64:Int,∀ w39:World,inv2 [.i .i64 x64] w39->aE (decide (x64<5)) (aE (decide (x64<4)) (∃ sx1:zP,sx1 w39.drew/\((0<=(zW (x64+1))/\(zW (x64+1))<(5:Nat))/\aA out λa59=>((0<=x64/\x64<(5:Nat))/\aA up λa60=>∃ x65:UInt64,(∀ w',sx1 w'->Rd w' (a59.add (((zW (x64+1))).toNat*1)) [.int .u64 x65.toNat])/\∃ x66:UInt64,(∀ w',sx1 w'->Rd w' (a60.add (x64.toNat*1)) [.int .u64 x66.toNat])/\((0<=(zW (x64+1))/\(zW (x64+1))<(5:Nat))/\aA out λa61=>((aJ prog (storeVar 188 (a61.add (((zW (x64+1))).toNat*1)) (.int .u64 ((x65+x66)).toNat)) w39.drew λw40=>(inv2 [.i .i64 (zW (x64+1))] w40/\mu2 [.i .i64 (zW (x64+1))] w40<mu2 [.i .i64 x64] w39))/\True))))) (((0<=(4:Int)/\(4:Int)<(5:Nat))/\aA up λa62=>∃ x67:UInt64,Rd w39 (a62.add (((4:Int)).toNat*1)) [.int .u64 x67.toNat]/\aD prog 302 [.int .u64 x67.toNat,.int .u64 ((19:UInt64)).toNat] w39 (aG R) λv19 w41=>∃ xa13 xb13:UInt64,v19=(.tuple #[.int .u64 xa13.toNat,.int .u64 xb13.toNat])/\((0<=(0:Int)/\(0:Int)<(5:Nat))/\aA out λa63=>∃ x68:UInt64,Rd w41 (a63.add (((0:Int)).toNat*1)) [.int .u64 x68.toNat]/\((0<=(0:Int)/\(0:Int)<(5:Nat))/\aA out λa64=>aJ prog (storeVar 188 (a64.add (((0:Int)).toNat*1)) (.int .u64 ((x68+(xb13 &&& (2251799813685247:UInt64)))).toNat)) w41 λw42=>((0<=(1:Int)/\(1:Int)<(5:Nat))/\aA out λa65=>∃ x69:UInt64,Rd w42 (a65.add (((1:Int)).toNat*1)) [.int .u64 x69.toNat]/\(0<=(((13:UInt64)).toNat:Int)/\(0<=(((51:UInt64)).toNat:Int)/\((0<=(1:Int)/\(1:Int)<(5:Nat))/\aA out λa66=>aJ prog (storeVar 188 (a66.add (((1:Int)).toNat*1)) (.int .u64 ((x69+((dS xa13 ((((13:UInt64)).toNat:Int)).toNat) ||| (aM xb13 ((((51:UInt64)).toNat:Int)).toNat)))).toNat)) w42 λw43=>(inv2 [.i .i64 (zW (x64+1))] w43/\mu2 [.i .i64 (zW (x64+1))] w43<mu2 [.i .i64 x64] w39)))))))))) (aA out λa67=>∃ xa14 xb14 xc xd xe:UInt64,Rd w39 a67 (l5 xa14 xb14 xc xd xe)/\aD prog 303 [e5 xa14 xb14 xc xd xe] w39 (aG R) λv20 w44=>∃ xa15 xb15 xc1 xd1 xe1:UInt64,v20=(e5 xa15 xb15 xc1 xd1 xe1)/\aD prog 303 [e5 xa15 xb15 xc1 xd1 xe1] w44 (aG R) λv21 w45=>∃ xa16 xb16 xc2 xd2 xe2:UInt64,v21=(e5 xa16 xb16 xc2 xd2 xe2)/\aA x λa68=>aJ prog (storeVar 285 a68 (e5 xa16 xb16 xc2 xd2 xe2)) w45 λw46=>aA x λa69=>∃ xa17 xb17 xc3 xd3 xe3:UInt64,Rd w46 a69 (l5 xa17 xb17 xc3 xd3 xe3)/\R (.returned (e5 xa17 xb17 xc3 xd3 xe3)) w46)))))/\True)))))))))))))))))))))))))))))))))))))))))))))))))))))))))))))))))
theorem qPQ (aa ab ac ad ae ba bb bc bd be:UInt64) {w:World} {R:RW} (h9:qXF aa ab ac ad ae ba bb bc bd be w R):Calls prog 247 #[e5 aa ab ac ad ae,e5 ba bb bc bd be] w R:=
 zC (q0 .z (q0 .z (q0 (q0 .z (.block none (.loop [(15,(.i .i64))] (q0 .z (q0 (.cond .z .z) (q0 (.block none (q0 .z .z)) .z)))))) (q0 (.draw 1 (.safe [(0,.p),(1,.u64),(2,.p),(3,.u64),(4,.p),(5,.u64),(6,.p),(7,.u64),(8,.p),(9,.u64),(10,.p),(11,.u64),(12,.p),(13,.u64),(14,.p),(15,.u64),(16,.p),(17,.u64),(18,.p),(19,.u64),(20,.sl),(21,(.agg [.agg [.u64,.u64]])),(22,.p),(23,.u64),(24,.p),(25,.u64),(26,.p),(27,.u64),(28,.p),(29,.u64),(30,.p),(31,.u64),(32,.p),(33,.u64),(34,.p),(35,.u64),(36,.p),(37,.u64),(38,.p),(39,.u64),(40,.p),(41,.u64),(42,.sl),(43,(.agg [.agg [.u64,.u64]])),(44,.p),(45,.u64),(46,.p),(47,.u64),(48,.p),(49,.u64),(50,.p),(51,.u64),(52,.p),(53,.u64),(54,.p),(55,.u64),(56,.p),(57,.u64),(58,.p),(59,.u64),(60,.p),(61,.u64),(62,.p),(63,.u64),(64,.sl),(65,(.agg [.agg [.u64,.u64]])),(66,.p),(67,.u64),(68,.p),(69,.u64),(70,.p),(71,.u64),(72,.p),(73,.u64),(74,.p),(75,.u64),(76,.p),(77,.u64),(78,.p),(79,.u64),(80,.p),(81,.u64),(82,.p),(83,.u64),(84,.p),(85,.u64),(86,.sl),(87,(.agg [.agg [.u64,.u64]])),(88,.p),(89,.u64),(90,.p),(91,.u64),(92,.p),(93,.u64),(94,.p),(95,.u64),(96,.p),(97,.u64),(98,.p),(99,.u64),(100,.p),(101,.u64),(102,.p),(103,.u64),(104,.p),(105,.u64),(106,.p),(107,.u64),(108,.sl),(109,(.agg [.agg [.u64,.u64]])),(110,(.agg [.agg [.agg [.u64,.u64]],.agg [.agg [.u64,.u64]],.agg [.agg [.u64,.u64]],.agg [.agg [.u64,.u64]],.agg [.agg [.u64,.u64]]])),(111,.p)] (.all [(112,.done)]))) (q0 .z (q0 (q0 .z (.block none (.loop [(137,(.i .i64))] (q0 .z (q0 (.cond .z .z) (q0 (.block none (q0 .z .z)) .z)))))) (q0 (q0 .z (.block none (.loop [(151,(.i .i64))] (q0 .z (q0 (.cond .z .z) (q0 (.block none (q0 .z (q0 .z (.cond (.draw 1 (.take 0 (.take 1 (.take 2 (.take 4 (.take 5 (.take 3 (.take 6 (.take 7 (.take 8 (.all [(9,.done)]))))))))))) (q0 .z (q0 .z .z)))))) .z)))))) (q0 .z .z)))))))) func247 [.agg [.u64 aa,.u64 ab,.u64 ac,.u64 ad,.u64 ae],.agg [.u64 ba,.u64 bb,.u64 bc,.u64 bd,.u64 be]] h9
def qTU (aa ab ac ad ae:UInt64) (n:Int) (less:UInt64) (w:World) (R:RW):Prop:=
 aH prog (Instr.box 285 (e5 aa ab ac ad ae)) w λv w1=>∃ a:zO,v=(.pointer a)/\aH prog (Instr.box 188 (.int .u64 less.toNat)) w1 λv1 w2=>∃ less1:zO,v1=(.pointer less1)/\aH prog (Instr.alloc 285 true (.tuple #[])) w2 λv2 w3=>∃ x:zO,v2=(.pointer x)/\aD prog 304 [] w3 (aG R) λv3 w4=>∃ xa xb xc xd xe:UInt64,v3=(e5 xa xb xc xd xe)/\aH prog (Instr.alloc 285 true (.tuple #[])) w4 λv4 w5=>∃ out:zO,v4=(.pointer out)/\aA out λa1=>aJ prog (storeVar 285 a1 (e5 xa xb xc xd xe)) w5 λw6=>∃ (inv:zT) (mu:zU),inv [.i .i64 (zW (n - 1))] w6/\(∀ i:Int,∀ w7:World,inv [.i .i64 i] w7->aE (decide (i>=0)) (aA out λa2=>∃ xa1 xb1 xc1 xd1 xe1:UInt64,Rd w7 a2 (l5 xa1 xb1 xc1 xd1 xe1)/\aD prog 308 [e5 xa1 xb1 xc1 xd1 xe1] w7 (aG R) λv5 w8=>∃ xa2 xb2 xc2 xd2 xe2:UInt64,v5=(e5 xa2 xb2 xc2 xd2 xe2)/\aA out λa3=>aJ prog (storeVar 285 a3 (e5 xa2 xb2 xc2 xd2 xe2)) w8 λw9=>aD prog 352 [.int .i64 i,.pointer less1] w9 (aG R) λv6 w10=>∃ x1:Bool,v6=(.bool x1)/\aE x1 (aA out λa4=>∃ xa3 xb3 xc3 xd3 xe3:UInt64,Rd w10 a4 (l5 xa3 xb3 xc3 xd3 xe3)/\aA a λa5=>∃ xa4 xb4 xc4 xd4 xe4:UInt64,Rd w10 a5 (l5 xa4 xb4 xc4 xd4 xe4)/\aD prog 247 [e5 xa3 xb3 xc3 xd3 xe3,e5 xa4 xb4 xc4 xd4 xe4] w10 (aG R) λv7 w11=>∃ xa5 xb5 xc5 xd5 xe5:UInt64,v7=(e5 xa5 xb5 xc5 xd5 xe5)/\aA out λa6=>aJ prog (storeVar 285 a6 (e5 xa5 xb5 xc5 xd5 xe5)) w11 λw12=>(inv [.i .i64 (zW (i - 1))] w12/\mu [.i .i64 (zW (i - 1))] w12<mu [.i .i64 i] w7)) ((inv [.i .i64 (zW (i - 1))] w10/\mu [.i .i64 (zW (i - 1))] w10<mu [.i .i64 i] w7))) (aA out λa7=>∃ xa6 xb6 xc6 xd6 xe6:UInt64,Rd w7 a7 (l5 xa6 xb6 xc6 xd6 xe6)/\aA x λa8=>aJ prog (storeVar 285 a8 (e5 xa6 xb6 xc6 xd6 xe6)) w7 λw13=>aA x λa9=>∃ xa7 xb7 xc7 xd7 xe7:UInt64,Rd w13 a9 (l5 xa7 xb7 xc7 xd7 xe7)/\R (.returned (e5 xa7 xb7 xc7 xd7 xe7)) w13))
theorem qLQ (aa ab ac ad ae:UInt64) (n:Int) (less:UInt64) {w:World} {R:RW} (h9:qTU aa ab ac ad ae n less w R):Calls prog 298 #[e5 aa ab ac ad ae,.int .i64 n,.int .u64 less.toNat] w R:=
 zC (q0 .z (q0 .z (q0 .z (q0 (q0 .z (.block none (.loop [(9,(.i .i64))] (q0 (q0 .z (.cond .z .z)) (q0 (.block none (q0 .z (q0 .z (.cond .z .z)))) .z))))) (q0 .z .z))))) func298 [.agg [.u64 aa,.u64 ab,.u64 ac,.u64 ad,.u64 ae],.i .i64 n,.u64 less] h9
def qUS (aa ab ac ad ae:UInt64) (w:World) (R:RW):Prop:=
 aH prog (Instr.box 285 (e5 aa ab ac ad ae)) w λv w1=>∃ a:zO,v=(.pointer a)/\aH prog (Instr.alloc 285 true (.tuple #[])) w1 λv1 w2=>∃ x:zO,v1=(.pointer x)/\aA a λa1=>∃ xa xb xc xd xe:UInt64,Rd w2 a1 (l5 xa xb xc xd xe)/\aD prog 303 [e5 xa xb xc xd xe] w2 (aG R) λv2 w3=>∃ xa1 xb1 xc1 xd1 xe1:UInt64,v2=(e5 xa1 xb1 xc1 xd1 xe1)/\aD prog 303 [e5 xa1 xb1 xc1 xd1 xe1] w3 (aG R) λv3 w4=>∃ xa2 xb2 xc2 xd2 xe2:UInt64,v3=(e5 xa2 xb2 xc2 xd2 xe2)/\aA a λa2=>aJ prog (storeVar 285 a2 (e5 xa2 xb2 xc2 xd2 xe2)) w4 λw5=>((0<=(0:Int)/\(0:Int)<(5:Nat))/\aA a λa3=>∃ x1:UInt64,Rd w5 (a3.add (((0:Int)).toNat*1)) [.int .u64 x1.toNat]/\(0<=(((51:UInt64)).toNat:Int)/\∃ (inv:zT) (mu:zU),inv [.u64 (aM (x1+(19:UInt64)) ((((51:UInt64)).toNat:Int)).toNat),.i .i64 1] w5/\(∀ q:UInt64,∀ i:Int,∀ w6:World,inv [.u64 q,.i .i64 i] w6->aE (decide (i<5)) (((0<=i/\i<(5:Nat))/\aA a λa4=>∃ x2:UInt64,Rd w6 (a4.add (i.toNat*1)) [.int .u64 x2.toNat]/\(0<=(((51:UInt64)).toNat:Int)/\(inv [.u64 (aM (x2+q) ((((51:UInt64)).toNat:Int)).toNat),.i .i64 (zW (i+1))] w6/\mu [.u64 (aM (x2+q) ((((51:UInt64)).toNat:Int)).toNat),.i .i64 (zW (i+1))] w6<mu [.u64 q,.i .i64 i] w6)))) (((0<=(0:Int)/\(0:Int)<(5:Nat))/\aA a λa5=>∃ x3:UInt64,Rd w6 (a5.add (((0:Int)).toNat*1)) [.int .u64 x3.toNat]/\((0<=(0:Int)/\(0:Int)<(5:Nat))/\aA a λa6=>aJ prog (storeVar 188 (a6.add (((0:Int)).toNat*1)) (.int .u64 ((x3+((19:UInt64)*q))).toNat)) w6 λw7=>∃ (inv1:zT) (mu1:zU),inv1 [.i .i64 0] w7/\(∀ i1:Int,∀ w8:World,inv1 [.i .i64 i1] w8->aE (decide (i1<4)) (∃ sx:zP,sx w8.drew/\((0<=(zW (i1+1))/\(zW (i1+1))<(5:Nat))/\aA a λa7=>((0<=i1/\i1<(5:Nat))/\aA a λa8=>∃ x4:UInt64,(∀ w',sx w'->Rd w' (a7.add (((zW (i1+1))).toNat*1)) [.int .u64 x4.toNat])/\∃ x5:UInt64,(∀ w',sx w'->Rd w' (a8.add (i1.toNat*1)) [.int .u64 x5.toNat])/\(0<=(((51:UInt64)).toNat:Int)/\((0<=(zW (i1+1))/\(zW (i1+1))<(5:Nat))/\aA a λa9=>((aJ prog (storeVar 188 (a9.add (((zW (i1+1))).toNat*1)) (.int .u64 ((x4+(aM x5 ((((51:UInt64)).toNat:Int)).toNat))).toNat)) w8.drew λw9=>((0<=i1/\i1<(5:Nat))/\aA a λa10=>∃ x6:UInt64,Rd w9 (a10.add (i1.toNat*1)) [.int .u64 x6.toNat]/\((0<=i1/\i1<(5:Nat))/\aA a λa11=>aJ prog (storeVar 188 (a11.add (i1.toNat*1)) (.int .u64 ((x6 &&& (2251799813685247:UInt64))).toNat)) w9 λw10=>(inv1 [.i .i64 (zW (i1+1))] w10/\mu1 [.i .i64 (zW (i1+1))] w10<mu1 [.i .i64 i1] w8))))/\True)))))) (((0<=(4:Int)/\(4:Int)<(5:Nat))/\aA a λa12=>∃ x7:UInt64,Rd w8 (a12.add (((4:Int)).toNat*1)) [.int .u64 x7.toNat]/\((0<=(4:Int)/\(4:Int)<(5:Nat))/\aA a λa13=>aJ prog (storeVar 188 (a13.add (((4:Int)).toNat*1)) (.int .u64 ((x7 &&& (2251799813685247:UInt64))).toNat)) w8 λw11=>aA a λa14=>∃ xa3 xb3 xc3 xd3 xe3:UInt64,Rd w11 a14 (l5 xa3 xb3 xc3 xd3 xe3)/\aA x λa15=>aJ prog (storeVar 285 a15 (e5 xa3 xb3 xc3 xd3 xe3)) w11 λw12=>aA x λa16=>∃ xa4 xb4 xc4 xd4 xe4:UInt64,Rd w12 a16 (l5 xa4 xb4 xc4 xd4 xe4)/\R (.returned (e5 xa4 xb4 xc4 xd4 xe4)) w12))))))))))
theorem qNF (aa ab ac ad ae:UInt64) {w:World} {R:RW} (h9:qUS aa ab ac ad ae w R):Calls prog 299 #[e5 aa ab ac ad ae] w R:=
 zC (q0 .z (q0 .z (q0 .z (q0 (q0 .z (.block none (.loop [(3,.u64),(4,(.i .i64))] (q0 (q0 .z (.cond .z .z)) (q0 (.block none .z) .z))))) (q0 .z (q0 (q0 .z (.block none (.loop [(5,(.i .i64))] (q0 (q0 .z (.cond .z .z)) (q0 (.block none (q0 (.draw 1 (.take 0 (.take 1 (.take 2 (.take 4 (.take 5 (.take 3 (.take 6 (.take 7 (.take 8 (.take 9 (.all [(10,.done)])))))))))))) .z)) .z))))) (q0 .z (q0 .z .z)))))))) func299 [.agg [.u64 aa,.u64 ab,.u64 ac,.u64 ad,.u64 ae]] h9
def qWN (l:Slc) (w:World) (R:RW):Prop:=
 aH prog (Instr.alloc 403 true (.tuple #[])) w λv w1=>∃ x:zO,v=(.pointer x)/\aH prog (Instr.alloc 403 true (.tuple #[])) w1 λv1 w2=>∃ s:zO,v1=(.pointer s)/\∃ (inv:zT) (mu:zU),inv [.i .i64 0] w2/\(∀ i:Int,∀ w3:World,inv [.i .i64 i] w3->aE (decide ((zW (i+1))<(l.len:Int))) (∃ sx:zP,sx w3.drew/\aA s λa=>(zB i l.len/\aA l.a λa1=>((0<=(zW (i+1))/\(zW (i+1))<(l.len:Nat))/\aA l.a λa2=>∃ x1:UInt64,(∀ w',sx w'->Rd w' (a1.add (i.toNat*1)) [.int .u64 x1.toNat])/\∃ x2:UInt64,(∀ w',sx w'->Rd w' (a2.add (((zW (i+1))).toNat*1)) [.int .u64 x2.toNat])/\((aD prog 353 [.pointer (some (a.add 0)),.int .u64 x1.toNat,.int .u64 x2.toNat] w3.drew (aG R) λv2 w4=>v2=(.tuple #[])/\(inv [.i .i64 (zW (i+2))] w4/\mu [.i .i64 (zW (i+2))] w4<mu [.i .i64 i] w3))/\True)))) (aA s λa3=>∃ xa xb:UInt64,Rd w3 a3 [.int .u64 xa.toNat,.int .u64 xb.toNat]/\aA x λa4=>aJ prog (storeVar 403 a4 (.agg #[.int .u64 xa.toNat,.int .u64 xb.toNat])) w3 λw5=>aA x λa5=>∃ xa1 xb1:UInt64,Rd w5 a5 [.int .u64 xa1.toNat,.int .u64 xb1.toNat]/\R (.returned (.agg #[.int .u64 xa1.toNat,.int .u64 xb1.toNat])) w5))
theorem qPE (l:Slc) {w:World} {R:RW} (h9:qWN l w R):Calls prog 300 #[zS l] w R:=
 zC (q0 .z (q0 .z (q0 (q0 .z (.block none (.loop [(4,(.i .i64))] (q0 (q0 .z (.cond .z .z)) (q0 (.block none (.draw 1 (.take 0 (.take 1 (.take 2 (.take 3 (.take 5 (.take 6 (.take 7 (.take 8 (.take 4 (.take 9 (.all [(10,.done)]))))))))))))) .z))))) (q0 .z .z)))) func300 [.sl l] h9
def qTA (sa sb:UInt64) (w:World) (R:RW):Prop:=
 aH prog (Instr.box 403 (.agg #[.int .u64 sa.toNat,.int .u64 sb.toNat])) w λv w1=>∃ s:zO,v=(.pointer s)/\aA s λa=>aA s λa1=>aA s λa2=>∃ x:UInt64,Rd w1.drew ((a.add 0).add 1) [.int .u64 x.toNat]/\∃ x1:UInt64,Rd w1.drew ((a1.add 0).add 0) [.int .u64 x1.toNat]/\(0<=(((13:UInt64)).toNat:Int)/\∃ x2:UInt64,Rd w1.drew ((a2.add 0).add 1) [.int .u64 x2.toNat]/\(0<=(((51:UInt64)).toNat:Int)/\R (.returned (.tuple #[.int .u64 ((x &&& (2251799813685247:UInt64))).toNat,.int .u64 (((dS x1 ((((13:UInt64)).toNat:Int)).toNat) ||| (aM x2 ((((51:UInt64)).toNat:Int)).toNat))).toNat])) w1.drew))
theorem qQE (sa sb:UInt64) {w:World} {R:RW} (h9:qTA sa sb w R):Calls prog 301 #[.agg #[.int .u64 sa.toNat,.int .u64 sb.toNat]] w R:=
 zC (q0 .z (q0 (.draw 2 (.take 0 (.take 1 (.take 4 (.take 5 (.take 8 (.take 9 (.take 2 (.take 3 (.take 13 (.take 6 (.take 7 (.take 10 (.take 11 (.take 12 (.take 14 .done)))))))))))))))) .z)) func301 [.agg [.agg [.u64 sa,.u64 sb]]] h9
def qJA (x y:UInt64) (w:World) (R:RW):Prop:=
 (0<=(((32:UInt64)).toNat:Int)/\(0<=(((32:UInt64)).toNat:Int)/\(0<=(((32:UInt64)).toNat:Int)/\(0<=(((32:UInt64)).toNat:Int)/\(0<=(((32:UInt64)).toNat:Int)/\R (.returned (.tuple #[.int .u64 (((((aM x ((((32:UInt64)).toNat:Int)).toNat)*(aM y ((((32:UInt64)).toNat:Int)).toNat))+(aM (((aM x ((((32:UInt64)).toNat:Int)).toNat)*(y &&& (4294967295:UInt64)))+(aM ((x &&& (4294967295:UInt64))*(y &&& (4294967295:UInt64))) ((((32:UInt64)).toNat:Int)).toNat)) ((((32:UInt64)).toNat:Int)).toNat))+(aM (((((aM x ((((32:UInt64)).toNat:Int)).toNat)*(y &&& (4294967295:UInt64)))+(aM ((x &&& (4294967295:UInt64))*(y &&& (4294967295:UInt64))) ((((32:UInt64)).toNat:Int)).toNat)) &&& (4294967295:UInt64))+((x &&& (4294967295:UInt64))*(aM y ((((32:UInt64)).toNat:Int)).toNat))) ((((32:UInt64)).toNat:Int)).toNat))).toNat,.int .u64 ((x*y)).toNat])) w)))))
theorem qCR (x y:UInt64) {w:World} {R:RW} (h9:qJA x y w R):Calls prog 302 #[.int .u64 x.toNat,.int .u64 y.toNat] w R:=
 zC (q0 .z (q0 .z (q0 .z (q0 .z (q0 .z (q0 .z (q0 .z (q0 .z (q0 .z (q0 .z (q0 .z (q0 .z .z)))))))))))) func302 [.u64 x,.u64 y] h9
def qYI (aa ab ac ad ae:UInt64) (w:World) (R:RW):Prop:=
 aH prog (Instr.box 285 (e5 aa ab ac ad ae)) w λv w1=>∃ a:zO,v=(.pointer a)/\aH prog (Instr.alloc 285 true (.tuple #[])) w1 λv1 w2=>∃ x:zO,v1=(.pointer x)/\((0<=(4:Int)/\(4:Int)<(5:Nat))/\aA a λa1=>∃ x1:UInt64,Rd w2 (a1.add (((4:Int)).toNat*1)) [.int .u64 x1.toNat]/\(0<=(((51:UInt64)).toNat:Int)/\∃ (inv:zT) (mu:zU),inv [.i .i64 4] w2/\(∀ i:Int,∀ w3:World,inv [.i .i64 i] w3->aE (decide (i > 0)) (∃ sx:zP,sx w3.drew/\((0<=i/\i<(5:Nat))/\aA a λa2=>((0<=(zW (i - 1))/\(zW (i - 1))<(5:Nat))/\aA a λa3=>∃ x2:UInt64,(∀ w',sx w'->Rd w' (a2.add (i.toNat*1)) [.int .u64 x2.toNat])/\∃ x3:UInt64,(∀ w',sx w'->Rd w' (a3.add (((zW (i - 1))).toNat*1)) [.int .u64 x3.toNat])/\(0<=(((51:UInt64)).toNat:Int)/\((0<=i/\i<(5:Nat))/\aA a λa4=>((aJ prog (storeVar 188 (a4.add (i.toNat*1)) (.int .u64 (((x2 &&& (2251799813685247:UInt64))+(aM x3 ((((51:UInt64)).toNat:Int)).toNat))).toNat)) w3.drew λw4=>(inv [.i .i64 (zW (i - 1))] w4/\mu [.i .i64 (zW (i - 1))] w4<mu [.i .i64 i] w3))/\True)))))) (((0<=(0:Int)/\(0:Int)<(5:Nat))/\aA a λa5=>∃ x4:UInt64,Rd w3 (a5.add (((0:Int)).toNat*1)) [.int .u64 x4.toNat]/\((0<=(0:Int)/\(0:Int)<(5:Nat))/\aA a λa6=>aJ prog (storeVar 188 (a6.add (((0:Int)).toNat*1)) (.int .u64 (((x4 &&& (2251799813685247:UInt64))+((19:UInt64)*(aM x1 ((((51:UInt64)).toNat:Int)).toNat)))).toNat)) w3 λw5=>aA a λa7=>∃ xa xb xc xd xe:UInt64,Rd w5 a7 (l5 xa xb xc xd xe)/\aA x λa8=>aJ prog (storeVar 285 a8 (e5 xa xb xc xd xe)) w5 λw6=>aA x λa9=>∃ xa1 xb1 xc1 xd1 xe1:UInt64,Rd w6 a9 (l5 xa1 xb1 xc1 xd1 xe1)/\R (.returned (e5 xa1 xb1 xc1 xd1 xe1)) w6))))))
theorem qQR (aa ab ac ad ae:UInt64) {w:World} {R:RW} (h9:qYI aa ab ac ad ae w R):Calls prog 303 #[e5 aa ab ac ad ae] w R:=
 zC (q0 .z (q0 .z (q0 (q0 .z (.block none (.loop [(4,(.i .i64))] (q0 (q0 .z (.cond .z .z)) (q0 (.block none (.draw 1 (.take 0 (.take 1 (.take 2 (.take 5 (.take 6 (.take 7 (.take 3 (.take 4 (.take 8 (.take 9 (.take 10 (.take 11 (.all [(12,.done)]))))))))))))))) .z))))) (q0 .z (q0 .z .z))))) func303 [.agg [.u64 aa,.u64 ab,.u64 ac,.u64 ad,.u64 ae]] h9
def qWP (w:World) (R:RW):Prop:=
 aH prog (Instr.alloc 285 true (.tuple #[])) w λv w1=>∃ x:zO,v=(.pointer x)/\aA x λa=>aJ prog (storeVar 285 a (.agg #[.int .u64 ((1:UInt64)).toNat,.int .u64 ((0:UInt64)).toNat,.int .u64 ((0:UInt64)).toNat,.int .u64 ((0:UInt64)).toNat,.int .u64 ((0:UInt64)).toNat])) w1 λw2=>aA x λa1=>∃ xa xb xc xd xe:UInt64,Rd w2 a1 (l5 xa xb xc xd xe)/\R (.returned (e5 xa xb xc xd xe)) w2
theorem qNB {w:World} {R:RW} (h9:qWP w R):Calls prog 304 #[] w R:=
 zC (q0 .z (q0 .z .z)) func304 [] h9
def qUH (aa ab ac ad ae:UInt64) (w:World) (R:RW):Prop:=
 aH prog (Instr.box 285 (e5 aa ab ac ad ae)) w λv w1=>∃ a:zO,v=(.pointer a)/\aH prog (Instr.alloc 285 true (.tuple #[])) w1 λv1 w2=>∃ x:zO,v1=(.pointer x)/\aA a λa1=>∃ xa xb xc xd xe:UInt64,Rd w2 a1 (l5 xa xb xc xd xe)/\aA a λa2=>∃ xa1 xb1 xc1 xd1 xe1:UInt64,Rd w2 a2 (l5 xa1 xb1 xc1 xd1 xe1)/\aD prog 247 [e5 xa xb xc xd xe,e5 xa1 xb1 xc1 xd1 xe1] w2 (aG R) λv2 w3=>∃ xa2 xb2 xc2 xd2 xe2:UInt64,v2=(e5 xa2 xb2 xc2 xd2 xe2)/\aA x λa3=>aJ prog (storeVar 285 a3 (e5 xa2 xb2 xc2 xd2 xe2)) w3 λw4=>aA x λa4=>∃ xa3 xb3 xc3 xd3 xe3:UInt64,Rd w4 a4 (l5 xa3 xb3 xc3 xd3 xe3)/\R (.returned (e5 xa3 xb3 xc3 xd3 xe3)) w4
theorem qOA (aa ab ac ad ae:UInt64) {w:World} {R:RW} (h9:qUH aa ab ac ad ae w R):Calls prog 308 #[e5 aa ab ac ad ae] w R:=
 zC (q0 .z (q0 .z .z)) func308 [.agg [.u64 aa,.u64 ab,.u64 ac,.u64 ad,.u64 ae]] h9
def qTV (aa ab ac ad ae ba bb bc bd be:UInt64) (w:World) (R:RW):Prop:=
 aH prog (Instr.box 285 (e5 aa ab ac ad ae)) w λv w1=>∃ a:zO,v=(.pointer a)/\aH prog (Instr.box 285 (e5 ba bb bc bd be)) w1 λv1 w2=>∃ b:zO,v1=(.pointer b)/\aH prog (Instr.alloc 285 true (.tuple #[])) w2 λv2 w3=>∃ x:zO,v2=(.pointer x)/\∃ (inv:zT) (mu:zU),inv [.i .i64 0] w3/\(∀ x1:Int,∀ w4:World,inv [.i .i64 x1] w4->aE (decide (x1<5)) (∃ sx:zP,sx w4.drew/\((0<=x1/\x1<(5:Nat))/\aA a λa1=>((0<=x1/\x1<(5:Nat))/\aA b λa2=>∃ x2:UInt64,(∀ w',sx w'->Rd w' (a1.add (x1.toNat*1)) [.int .u64 x2.toNat])/\∃ x3:UInt64,(∀ w',sx w'->Rd w' (a2.add (x1.toNat*1)) [.int .u64 x3.toNat])/\((0<=x1/\x1<(5:Nat))/\aA a λa3=>((aJ prog (storeVar 188 (a3.add (x1.toNat*1)) (.int .u64 ((x2+x3)).toNat)) w4.drew λw5=>(inv [.i .i64 (zW (x1+1))] w5/\mu [.i .i64 (zW (x1+1))] w5<mu [.i .i64 x1] w4))/\True))))) (aA a λa4=>∃ xa xb xc xd xe:UInt64,Rd w4 a4 (l5 xa xb xc xd xe)/\aD prog 303 [e5 xa xb xc xd xe] w4 (aG R) λv3 w6=>∃ xa1 xb1 xc1 xd1 xe1:UInt64,v3=(e5 xa1 xb1 xc1 xd1 xe1)/\aA x λa5=>aJ prog (storeVar 285 a5 (e5 xa1 xb1 xc1 xd1 xe1)) w6 λw7=>aA x λa6=>∃ xa2 xb2 xc2 xd2 xe2:UInt64,Rd w7 a6 (l5 xa2 xb2 xc2 xd2 xe2)/\R (.returned (e5 xa2 xb2 xc2 xd2 xe2)) w7))
theorem qNR (aa ab ac ad ae ba bb bc bd be:UInt64) {w:World} {R:RW} (h9:qTV aa ab ac ad ae ba bb bc bd be w R):Calls prog 309 #[e5 aa ab ac ad ae,e5 ba bb bc bd be] w R:=
 zC (q0 .z (q0 (q0 .z (.block none (.loop [(6,(.i .i64))] (q0 .z (q0 (.cond .z .z) (q0 (.block none (q0 .z (.draw 1 (.take 0 (.take 1 (.take 3 (.take 4 (.take 2 (.take 5 (.take 6 (.take 7 (.all [(8,.done)])))))))))))) .z)))))) (q0 .z .z))) func309 [.agg [.u64 aa,.u64 ab,.u64 ac,.u64 ad,.u64 ae],.agg [.u64 ba,.u64 bb,.u64 bc,.u64 bd,.u64 be]] h9
def qYC (aa ab ac ad ae ba bb bc bd be:UInt64) (w:World) (R:RW):Prop:=
 aH prog (Instr.box 285 (e5 aa ab ac ad ae)) w λv w1=>∃ a:zO,v=(.pointer a)/\aH prog (Instr.box 285 (e5 ba bb bc bd be)) w1 λv1 w2=>∃ b:zO,v1=(.pointer b)/\aH prog (Instr.alloc 285 true (.tuple #[])) w2 λv2 w3=>∃ x:zO,v2=(.pointer x)/\∃ (inv:zT) (mu:zU),inv [.i .i64 0] w3/\(∀ x1:Int,∀ w4:World,inv [.i .i64 x1] w4->aE (decide (x1<5)) (∃ sx:zP,sx w4.drew/\((0<=x1/\x1<(5:Nat))/\aA a λa1=>((0<=x1/\x1<(5:Nat))/\aA b λa2=>∃ x2:UInt64,(∀ w',sx w'->Rd w' (a1.add (x1.toNat*1)) [.int .u64 x2.toNat])/\∃ x3:UInt64,(∀ w',sx w'->Rd w' (a2.add (x1.toNat*1)) [.int .u64 x3.toNat])/\((0<=x1/\x1<(5:Nat))/\aA a λa3=>((aJ prog (storeVar 188 (a3.add (x1.toNat*1)) (.int .u64 ((x2+((9007199254740988:UInt64) - x3))).toNat)) w4.drew λw5=>(inv [.i .i64 (zW (x1+1))] w5/\mu [.i .i64 (zW (x1+1))] w5<mu [.i .i64 x1] w4))/\True))))) (((0<=(0:Int)/\(0:Int)<(5:Nat))/\aA a λa4=>∃ x4:UInt64,Rd w4 (a4.add (((0:Int)).toNat*1)) [.int .u64 x4.toNat]/\((0<=(0:Int)/\(0:Int)<(5:Nat))/\aA a λa5=>aJ prog (storeVar 188 (a5.add (((0:Int)).toNat*1)) (.int .u64 ((x4 - (72:UInt64))).toNat)) w4 λw6=>aA a λa6=>∃ xa xb xc xd xe:UInt64,Rd w6 a6 (l5 xa xb xc xd xe)/\aD prog 303 [e5 xa xb xc xd xe] w6 (aG R) λv3 w7=>∃ xa1 xb1 xc1 xd1 xe1:UInt64,v3=(e5 xa1 xb1 xc1 xd1 xe1)/\aA x λa7=>aJ prog (storeVar 285 a7 (e5 xa1 xb1 xc1 xd1 xe1)) w7 λw8=>aA x λa8=>∃ xa2 xb2 xc2 xd2 xe2:UInt64,Rd w8 a8 (l5 xa2 xb2 xc2 xd2 xe2)/\R (.returned (e5 xa2 xb2 xc2 xd2 xe2)) w8))))
theorem qLR (aa ab ac ad ae ba bb bc bd be:UInt64) {w:World} {R:RW} (h9:qYC aa ab ac ad ae ba bb bc bd be w R):Calls prog 310 #[e5 aa ab ac ad ae,e5 ba bb bc bd be] w R:=
 zC (q0 .z (q0 (q0 .z (.block none (.loop [(6,(.i .i64))] (q0 .z (q0 (.cond .z .z) (q0 (.block none (q0 .z (.draw 1 (.take 0 (.take 1 (.take 3 (.take 4 (.take 2 (.take 5 (.take 6 (.take 7 (.take 8 (.all [(9,.done)]))))))))))))) .z)))))) (q0 .z (q0 .z .z)))) func310 [.agg [.u64 aa,.u64 ab,.u64 ac,.u64 ad,.u64 ae],.agg [.u64 ba,.u64 bb,.u64 bc,.u64 bd,.u64 be]] h9
def qUZ (aa ab ac ad ae:UInt64) (w:World) (R:RW):Prop:=
 aH prog (Instr.box 285 (e5 aa ab ac ad ae)) w λv w1=>∃ a:zO,v=(.pointer a)/\aH prog (Instr.alloc 285 true (.tuple #[])) w1 λv1 w2=>∃ x:zO,v1=(.pointer x)/\aA a λa1=>∃ xa xb xc xd xe:UInt64,Rd w2 a1 (l5 xa xb xc xd xe)/\aD prog 310 [.agg #[.int .u64 ((0:UInt64)).toNat,.int .u64 ((0:UInt64)).toNat,.int .u64 ((0:UInt64)).toNat,.int .u64 ((0:UInt64)).toNat,.int .u64 ((0:UInt64)).toNat],e5 xa xb xc xd xe] w2 (aG R) λv2 w3=>∃ xa1 xb1 xc1 xd1 xe1:UInt64,v2=(e5 xa1 xb1 xc1 xd1 xe1)/\aA x λa2=>aJ prog (storeVar 285 a2 (e5 xa1 xb1 xc1 xd1 xe1)) w3 λw4=>aA x λa3=>∃ xa2 xb2 xc2 xd2 xe2:UInt64,Rd w4 a3 (l5 xa2 xb2 xc2 xd2 xe2)/\R (.returned (e5 xa2 xb2 xc2 xd2 xe2)) w4
theorem qML (aa ab ac ad ae:UInt64) {w:World} {R:RW} (h9:qUZ aa ab ac ad ae w R):Calls prog 312 #[e5 aa ab ac ad ae] w R:=
 zC (q0 .z (q0 .z .z)) func312 [.agg [.u64 aa,.u64 ab,.u64 ac,.u64 ad,.u64 ae]] h9
def qVM (aa ab ac ad ae:UInt64) (w:World) (R:RW):Prop:=
 aH prog (Instr.box 285 (e5 aa ab ac ad ae)) w λv w1=>∃ a:zO,v=(.pointer a)/\aA a λa1=>∃ xa xb xc xd xe:UInt64,Rd w1 a1 (l5 xa xb xc xd xe)/\aD prog 299 [e5 xa xb xc xd xe] w1 (aG R) λv1 w2=>∃ xa1 xb1 xc1 xd1 xe1:UInt64,v1=(e5 xa1 xb1 xc1 xd1 xe1)/\bB prog (do eqGuard .eql 285 (.tmp 4) (.tmp 5) (e5 xa1 xb1 xc1 xd1 xe1) (.agg #[.int .u64 ((0:UInt64)).toNat,.int .u64 ((0:UInt64)).toNat,.int .u64 ((0:UInt64)).toNat,.int .u64 ((0:UInt64)).toNat,.int .u64 ((0:UInt64)).toNat]); binOp .eql 285 (e5 xa1 xb1 xc1 xd1 xe1) (.agg #[.int .u64 ((0:UInt64)).toNat,.int .u64 ((0:UInt64)).toNat,.int .u64 ((0:UInt64)).toNat,.int .u64 ((0:UInt64)).toNat,.int .u64 ((0:UInt64)).toNat])) λv2=>∃ x:Bool,v2=(.bool x)/\R (.returned (.bool x)) w2
theorem qNY (aa ab ac ad ae:UInt64) {w:World} {R:RW} (h9:qVM aa ab ac ad ae w R):Calls prog 316 #[e5 aa ab ac ad ae] w R:=
 zC (q0 .z (q0 .z .z)) func316 [.agg [.u64 aa,.u64 ab,.u64 ac,.u64 ad,.u64 ae]] h9
def qVZ (b:Slc) (w:World) (R:RW):Prop:=
 aH prog (Instr.alloc 285 true (.tuple #[])) w λv w1=>∃ x:zO,v=(.pointer x)/\aH prog (Instr.alloc 285 true (.tuple #[])) w1 λv1 w2=>∃ a:zO,v1=(.pointer a)/\aE ((b.len:Int) != (32:Int)) (aA a λa1=>∃ xa xb xc xd xe:UInt64,Rd w2 a1 (l5 xa xb xc xd xe)/\aA x λa2=>aJ prog (storeVar 285 a2 (e5 xa xb xc xd xe)) w2 λw3=>aA x λa3=>∃ xa1 xb1 xc1 xd1 xe1:UInt64,Rd w3 a3 (l5 xa1 xb1 xc1 xd1 xe1)/\R (.returned (.tuple #[e5 xa1 xb1 xc1 xd1 xe1,.bool false])) w3) (∃ (inv:zT) (mu:zU),inv [.i .i64 0] w2/\(∀ x1:Int,∀ w4:World,inv [.i .i64 x1] w4->aE (decide (x1<255)) (∃ sx:zP,sx w4.drew/\((51:Int)≠0/\((0<=(zW (Int.tdiv x1 (51:Int)))/\(zW (Int.tdiv x1 (51:Int)))<(5:Nat))/\aA a λa4=>((8:Int)≠0/\((0<=(zW (Int.tdiv x1 (8:Int)))/\(zW (Int.tdiv x1 (8:Int)))<(b.len:Nat))/\aA b.a λa5=>((8:Int)≠0/\((51:Int)≠0/\∃ x2:UInt64,(∀ w',sx w'->Rd w' (a4.add (((zW (Int.tdiv x1 (51:Int)))).toNat*1)) [.int .u64 x2.toNat])/\∃ x3:UInt8,(∀ w',sx w'->Rd w' (a5.add (((zW (Int.tdiv x1 (8:Int)))).toNat*1)) [.int .u8 x3.toNat])/\(0<=(Int.tmod x1 (8:Int))/\(0<=(Int.tmod x1 (51:Int))/\((0<=(zW (Int.tdiv x1 (51:Int)))/\(zW (Int.tdiv x1 (51:Int)))<(5:Nat))/\aA a λa6=>((aJ prog (storeVar 188 (a6.add (((zW (Int.tdiv x1 (51:Int)))).toNat*1)) (.int .u64 ((x2 ||| (dS ((((qE x3 ((Int.tmod x1 (8:Int))).toNat) &&& (1:UInt8))).toUInt64) ((Int.tmod x1 (51:Int))).toNat))).toNat)) w4.drew λw5=>(inv [.i .i64 (zW (x1+1))] w5/\mu [.i .i64 (zW (x1+1))] w5<mu [.i .i64 x1] w4))/\True))))))))))) (∃ j:zT,(∃ sx1:zP,sx1 w4.drew/\((0<=(31:Int)/\(31:Int)<(b.len:Nat))/\aA b.a λa7=>∃ x4:UInt8,(∀ w',sx1 w'->Rd w' (a7.add (((31:Int)).toNat*1)) [.int .u8 x4.toNat])/\(0<=(((7:UInt64)).toNat:Int)/\aE ((qE x4 ((((7:UInt64)).toNat:Int)).toNat)==(1:UInt8)) ((((sx1 w4.drew/\j [.b true] w4.drew))/\True)) (aA a λa8=>∃ xa2 xb2 xc2 xd2 xe2:UInt64,(∀ w',sx1 w'->Rd w' a8 (l5 xa2 xb2 xc2 xd2 xe2))/\aA a λa9=>∃ xa3 xb3 xc3 xd3 xe3:UInt64,(∀ w',sx1 w'->Rd w' a9 (l5 xa3 xb3 xc3 xd3 xe3))/\((aD prog 299 [e5 xa2 xb2 xc2 xd2 xe2] w4.drew (aG R) λv2 w6=>∃ xa4 xb4 xc4 xd4 xe4:UInt64,v2=(e5 xa4 xb4 xc4 xd4 xe4)/\(sx1 w6/\bB prog (do eqGuard .neq 285 (.tmp 40) (.tmp 41) (e5 xa4 xb4 xc4 xd4 xe4) (e5 xa3 xb3 xc3 xd3 xe3); binOp .neq 285 (e5 xa4 xb4 xc4 xd4 xe4) (e5 xa3 xb3 xc3 xd3 xe3)) λv3=>∃ x5:Bool,v3=(.bool x5)/\j [.b x5] w6))/\True)))))/\(∀ x6:Bool,∀ w7:World,j [.b x6] w7->aE x6 (aA x λa10=>aJ prog (storeVar 285 a10 (.agg #[.int .u64 ((0:UInt64)).toNat,.int .u64 ((0:UInt64)).toNat,.int .u64 ((0:UInt64)).toNat,.int .u64 ((0:UInt64)).toNat,.int .u64 ((0:UInt64)).toNat])) w7 λw8=>aA x λa11=>∃ xa5 xb5 xc5 xd5 xe5:UInt64,Rd w8 a11 (l5 xa5 xb5 xc5 xd5 xe5)/\R (.returned (.tuple #[e5 xa5 xb5 xc5 xd5 xe5,.bool false])) w8) (aA a λa12=>∃ xa6 xb6 xc6 xd6 xe6:UInt64,Rd w7 a12 (l5 xa6 xb6 xc6 xd6 xe6)/\aA x λa13=>aJ prog (storeVar 285 a13 (e5 xa6 xb6 xc6 xd6 xe6)) w7 λw9=>aA x λa14=>∃ xa7 xb7 xc7 xd7 xe7:UInt64,Rd w9 a14 (l5 xa7 xb7 xc7 xd7 xe7)/\R (.returned (.tuple #[e5 xa7 xb7 xc7 xd7 xe7,.bool true])) w9)))))
theorem qOC (b:Slc) {w:World} {R:RW} (h9:qVZ b w R):Calls prog 314 #[zS b] w R:=
 zC (q0 .z (q0 .z (q0 (q0 .z (.cond (q0 .z .z) .z)) (q0 (q0 .z (.block none (.loop [(10,(.i .i64))] (q0 .z (q0 (.cond .z .z) (q0 (.block none (q0 .z (.draw 1 (.take 0 (.take 1 (.take 2 (.take 4 (.take 5 (.take 6 (.take 7 (.take 9 (.take 10 (.take 14 (.take 15 (.take 3 (.take 8 (.take 11 (.take 12 (.take 13 (.take 16 (.take 17 (.take 18 (.all [(19,.done)]))))))))))))))))))))))) .z)))))) (q0 (.seq (some [(43,.b)]) (.draw 1 (.take 0 (.take 1 (.take 2 (.take 3 (.take 4 (.take 5 (.take 6 (.take 8 (.all [(7,(.take 9 (.take 10 .done)))])))))))))) (.cond (q0 .z .z) .z)) (q0 .z .z)))))) func314 [.sl b] h9
def qYA (aa ab ac ad ae ba bb bc bd be:UInt64) (w:World) (R:RW):Prop:=
 aH prog (Instr.box 285 (e5 aa ab ac ad ae)) w λv w1=>∃ a:zO,v=(.pointer a)/\aH prog (Instr.box 285 (e5 ba bb bc bd be)) w1 λv1 w2=>∃ b:zO,v1=(.pointer b)/\∃ sx:zP,sx w2.drew/\aA a λa1=>∃ xa xb xc xd xe:UInt64,(∀ w',sx w'->Rd w' a1 (l5 xa xb xc xd xe))/\aA b λa2=>∃ xa1 xb1 xc1 xd1 xe1:UInt64,(∀ w',sx w'->Rd w' a2 (l5 xa1 xb1 xc1 xd1 xe1))/\((aD prog 299 [e5 xa xb xc xd xe] w2.drew (aG R) λv2 w3=>∃ xa2 xb2 xc2 xd2 xe2:UInt64,v2=(e5 xa2 xb2 xc2 xd2 xe2)/\(sx w3/\((aD prog 299 [e5 xa1 xb1 xc1 xd1 xe1] w3 (aG R) λv3 w4=>∃ xa3 xb3 xc3 xd3 xe3:UInt64,v3=(e5 xa3 xb3 xc3 xd3 xe3)/\(sx w4/\bB prog (do eqGuard .eql 285 (.tmp 6) (.tmp 8) (e5 xa2 xb2 xc2 xd2 xe2) (e5 xa3 xb3 xc3 xd3 xe3); binOp .eql 285 (e5 xa2 xb2 xc2 xd2 xe2) (e5 xa3 xb3 xc3 xd3 xe3)) λv4=>∃ x:Bool,v4=(.bool x)/\R (.returned (.bool x)) w4))/\True)))/\True)
theorem qLF (aa ab ac ad ae ba bb bc bd be:UInt64) {w:World} {R:RW} (h9:qYA aa ab ac ad ae ba bb bc bd be w R):Calls prog 357 #[e5 aa ab ac ad ae,e5 ba bb bc bd be] w R:=
 zC (q0 .z (q0 (.draw 1 (.take 0 (.take 2 (.all [(1,(.all [(3,(.take 4 (.take 5 .done)))]))])))) .z)) func357 [.agg [.u64 aa,.u64 ab,.u64 ac,.u64 ad,.u64 ae],.agg [.u64 ba,.u64 bb,.u64 bc,.u64 bd,.u64 be]] h9
def qUT (aa ab ac ad ae:UInt64) (w:World) (R:RW):Prop:=
 aH prog (Instr.box 285 (e5 aa ab ac ad ae)) w λv w1=>∃ a:zO,v=(.pointer a)/\aA a λa1=>∃ xa xb xc xd xe:UInt64,Rd w1 a1 (l5 xa xb xc xd xe)/\aD prog 299 [e5 xa xb xc xd xe] w1 (aG R) λv1 w2=>∃ xa1 xb1 xc1 xd1 xe1:UInt64,v1=(e5 xa1 xb1 xc1 xd1 xe1)/\aA a λa2=>aJ prog (storeVar 285 a2 (e5 xa1 xb1 xc1 xd1 xe1)) w2 λw3=>aH prog (Instr.makeSlice 38 (.int .i64 32) (.int .i64 32)) w3 λv2 w4=>∃ x:Slc,v2=(zS x)/\∃ (inv:zT) (mu:zU),inv [.i .i64 0] w4/\(∀ x1:Int,∀ w5:World,inv [.i .i64 x1] w5->aE (decide (x1<255)) (∃ sx:zP,sx w5.drew/\((8:Int)≠0/\((0<=(zW (Int.tdiv x1 (8:Int)))/\(zW (Int.tdiv x1 (8:Int)))<(x.len:Nat))/\aA x.a λa3=>((51:Int)≠0/\((0<=(zW (Int.tdiv x1 (51:Int)))/\(zW (Int.tdiv x1 (51:Int)))<(5:Nat))/\aA a λa4=>((51:Int)≠0/\((8:Int)≠0/\∃ x2:UInt8,(∀ w',sx w'->Rd w' (a3.add (((zW (Int.tdiv x1 (8:Int)))).toNat*1)) [.int .u8 x2.toNat])/\∃ x3:UInt64,(∀ w',sx w'->Rd w' (a4.add (((zW (Int.tdiv x1 (51:Int)))).toNat*1)) [.int .u64 x3.toNat])/\(0<=(Int.tmod x1 (51:Int))/\(0<=(Int.tmod x1 (8:Int))/\((0<=(zW (Int.tdiv x1 (8:Int)))/\(zW (Int.tdiv x1 (8:Int)))<(x.len:Nat))/\aA x.a λa5=>((aJ prog (storeVar 5 (a5.add (((zW (Int.tdiv x1 (8:Int)))).toNat*1)) (.int .u8 ((x2 ||| (qDW ((((aM x3 ((Int.tmod x1 (51:Int))).toNat) &&& (1:UInt64))).toUInt8) ((Int.tmod x1 (8:Int))).toNat))).toNat)) w5.drew λw6=>(inv [.i .i64 (zW (x1+1))] w6/\mu [.i .i64 (zW (x1+1))] w6<mu [.i .i64 x1] w5))/\True))))))))))) (R (.returned (zS x)) w5))
theorem qPL (aa ab ac ad ae:UInt64) {w:World} {R:RW} (h9:qUT aa ab ac ad ae w R):Calls prog 246 #[e5 aa ab ac ad ae] w R:=
 zC (q0 .z (q0 .z (q0 .z (q0 (q0 .z (.block none (.loop [(8,(.i .i64))] (q0 .z (q0 (.cond .z .z) (q0 (.block none (q0 .z (.draw 1 (.take 0 (.take 1 (.take 2 (.take 3 (.take 5 (.take 6 (.take 7 (.take 9 (.take 10 (.take 14 (.take 15 (.take 4 (.take 8 (.take 11 (.take 12 (.take 13 (.take 16 (.take 17 (.take 18 (.all [(19,.done)]))))))))))))))))))))))) .z)))))) (q0 .z .z))))) func246 [.agg [.u64 aa,.u64 ab,.u64 ac,.u64 ad,.u64 ae]] h9
def qXZ (aa ab ac ad ae:UInt64) (w:World) (R:RW):Prop:=
 aH prog (Instr.box 285 (e5 aa ab ac ad ae)) w λv w1=>∃ a:zO,v=(.pointer a)/\aH prog (Instr.alloc 285 true (.tuple #[])) w1 λv1 w2=>∃ x:zO,v1=(.pointer x)/\aA a λa1=>∃ xa xb xc xd xe:UInt64,Rd w2 a1 (l5 xa xb xc xd xe)/\aD prog 298 [e5 xa xb xc xd xe,.int .i64 255,.int .u64 ((21:UInt64)).toNat] w2 (aG R) λv2 w3=>∃ xa1 xb1 xc1 xd1 xe1:UInt64,v2=(e5 xa1 xb1 xc1 xd1 xe1)/\aA x λa2=>aJ prog (storeVar 285 a2 (e5 xa1 xb1 xc1 xd1 xe1)) w3 λw4=>aA x λa3=>∃ xa2 xb2 xc2 xd2 xe2:UInt64,Rd w4 a3 (l5 xa2 xb2 xc2 xd2 xe2)/\R (.returned (e5 xa2 xb2 xc2 xd2 xe2)) w4
theorem qSH (aa ab ac ad ae:UInt64) {w:World} {R:RW} (h9:qXZ aa ab ac ad ae w R):Calls prog 245 #[e5 aa ab ac ad ae] w R:=
 zC (q0 .z (q0 .z .z)) func245 [.agg [.u64 aa,.u64 ab,.u64 ac,.u64 ad,.u64 ae]] h9
def qWS (aa ab ac ad ae:UInt64) (w:World) (R:RW):Prop:=
 aH prog (Instr.box 285 (e5 aa ab ac ad ae)) w λv w1=>∃ a:zO,v=(.pointer a)/\aA a λa1=>∃ xa xb xc xd xe:UInt64,Rd w1 a1 (l5 xa xb xc xd xe)/\aD prog 299 [e5 xa xb xc xd xe] w1 (aG R) λv1 w2=>∃ xa1 xb1 xc1 xd1 xe1:UInt64,v1=(e5 xa1 xb1 xc1 xd1 xe1)/\((0<=(0:Int)/\(0:Int)<(5:Nat))/\(∀ z∈([.u64 xa1,.u64 xb1,.u64 xc1,.u64 xd1,.u64 xe1]:List TV),z.cells.length=1)/\∃ x:UInt64,([.u64 xa1,.u64 xb1,.u64 xc1,.u64 xd1,.u64 xe1]:List TV)[((0:Int)).toNat]? = some (.u64 x)/\R (.returned (.bool ((x &&& (1:UInt64))==(1:UInt64)))) w2)
theorem qLG (aa ab ac ad ae:UInt64) {w:World} {R:RW} (h9:qWS aa ab ac ad ae w R):Calls prog 248 #[e5 aa ab ac ad ae] w R:=
 zC (q0 .z (q0 .z .z)) func248 [.agg [.u64 aa,.u64 ab,.u64 ac,.u64 ad,.u64 ae]] h9
def qWB (h:zO) (a b:UInt64) (w:World) (R:RW):Prop:=
 aD prog 302 [.int .u64 a.toNat,.int .u64 b.toNat] w (aG R) λv w1=>∃ xa xb:UInt64,v=(.tuple #[.int .u64 xa.toNat,.int .u64 xb.toNat])/\aA h λa1=>∃ x:UInt64,Rd w1 (a1.add 1) [.int .u64 x.toNat]/\∃ v1 w2,(callFunc 375 #[.int .u64 x.toNat,.int .u64 xb.toNat,.int .u64 ((0:UInt64)).toNat]).run prog w1 = .ok (.value v1) w2/\∃ xa1 xb1:UInt64,v1=(.tuple #[.int .u64 xa1.toNat,.int .u64 xb1.toNat])/\aA h λa2=>aJ prog (storeVar 188 (a2.add 1) (.int .u64 xa1.toNat)) w2 λw3=>aA h λa3=>∃ x1:UInt64,Rd w3 (a3.add 0) [.int .u64 x1.toNat]/\aA h λa4=>aJ prog (storeVar 188 (a4.add 0) (.int .u64 ((x1+(xa+xb1))).toNat)) w3 λw4=>R (.returned (.tuple #[])) w4
theorem qMH (h:zO) (a b:UInt64) {w:World} {R:RW} (h9:qWB h a b w R):Calls prog 353 #[.pointer h,.int .u64 a.toNat,.int .u64 b.toNat] w R:=
 zC (q0 .z (q0 .z (q0 .z .z))) func353 [.p h,.u64 a,.u64 b] h9
def qVP (i:Int) (c:zO) (w:World) (R:RW):Prop:=
 aE (decide (i>=6)) (zF R true w) (aA c λa=>∃ x:UInt64,Rd w a [.int .u64 x.toNat]/\(0<=i/\R (.returned (.bool (((aM ((64:UInt64) - x) i.toNat) &&& (1:UInt64))==(1:UInt64)))) w))
theorem qNM (i:Int) (c:zO) {w:World} {R:RW} (h9:qVP i c w R):Calls prog 352 #[.int .i64 i,.pointer c] w R:=
 zC (q0 .z (q0 (q0 .z (.cond (q0 .z .z) .z)) (q0 .z .z))) func352 [.i .i64 i,.p c] h9
theorem zi5:ZI prog 285 5:=by
 obtain ⟨i,h1,h2,_,_⟩:=bC (P:=prog) (T:=285) (z:=.agg #[.int .u64 0,.int .u64 0,.int .u64 0,.int .u64 0,.int .u64 0]) (n:=5) (m:=40) (by kernel_rfl) (by kernel_rfl) (by kernel_rfl)
 exact ⟨i,_,h1,h2,rfl⟩
theorem zi5':ZI prog 284 5:=by
 obtain ⟨i,h1,h2,_,_⟩:=bC (P:=prog) (T:=284) (z:=.agg #[.int .u64 0,.int .u64 0,.int .u64 0,.int .u64 0,.int .u64 0]) (n:=5) (m:=40) (by kernel_rfl) (by kernel_rfl) (by kernel_rfl)
 exact ⟨i,_,h1,h2,rfl⟩
theorem zi2:ZI prog 403 2:=by
 obtain ⟨i,h1,h2,_,_⟩:=bC (P:=prog) (T:=403) (z:=.agg #[.int .u64 0,.int .u64 0]) (n:=2) (m:=16) (by kernel_rfl) (by kernel_rfl) (by kernel_rfl)
 exact ⟨i,_,h1,h2,rfl⟩
section
variable {w:World} {a b c d e a' b' c' d' e':UInt64}
theorem qIY:Calls prog 304 #[] w (Ret (RE w)):=by
 refine qNB ?_
 unfold qWP
 have h9:=J.start w
 repeat' (first | (refine cF (by first | exact zi5 | exact zi2 | exact mT | exact kT) (by assumption) λp w' hJ hM=>?_) | (refine iZ (by assumption) (by (try simp only [aO,add0,Nat.zero_add]); rfl) (by (repeat first | exact List.mem_cons_self | assumption | apply List.mem_cons_of_mem); first | done | fail) (by first | omega | (simp only []; omega)) λa b c d e=>?_) | (refine jH (by assumption) (by (try simp only [aO,add0,Nat.zero_add]); rfl) (by (repeat first | exact List.mem_cons_self | assumption | apply List.mem_cons_of_mem); first | done | fail) (by kernel_rfl) (by kernel_rfl) (by omega) λw' hJ hT=>?_) | exact ⟨_,_,_,_,_,rfl,J.m (by assumption)⟩)
theorem lS:Calls prog 303 #[e5 a b c d e] w (Ret (RE w)):=by
 refine qQR _ _ _ _ _ ?_
 unfold qYI
 have k5:=J.start w
 refine gF (by assumption) λp w1 k4 hM=>?_
 refine cF zi5 k4 λq w2 h9 hM=>?_
 refine ⟨by omega,?_⟩
 refine qFJ h9 (by repeat (first | exact List.mem_cons_self | apply List.mem_cons_of_mem)) (by omega) λx=>?_
 refine ⟨by omega,?_⟩
 refine ⟨λl w'=>match l with | [.i _ x]=>(0<=x/\x<=4)/\J NoB w [(q,5,true),(p,5,true)] w' | _=>False,λl _=>match l with | [.i _ x]=>x.toNat | _=>0,⟨by omega,h9⟩,?_⟩
 rintro i w3 ⟨hi,hJ⟩
 refine aC (λk3=>?_) λ_=>?_
 ·have k3:0<i:=by simpa using k3
  rw [wrap_i64 (by omega)]
  repeat' (first | (refine iH (by assumption) (by (repeat first | exact List.mem_cons_self | assumption | apply List.mem_cons_of_mem); first | done | fail) (by first | omega | (simp only []; omega)) λx=>?_) | (refine pN (by assumption) (by (repeat first | exact List.mem_cons_self | assumption | apply List.mem_cons_of_mem); first | done | fail) (by omega) (by kernel_rfl) (by kernel_rfl) λw' hJ hT=>?_) | exact ⟨⟨by omega,by assumption⟩,by (try simp only []); omega⟩ | (refine And.intro ?_ trivial) | (refine And.intro (Int.natCast_nonneg _) ?_) | (refine And.intro (by first | omega | (simp only []; omega)) ?_) | (refine dT (by assumption) λhJ=>?_))
 ·skip
  repeat' (first | (refine qFJ (by assumption) (by (repeat first | exact List.mem_cons_self | assumption | apply List.mem_cons_of_mem); first | done | fail) (by first | omega | (simp only []; omega)) λx=>?_) | (refine iZ (by assumption) (by (try simp only [aO,add0,Nat.zero_add]); rfl) (by (repeat first | exact List.mem_cons_self | assumption | apply List.mem_cons_of_mem); first | done | fail) (by first | omega | (simp only []; omega)) λa b c d e=>?_) | (refine pN (by assumption) (by (repeat first | exact List.mem_cons_self | assumption | apply List.mem_cons_of_mem); first | done | fail) (by omega) (by kernel_rfl) (by kernel_rfl) λw' hJ hT=>?_) | (refine jH (by assumption) (by (try simp only [aO,add0,Nat.zero_add]); rfl) (by (repeat first | exact List.mem_cons_self | assumption | apply List.mem_cons_of_mem); first | done | fail) (by kernel_rfl) (by kernel_rfl) (by omega) λw' hJ hT=>?_) | exact ⟨_,_,_,_,_,rfl,J.m (by assumption)⟩ | (refine And.intro (by first | omega | (simp only []; omega)) ?_))
theorem qKG:Calls prog 309 #[e5 a b c d e,e5 a' b' c' d' e'] w (Ret (RE w)):=by
 refine qNR _ _ _ _ _ _ _ _ _ _ ?_
 unfold qTV
 have k5:=J.start w
 refine gF (by assumption) λp w1 k6 hM=>?_
 refine gF (by assumption) λp' w2 k3 hM=>?_
 refine cF zi5 k3 λq w3 k4 hM=>?_
 refine ⟨λl w'=>match l with | [.i _ x]=>(0<=x/\x<=5)/\J NoB w [(q,5,true),(p',5,true),(p,5,true)] w' | _=>False,λl _=>match l with | [.i _ x]=>(5 - x).toNat | _=>0,⟨by omega,k4⟩,?_⟩
 rintro i w4 ⟨hi,hJ⟩
 refine aC (λh9=>?_) λ_=>?_
 ·have h9:i<5:=by simpa using h9
  rw [wrap_i64 (by omega)]
  repeat' (first | (refine iH (by assumption) (by (repeat first | exact List.mem_cons_self | assumption | apply List.mem_cons_of_mem); first | done | fail) (by first | omega | (simp only []; omega)) λx=>?_) | (refine pN (by assumption) (by (repeat first | exact List.mem_cons_self | assumption | apply List.mem_cons_of_mem); first | done | fail) (by omega) (by kernel_rfl) (by kernel_rfl) λw' hJ hT=>?_) | exact ⟨⟨by omega,by assumption⟩,by (try simp only []); omega⟩ | (refine And.intro ?_ trivial) | (refine And.intro (by first | omega | (simp only []; omega)) ?_) | (refine dT (by assumption) λhJ=>?_))
 ·skip
  repeat' (first | (refine iZ (by assumption) (by (try simp only [aO,add0,Nat.zero_add]); rfl) (by (repeat first | exact List.mem_cons_self | assumption | apply List.mem_cons_of_mem); first | done | fail) (by first | omega | (simp only []; omega)) λa b c d e=>?_) | (refine jH (by assumption) (by (try simp only [aO,add0,Nat.zero_add]); rfl) (by (repeat first | exact List.mem_cons_self | assumption | apply List.mem_cons_of_mem); first | done | fail) (by kernel_rfl) (by kernel_rfl) (by omega) λw' hJ hT=>?_) | (refine cN lS (by assumption) λa b c d e w' hJ hM=>?_) | exact ⟨_,_,_,_,_,rfl,J.m (by assumption)⟩)
theorem qDG:Calls prog 310 #[e5 a b c d e,e5 a' b' c' d' e'] w (Ret (RE w)):=by
 refine qLR _ _ _ _ _ _ _ _ _ _ ?_
 unfold qYC
 have k5:=J.start w
 refine gF (by assumption) λp w1 k6 hM=>?_
 refine gF (by assumption) λp' w2 k3 hM=>?_
 refine cF zi5 k3 λq w3 k4 hM=>?_
 refine ⟨λl w'=>match l with | [.i _ x]=>(0<=x/\x<=5)/\J NoB w [(q,5,true),(p',5,true),(p,5,true)] w' | _=>False,λl _=>match l with | [.i _ x]=>(5 - x).toNat | _=>0,⟨by omega,k4⟩,?_⟩
 rintro i w4 ⟨hi,hJ⟩
 refine aC (λh9=>?_) λ_=>?_
 ·have h9:i<5:=by simpa using h9
  rw [wrap_i64 (by omega)]
  repeat' (first | (refine iH (by assumption) (by (repeat first | exact List.mem_cons_self | assumption | apply List.mem_cons_of_mem); first | done | fail) (by first | omega | (simp only []; omega)) λx=>?_) | (refine pN (by assumption) (by (repeat first | exact List.mem_cons_self | assumption | apply List.mem_cons_of_mem); first | done | fail) (by omega) (by kernel_rfl) (by kernel_rfl) λw' hJ hT=>?_) | exact ⟨⟨by omega,by assumption⟩,by (try simp only []); omega⟩ | (refine And.intro ?_ trivial) | (refine And.intro (by first | omega | (simp only []; omega)) ?_) | (refine dT (by assumption) λhJ=>?_))
 ·skip
  repeat' (first | (refine qFJ (by assumption) (by (repeat first | exact List.mem_cons_self | assumption | apply List.mem_cons_of_mem); first | done | fail) (by first | omega | (simp only []; omega)) λx=>?_) | (refine iZ (by assumption) (by (try simp only [aO,add0,Nat.zero_add]); rfl) (by (repeat first | exact List.mem_cons_self | assumption | apply List.mem_cons_of_mem); first | done | fail) (by first | omega | (simp only []; omega)) λa b c d e=>?_) | (refine pN (by assumption) (by (repeat first | exact List.mem_cons_self | assumption | apply List.mem_cons_of_mem); first | done | fail) (by omega) (by kernel_rfl) (by kernel_rfl) λw' hJ hT=>?_) | (refine jH (by assumption) (by (try simp only [aO,add0,Nat.zero_add]); rfl) (by (repeat first | exact List.mem_cons_self | assumption | apply List.mem_cons_of_mem); first | done | fail) (by kernel_rfl) (by kernel_rfl) (by omega) λw' hJ hT=>?_) | (refine cN lS (by assumption) λa b c d e w' hJ hM=>?_) | exact ⟨_,_,_,_,_,rfl,J.m (by assumption)⟩ | (refine And.intro (by first | omega | (simp only []; omega)) ?_))
theorem qHL:Calls prog 312 #[e5 a b c d e] w (Ret (RE w)):=by
 refine qML _ _ _ _ _ ?_
 unfold qUZ
 have h9:=J.start w
 repeat' (first | (refine gF (by assumption) λp w' hJ hM=>?_) | (refine cF (by first | exact zi5 | exact zi2 | exact mT | exact kT) (by assumption) λp w' hJ hM=>?_) | (refine iZ (by assumption) (by (try simp only [aO,add0,Nat.zero_add]); rfl) (by (repeat first | exact List.mem_cons_self | assumption | apply List.mem_cons_of_mem); first | done | fail) (by first | omega | (simp only []; omega)) λa b c d e=>?_) | (refine jH (by assumption) (by (try simp only [aO,add0,Nat.zero_add]); rfl) (by (repeat first | exact List.mem_cons_self | assumption | apply List.mem_cons_of_mem); first | done | fail) (by kernel_rfl) (by kernel_rfl) (by omega) λw' hJ hT=>?_) | (refine cN qDG (by assumption) λa b c d e w' hJ hM=>?_) | exact ⟨_,_,_,_,_,rfl,J.m (by assumption)⟩)
theorem qEC:Calls prog 302 #[.int .u64 a.toNat,.int .u64 b.toNat] w (Ret (RT w)):=by
 refine qCR _ _ ?_
 unfold qJA
 have h9:=J.start w
 repeat' (first | exact ⟨_,_,rfl,J.m (by assumption)⟩ | (refine And.intro (Int.natCast_nonneg _) ?_))
theorem qPI:Calls prog 301 #[.agg #[.int .u64 a.toNat,.int .u64 b.toNat]] w (Ret (RT w)):=by
 refine qQE _ _ ?_
 unfold qTA
 have k3:=J.start w
 refine jHH (by assumption) λp w1 h9 hM=>?_
 have k4:=h9.drew
 clear h9
 repeat' (first | (refine qHN (by assumption) (by (try simp only [aO,add0,Nat.zero_add]); rfl) (by (repeat first | exact List.mem_cons_self | assumption | apply List.mem_cons_of_mem); first | done | fail) (by first | omega | (simp only []; omega)) λx=>?_) | exact ⟨_,_,rfl,J.m (by assumption)⟩ | (refine And.intro (Int.natCast_nonneg _) ?_))
def qIS:Array Value->Sem Value:=(Extern.MathBitsCarry.rows.getD 0 ("",λ_=>pure .nilFunc)).2
theorem qAE (x y:Nat) (w:World):(qIS #[.int .u64 x,.int .u64 y,.int .u64 0]).run prog w =
 .ok (.tuple #[.int .u64 (((x+y+0) % 18446744073709551616:Nat):Int),.int .u64 (((x+y+0) / 18446744073709551616:Nat):Int)]) w:=rfl
theorem qEH {x y:UInt64} (w:World) : ∃ d b':UInt64,(callFunc 375 #[.int .u64 x.toNat,.int .u64 y.toNat,.int .u64 ((0:UInt64)).toNat]).run prog w = .ok (.value (.tuple #[.int .u64 d.toNat,.int .u64 b'.toNat])) w:=by
 have hx:=x.toNat_lt; have hy:=y.toNat_lt
 refine ⟨UInt64.ofNat ((x.toNat+y.toNat+0) % 18446744073709551616),UInt64.ofNat ((x.toNat+y.toNat+0) / 18446744073709551616),?_⟩
 rw [run_callFunc_extern func375 (by kernel_rfl) (by kernel_rfl) (by kernel_rfl) (e:=qIS) (by kernel_rfl)]
 have e0:((0:UInt64).toNat:Int)=0:=rfl
 have e1:(UInt64.ofNat ((x.toNat+y.toNat+0) % 18446744073709551616)).toNat=(x.toNat+y.toNat+0) % 18446744073709551616:=by rw [UInt64.toNat_ofNat']; omega
 have e2:(UInt64.ofNat ((x.toNat+y.toNat+0) / 18446744073709551616)).toNat=(x.toNat+y.toNat+0) / 18446744073709551616:=by rw [UInt64.toNat_ofNat']; omega
 rw [e0,qAE,e1,e2]
 rfl
theorem jCW {p:Nat} (hT:TB w (p,2)):Calls prog 353 #[.pointer (some (Addr.add ⟨p,0,none⟩ 0)),.int .u64 a.toNat,.int .u64 b.toNat] w (Ret (RU p 2 w)):=by
 refine qMH _ _ _ ?_
 unfold qWB
 have hJ:J (λx=>x=p) w [(p,2,true)] w:=⟨Mod.refl _ _,λq hq=>by simp at hq; subst hq; exact ⟨λ_=>⟨.inl rfl,hT⟩,hT.r⟩⟩
 have hp:(p,2,true)∈[(p,2,true)]:=List.mem_cons_self
 refine qJI qEC hJ λx y w1 h9 hM=>?_
 refine qHN h9 (o:=1) rfl hp (by omega) λx1=>?_
 obtain ⟨d,b',hr⟩:=qEH (x:=x1) (y:=y) w1
 refine ⟨_,_,hr,_,_,rfl,?_⟩
 refine jGI h9 (o:=1) rfl hp (by kernel_rfl) (by kernel_rfl) (by omega) λw2 k3 hT=>?_
 refine qHN k3 (o:=0) rfl hp (by omega) λx2=>?_
 refine jGI k3 (o:=0) rfl hp (by kernel_rfl) (by kernel_rfl) (by omega) λw3 k4 hT=>?_
 exact ⟨rfl,k4.m,k4.tb hp⟩
theorem qBO {w0:World} {k i:Nat} {l:Slc} (hl:TS w0 k i (.slice l.a l.len l.cap) w) (hk:k<=100):Calls prog 300 #[.slice l.a l.len l.cap] w (Ret (RA w)):=by
 obtain ⟨la,ln,lc⟩:=l
 obtain ⟨h1,h2,b,h3,h4,h5⟩:=hl
 simp only [] at h1 h2 h3
 subst h1 h2 h3
 refine qPE _ ?_
 unfold qWN
 have k3:J NoB w [(b,lc,false)] w:=(J.start w).cons (λh=>by cases h) h5
 refine cF zi2 k3 λp w1 k4 hM=>?_
 refine cF zi2 k4 λq w2 k5 hM=>?_
 refine ⟨λl w'=>match l with | [.i _ x]=>(0<=x/\x<=lc+1)/\J NoB w [(q,2,true),(p,2,true),(b,lc,false)] w' | _=>False,λl _=>match l with | [.i _ x]=>(lc+2 - x).toNat | _=>0,⟨by omega,k5⟩,?_⟩
 rintro i w4 ⟨hi,hJ⟩
 rw [wrap_i64 (by omega)]
 refine aC (λh9=>?_) λ_=>?_
 ·have h9:i+1<lc:=by simpa using h9
  rw [wrap_i64 (by omega)]
  repeat' (first | (refine iH (by assumption) (by (repeat first | exact List.mem_cons_self | assumption | apply List.mem_cons_of_mem); first | done | fail) (by first | omega | (simp only []; omega)) λx=>?_) | (refine qHX (jCW (J.tb (by assumption) (by (repeat first | exact List.mem_cons_self | assumption | apply List.mem_cons_of_mem); first | done | fail))) (by assumption) (by (repeat first | exact List.mem_cons_self | assumption | apply List.mem_cons_of_mem); first | done | fail) λw' hJ hT=>?_) | exact ⟨⟨by omega,by assumption⟩,by (try simp only []); omega⟩ | (refine And.intro ?_ trivial) | (refine And.intro (by first | omega | (simp only []; omega)) ?_) | (refine dT (by assumption) λhJ=>?_))
 ·skip
  repeat' (first | (refine jEU (by assumption) (by (try simp only [aO,add0,Nat.zero_add]); rfl) (by (repeat first | exact List.mem_cons_self | assumption | apply List.mem_cons_of_mem); first | done | fail) (by first | omega | (simp only []; omega)) λx y=>?_) | (refine jFV (by assumption) (by (try simp only [aO,add0,Nat.zero_add]); rfl) (by (repeat first | exact List.mem_cons_self | assumption | apply List.mem_cons_of_mem); first | done | fail) (by kernel_rfl) (by kernel_rfl) (by omega) λw' hJ hT=>?_) | exact ⟨_,_,rfl,J.m (by assumption)⟩)
end
theorem mT:ZI prog 405 10:=by
 obtain ⟨i,h1,h2,_,_⟩:=bC (P:=prog) (T:=405) (z:=.agg #[.int .u64 0,.int .u64 0,.int .u64 0,.int .u64 0,.int .u64 0,.int .u64 0,.int .u64 0,.int .u64 0,.int .u64 0,.int .u64 0]) (n:=10) (m:=80) (by kernel_rfl) (by kernel_rfl) (by kernel_rfl)
 exact ⟨i,_,h1,h2,rfl⟩
theorem u285:prog.underlying 285=some (.array 5 188):=by kernel_rfl
theorem uU64:prog.underlying 188=some (.int .u64):=by kernel_rfl
theorem eqJ {op:BinOp} {ox oy:Operand} {a b c d e a' b' c' d' e':UInt64} (h9:op = .eql\/op = .neq) {K:Bool->Prop} (hK : ∀ b,K b) :
 bB prog (do eqGuard op 285 ox oy (e5 a b c d e) (e5 a' b' c' d' e'); binOp op 285 (e5 a b c d e) (e5 a' b' c' d' e')) λv=>∃ x:Bool,v = .bool x/\K x:=by
 obtain ⟨i,h1,h2,h3,h4⟩:=i44
 exact qGZ (K:=λv=>∃ x:Bool,v = .bool x/\K x) (k:=.u64) (l:=[(a.toNat:Int),b.toNat,c.toNat,d.toNat,e.toNat]) (l':=[(a'.toNat:Int),b'.toNat,c'.toNat,d'.toNat,e'.toNat]) h9 u285 uU64 (by kernel_rfl) h1 (by kernel_rfl) (by kernel_rfl) rfl rfl rfl rfl ⟨_,rfl,hK _⟩
theorem jGR {l:List UInt64} (h:l.length=10) : ∃ a b c d e f g h i j,l=[a,b,c,d,e,f,g,h,i,j]:=by
 match l,h with
 | [a,b,c,d,e,f,g,h,i,j],_=>exact ⟨a,b,c,d,e,f,g,h,i,j,rfl⟩
theorem jHI {Z:Nat->Prop} {w0 w:World} {L:List (Nat×Nat×Bool)} {t:Bool} {p n:Nat} {A:Addr} (hJ:J Z w0 L w) {o:Nat} (hA:A=⟨p,o,none⟩) (hp:(p,n,t)∈L) (ho:o+10<=n) {K:UInt64->UInt64->UInt64->UInt64->UInt64->UInt64->UInt64->UInt64->UInt64->UInt64->Prop} (hK : ∀ a b c d e f g h i j,K a b c d e f g h i j) :
 ∃ a:UInt64,∃ b:UInt64,∃ c:UInt64,∃ d:UInt64,∃ e:UInt64,∃ f:UInt64,∃ g:UInt64,∃ h:UInt64,∃ i:UInt64,∃ j:UInt64,Rd w A [.int .u64 a.toNat,.int .u64 b.toNat,.int .u64 c.toNat,.int .u64 d.toNat,.int .u64 e.toNat,.int .u64 f.toNat,.int .u64 g.toNat,.int .u64 h.toNat,.int .u64 i.toNat,.int .u64 j.toNat]/\K a b c d e f g h i j:=by
 obtain ⟨m,h1,h2⟩:=hJ.rd hp (k:=10) ho
 obtain ⟨a,b,c,d,e,f,g,h,i,j,rfl⟩:=jGR h1
 subst hA
 exact ⟨a,b,c,d,e,f,g,h,i,j,h2 w (Mod.refl _ _),hK _ _ _ _ _ _ _ _ _ _⟩
theorem jFE {Z:Nat->Prop} {w0 w:World} {L:List (Nat×Nat×Bool)} {p n:Nat} {A:Addr} {T:TypeId} {a b c d e f g h i j:UInt64} (hJ:J Z w0 L w) {o:Nat} (hA:A=⟨p,o,none⟩) (hp:(p,n,true)∈L) (hi:(prog.info? T).isSome=true) (hsz:bE prog T=10) (ho:o+10<=n) {K:zP} (hK : ∀ w',J Z w0 L w'->Mod (λx=>x=p) w w'->K w') :
 aJ prog (storeVar T A (.agg #[.int .u64 a.toNat,.int .u64 b.toNat,.int .u64 c.toNat,.int .u64 d.toNat,.int .u64 e.toNat,.int .u64 f.toNat,.int .u64 g.toNat,.int .u64 h.toNat,.int .u64 i.toNat,.int .u64 j.toNat])) w K:=
 stJ [a,b,c,d,e,f,g,h,i,j] hJ hA hp hi hsz rfl ho hK
section
variable {w:World} {a b c d e a' b' c' d' e':UInt64}
theorem fZ:Calls prog 299 #[e5 a b c d e] w (Ret (RE w)):=by
 refine qNF _ _ _ _ _ ?_
 unfold qUS
 have h9:=J.start w
 repeat' (first | (refine gF (by assumption) λp w' hJ hM=>?_) | (refine cF (by first | exact zi5 | exact zi2 | exact mT | exact kT) (by assumption) λp w' hJ hM=>?_) | (refine qFJ (by assumption) (by (repeat first | exact List.mem_cons_self | assumption | apply List.mem_cons_of_mem); first | done | fail) (by first | omega | (simp only []; omega)) λx=>?_) | (refine iH (by assumption) (by (repeat first | exact List.mem_cons_self | assumption | apply List.mem_cons_of_mem); first | done | fail) (by first | omega | (simp only []; omega)) λx=>?_) | (refine iZ (by assumption) (by (try simp only [aO,add0,Nat.zero_add]); rfl) (by (repeat first | exact List.mem_cons_self | assumption | apply List.mem_cons_of_mem); first | done | fail) (by first | omega | (simp only []; omega)) λa b c d e=>?_) | (refine pN (by assumption) (by (repeat first | exact List.mem_cons_self | assumption | apply List.mem_cons_of_mem); first | done | fail) (by omega) (by kernel_rfl) (by kernel_rfl) λw' hJ hT=>?_) | (refine jH (by assumption) (by (try simp only [aO,add0,Nat.zero_add]); rfl) (by (repeat first | exact List.mem_cons_self | assumption | apply List.mem_cons_of_mem); first | done | fail) (by kernel_rfl) (by kernel_rfl) (by omega) λw' hJ hT=>?_) | (refine cN lS (by assumption) λa b c d e w' hJ hM=>?_) | (refine qPM 5 (by assumption) (by omega) λq x w' hi hJ=>?_) | (refine qAU 4 (by assumption) (by omega) λx w' hi hJ=>?_) | exact ⟨_,_,_,_,_,rfl,J.m (by assumption)⟩ | (refine aC (λhb=>?_) λhb=>?_ <;> try simp at hb) | (refine And.intro ?_ trivial) | (refine And.intro (Int.natCast_nonneg _) ?_) | (refine And.intro (by first | omega | (simp only []; omega)) ?_) | (refine dT (by assumption) λhJ=>?_) | exact qHM (by assumption) (by intro q hq; (repeat first | exact hq | apply List.mem_cons_of_mem); first | done | fail) (by omega) (by omega) | exact jAA (by assumption) (by intro q hq; (repeat first | exact hq | apply List.mem_cons_of_mem); first | done | fail) (by omega) (by omega) | (simp (disch:=omega) only [wrap_i64]))
theorem rR:Calls prog 247 #[e5 a b c d e,e5 a' b' c' d' e'] w (Ret (RE w)):=by
 refine qPQ _ _ _ _ _ _ _ _ _ _ ?_
 unfold qXF
 have h9:=J.start w
 repeat' (first | (refine gF (by assumption) λp w' hJ hM=>?_) | (refine cF (by first | exact zi5 | exact zi2 | exact mT | exact kT) (by assumption) λp w' hJ hM=>?_) | (refine qFJ (by assumption) (by (repeat first | exact List.mem_cons_self | assumption | apply List.mem_cons_of_mem); first | done | fail) (by first | omega | (simp only []; omega)) λx=>?_) | (refine iH (by assumption) (by (repeat first | exact List.mem_cons_self | assumption | apply List.mem_cons_of_mem); first | done | fail) (by first | omega | (simp only []; omega)) λx=>?_) | (refine jEU (by assumption) (by (try simp only [aO,add0,Nat.zero_add]); rfl) (by (repeat first | exact List.mem_cons_self | assumption | apply List.mem_cons_of_mem); first | done | fail) (by first | omega | (simp only []; omega)) λx y=>?_) | (refine iZ (by assumption) (by (try simp only [aO,add0,Nat.zero_add]); rfl) (by (repeat first | exact List.mem_cons_self | assumption | apply List.mem_cons_of_mem); first | done | fail) (by first | omega | (simp only []; omega)) λa b c d e=>?_) | (refine pN (by assumption) (by (repeat first | exact List.mem_cons_self | assumption | apply List.mem_cons_of_mem); first | done | fail) (by omega) (by kernel_rfl) (by kernel_rfl) λw' hJ hT=>?_) | (refine jH (by assumption) (by (try simp only [aO,add0,Nat.zero_add]); rfl) (by (repeat first | exact List.mem_cons_self | assumption | apply List.mem_cons_of_mem); first | done | fail) (by kernel_rfl) (by kernel_rfl) (by omega) λw' hJ hT=>?_) | (refine jFV (by assumption) (by (try simp only [aO,add0,Nat.zero_add]); rfl) (by (repeat first | exact List.mem_cons_self | assumption | apply List.mem_cons_of_mem); first | done | fail) (by kernel_rfl) (by kernel_rfl) (by omega) λw' hJ hT=>?_) | (refine cF zi5' (by assumption) λp w' hJ hM=>?_) | (refine cN lS (by assumption) λa b c d e w' hJ hM=>?_) | (refine qJI qPI (by assumption) λa b w' hJ hM=>?_) | (refine qJI qEC (by assumption) λa b w' hJ hM=>?_) | (refine jGF (qBO (by assumption) (by omega)) (by assumption) λa b w' hJ hM=>?_) | (refine qAU 5 (by assumption) (by omega) λx w' hi hJ=>?_) | (refine qHU (by assumption) λb w' hJ hM=>?_) | (refine And.intro (by intro z hz; simp only [List.mem_cons,List.not_mem_nil,or_false] at hz; rcases hz with rfl | rfl | rfl | rfl | rfl <;> rfl) (jFN (by omega) λa b=>?_)) | (refine qCD 10 (by assumption) ?_) | (refine jHI (by assumption) (by (try simp only [aO,add0,Nat.zero_add]); rfl) (by (repeat first | exact List.mem_cons_self | apply List.mem_cons_of_mem); first | done | fail) (by omega) λa b c d e f g h i j=>?_) | (refine jFE (by assumption) (by (try simp only [aO,add0,Nat.zero_add]); rfl) (by (repeat first | exact List.mem_cons_self | apply List.mem_cons_of_mem); first | done | fail) (by kernel_rfl) (by kernel_rfl) (by omega) λw' hJ hT=>?_) | exact ⟨_,_,_,_,_,rfl,J.m (by assumption)⟩ | (refine aC (λhb=>?_) λhb=>?_ <;> try simp at hb) | (refine And.intro ?_ trivial) | (refine And.intro (Int.natCast_nonneg _) ?_) | (refine And.intro (by first | omega | (simp only []; omega)) ?_) | (refine dT (by assumption) λhJ=>?_) | (refine And.intro (by (repeat first | assumption | exact Mod.refl _ _ | refine Mod.tr ?_ (by assumption) | refine Mod.fresh ?_ (by assumption) (by rintro x rfl; assumption)); first | done | fail) ?_) | (refine qCF (by assumption) (λw hJ hM=>?_) ?_) | (refine qRT (by assumption) λp w hJ hN hM=>?_) | (refine λ(_:TS _ _ _ _ _)=>?_) | (refine λ(_:UInt64)=>?_) | (refine λ(_:Slc)=>?_) | exact TS.slc (by assumption) | exact TS.ptr (by assumption) | exact qHM (by assumption) (by intro q hq; (repeat first | exact hq | apply List.mem_cons_of_mem); first | done | fail) (by omega) (by omega) | assumption | (refine Mod.tr ?_ (by assumption)) | (simp (disch:=omega) only [wrap_i64]))
theorem oM:Calls prog 308 #[e5 a b c d e] w (Ret (RE w)):=by
 refine qOA _ _ _ _ _ ?_
 unfold qUH
 have h9:=J.start w
 repeat' (first | (refine gF (by assumption) λp w' hJ hM=>?_) | (refine cF (by first | exact zi5 | exact zi2 | exact mT | exact kT) (by assumption) λp w' hJ hM=>?_) | (refine iZ (by assumption) (by (try simp only [aO,add0,Nat.zero_add]); rfl) (by (repeat first | exact List.mem_cons_self | assumption | apply List.mem_cons_of_mem); first | done | fail) (by first | omega | (simp only []; omega)) λa b c d e=>?_) | (refine jH (by assumption) (by (try simp only [aO,add0,Nat.zero_add]); rfl) (by (repeat first | exact List.mem_cons_self | assumption | apply List.mem_cons_of_mem); first | done | fail) (by kernel_rfl) (by kernel_rfl) (by omega) λw' hJ hT=>?_) | (refine cN rR (by assumption) λa b c d e w' hJ hM=>?_) | exact ⟨_,_,_,_,_,rfl,J.m (by assumption)⟩)
theorem qIW {Z:Nat->Prop} {w0:World} {L:List (Nat×Nat×Bool)} {p:Nat} {i:Int} (hJ:J Z w0 L w) (hp:(p,1,true)∈L) (hi:0<=i):Calls prog 352 #[.int .i64 i,.pointer (some ⟨p,0,none⟩)] w (Ret λv w'=>∃ b:Bool,v = .bool b/\w'=w):=by
 refine qNM _ _ ?_
 unfold qVP
 refine aC (λ_=>⟨_,rfl,rfl⟩) λ_=>?_
 refine qHN hJ (o:=0) rfl hp (by omega) λx=>?_
 exact ⟨hi,_,rfl,rfl⟩
end
def qTI (ua ub uc ud ue va vb vc vd ve:UInt64) (w:World) (R:RW):Prop:=
 aH prog (Instr.box 285 (e5 ua ub uc ud ue)) w λv w1=>∃ u:zO,v=(.pointer u)/\aH prog (Instr.box 285 (e5 va vb vc vd ve)) w1 λv1 w2=>∃ v2:zO,v1=(.pointer v2)/\aH prog (Instr.alloc 285 true (.tuple #[])) w2 λv3 w3=>∃ x:zO,v3=(.pointer x)/\∃ sx:zP,sx w3.drew/\(∃ ts:Nat->Value->zP,(∀ i v w1 w2,Mod NoB w1 w2->ts i v w1->ts i v w2)/\sx w3.drew/\aA v2 λa=>∃ xa xb xc xd xe:UInt64,(∀ w',sx w'->Rd w' a (l5 xa xb xc xd xe))/\((∀ w4,Mod NoB w3.drew w4->sx w4->aD prog 308 [e5 xa xb xc xd xe] w4 (aG R) λv4 w5=>∃ xa1 xb1 xc1 xd1 xe1:UInt64,v4=(e5 xa1 xb1 xc1 xd1 xe1)/\(Mod NoB w4 w5/\sx w5/\ts 1 (e5 xa1 xb1 xc1 xd1 xe1) w5))/\∀ xa2 xb2 xc2 xd2 xe2:UInt64,aA v2 λa1=>∃ xa3 xb3 xc3 xd3 xe3:UInt64,(∀ w',sx w'->Rd w' a1 (l5 xa3 xb3 xc3 xd3 xe3))/\((∀ w6,Mod NoB w3.drew w6->sx w6->ts 1 (e5 xa2 xb2 xc2 xd2 xe2) w6->aD prog 247 [e5 xa2 xb2 xc2 xd2 xe2,e5 xa3 xb3 xc3 xd3 xe3] w6 (aG R) λv5 w7=>∃ xa4 xb4 xc4 xd4 xe4:UInt64,v5=(e5 xa4 xb4 xc4 xd4 xe4)/\(Mod NoB w6 w7/\sx w7/\ts 3 (e5 xa4 xb4 xc4 xd4 xe4) w7))/\∀ xa5 xb5 xc5 xd5 xe5:UInt64,((∀ w8,Mod NoB w3.drew w8->sx w8->aH prog (Instr.alloc 285 true (.tuple #[])) w8 λv6 w9=>∃ v3:zO,v6=(.pointer v3)/\(Mod NoB w8 w9/\sx w9/\ts 4 (.pointer v3) w9))/\∀ v31:zO,∀ w10,Mod NoB w3.drew w10->sx w10->ts 4 (.pointer v31) w10->ts 3 (e5 xa5 xb5 xc5 xd5 xe5) w10->ts 1 (e5 xa2 xb2 xc2 xd2 xe2) w10->((aA v31 λa2=>aJ prog (storeVar 285 a2 (e5 xa5 xb5 xc5 xd5 xe5)) w10 λw11=>∃ sx1:zP,sx1 w11.drew/\(∃ ts1:Nat->Value->zP,(∀ i v w1 w2,Mod NoB w1 w2->ts1 i v w1->ts1 i v w2)/\sx1 w11.drew/\aA u λa3=>∃ xa6 xb6 xc6 xd6 xe6:UInt64,(∀ w',sx1 w'->Rd w' a3 (l5 xa6 xb6 xc6 xd6 xe6))/\aA v31 λa4=>∃ xa7 xb7 xc7 xd7 xe7:UInt64,(∀ w',sx1 w'->Rd w' a4 (l5 xa7 xb7 xc7 xd7 xe7))/\((∀ w12,Mod NoB w11.drew w12->sx1 w12->aD prog 247 [e5 xa6 xb6 xc6 xd6 xe6,e5 xa7 xb7 xc7 xd7 xe7] w12 (aG R) λv7 w13=>∃ xa8 xb8 xc8 xd8 xe8:UInt64,v7=(e5 xa8 xb8 xc8 xd8 xe8)/\(Mod NoB w12 w13/\sx1 w13/\ts1 2 (e5 xa8 xb8 xc8 xd8 xe8) w13))/\∀ xa9 xb9 xc9 xd9 xe9:UInt64,aA u λa5=>∃ xa10 xb10 xc10 xd10 xe10:UInt64,(∀ w',sx1 w'->Rd w' a5 (l5 xa10 xb10 xc10 xd10 xe10))/\aA v31 λa6=>∃ xa11 xb11 xc11 xd11 xe11:UInt64,(∀ w',sx1 w'->Rd w' a6 (l5 xa11 xb11 xc11 xd11 xe11))/\((∀ w14,Mod NoB w11.drew w14->sx1 w14->ts1 2 (e5 xa9 xb9 xc9 xd9 xe9) w14->aD prog 308 [e5 xa11 xb11 xc11 xd11 xe11] w14 (aG R) λv8 w15=>∃ xa12 xb12 xc12 xd12 xe12:UInt64,v8=(e5 xa12 xb12 xc12 xd12 xe12)/\(Mod NoB w14 w15/\sx1 w15/\ts1 5 (e5 xa12 xb12 xc12 xd12 xe12) w15))/\∀ xa13 xb13 xc13 xd13 xe13:UInt64,aA v2 λa7=>∃ xa14 xb14 xc14 xd14 xe14:UInt64,(∀ w',sx1 w'->Rd w' a7 (l5 xa14 xb14 xc14 xd14 xe14))/\((∀ w16,Mod NoB w11.drew w16->sx1 w16->ts1 5 (e5 xa13 xb13 xc13 xd13 xe13) w16->aD prog 247 [e5 xa13 xb13 xc13 xd13 xe13,e5 xa14 xb14 xc14 xd14 xe14] w16 (aG R) λv9 w17=>∃ xa15 xb15 xc15 xd15 xe15:UInt64,v9=(e5 xa15 xb15 xc15 xd15 xe15)/\(Mod NoB w16 w17/\sx1 w17/\ts1 7 (e5 xa15 xb15 xc15 xd15 xe15) w17))/\∀ xa16 xb16 xc16 xd16 xe16:UInt64,((∀ w18,Mod NoB w11.drew w18->sx1 w18->ts1 7 (e5 xa16 xb16 xc16 xd16 xe16) w18->aD prog 247 [e5 xa10 xb10 xc10 xd10 xe10,e5 xa16 xb16 xc16 xd16 xe16] w18 (aG R) λv10 w19=>∃ xa17 xb17 xc17 xd17 xe17:UInt64,v10=(e5 xa17 xb17 xc17 xd17 xe17)/\(Mod NoB w18 w19/\sx1 w19/\ts1 8 (e5 xa17 xb17 xc17 xd17 xe17) w19))/\∀ xa18 xb18 xc18 xd18 xe18:UInt64,((∀ w20,Mod NoB w11.drew w20->sx1 w20->ts1 8 (e5 xa18 xb18 xc18 xd18 xe18) w20->aD prog 298 [e5 xa18 xb18 xc18 xd18 xe18,.int .i64 252,.int .u64 ((3:UInt64)).toNat] w20 (aG R) λv11 w21=>∃ xa19 xb19 xc19 xd19 xe19:UInt64,v11=(e5 xa19 xb19 xc19 xd19 xe19)/\(Mod NoB w20 w21/\sx1 w21/\ts1 9 (e5 xa19 xb19 xc19 xd19 xe19) w21))/\∀ xa20 xb20 xc20 xd20 xe20:UInt64,((∀ w22,Mod NoB w11.drew w22->sx1 w22->ts1 9 (e5 xa20 xb20 xc20 xd20 xe20) w22->ts1 2 (e5 xa9 xb9 xc9 xd9 xe9) w22->aD prog 247 [e5 xa9 xb9 xc9 xd9 xe9,e5 xa20 xb20 xc20 xd20 xe20] w22 (aG R) λv12 w23=>∃ xa21 xb21 xc21 xd21 xe21:UInt64,v12=(e5 xa21 xb21 xc21 xd21 xe21)/\(Mod NoB w22 w23/\sx1 w23/\ts1 10 (e5 xa21 xb21 xc21 xd21 xe21) w23))/\∀ xa22 xb22 xc22 xd22 xe22:UInt64,((∀ w24,Mod NoB w11.drew w24->sx1 w24->aH prog (Instr.alloc 285 true (.tuple #[])) w24 λv13 w25=>∃ r:zO,v13=(.pointer r)/\(Mod NoB w24 w25/\sx1 w25/\ts1 11 (.pointer r) w25))/\∀ r1:zO,∀ w26,Mod NoB w11.drew w26->sx1 w26->ts1 11 (.pointer r1) w26->ts1 10 (e5 xa22 xb22 xc22 xd22 xe22) w26->ts1 9 (e5 xa20 xb20 xc20 xd20 xe20) w26->ts1 8 (e5 xa18 xb18 xc18 xd18 xe18) w26->ts1 7 (e5 xa16 xb16 xc16 xd16 xe16) w26->ts1 5 (e5 xa13 xb13 xc13 xd13 xe13) w26->ts1 2 (e5 xa9 xb9 xc9 xd9 xe9) w26->((aA r1 λa8=>aJ prog (storeVar 285 a8 (e5 xa22 xb22 xc22 xd22 xe22)) w26 λw27=>∃ j:zT,(∃ sx2:zP,sx2 w27.drew/\(∃ ts2:Nat->Value->zP,(∀ i v w1 w2,Mod NoB w1 w2->ts2 i v w1->ts2 i v w2)/\sx2 w27.drew/\aA r1 λa9=>∃ xa23 xb23 xc23 xd23 xe23:UInt64,(∀ w',sx2 w'->Rd w' a9 (l5 xa23 xb23 xc23 xd23 xe23))/\((∀ w28,Mod NoB w27.drew w28->sx2 w28->aD prog 308 [e5 xa23 xb23 xc23 xd23 xe23] w28 (aG R) λv14 w29=>∃ xa24 xb24 xc24 xd24 xe24:UInt64,v14=(e5 xa24 xb24 xc24 xd24 xe24)/\(Mod NoB w28 w29/\sx2 w29/\ts2 1 (e5 xa24 xb24 xc24 xd24 xe24) w29))/\∀ xa25 xb25 xc25 xd25 xe25:UInt64,aA v2 λa10=>∃ xa26 xb26 xc26 xd26 xe26:UInt64,(∀ w',sx2 w'->Rd w' a10 (l5 xa26 xb26 xc26 xd26 xe26))/\((∀ w30,Mod NoB w27.drew w30->sx2 w30->ts2 1 (e5 xa25 xb25 xc25 xd25 xe25) w30->aD prog 247 [e5 xa25 xb25 xc25 xd25 xe25,e5 xa26 xb26 xc26 xd26 xe26] w30 (aG R) λv15 w31=>∃ xa27 xb27 xc27 xd27 xe27:UInt64,v15=(e5 xa27 xb27 xc27 xd27 xe27)/\(Mod NoB w30 w31/\sx2 w31/\ts2 3 (e5 xa27 xb27 xc27 xd27 xe27) w31))/\∀ xa28 xb28 xc28 xd28 xe28:UInt64,((∀ w32,Mod NoB w27.drew w32->sx2 w32->aH prog (Instr.alloc 285 true (.tuple #[])) w32 λv16 w33=>∃ is:zO,v16=(.pointer is)/\(Mod NoB w32 w33/\sx2 w33/\ts2 4 (.pointer is) w33))/\∀ is1:zO,∀ w34,Mod NoB w27.drew w34->sx2 w34->ts2 4 (.pointer is1) w34->ts2 3 (e5 xa28 xb28 xc28 xd28 xe28) w34->ts2 1 (e5 xa25 xb25 xc25 xd25 xe25) w34->((aA is1 λa11=>aJ prog (storeVar 285 a11 (e5 xa28 xb28 xc28 xd28 xe28)) w34 λw35=>aA is1 λa12=>∃ xa29 xb29 xc29 xd29 xe29:UInt64,Rd w35 a12 (l5 xa29 xb29 xc29 xd29 xe29)/\aA u λa13=>∃ xa30 xb30 xc30 xd30 xe30:UInt64,Rd w35 a13 (l5 xa30 xb30 xc30 xd30 xe30)/\aD prog 357 [e5 xa29 xb29 xc29 xd29 xe29,e5 xa30 xb30 xc30 xd30 xe30] w35 (aG R) λv17 w36=>∃ x1:Bool,v17=(.bool x1)/\aE x1 (j [] w36) (∃ sx3:zP,sx3 w36.drew/\aA is1 λa14=>∃ xa31 xb31 xc31 xd31 xe31:UInt64,(∀ w',sx3 w'->Rd w' a14 (l5 xa31 xb31 xc31 xd31 xe31))/\aA u λa15=>∃ xa32 xb32 xc32 xd32 xe32:UInt64,(∀ w',sx3 w'->Rd w' a15 (l5 xa32 xb32 xc32 xd32 xe32))/\((aD prog 312 [e5 xa32 xb32 xc32 xd32 xe32] w36.drew (aG R) λv18 w37=>∃ xa33 xb33 xc33 xd33 xe33:UInt64,v18=(e5 xa33 xb33 xc33 xd33 xe33)/\(sx3 w37/\((aD prog 357 [e5 xa31 xb31 xc31 xd31 xe31,e5 xa33 xb33 xc33 xd33 xe33] w37 (aG R) λv19 w38=>∃ x2:Bool,v19=(.bool x2)/\(sx3 w38/\aE x2 (∃ sx4:zP,sx4 w38.drew/\aA r1 λa16=>∃ xa34 xb34 xc34 xd34 xe34:UInt64,(∀ w',sx4 w'->Rd w' a16 (l5 xa34 xb34 xc34 xd34 xe34))/\((aD prog 298 [.agg #[.int .u64 ((2:UInt64)).toNat,.int .u64 ((0:UInt64)).toNat,.int .u64 ((0:UInt64)).toNat,.int .u64 ((0:UInt64)).toNat,.int .u64 ((0:UInt64)).toNat],.int .i64 253,.int .u64 ((5:UInt64)).toNat] w38.drew (aG R) λv20 w39=>∃ xa35 xb35 xc35 xd35 xe35:UInt64,v20=(e5 xa35 xb35 xc35 xd35 xe35)/\(sx4 w39/\((aD prog 247 [e5 xa34 xb34 xc34 xd34 xe34,e5 xa35 xb35 xc35 xd35 xe35] w39 (aG R) λv21 w40=>∃ xa36 xb36 xc36 xd36 xe36:UInt64,v21=(e5 xa36 xb36 xc36 xd36 xe36)/\((aA r1 λa17=>aJ prog (storeVar 285 a17 (e5 xa36 xb36 xc36 xd36 xe36)) w40 λw41=>j [] w41)/\True))/\True)))/\True)) (aA x λa18=>aJ prog (storeVar 285 a18 (.agg #[.int .u64 ((0:UInt64)).toNat,.int .u64 ((0:UInt64)).toNat,.int .u64 ((0:UInt64)).toNat,.int .u64 ((0:UInt64)).toNat,.int .u64 ((0:UInt64)).toNat])) w38 λw42=>aA x λa19=>∃ xa37 xb37 xc37 xd37 xe37:UInt64,Rd w42 a19 (l5 xa37 xb37 xc37 xd37 xe37)/\R (.returned (.tuple #[e5 xa37 xb37 xc37 xd37 xe37,.bool false])) w42)))/\True)))/\True)))/\True))))))/\(∀ w43:World,j [] w43->aA r1 λa20=>∃ xa38 xb38 xc38 xd38 xe38:UInt64,Rd w43 a20 (l5 xa38 xb38 xc38 xd38 xe38)/\aD prog 248 [e5 xa38 xb38 xc38 xd38 xe38] w43 (aG R) λv22 w44=>∃ x3:Bool,v22=(.bool x3)/\aE x3 (aA r1 λa21=>∃ xa39 xb39 xc39 xd39 xe39:UInt64,Rd w44 a21 (l5 xa39 xb39 xc39 xd39 xe39)/\aD prog 312 [e5 xa39 xb39 xc39 xd39 xe39] w44 (aG R) λv23 w45=>∃ xa40 xb40 xc40 xd40 xe40:UInt64,v23=(e5 xa40 xb40 xc40 xd40 xe40)/\aA r1 λa22=>aJ prog (storeVar 285 a22 (e5 xa40 xb40 xc40 xd40 xe40)) w45 λw46=>aA r1 λa23=>∃ xa41 xb41 xc41 xd41 xe41:UInt64,Rd w46 a23 (l5 xa41 xb41 xc41 xd41 xe41)/\aA x λa24=>aJ prog (storeVar 285 a24 (e5 xa41 xb41 xc41 xd41 xe41)) w46 λw47=>aA x λa25=>∃ xa42 xb42 xc42 xd42 xe42:UInt64,Rd w47 a25 (l5 xa42 xb42 xc42 xd42 xe42)/\R (.returned (.tuple #[e5 xa42 xb42 xc42 xd42 xe42,.bool true])) w47) (aA r1 λa26=>∃ xa43 xb43 xc43 xd43 xe43:UInt64,Rd w44 a26 (l5 xa43 xb43 xc43 xd43 xe43)/\aA x λa27=>aJ prog (storeVar 285 a27 (e5 xa43 xb43 xc43 xd43 xe43)) w44 λw48=>aA x λa28=>∃ xa44 xb44 xc44 xd44 xe44:UInt64,Rd w48 a28 (l5 xa44 xb44 xc44 xd44 xe44)/\R (.returned (.tuple #[e5 xa44 xb44 xc44 xd44 xe44,.bool true])) w48)))/\True))))))))))/\True)))))
theorem qRU (ua ub uc ud ue va vb vc vd ve:UInt64) {w:World} {R:RW} (h9:qTI ua ub uc ud ue va vb vc vd ve w R):Calls prog 315 #[e5 ua ub uc ud ue,e5 va vb vc vd ve] w R:=
 zC (q0 .z (q0 (.draw 1 (.safe [(0,(.agg [.u64,.u64,.u64,.u64,.u64])),(1,(.agg [.u64,.u64,.u64,.u64,.u64])),(2,(.agg [.u64,.u64,.u64,.u64,.u64])),(3,(.agg [.u64,.u64,.u64,.u64,.u64])),(4,.p)] (.all [(5,.done)]))) (q0 (.draw 1 (.safe [(0,(.agg [.u64,.u64,.u64,.u64,.u64])),(1,(.agg [.u64,.u64,.u64,.u64,.u64])),(2,(.agg [.u64,.u64,.u64,.u64,.u64])),(3,(.agg [.u64,.u64,.u64,.u64,.u64])),(4,(.agg [.u64,.u64,.u64,.u64,.u64])),(5,(.agg [.u64,.u64,.u64,.u64,.u64])),(6,(.agg [.u64,.u64,.u64,.u64,.u64])),(7,(.agg [.u64,.u64,.u64,.u64,.u64])),(8,(.agg [.u64,.u64,.u64,.u64,.u64])),(9,(.agg [.u64,.u64,.u64,.u64,.u64])),(10,(.agg [.u64,.u64,.u64,.u64,.u64])),(11,.p)] (.all [(12,.done)]))) (.seq (some []) (q0 (.draw 1 (.safe [(0,(.agg [.u64,.u64,.u64,.u64,.u64])),(1,(.agg [.u64,.u64,.u64,.u64,.u64])),(2,(.agg [.u64,.u64,.u64,.u64,.u64])),(3,(.agg [.u64,.u64,.u64,.u64,.u64])),(4,.p)] (.all [(5,.done)]))) (.block none (q0 .z (.cond .z (q0 (.draw 1 (.take 0 (.take 1 (.all [(2,(.all [(3,(.take 4 .done))]))])))) (.cond (.draw 1 (.take 1 (.take 0 (.all [(2,(.all [(3,(.all [(4,.done)]))]))])))) (q0 .z .z))))))) (q0 (q0 .z (.cond .z .z)) (q0 .z .z)))))) func315 [.agg [.u64 ua,.u64 ub,.u64 uc,.u64 ud,.u64 ue],.agg [.u64 va,.u64 vb,.u64 vc,.u64 vd,.u64 ve]] h9
def qWG (s:zO) (w:World) (R:RW):Prop:=
 ∃ sx:zP,sx w.drew/\aA s λa=>aA s λa1=>aA s λa2=>∃ xa xb xc xd xe:UInt64,(∀ w',sx w'->Rd w' ((a.add 0).add 0) (l5 xa xb xc xd xe))/\∃ xa1 xb1 xc1 xd1 xe1:UInt64,(∀ w',sx w'->Rd w' ((a1.add 0).add 5) (l5 xa1 xb1 xc1 xd1 xe1))/\(∃ ts:Nat->Value->zP,(∀ i v w1 w2,Mod NoB w1 w2->ts i v w1->ts i v w2)/\sx w.drew/\((∀ w1,Mod NoB w.drew w1->sx w1->aD prog 308 [e5 xa xb xc xd xe] w1 (aG R) λv w2=>∃ xa2 xb2 xc2 xd2 xe2:UInt64,v=(e5 xa2 xb2 xc2 xd2 xe2)/\(Mod NoB w1 w2/\sx w2/\ts 5 (e5 xa2 xb2 xc2 xd2 xe2) w2))/\∀ xa3 xb3 xc3 xd3 xe3:UInt64,((∀ w3,Mod NoB w.drew w3->sx w3->ts 5 (e5 xa3 xb3 xc3 xd3 xe3) w3->aD prog 308 [e5 xa1 xb1 xc1 xd1 xe1] w3 (aG R) λv1 w4=>∃ xa4 xb4 xc4 xd4 xe4:UInt64,v1=(e5 xa4 xb4 xc4 xd4 xe4)/\(Mod NoB w3 w4/\sx w4/\ts 11 (e5 xa4 xb4 xc4 xd4 xe4) w4))/\∀ xa5 xb5 xc5 xd5 xe5:UInt64,∃ xa6 xb6 xc6 xd6 xe6:UInt64,(∀ w',sx w'->Rd w' ((a2.add 0).add 10) (l5 xa6 xb6 xc6 xd6 xe6))/\((∀ w5,Mod NoB w.drew w5->sx w5->ts 11 (e5 xa5 xb5 xc5 xd5 xe5) w5->aD prog 308 [e5 xa6 xb6 xc6 xd6 xe6] w5 (aG R) λv2 w6=>∃ xa7 xb7 xc7 xd7 xe7:UInt64,v2=(e5 xa7 xb7 xc7 xd7 xe7)/\(Mod NoB w5 w6/\sx w6/\ts 17 (e5 xa7 xb7 xc7 xd7 xe7) w6))/\∀ xa8 xb8 xc8 xd8 xe8:UInt64,((∀ w7,Mod NoB w.drew w7->sx w7->aH prog (Instr.alloc 285 true (.tuple #[])) w7 λv3 w8=>∃ a3:zO,v3=(.pointer a3)/\(Mod NoB w7 w8/\sx w8/\ts 18 (.pointer a3) w8))/\∀ a4:zO,((∀ w9,Mod NoB w.drew w9->sx w9->aH prog (Instr.alloc 285 true (.tuple #[])) w9 λv4 w10=>∃ b:zO,v4=(.pointer b)/\(Mod NoB w9 w10/\sx w10/\ts 19 (.pointer b) w10))/\∀ b1:zO,((∀ w11,Mod NoB w.drew w11->sx w11->aH prog (Instr.alloc 285 true (.tuple #[])) w11 λv5 w12=>∃ c:zO,v5=(.pointer c)/\(Mod NoB w11 w12/\sx w12/\ts 20 (.pointer c) w12))/\∀ c1:zO,∀ w13,Mod NoB w.drew w13->sx w13->ts 20 (.pointer c1) w13->ts 19 (.pointer b1) w13->ts 18 (.pointer a4) w13->ts 17 (e5 xa8 xb8 xc8 xd8 xe8) w13->ts 11 (e5 xa5 xb5 xc5 xd5 xe5) w13->ts 5 (e5 xa3 xb3 xc3 xd3 xe3) w13->((aA a4 λa5=>aJ prog (storeVar 285 a5 (e5 xa3 xb3 xc3 xd3 xe3)) w13 λw14=>(sx w14/\((aA b1 λa6=>aJ prog (storeVar 285 a6 (e5 xa5 xb5 xc5 xd5 xe5)) w14 λw15=>(sx w15/\((aA c1 λa7=>aJ prog (storeVar 285 a7 (e5 xa8 xb8 xc8 xd8 xe8)) w15 λw16=>aA c1 λa8=>∃ xa9 xb9 xc9 xd9 xe9:UInt64,Rd w16 a8 (l5 xa9 xb9 xc9 xd9 xe9)/\aA c1 λa9=>∃ xa10 xb10 xc10 xd10 xe10:UInt64,Rd w16 a9 (l5 xa10 xb10 xc10 xd10 xe10)/\aD prog 309 [e5 xa9 xb9 xc9 xd9 xe9,e5 xa10 xb10 xc10 xd10 xe10] w16 (aG R) λv6 w17=>∃ xa11 xb11 xc11 xd11 xe11:UInt64,v6=(e5 xa11 xb11 xc11 xd11 xe11)/\aA c1 λa10=>aJ prog (storeVar 285 a10 (e5 xa11 xb11 xc11 xd11 xe11)) w17 λw18=>∃ sx1:zP,sx1 w18.drew/\(∃ ts1:Nat->Value->zP,(∀ i v w1 w2,Mod NoB w1 w2->ts1 i v w1->ts1 i v w2)/\sx1 w18.drew/\aA s λa11=>∃ xa12 xb12 xc12 xd12 xe12:UInt64,(∀ w',sx1 w'->Rd w' ((a11.add 0).add 0) (l5 xa12 xb12 xc12 xd12 xe12))/\aA s λa12=>∃ xa13 xb13 xc13 xd13 xe13:UInt64,(∀ w',sx1 w'->Rd w' ((a12.add 0).add 5) (l5 xa13 xb13 xc13 xd13 xe13))/\((∀ w19,Mod NoB w18.drew w19->sx1 w19->aD prog 309 [e5 xa12 xb12 xc12 xd12 xe12,e5 xa13 xb13 xc13 xd13 xe13] w19 (aG R) λv7 w20=>∃ xa14 xb14 xc14 xd14 xe14:UInt64,v7=(e5 xa14 xb14 xc14 xd14 xe14)/\(Mod NoB w19 w20/\sx1 w20/\ts1 10 (e5 xa14 xb14 xc14 xd14 xe14) w20))/\∀ xa15 xb15 xc15 xd15 xe15:UInt64,((∀ w21,Mod NoB w18.drew w21->sx1 w21->ts1 10 (e5 xa15 xb15 xc15 xd15 xe15) w21->aD prog 308 [e5 xa15 xb15 xc15 xd15 xe15] w21 (aG R) λv8 w22=>∃ xa16 xb16 xc16 xd16 xe16:UInt64,v8=(e5 xa16 xb16 xc16 xd16 xe16)/\(Mod NoB w21 w22/\sx1 w22/\ts1 11 (e5 xa16 xb16 xc16 xd16 xe16) w22))/\∀ xa17 xb17 xc17 xd17 xe17:UInt64,aA a4 λa13=>∃ xa18 xb18 xc18 xd18 xe18:UInt64,(∀ w',sx1 w'->Rd w' a13 (l5 xa18 xb18 xc18 xd18 xe18))/\aA b1 λa14=>∃ xa19 xb19 xc19 xd19 xe19:UInt64,(∀ w',sx1 w'->Rd w' a14 (l5 xa19 xb19 xc19 xd19 xe19))/\((∀ w23,Mod NoB w18.drew w23->sx1 w23->ts1 11 (e5 xa17 xb17 xc17 xd17 xe17) w23->aD prog 309 [e5 xa18 xb18 xc18 xd18 xe18,e5 xa19 xb19 xc19 xd19 xe19] w23 (aG R) λv9 w24=>∃ xa20 xb20 xc20 xd20 xe20:UInt64,v9=(e5 xa20 xb20 xc20 xd20 xe20)/\(Mod NoB w23 w24/\sx1 w24/\ts1 14 (e5 xa20 xb20 xc20 xd20 xe20) w24))/\∀ xa21 xb21 xc21 xd21 xe21:UInt64,((∀ w25,Mod NoB w18.drew w25->sx1 w25->ts1 14 (e5 xa21 xb21 xc21 xd21 xe21) w25->ts1 11 (e5 xa17 xb17 xc17 xd17 xe17) w25->aD prog 310 [e5 xa17 xb17 xc17 xd17 xe17,e5 xa21 xb21 xc21 xd21 xe21] w25 (aG R) λv10 w26=>∃ xa22 xb22 xc22 xd22 xe22:UInt64,v10=(e5 xa22 xb22 xc22 xd22 xe22)/\(Mod NoB w25 w26/\sx1 w26/\ts1 15 (e5 xa22 xb22 xc22 xd22 xe22) w26))/\∀ xa23 xb23 xc23 xd23 xe23:UInt64,((∀ w27,Mod NoB w18.drew w27->sx1 w27->aH prog (Instr.alloc 285 true (.tuple #[])) w27 λv11 w28=>∃ e:zO,v11=(.pointer e)/\(Mod NoB w27 w28/\sx1 w28/\ts1 16 (.pointer e) w28))/\∀ e1:zO,∀ w29,Mod NoB w18.drew w29->sx1 w29->ts1 16 (.pointer e1) w29->ts1 15 (e5 xa23 xb23 xc23 xd23 xe23) w29->ts1 14 (e5 xa21 xb21 xc21 xd21 xe21) w29->ts1 11 (e5 xa17 xb17 xc17 xd17 xe17) w29->ts1 10 (e5 xa15 xb15 xc15 xd15 xe15) w29->((aA e1 λa15=>aJ prog (storeVar 285 a15 (e5 xa23 xb23 xc23 xd23 xe23)) w29 λw30=>aA b1 λa16=>∃ xa24 xb24 xc24 xd24 xe24:UInt64,Rd w30 a16 (l5 xa24 xb24 xc24 xd24 xe24)/\aA a4 λa17=>∃ xa25 xb25 xc25 xd25 xe25:UInt64,Rd w30 a17 (l5 xa25 xb25 xc25 xd25 xe25)/\aD prog 310 [e5 xa24 xb24 xc24 xd24 xe24,e5 xa25 xb25 xc25 xd25 xe25] w30 (aG R) λv12 w31=>∃ xa26 xb26 xc26 xd26 xe26:UInt64,v12=(e5 xa26 xb26 xc26 xd26 xe26)/\aH prog (Instr.alloc 285 true (.tuple #[])) w31 λv13 w32=>∃ g:zO,v13=(.pointer g)/\aA g λa18=>aJ prog (storeVar 285 a18 (e5 xa26 xb26 xc26 xd26 xe26)) w32 λw33=>∃ sx2:zP,sx2 w33.drew/\aA e1 λa19=>∃ xa27 xb27 xc27 xd27 xe27:UInt64,(∀ w',sx2 w'->Rd w' a19 (l5 xa27 xb27 xc27 xd27 xe27))/\aA g λa20=>∃ xa28 xb28 xc28 xd28 xe28:UInt64,(∀ w',sx2 w'->Rd w' a20 (l5 xa28 xb28 xc28 xd28 xe28))/\aA c1 λa21=>∃ xa29 xb29 xc29 xd29 xe29:UInt64,(∀ w',sx2 w'->Rd w' a21 (l5 xa29 xb29 xc29 xd29 xe29))/\aA g λa22=>∃ xa30 xb30 xc30 xd30 xe30:UInt64,(∀ w',sx2 w'->Rd w' a22 (l5 xa30 xb30 xc30 xd30 xe30))/\aA a4 λa23=>∃ xa31 xb31 xc31 xd31 xe31:UInt64,(∀ w',sx2 w'->Rd w' a23 (l5 xa31 xb31 xc31 xd31 xe31))/\aA b1 λa24=>∃ xa32 xb32 xc32 xd32 xe32:UInt64,(∀ w',sx2 w'->Rd w' a24 (l5 xa32 xb32 xc32 xd32 xe32))/\((aD prog 310 [e5 xa28 xb28 xc28 xd28 xe28,e5 xa29 xb29 xc29 xd29 xe29] w33.drew (aG R) λv14 w34=>∃ xa33 xb33 xc33 xd33 xe33:UInt64,v14=(e5 xa33 xb33 xc33 xd33 xe33)/\(sx2 w34/\((aD prog 309 [e5 xa31 xb31 xc31 xd31 xe31,e5 xa32 xb32 xc32 xd32 xe32] w34 (aG R) λv15 w35=>∃ xa34 xb34 xc34 xd34 xe34:UInt64,v15=(e5 xa34 xb34 xc34 xd34 xe34)/\(sx2 w35/\((aD prog 312 [e5 xa34 xb34 xc34 xd34 xe34] w35 (aG R) λv16 w36=>∃ xa35 xb35 xc35 xd35 xe35:UInt64,v16=(e5 xa35 xb35 xc35 xd35 xe35)/\(sx2 w36/\((aD prog 311 [e5 xa27 xb27 xc27 xd27 xe27,e5 xa33 xb33 xc33 xd33 xe33,e5 xa30 xb30 xc30 xd30 xe30,e5 xa35 xb35 xc35 xd35 xe35] w36 (aG R) λv17 w37=>∃ xaa xab xac xad xae xba xbb xbc xbd xbe xca xcb xcc xcd xce xda xdb xdc xdd xde:UInt64,v17=(e20 xaa xab xac xad xae xba xbb xbc xbd xbe xca xcb xcc xcd xce xda xdb xdc xdd xde)/\(sx2 w37/\aA s λa25=>((aJ prog (storeVar 287 (a25.add 0) (e20 xaa xab xac xad xae xba xbb xbc xbd xbe xca xcb xcc xcd xce xda xdb xdc xdd xde)) w37 λw38=>R (.returned (.tuple #[])) w38)/\True)))/\True)))/\True)))/\True)))/\True))/\True))))))))/\True)))/\True)))/\True))))))))
theorem qQP (s:zO) {w:World} {R:RW} (h9:qWG s w R):Calls prog 252 #[.pointer s] w R:=
 zC (q0 (.draw 1 (.take 0 (.take 1 (.take 2 (.take 3 (.take 6 (.take 7 (.take 8 (.take 9 (.take 12 (.take 13 (.take 14 (.take 15 (.take 4 (.take 10 (.safe [(5,(.agg [.u64,.u64,.u64,.u64,.u64])),(11,(.agg [.u64,.u64,.u64,.u64,.u64])),(16,(.agg [.u64,.u64,.u64,.u64,.u64])),(17,(.agg [.u64,.u64,.u64,.u64,.u64])),(18,.p),(19,.p),(20,.p)] (.all [(21,(.all [(22,(.all [(23,.done)]))]))]))))))))))))))))) (q0 .z (q0 (.draw 1 (.safe [(0,.p),(1,.p),(2,.p),(3,.p),(4,(.agg [.u64,.u64,.u64,.u64,.u64])),(5,.p),(6,.p),(7,.p),(8,.p),(9,(.agg [.u64,.u64,.u64,.u64,.u64])),(10,(.agg [.u64,.u64,.u64,.u64,.u64])),(11,(.agg [.u64,.u64,.u64,.u64,.u64])),(12,(.agg [.u64,.u64,.u64,.u64,.u64])),(13,(.agg [.u64,.u64,.u64,.u64,.u64])),(14,(.agg [.u64,.u64,.u64,.u64,.u64])),(15,(.agg [.u64,.u64,.u64,.u64,.u64])),(16,.p)] (.all [(17,.done)]))) (q0 .z (.draw 1 (.take 0 (.take 1 (.take 2 (.take 3 (.take 5 (.take 6 (.take 7 (.all [(4,(.all [(8,(.all [(9,(.all [(10,(.take 11 (.take 12 (.all [(13,.done)]))))]))]))]))]))))))))))))) func252 [.p s] h9
def qYP (s:zO) (qaa qab qac qad qae qba qbb qbc qbd qbe qca qcb qcc qcd qce qda qdb qdc qdd qde:UInt64) (w:World) (R:RW):Prop:=
 aH prog (Instr.box 287 (e20 qaa qab qac qad qae qba qbb qbc qbd qbe qca qcb qcc qcd qce qda qdb qdc qdd qde)) w λv w1=>∃ q:zO,v=(.pointer q)/\∃ sx:zP,sx w1.drew/\(∃ ts:Nat->Value->zP,(∀ i v w1 w2,Mod NoB w1 w2->ts i v w1->ts i v w2)/\sx w1.drew/\aA s λa=>∃ xa xb xc xd xe:UInt64,(∀ w',sx w'->Rd w' ((a.add 0).add 5) (l5 xa xb xc xd xe))/\aA s λa1=>∃ xa1 xb1 xc1 xd1 xe1:UInt64,(∀ w',sx w'->Rd w' ((a1.add 0).add 0) (l5 xa1 xb1 xc1 xd1 xe1))/\((∀ w2,Mod NoB w1.drew w2->sx w2->aD prog 310 [e5 xa xb xc xd xe,e5 xa1 xb1 xc1 xd1 xe1] w2 (aG R) λv1 w3=>∃ xa2 xb2 xc2 xd2 xe2:UInt64,v1=(e5 xa2 xb2 xc2 xd2 xe2)/\(Mod NoB w2 w3/\sx w3/\ts 10 (e5 xa2 xb2 xc2 xd2 xe2) w3))/\∀ xa3 xb3 xc3 xd3 xe3:UInt64,aA q λa2=>∃ xa4 xb4 xc4 xd4 xe4:UInt64,(∀ w',sx w'->Rd w' (a2.add 5) (l5 xa4 xb4 xc4 xd4 xe4))/\aA q λa3=>∃ xa5 xb5 xc5 xd5 xe5:UInt64,(∀ w',sx w'->Rd w' (a3.add 0) (l5 xa5 xb5 xc5 xd5 xe5))/\((∀ w4,Mod NoB w1.drew w4->sx w4->ts 10 (e5 xa3 xb3 xc3 xd3 xe3) w4->aD prog 310 [e5 xa4 xb4 xc4 xd4 xe4,e5 xa5 xb5 xc5 xd5 xe5] w4 (aG R) λv2 w5=>∃ xa6 xb6 xc6 xd6 xe6:UInt64,v2=(e5 xa6 xb6 xc6 xd6 xe6)/\(Mod NoB w4 w5/\sx w5/\ts 15 (e5 xa6 xb6 xc6 xd6 xe6) w5))/\∀ xa7 xb7 xc7 xd7 xe7:UInt64,((∀ w6,Mod NoB w1.drew w6->sx w6->ts 15 (e5 xa7 xb7 xc7 xd7 xe7) w6->ts 10 (e5 xa3 xb3 xc3 xd3 xe3) w6->aD prog 247 [e5 xa3 xb3 xc3 xd3 xe3,e5 xa7 xb7 xc7 xd7 xe7] w6 (aG R) λv3 w7=>∃ xa8 xb8 xc8 xd8 xe8:UInt64,v3=(e5 xa8 xb8 xc8 xd8 xe8)/\(Mod NoB w6 w7/\sx w7/\ts 16 (e5 xa8 xb8 xc8 xd8 xe8) w7))/\∀ xa9 xb9 xc9 xd9 xe9:UInt64,((∀ w8,Mod NoB w1.drew w8->sx w8->aH prog (Instr.alloc 285 true (.tuple #[])) w8 λv4 w9=>∃ a4:zO,v4=(.pointer a4)/\(Mod NoB w8 w9/\sx w9/\ts 17 (.pointer a4) w9))/\∀ a5:zO,∀ w10,Mod NoB w1.drew w10->sx w10->ts 17 (.pointer a5) w10->ts 16 (e5 xa9 xb9 xc9 xd9 xe9) w10->ts 15 (e5 xa7 xb7 xc7 xd7 xe7) w10->ts 10 (e5 xa3 xb3 xc3 xd3 xe3) w10->((aA a5 λa6=>aJ prog (storeVar 285 a6 (e5 xa9 xb9 xc9 xd9 xe9)) w10 λw11=>∃ sx1:zP,sx1 w11.drew/\(∃ ts1:Nat->Value->zP,(∀ i v w1 w2,Mod NoB w1 w2->ts1 i v w1->ts1 i v w2)/\sx1 w11.drew/\aA s λa7=>∃ xa10 xb10 xc10 xd10 xe10:UInt64,(∀ w',sx1 w'->Rd w' ((a7.add 0).add 5) (l5 xa10 xb10 xc10 xd10 xe10))/\aA s λa8=>∃ xa11 xb11 xc11 xd11 xe11:UInt64,(∀ w',sx1 w'->Rd w' ((a8.add 0).add 0) (l5 xa11 xb11 xc11 xd11 xe11))/\((∀ w12,Mod NoB w11.drew w12->sx1 w12->aD prog 309 [e5 xa10 xb10 xc10 xd10 xe10,e5 xa11 xb11 xc11 xd11 xe11] w12 (aG R) λv5 w13=>∃ xa12 xb12 xc12 xd12 xe12:UInt64,v5=(e5 xa12 xb12 xc12 xd12 xe12)/\(Mod NoB w12 w13/\sx1 w13/\ts1 10 (e5 xa12 xb12 xc12 xd12 xe12) w13))/\∀ xa13 xb13 xc13 xd13 xe13:UInt64,aA q λa9=>∃ xa14 xb14 xc14 xd14 xe14:UInt64,(∀ w',sx1 w'->Rd w' (a9.add 5) (l5 xa14 xb14 xc14 xd14 xe14))/\aA q λa10=>∃ xa15 xb15 xc15 xd15 xe15:UInt64,(∀ w',sx1 w'->Rd w' (a10.add 0) (l5 xa15 xb15 xc15 xd15 xe15))/\((∀ w14,Mod NoB w11.drew w14->sx1 w14->ts1 10 (e5 xa13 xb13 xc13 xd13 xe13) w14->aD prog 309 [e5 xa14 xb14 xc14 xd14 xe14,e5 xa15 xb15 xc15 xd15 xe15] w14 (aG R) λv6 w15=>∃ xa16 xb16 xc16 xd16 xe16:UInt64,v6=(e5 xa16 xb16 xc16 xd16 xe16)/\(Mod NoB w14 w15/\sx1 w15/\ts1 15 (e5 xa16 xb16 xc16 xd16 xe16) w15))/\∀ xa17 xb17 xc17 xd17 xe17:UInt64,((∀ w16,Mod NoB w11.drew w16->sx1 w16->ts1 15 (e5 xa17 xb17 xc17 xd17 xe17) w16->ts1 10 (e5 xa13 xb13 xc13 xd13 xe13) w16->aD prog 247 [e5 xa13 xb13 xc13 xd13 xe13,e5 xa17 xb17 xc17 xd17 xe17] w16 (aG R) λv7 w17=>∃ xa18 xb18 xc18 xd18 xe18:UInt64,v7=(e5 xa18 xb18 xc18 xd18 xe18)/\(Mod NoB w16 w17/\sx1 w17/\ts1 16 (e5 xa18 xb18 xc18 xd18 xe18) w17))/\∀ xa19 xb19 xc19 xd19 xe19:UInt64,((∀ w18,Mod NoB w11.drew w18->sx1 w18->aH prog (Instr.alloc 285 true (.tuple #[])) w18 λv8 w19=>∃ b:zO,v8=(.pointer b)/\(Mod NoB w18 w19/\sx1 w19/\ts1 17 (.pointer b) w19))/\∀ b1:zO,∀ w20,Mod NoB w11.drew w20->sx1 w20->ts1 17 (.pointer b1) w20->ts1 16 (e5 xa19 xb19 xc19 xd19 xe19) w20->ts1 15 (e5 xa17 xb17 xc17 xd17 xe17) w20->ts1 10 (e5 xa13 xb13 xc13 xd13 xe13) w20->((aA b1 λa11=>aJ prog (storeVar 285 a11 (e5 xa19 xb19 xc19 xd19 xe19)) w20 λw21=>∃ sx2:zP,sx2 w21.drew/\(∃ ts2:Nat->Value->zP,(∀ i v w1 w2,Mod NoB w1 w2->ts2 i v w1->ts2 i v w2)/\sx2 w21.drew/\aA s λa12=>∃ xa20 xb20 xc20 xd20 xe20:UInt64,(∀ w',sx2 w'->Rd w' ((a12.add 0).add 15) (l5 xa20 xb20 xc20 xd20 xe20))/\∃ xa21 xb21 xc21 xd21 xe21:UInt64,(∀ w',sx2 w'->Rd w' (⟨1,0,none⟩:Addr) (l5 xa21 xb21 xc21 xd21 xe21))/\((∀ w22,Mod NoB w21.drew w22->sx2 w22->aD prog 247 [e5 xa20 xb20 xc20 xd20 xe20,e5 xa21 xb21 xc21 xd21 xe21] w22 (aG R) λv9 w23=>∃ xa22 xb22 xc22 xd22 xe22:UInt64,v9=(e5 xa22 xb22 xc22 xd22 xe22)/\(Mod NoB w22 w23/\sx2 w23/\ts2 6 (e5 xa22 xb22 xc22 xd22 xe22) w23))/\∀ xa23 xb23 xc23 xd23 xe23:UInt64,aA q λa13=>∃ xa24 xb24 xc24 xd24 xe24:UInt64,(∀ w',sx2 w'->Rd w' (a13.add 15) (l5 xa24 xb24 xc24 xd24 xe24))/\((∀ w24,Mod NoB w21.drew w24->sx2 w24->ts2 6 (e5 xa23 xb23 xc23 xd23 xe23) w24->aD prog 247 [e5 xa23 xb23 xc23 xd23 xe23,e5 xa24 xb24 xc24 xd24 xe24] w24 (aG R) λv10 w25=>∃ xa25 xb25 xc25 xd25 xe25:UInt64,v10=(e5 xa25 xb25 xc25 xd25 xe25)/\(Mod NoB w24 w25/\sx2 w25/\ts2 9 (e5 xa25 xb25 xc25 xd25 xe25) w25))/\∀ xa26 xb26 xc26 xd26 xe26:UInt64,((∀ w26,Mod NoB w21.drew w26->sx2 w26->aH prog (Instr.alloc 285 true (.tuple #[])) w26 λv11 w27=>∃ c:zO,v11=(.pointer c)/\(Mod NoB w26 w27/\sx2 w27/\ts2 10 (.pointer c) w27))/\∀ c1:zO,∀ w28,Mod NoB w21.drew w28->sx2 w28->ts2 10 (.pointer c1) w28->ts2 9 (e5 xa26 xb26 xc26 xd26 xe26) w28->ts2 6 (e5 xa23 xb23 xc23 xd23 xe23) w28->((aA c1 λa14=>aJ prog (storeVar 285 a14 (e5 xa26 xb26 xc26 xd26 xe26)) w28 λw29=>∃ j:zT,(∃ sx3:zP,sx3 w29.drew/\aA s λa15=>aA q λa16=>∃ xa27 xb27 xc27 xd27 xe27:UInt64,(∀ w',sx3 w'->Rd w' ((a15.add 0).add 10) (l5 xa27 xb27 xc27 xd27 xe27))/\∃ xa28 xb28 xc28 xd28 xe28:UInt64,(∀ w',sx3 w'->Rd w' (a16.add 10) (l5 xa28 xb28 xc28 xd28 xe28))/\((aD prog 247 [e5 xa27 xb27 xc27 xd27 xe27,e5 xa28 xb28 xc28 xd28 xe28] w29.drew (aG R) λv12 w30=>∃ xa29 xb29 xc29 xd29 xe29:UInt64,v12=(e5 xa29 xb29 xc29 xd29 xe29)/\((aH prog (Instr.alloc 285 true (.tuple #[])) w30 λv13 w31=>∃ d:zO,v13=(.pointer d)/\(sx3 w31/\((aA d λa17=>aJ prog (storeVar 285 a17 (e5 xa29 xb29 xc29 xd29 xe29)) w31 λw32=>j [.p d] w32)/\True)))/\True))/\(aH prog (Instr.alloc 285 true (.tuple #[])) w29.drew λv14 w33=>∃ d1:zO,v14=(.pointer d1)/\(sx3 w33/\((aD prog 247 [e5 xa27 xb27 xc27 xd27 xe27,e5 xa28 xb28 xc28 xd28 xe28] w33 (aG R) λv15 w34=>∃ xa30 xb30 xc30 xd30 xe30:UInt64,v15=(e5 xa30 xb30 xc30 xd30 xe30)/\((aA d1 λa18=>aJ prog (storeVar 285 a18 (e5 xa30 xb30 xc30 xd30 xe30)) w34 λw35=>j [.p d1] w35)/\True))/\True)))/\True))/\(∀ d2:zO,∀ w36:World,j [.p d2] w36->aA d2 λa19=>∃ xa31 xb31 xc31 xd31 xe31:UInt64,Rd w36 a19 (l5 xa31 xb31 xc31 xd31 xe31)/\aA d2 λa20=>∃ xa32 xb32 xc32 xd32 xe32:UInt64,Rd w36 a20 (l5 xa32 xb32 xc32 xd32 xe32)/\aD prog 309 [e5 xa31 xb31 xc31 xd31 xe31,e5 xa32 xb32 xc32 xd32 xe32] w36 (aG R) λv16 w37=>∃ xa33 xb33 xc33 xd33 xe33:UInt64,v16=(e5 xa33 xb33 xc33 xd33 xe33)/\aA d2 λa21=>aJ prog (storeVar 285 a21 (e5 xa33 xb33 xc33 xd33 xe33)) w37 λw38=>∃ sx4:zP,sx4 w38.drew/\aA b1 λa22=>∃ xa34 xb34 xc34 xd34 xe34:UInt64,(∀ w',sx4 w'->Rd w' a22 (l5 xa34 xb34 xc34 xd34 xe34))/\aA a5 λa23=>∃ xa35 xb35 xc35 xd35 xe35:UInt64,(∀ w',sx4 w'->Rd w' a23 (l5 xa35 xb35 xc35 xd35 xe35))/\aA d2 λa24=>∃ xa36 xb36 xc36 xd36 xe36:UInt64,(∀ w',sx4 w'->Rd w' a24 (l5 xa36 xb36 xc36 xd36 xe36))/\aA c1 λa25=>∃ xa37 xb37 xc37 xd37 xe37:UInt64,(∀ w',sx4 w'->Rd w' a25 (l5 xa37 xb37 xc37 xd37 xe37))/\aA d2 λa26=>∃ xa38 xb38 xc38 xd38 xe38:UInt64,(∀ w',sx4 w'->Rd w' a26 (l5 xa38 xb38 xc38 xd38 xe38))/\aA c1 λa27=>∃ xa39 xb39 xc39 xd39 xe39:UInt64,(∀ w',sx4 w'->Rd w' a27 (l5 xa39 xb39 xc39 xd39 xe39))/\aA b1 λa28=>∃ xa40 xb40 xc40 xd40 xe40:UInt64,(∀ w',sx4 w'->Rd w' a28 (l5 xa40 xb40 xc40 xd40 xe40))/\aA a5 λa29=>∃ xa41 xb41 xc41 xd41 xe41:UInt64,(∀ w',sx4 w'->Rd w' a29 (l5 xa41 xb41 xc41 xd41 xe41))/\((aD prog 310 [e5 xa34 xb34 xc34 xd34 xe34,e5 xa35 xb35 xc35 xd35 xe35] w38.drew (aG R) λv17 w39=>∃ xa42 xb42 xc42 xd42 xe42:UInt64,v17=(e5 xa42 xb42 xc42 xd42 xe42)/\(sx4 w39/\((aD prog 310 [e5 xa36 xb36 xc36 xd36 xe36,e5 xa37 xb37 xc37 xd37 xe37] w39 (aG R) λv18 w40=>∃ xa43 xb43 xc43 xd43 xe43:UInt64,v18=(e5 xa43 xb43 xc43 xd43 xe43)/\(sx4 w40/\((aD prog 309 [e5 xa38 xb38 xc38 xd38 xe38,e5 xa39 xb39 xc39 xd39 xe39] w40 (aG R) λv19 w41=>∃ xa44 xb44 xc44 xd44 xe44:UInt64,v19=(e5 xa44 xb44 xc44 xd44 xe44)/\(sx4 w41/\((aD prog 309 [e5 xa40 xb40 xc40 xd40 xe40,e5 xa41 xb41 xc41 xd41 xe41] w41 (aG R) λv20 w42=>∃ xa45 xb45 xc45 xd45 xe45:UInt64,v20=(e5 xa45 xb45 xc45 xd45 xe45)/\(sx4 w42/\((aD prog 311 [e5 xa42 xb42 xc42 xd42 xe42,e5 xa43 xb43 xc43 xd43 xe43,e5 xa44 xb44 xc44 xd44 xe44,e5 xa45 xb45 xc45 xd45 xe45] w42 (aG R) λv21 w43=>∃ xaa xab xac xad xae xba xbb xbc xbd xbe xca xcb xcc xcd xce xda xdb xdc xdd xde:UInt64,v21=(e20 xaa xab xac xad xae xba xbb xbc xbd xbe xca xcb xcc xcd xce xda xdb xdc xdd xde)/\(sx4 w43/\aA s λa30=>((aJ prog (storeVar 287 (a30.add 0) (e20 xaa xab xac xad xae xba xbb xbc xbd xbe xca xcb xcc xcd xce xda xdb xdc xdd xde)) w43 λw44=>R (.returned (.tuple #[])) w44)/\True)))/\True)))/\True)))/\True)))/\True)))/\True)))/\True))))))/\True)))))))/\True))))))
theorem qOJ (s:zO) (qaa qab qac qad qae qba qbb qbc qbd qbe qca qcb qcc qcd qce qda qdb qdc qdd qde:UInt64) {w:World} {R:RW} (h9:qYP s qaa qab qac qad qae qba qbb qbc qbd qbe qca qcb qcc qcd qce qda qdb qdc qdd qde w R):Calls prog 253 #[.pointer s,e20 qaa qab qac qad qae qba qbb qbc qbd qbe qca qcb qcc qcd qce qda qdb qdc qdd qde] w R:=
 zC (q0 .z (q0 (.draw 1 (.safe [(0,.p),(1,.p),(2,.p),(3,.p),(4,(.agg [.u64,.u64,.u64,.u64,.u64])),(5,.p),(6,.p),(7,.p),(8,.p),(9,(.agg [.u64,.u64,.u64,.u64,.u64])),(10,(.agg [.u64,.u64,.u64,.u64,.u64])),(11,.p),(12,(.agg [.u64,.u64,.u64,.u64,.u64])),(13,.p),(14,(.agg [.u64,.u64,.u64,.u64,.u64])),(15,(.agg [.u64,.u64,.u64,.u64,.u64])),(16,(.agg [.u64,.u64,.u64,.u64,.u64])),(17,.p)] (.all [(18,.done)]))) (q0 (.draw 1 (.safe [(0,.p),(1,.p),(2,.p),(3,.p),(4,(.agg [.u64,.u64,.u64,.u64,.u64])),(5,.p),(6,.p),(7,.p),(8,.p),(9,(.agg [.u64,.u64,.u64,.u64,.u64])),(10,(.agg [.u64,.u64,.u64,.u64,.u64])),(11,.p),(12,(.agg [.u64,.u64,.u64,.u64,.u64])),(13,.p),(14,(.agg [.u64,.u64,.u64,.u64,.u64])),(15,(.agg [.u64,.u64,.u64,.u64,.u64])),(16,(.agg [.u64,.u64,.u64,.u64,.u64])),(17,.p)] (.all [(18,.done)]))) (q0 (.draw 1 (.safe [(0,.p),(1,.p),(2,.p),(3,.p),(4,(.agg [.u64,.u64,.u64,.u64,.u64])),(5,(.agg [.u64,.u64,.u64,.u64,.u64])),(6,(.agg [.u64,.u64,.u64,.u64,.u64])),(7,.p),(8,(.agg [.u64,.u64,.u64,.u64,.u64])),(9,(.agg [.u64,.u64,.u64,.u64,.u64])),(10,.p)] (.all [(11,.done)]))) (.seq (some [(7,.p)]) (.draw 1 (.take 0 (.take 1 (.take 2 (.take 3 (.take 5 (.take 4 (.take 6 (.all [(7,(.all [(8,(.all [(9,.done)]))])),(8,(.all [(7,(.all [(9,.done)]))]))]))))))))) (q0 .z (.draw 1 (.take 0 (.take 1 (.take 2 (.take 4 (.take 5 (.take 7 (.take 8 (.take 10 (.take 11 (.all [(3,(.all [(6,(.all [(9,(.all [(12,(.all [(13,(.take 14 (.take 15 (.all [(16,.done)]))))]))]))]))]))]))))))))))))))))) func253 [.p s,.agg [.agg [.u64 qaa,.u64 qab,.u64 qac,.u64 qad,.u64 qae],.agg [.u64 qba,.u64 qbb,.u64 qbc,.u64 qbd,.u64 qbe],.agg [.u64 qca,.u64 qcb,.u64 qcc,.u64 qcd,.u64 qce],.agg [.u64 qda,.u64 qdb,.u64 qdc,.u64 qdd,.u64 qde]]] h9
def qWD (ea eb ec ed ee fa fb fc fd fe ga gb gc gd ge ha hb hc hd he:UInt64) (w:World) (R:RW):Prop:=
 aH prog (Instr.box 285 (e5 ea eb ec ed ee)) w λv w1=>∃ e:zO,v=(.pointer e)/\aH prog (Instr.box 285 (e5 fa fb fc fd fe)) w1 λv1 w2=>∃ f:zO,v1=(.pointer f)/\aH prog (Instr.box 285 (e5 ga gb gc gd ge)) w2 λv2 w3=>∃ g:zO,v2=(.pointer g)/\aH prog (Instr.box 285 (e5 ha hb hc hd he)) w3 λv3 w4=>∃ h:zO,v3=(.pointer h)/\aH prog (Instr.alloc 287 true (.tuple #[])) w4 λv4 w5=>∃ x:zO,v4=(.pointer x)/\∃ sx:zP,sx w5.drew/\aA e λa=>∃ xa xb xc xd xe:UInt64,(∀ w',sx w'->Rd w' a (l5 xa xb xc xd xe))/\aA f λa1=>∃ xa1 xb1 xc1 xd1 xe1:UInt64,(∀ w',sx w'->Rd w' a1 (l5 xa1 xb1 xc1 xd1 xe1))/\aA g λa2=>∃ xa2 xb2 xc2 xd2 xe2:UInt64,(∀ w',sx w'->Rd w' a2 (l5 xa2 xb2 xc2 xd2 xe2))/\aA h λa3=>∃ xa3 xb3 xc3 xd3 xe3:UInt64,(∀ w',sx w'->Rd w' a3 (l5 xa3 xb3 xc3 xd3 xe3))/\aA f λa4=>∃ xa4 xb4 xc4 xd4 xe4:UInt64,(∀ w',sx w'->Rd w' a4 (l5 xa4 xb4 xc4 xd4 xe4))/\aA g λa5=>∃ xa5 xb5 xc5 xd5 xe5:UInt64,(∀ w',sx w'->Rd w' a5 (l5 xa5 xb5 xc5 xd5 xe5))/\aA e λa6=>∃ xa6 xb6 xc6 xd6 xe6:UInt64,(∀ w',sx w'->Rd w' a6 (l5 xa6 xb6 xc6 xd6 xe6))/\aA h λa7=>∃ xa7 xb7 xc7 xd7 xe7:UInt64,(∀ w',sx w'->Rd w' a7 (l5 xa7 xb7 xc7 xd7 xe7))/\((aD prog 247 [e5 xa xb xc xd xe,e5 xa1 xb1 xc1 xd1 xe1] w5.drew (aG R) λv5 w6=>∃ xa8 xb8 xc8 xd8 xe8:UInt64,v5=(e5 xa8 xb8 xc8 xd8 xe8)/\(sx w6/\((aD prog 247 [e5 xa2 xb2 xc2 xd2 xe2,e5 xa3 xb3 xc3 xd3 xe3] w6 (aG R) λv6 w7=>∃ xa9 xb9 xc9 xd9 xe9:UInt64,v6=(e5 xa9 xb9 xc9 xd9 xe9)/\(sx w7/\((aD prog 247 [e5 xa4 xb4 xc4 xd4 xe4,e5 xa5 xb5 xc5 xd5 xe5] w7 (aG R) λv7 w8=>∃ xa10 xb10 xc10 xd10 xe10:UInt64,v7=(e5 xa10 xb10 xc10 xd10 xe10)/\(sx w8/\((aD prog 247 [e5 xa6 xb6 xc6 xd6 xe6,e5 xa7 xb7 xc7 xd7 xe7] w8 (aG R) λv8 w9=>∃ xa11 xb11 xc11 xd11 xe11:UInt64,v8=(e5 xa11 xb11 xc11 xd11 xe11)/\(sx w9/\((aA x λa8=>aJ prog (storeVar 287 a8 (e20 xa8 xb8 xc8 xd8 xe8 xa9 xb9 xc9 xd9 xe9 xa10 xb10 xc10 xd10 xe10 xa11 xb11 xc11 xd11 xe11)) w9 λw10=>aA x λa9=>∃ xaa xab xac xad xae xba xbb xbc xbd xbe xca xcb xcc xcd xce xda xdb xdc xdd xde:UInt64,Rd w10 a9 (l20 xaa xab xac xad xae xba xbb xbc xbd xbe xca xcb xcc xcd xce xda xdb xdc xdd xde)/\R (.returned (e20 xaa xab xac xad xae xba xbb xbc xbd xbe xca xcb xcc xcd xce xda xdb xdc xdd xde)) w10)/\True)))/\True)))/\True)))/\True)))/\True)
theorem qSC (ea eb ec ed ee fa fb fc fd fe ga gb gc gd ge ha hb hc hd he:UInt64) {w:World} {R:RW} (h9:qWD ea eb ec ed ee fa fb fc fd fe ga gb gc gd ge ha hb hc hd he w R):Calls prog 311 #[e5 ea eb ec ed ee,e5 fa fb fc fd fe,e5 ga gb gc gd ge,e5 ha hb hc hd he] w R:=
 zC (q0 .z (q0 (.draw 1 (.take 0 (.take 1 (.take 3 (.take 4 (.take 6 (.take 7 (.take 9 (.take 10 (.all [(2,(.all [(5,(.all [(8,(.all [(11,(.take 12 (.all [(13,.done)])))]))]))]))])))))))))) .z)) func311 [.agg [.u64 ea,.u64 eb,.u64 ec,.u64 ed,.u64 ee],.agg [.u64 fa,.u64 fb,.u64 fc,.u64 fd,.u64 fe],.agg [.u64 ga,.u64 gb,.u64 gc,.u64 gd,.u64 ge],.agg [.u64 ha,.u64 hb,.u64 hc,.u64 hd,.u64 he]] h9
def qXQ (w:World) (R:RW):Prop:=
 aH prog (Instr.alloc 287 true (.tuple #[])) w λv w1=>∃ x:zO,v=(.pointer x)/\aD prog 304 [] w1 (aG R) λv1 w2=>∃ xa xb xc xd xe:UInt64,v1=(e5 xa xb xc xd xe)/\aD prog 304 [] w2 (aG R) λv2 w3=>∃ xa1 xb1 xc1 xd1 xe1:UInt64,v2=(e5 xa1 xb1 xc1 xd1 xe1)/\aA x λa=>aJ prog (storeVar 287 a (.agg #[.int .u64 ((0:UInt64)).toNat,.int .u64 ((0:UInt64)).toNat,.int .u64 ((0:UInt64)).toNat,.int .u64 ((0:UInt64)).toNat,.int .u64 ((0:UInt64)).toNat,.int .u64 xa.toNat,.int .u64 xb.toNat,.int .u64 xc.toNat,.int .u64 xd.toNat,.int .u64 xe.toNat,.int .u64 xa1.toNat,.int .u64 xb1.toNat,.int .u64 xc1.toNat,.int .u64 xd1.toNat,.int .u64 xe1.toNat,.int .u64 ((0:UInt64)).toNat,.int .u64 ((0:UInt64)).toNat,.int .u64 ((0:UInt64)).toNat,.int .u64 ((0:UInt64)).toNat,.int .u64 ((0:UInt64)).toNat])) w3 λw4=>aA x λa1=>∃ xaa xab xac xad xae xba xbb xbc xbd xbe xca xcb xcc xcd xce xda xdb xdc xdd xde:UInt64,Rd w4 a1 (l20 xaa xab xac xad xae xba xbb xbc xbd xbe xca xcb xcc xcd xce xda xdb xdc xdd xde)/\R (.returned (e20 xaa xab xac xad xae xba xbb xbc xbd xbe xca xcb xcc xcd xce xda xdb xdc xdd xde)) w4
theorem qKZ {w:World} {R:RW} (h9:qXQ w R):Calls prog 249 #[] w R:=
 zC (q0 .z (q0 .z .z)) func249 [] h9
def RG (w:World) (v:Value) (w':World):Prop:=∃ (a b c d e:UInt64) (t:Bool),v = .tuple #[e5 a b c d e,.bool t]/\Mod NoB w w'
theorem qVW {Z:Nat->Prop} {w0 w:World} {L:List (Nat×Nat×Bool)} {g:FuncId} {args:List Value} {pan:List PanicEntry->zP} {K:UInt64->UInt64->UInt64->UInt64->UInt64->Bool->zP} (hc:Calls prog g args.toArray w (Ret (RG w))) (h:J Z w0 L w) (hK : ∀ a b c d e t w',J Z w0 L w'->Mod NoB w w'->K a b c d e t w') :
 aD prog g args w pan λv w'=>∃ a:UInt64,∃ b:UInt64,∃ c:UInt64,∃ d:UInt64,∃ e:UInt64,∃ t:Bool,v = .tuple #[e5 a b c d e,.bool t]/\K a b c d e t w':=
 aB hc λv w' ⟨a,b,c,d,e,t,hv,hm⟩=>⟨a,b,c,d,e,t,hv,hK _ _ _ _ _ _ _ (h.mod hm) hm⟩
theorem jBY {Z:Nat->Prop} {w0 w:World} {L:List (Nat×Nat×Bool)} {p:Nat} {i:Int} {pan:List PanicEntry->zP} {K:Bool->zP} (hJ:J Z w0 L w) (hp:(p,1,true)∈L) (hi:0<=i) (hK : ∀ b,K b w) :
 aD prog 352 [.int .i64 i,.pointer (some ⟨p,0,none⟩)] w pan λv w'=>∃ b:Bool,v = .bool b/\K b w':=
 aB (qIW hJ hp hi) λv w' ⟨b,hv,hw⟩=>⟨b,hv,by rw [hw]; exact hK b⟩
def R32 (w:World) (v:Value) (w':World):Prop:=∃ (b:Nat) (l:zY),v = .slice (some ⟨b,0,none⟩) 32 32/\l.length=32/\Blk w' b (bys l) 5/\w.heap.size<=b/\Mod NoB w w'
theorem jGO {w:World} {a:Addr} {n c:Nat} {l:zY} {i:Int} (h:aK w ⟨some a,n,c⟩ 1 (bys l)) (hi:0<=i/\i<n) {K:UInt8->Prop} (hK : ∀ x,K x) : ∃ x:UInt8,(∀ w',Mod NoB w w'->Rd w' (a.add (i.toNat*1)) [.int .u8 x.toNat])/\K x:=by
 have hl:=aV h
 simp only [] at hl
 obtain ⟨a',e,hr⟩:=gL h (i:=i.toNat) (by omega)
 cases e
 exact ⟨_,λw' hm=>hr.mod hm λh=>h,hK _⟩
section
variable {w:World} {a b c d e a' b' c' d' e':UInt64}
theorem qDT {n:Int} {less:UInt64} (hn:0<=n/\n<=1000):Calls prog 298 #[e5 a b c d e,.int .i64 n,.int .u64 less.toNat] w (Ret (RE w)):=by
 refine qLQ _ _ _ _ _ _ _ ?_
 unfold qTU
 have h9:=J.start w
 rw [wrap_i64 (show -9223372036854775808<=n - 1/\n - 1<=9223372036854775807 by omega)]
 repeat' (first | (refine gF (by assumption) λp w' hJ hM=>?_) | (refine jDN (by assumption) λp w' hJ hM=>?_) | (refine cF (by first | exact zi5 | exact zi2 | exact mT | exact kT) (by assumption) λp w' hJ hM=>?_) | (refine iZ (by assumption) (by (try simp only [aO,add0,Nat.zero_add]); rfl) (by (repeat first | exact List.mem_cons_self | assumption | apply List.mem_cons_of_mem); first | done | fail) (by first | omega | (simp only []; omega)) λa b c d e=>?_) | (refine jH (by assumption) (by (try simp only [aO,add0,Nat.zero_add]); rfl) (by (repeat first | exact List.mem_cons_self | assumption | apply List.mem_cons_of_mem); first | done | fail) (by kernel_rfl) (by kernel_rfl) (by omega) λw' hJ hT=>?_) | (refine cN qIY (by assumption) λa b c d e w' hJ hM=>?_) | (refine cN oM (by assumption) λa b c d e w' hJ hM=>?_) | (refine cN rR (by assumption) λa b c d e w' hJ hM=>?_) | (refine jBY (by assumption) (by (repeat first | exact List.mem_cons_self | apply List.mem_cons_of_mem); first | done | fail) (by omega) λt=>?_) | (refine jBP 1000 (by assumption) (by omega) λx w' hi hJ=>?_) | exact ⟨_,_,_,_,_,rfl,J.m (by assumption)⟩ | (refine aC (λhb=>?_) λhb=>?_ <;> try simp at hb) | exact jEF (by assumption) (by intro q hq; (repeat first | exact hq | apply List.mem_cons_of_mem); first | done | fail) (by omega) (by omega) | (simp (disch:=omega) only [wrap_i64]))
theorem qHG:Calls prog 245 #[e5 a b c d e] w (Ret (RE w)):=by
 refine qSH _ _ _ _ _ ?_
 unfold qXZ
 have h9:=J.start w
 repeat' (first | (refine gF (by assumption) λp w' hJ hM=>?_) | (refine cF (by first | exact zi5 | exact zi2 | exact mT | exact kT) (by assumption) λp w' hJ hM=>?_) | (refine iZ (by assumption) (by (try simp only [aO,add0,Nat.zero_add]); rfl) (by (repeat first | exact List.mem_cons_self | assumption | apply List.mem_cons_of_mem); first | done | fail) (by first | omega | (simp only []; omega)) λa b c d e=>?_) | (refine jH (by assumption) (by (try simp only [aO,add0,Nat.zero_add]); rfl) (by (repeat first | exact List.mem_cons_self | assumption | apply List.mem_cons_of_mem); first | done | fail) (by kernel_rfl) (by kernel_rfl) (by omega) λw' hJ hT=>?_) | (refine cN (qDT (by omega)) (by assumption) λa b c d e w' hJ hM=>?_) | exact ⟨_,_,_,_,_,rfl,J.m (by assumption)⟩)
theorem qXM:Calls prog 248 #[e5 a b c d e] w (Ret (RB1 w)):=by
 refine qLG _ _ _ _ _ ?_
 unfold qWS
 have h9:=J.start w
 repeat' (first | (refine gF (by assumption) λp w' hJ hM=>?_) | (refine iZ (by assumption) (by (try simp only [aO,add0,Nat.zero_add]); rfl) (by (repeat first | exact List.mem_cons_self | assumption | apply List.mem_cons_of_mem); first | done | fail) (by first | omega | (simp only []; omega)) λa b c d e=>?_) | (refine cN fZ (by assumption) λa b c d e w' hJ hM=>?_) | (refine And.intro (by intro z hz; simp only [List.mem_cons,List.not_mem_nil,or_false] at hz; rcases hz with rfl | rfl | rfl | rfl | rfl <;> rfl) ?_) | (refine ⟨_,rfl,?_⟩) | (refine And.intro (by first | omega | (simp only []; omega)) ?_) | assumption | (refine Mod.tr ?_ (by assumption)))
theorem jCJ:Calls prog 357 #[e5 a b c d e,e5 a' b' c' d' e'] w (Ret (RB1 w)):=by
 refine qLF _ _ _ _ _ _ _ _ _ _ ?_
 unfold qYA
 have h9:=J.start w
 repeat' (first | (refine gF (by assumption) λp w' hJ hM=>?_) | (refine oG (by assumption) (by (try simp only [aO,add0,Nat.zero_add]); rfl) (by (repeat first | exact List.mem_cons_self | assumption | apply List.mem_cons_of_mem); first | done | fail) (by first | omega | (simp only []; omega)) λa b c d e=>?_) | (refine cN fZ (by assumption) λa b c d e w' hJ hM=>?_) | (refine eqJ (.inl rfl) λt=>?_) | exact ⟨_,rfl,J.m (by assumption)⟩ | (refine And.intro ?_ trivial) | (refine And.intro (by first | omega | (simp only []; omega)) ?_) | (refine dT (by assumption) λhJ=>?_) | (refine And.intro (by (repeat first | assumption | exact Mod.refl _ _ | refine Mod.tr ?_ (by assumption) | refine Mod.fresh ?_ (by assumption) (by rintro x rfl; assumption)); first | done | fail) ?_))
theorem jAO:Calls prog 316 #[e5 a b c d e] w (Ret (RB1 w)):=by
 refine qNY _ _ _ _ _ ?_
 unfold qVM
 have h9:=J.start w
 repeat' (first | (refine gF (by assumption) λp w' hJ hM=>?_) | (refine iZ (by assumption) (by (try simp only [aO,add0,Nat.zero_add]); rfl) (by (repeat first | exact List.mem_cons_self | assumption | apply List.mem_cons_of_mem); first | done | fail) (by first | omega | (simp only []; omega)) λa b c d e=>?_) | (refine cN fZ (by assumption) λa b c d e w' hJ hM=>?_) | (refine eqJ (.inl rfl) λt=>?_) | exact ⟨_,rfl,J.m (by assumption)⟩)
theorem jDK {x:Slc} {l:zY} (hx:aK w x 1 (bys l)):Calls prog 314 #[.slice x.a x.len x.cap] w (Ret (RG w)):=by
 refine qOC _ ?_
 unfold qVZ
 have h9:=J.start w
 refine cF zi5 h9 λp w1 k3 hM=>?_
 refine cF zi5 k3 λq w2 k4 hM=>?_
 refine aC (λ_=>?_) λhb=>?_
 ·skip
  repeat' (first | (refine iZ (by assumption) (by (try simp only [aO,add0,Nat.zero_add]); rfl) (by (repeat first | exact List.mem_cons_self | assumption | apply List.mem_cons_of_mem); first | done | fail) (by first | omega | (simp only []; omega)) λa b c d e=>?_) | (refine jH (by assumption) (by (try simp only [aO,add0,Nat.zero_add]); rfl) (by (repeat first | exact List.mem_cons_self | assumption | apply List.mem_cons_of_mem); first | done | fail) (by kernel_rfl) (by kernel_rfl) (by omega) λw' hJ hT=>?_) | exact ⟨_,_,_,_,_,_,rfl,J.m (by assumption)⟩)
 ·have hb:x.len=32:=by have:=hb; simp at this; omega
  obtain ⟨xa,xl,xc⟩:=x
  simp only [] at hb
  subst hb
  obtain ⟨A,hA,_⟩:=gL hx (i:=0) (by have:=aV hx; simp only [] at this; omega)
  simp only [] at hA
  subst hA
  refine qAU 255 (by assumption) (by omega) λx w' hi hJ=>?_
  have k5:aK w'.drew ⟨some A,32,xc⟩ 1 (bys l):=hx.mod hJ.drew.m λ_ _ h=>h
  refine aC (λhb=>?_) λhb=>?_
  ·simp at hb
   have e8:zW (Int.tdiv x 8)=x / 8:=by rw [Int.tdiv_eq_ediv_of_nonneg (by omega),wrap_i64 (by omega)]
   have e51:zW (Int.tdiv x 51)=x / 51:=by rw [Int.tdiv_eq_ediv_of_nonneg (by omega),wrap_i64 (by omega)]
   rw [e8,e51]
   repeat' (first | (refine iH (by assumption) (by (repeat first | exact List.mem_cons_self | assumption | apply List.mem_cons_of_mem); first | done | fail) (by first | omega | (simp only []; omega)) λx=>?_) | (refine pN (by assumption) (by (repeat first | exact List.mem_cons_self | assumption | apply List.mem_cons_of_mem); first | done | fail) (by omega) (by kernel_rfl) (by kernel_rfl) λw' hJ hT=>?_) | (refine jGO (by assumption) (by omega) λy=>?_) | (refine And.intro ?_ trivial) | (refine And.intro (Int.tmod_nonneg _ (by omega)) ?_) | (refine And.intro (by first | omega | (simp only []; omega)) ?_) | (refine dT (by assumption) λhJ=>?_) | exact qHM (by assumption) (by intro q hq; (repeat first | exact hq | apply List.mem_cons_of_mem); first | done | fail) (by omega) (by omega) | (simp (disch:=omega) only [wrap_i64]))
  ·skip
   repeat' (first | (refine iZ (by assumption) (by (try simp only [aO,add0,Nat.zero_add]); rfl) (by (repeat first | exact List.mem_cons_self | assumption | apply List.mem_cons_of_mem); first | done | fail) (by first | omega | (simp only []; omega)) λa b c d e=>?_) | (refine oG (by assumption) (by (try simp only [aO,add0,Nat.zero_add]); rfl) (by (repeat first | exact List.mem_cons_self | assumption | apply List.mem_cons_of_mem); first | done | fail) (by first | omega | (simp only []; omega)) λa b c d e=>?_) | (refine jH (by assumption) (by (try simp only [aO,add0,Nat.zero_add]); rfl) (by (repeat first | exact List.mem_cons_self | assumption | apply List.mem_cons_of_mem); first | done | fail) (by kernel_rfl) (by kernel_rfl) (by omega) λw' hJ hT=>?_) | (refine jGO (by assumption) (by omega) λy=>?_) | (refine cN fZ (by assumption) λa b c d e w' hJ hM=>?_) | (refine qHE (by assumption) ?_ ?_) | (refine λ(_:Bool) (w:World) (hJ:J _ _ _ w)=>?_) | (refine eqJ (.inr rfl) λt=>?_) | (exact J.sub (by assumption) (by intro q hq; first | exact hq | (apply List.mem_cons_of_mem; exact hq))) | exact ⟨_,_,_,_,_,_,rfl,J.m (by assumption)⟩ | (refine aC (λhb=>?_) λhb=>?_ <;> try simp at hb) | (refine And.intro ?_ trivial) | (refine And.intro (Int.natCast_nonneg _) ?_) | (refine And.intro (by first | omega | (simp only []; omega)) ?_) | (refine dT (by assumption) λhJ=>?_) | (refine And.intro (by (repeat first | assumption | exact Mod.refl _ _ | refine Mod.tr ?_ (by assumption) | refine Mod.fresh ?_ (by assumption) (by rintro x rfl; assumption)); first | done | fail) ?_))
end
theorem qUG {l:List UInt64} (h:l.length=20) : ∃ x0:UInt64,∃ x1:UInt64,∃ x2:UInt64,∃ x3:UInt64,∃ x4:UInt64,∃ x5:UInt64,∃ x6:UInt64,∃ x7:UInt64,∃ x8:UInt64,∃ x9:UInt64,∃ x10:UInt64,∃ x11:UInt64,∃ x12:UInt64,∃ x13:UInt64,∃ x14:UInt64,∃ x15:UInt64,∃ x16:UInt64,∃ x17:UInt64,∃ x18:UInt64,∃ x19:UInt64,l=[x0,x1,x2,x3,x4,x5,x6,x7,x8,x9,x10,x11,x12,x13,x14,x15,x16,x17,x18,x19]:=by
 match l,h with
 | [x0,x1,x2,x3,x4,x5,x6,x7,x8,x9,x10,x11,x12,x13,x14,x15,x16,x17,x18,x19],_=>exact ⟨x0,x1,x2,x3,x4,x5,x6,x7,x8,x9,x10,x11,x12,x13,x14,x15,x16,x17,x18,x19,rfl⟩
def RP (w:World) (v:Value) (w':World):Prop:=∃ x0:UInt64,∃ x1:UInt64,∃ x2:UInt64,∃ x3:UInt64,∃ x4:UInt64,∃ x5:UInt64,∃ x6:UInt64,∃ x7:UInt64,∃ x8:UInt64,∃ x9:UInt64,∃ x10:UInt64,∃ x11:UInt64,∃ x12:UInt64,∃ x13:UInt64,∃ x14:UInt64,∃ x15:UInt64,∃ x16:UInt64,∃ x17:UInt64,∃ x18:UInt64,∃ x19:UInt64,v=e20 x0 x1 x2 x3 x4 x5 x6 x7 x8 x9 x10 x11 x12 x13 x14 x15 x16 x17 x18 x19/\Mod NoB w w'
def RPB (w:World) (v:Value) (w':World):Prop:=∃ x0:UInt64,∃ x1:UInt64,∃ x2:UInt64,∃ x3:UInt64,∃ x4:UInt64,∃ x5:UInt64,∃ x6:UInt64,∃ x7:UInt64,∃ x8:UInt64,∃ x9:UInt64,∃ x10:UInt64,∃ x11:UInt64,∃ x12:UInt64,∃ x13:UInt64,∃ x14:UInt64,∃ x15:UInt64,∃ x16:UInt64,∃ x17:UInt64,∃ x18:UInt64,∃ x19:UInt64,∃ t:Bool,v = .tuple #[e20 x0 x1 x2 x3 x4 x5 x6 x7 x8 x9 x10 x11 x12 x13 x14 x15 x16 x17 x18 x19,.bool t]/\Mod NoB w w'
theorem kT:ZI prog 287 20:=by
 obtain ⟨i,h1,h2,_,_⟩:=bC (P:=prog) (T:=287) (z:=.agg #[.int .u64 0,.int .u64 0,.int .u64 0,.int .u64 0,.int .u64 0,.int .u64 0,.int .u64 0,.int .u64 0,.int .u64 0,.int .u64 0,.int .u64 0,.int .u64 0,.int .u64 0,.int .u64 0,.int .u64 0,.int .u64 0,.int .u64 0,.int .u64 0,.int .u64 0,.int .u64 0]) (n:=20) (m:=160) (by kernel_rfl) (by kernel_rfl) (by kernel_rfl)
 exact ⟨i,_,h1,h2,rfl⟩
theorem jFX:ZI prog 355 20:=by
 obtain ⟨i,h1,h2,_,_⟩:=bC (P:=prog) (T:=355) (z:=.agg #[.int .u64 0,.int .u64 0,.int .u64 0,.int .u64 0,.int .u64 0,.int .u64 0,.int .u64 0,.int .u64 0,.int .u64 0,.int .u64 0,.int .u64 0,.int .u64 0,.int .u64 0,.int .u64 0,.int .u64 0,.int .u64 0,.int .u64 0,.int .u64 0,.int .u64 0,.int .u64 0]) (n:=20) (m:=160) (by kernel_rfl) (by kernel_rfl) (by kernel_rfl)
 exact ⟨i,_,h1,h2,rfl⟩
section
variable {Z:Nat->Prop} {w0 w w':World} {L:List (Nat×Nat×Bool)} {t:Bool} {p n:Nat} {A:Addr} {T:TypeId} {K:zP}
theorem pZ (hJ:J Z w0 L w) {o:Nat} (hA:A=⟨p,o,none⟩) (hp:(p,n,t)∈L) (ho:o+20<=n) {K:UInt64->UInt64->UInt64->UInt64->UInt64->UInt64->UInt64->UInt64->UInt64->UInt64->UInt64->UInt64->UInt64->UInt64->UInt64->UInt64->UInt64->UInt64->UInt64->UInt64->Prop} (hK : ∀ x0 x1 x2 x3 x4 x5 x6 x7 x8 x9 x10 x11 x12 x13 x14 x15 x16 x17 x18 x19,K x0 x1 x2 x3 x4 x5 x6 x7 x8 x9 x10 x11 x12 x13 x14 x15 x16 x17 x18 x19) : ∃ x0:UInt64,∃ x1:UInt64,∃ x2:UInt64,∃ x3:UInt64,∃ x4:UInt64,∃ x5:UInt64,∃ x6:UInt64,∃ x7:UInt64,∃ x8:UInt64,∃ x9:UInt64,∃ x10:UInt64,∃ x11:UInt64,∃ x12:UInt64,∃ x13:UInt64,∃ x14:UInt64,∃ x15:UInt64,∃ x16:UInt64,∃ x17:UInt64,∃ x18:UInt64,∃ x19:UInt64,Rd w A (l20 x0 x1 x2 x3 x4 x5 x6 x7 x8 x9 x10 x11 x12 x13 x14 x15 x16 x17 x18 x19)/\K x0 x1 x2 x3 x4 x5 x6 x7 x8 x9 x10 x11 x12 x13 x14 x15 x16 x17 x18 x19:=by
 obtain ⟨m,h1,h2⟩:=hJ.rd hp (k:=20) ho
 obtain ⟨x0,x1,x2,x3,x4,x5,x6,x7,x8,x9,x10,x11,x12,x13,x14,x15,x16,x17,x18,x19,rfl⟩:=qUG h1
 subst hA
 exact ⟨x0,x1,x2,x3,x4,x5,x6,x7,x8,x9,x10,x11,x12,x13,x14,x15,x16,x17,x18,x19,h2 w (Mod.refl _ _),hK _ _ _ _ _ _ _ _ _ _ _ _ _ _ _ _ _ _ _ _⟩
theorem oT {x0 x1 x2 x3 x4 x5 x6 x7 x8 x9 x10 x11 x12 x13 x14 x15 x16 x17 x18 x19:UInt64} (hJ:J Z w0 L w) {o:Nat} (hA:A=⟨p,o,none⟩) (hp:(p,n,true)∈L) (hi:(prog.info? T).isSome=true) (hsz:bE prog T=20) (ho:o+20<=n) (hK : ∀ w',J Z w0 L w'->Mod (λx=>x=p) w w'->K w') :
 aJ prog (storeVar T A (e20 x0 x1 x2 x3 x4 x5 x6 x7 x8 x9 x10 x11 x12 x13 x14 x15 x16 x17 x18 x19)) w K:=stJ [x0,x1,x2,x3,x4,x5,x6,x7,x8,x9,x10,x11,x12,x13,x14,x15,x16,x17,x18,x19] hJ hA hp hi hsz rfl ho hK
theorem qAL {x0 x1 x2 x3 x4 x5 x6 x7 x8 x9 x10 x11 x12 x13 x14 x15 x16 x17 x18 x19:UInt64} (h:J Z w0 L w) {K:zO->zP} (hK : ∀ p w',J Z w0 ((p,20,true) :: L) w'->Mod NoB w w'->K (some ⟨p,0,none⟩) w') :
 aH prog (Instr.box T (e20 x0 x1 x2 x3 x4 x5 x6 x7 x8 x9 x10 x11 x12 x13 x14 x15 x16 x17 x18 x19)) w λv w'=>∃ a:zO,v = .pointer a/\K a w':=qOM [x0,x1,x2,x3,x4,x5,x6,x7,x8,x9,x10,x11,x12,x13,x14,x15,x16,x17,x18,x19] h rfl rfl hK
theorem qJD {g:FuncId} {args:List Value} {pan:List PanicEntry->zP} {K:UInt64->UInt64->UInt64->UInt64->UInt64->UInt64->UInt64->UInt64->UInt64->UInt64->UInt64->UInt64->UInt64->UInt64->UInt64->UInt64->UInt64->UInt64->UInt64->UInt64->zP} (hc:Calls prog g args.toArray w (Ret (RP w))) (h:J Z w0 L w) (hK : ∀ x0 x1 x2 x3 x4 x5 x6 x7 x8 x9 x10 x11 x12 x13 x14 x15 x16 x17 x18 x19 w',J Z w0 L w'->Mod NoB w w'->K x0 x1 x2 x3 x4 x5 x6 x7 x8 x9 x10 x11 x12 x13 x14 x15 x16 x17 x18 x19 w') :
 aD prog g args w pan λv w'=>∃ x0:UInt64,∃ x1:UInt64,∃ x2:UInt64,∃ x3:UInt64,∃ x4:UInt64,∃ x5:UInt64,∃ x6:UInt64,∃ x7:UInt64,∃ x8:UInt64,∃ x9:UInt64,∃ x10:UInt64,∃ x11:UInt64,∃ x12:UInt64,∃ x13:UInt64,∃ x14:UInt64,∃ x15:UInt64,∃ x16:UInt64,∃ x17:UInt64,∃ x18:UInt64,∃ x19:UInt64,v=e20 x0 x1 x2 x3 x4 x5 x6 x7 x8 x9 x10 x11 x12 x13 x14 x15 x16 x17 x18 x19/\K x0 x1 x2 x3 x4 x5 x6 x7 x8 x9 x10 x11 x12 x13 x14 x15 x16 x17 x18 x19 w':=
 aB hc λv w' ⟨x0,x1,x2,x3,x4,x5,x6,x7,x8,x9,x10,x11,x12,x13,x14,x15,x16,x17,x18,x19,hv,hm⟩=>⟨x0,x1,x2,x3,x4,x5,x6,x7,x8,x9,x10,x11,x12,x13,x14,x15,x16,x17,x18,x19,hv,hK _ _ _ _ _ _ _ _ _ _ _ _ _ _ _ _ _ _ _ _ _ (h.mod hm) hm⟩
theorem qZC {g:FuncId} {args:List Value} {pan:List PanicEntry->zP} {K:UInt64->UInt64->UInt64->UInt64->UInt64->UInt64->UInt64->UInt64->UInt64->UInt64->UInt64->UInt64->UInt64->UInt64->UInt64->UInt64->UInt64->UInt64->UInt64->UInt64->Bool->zP} (hc:Calls prog g args.toArray w (Ret (RPB w))) (h:J Z w0 L w) (hK : ∀ x0 x1 x2 x3 x4 x5 x6 x7 x8 x9 x10 x11 x12 x13 x14 x15 x16 x17 x18 x19 b w',J Z w0 L w'->Mod NoB w w'->K x0 x1 x2 x3 x4 x5 x6 x7 x8 x9 x10 x11 x12 x13 x14 x15 x16 x17 x18 x19 b w') :
 aD prog g args w pan λv w'=>∃ x0:UInt64,∃ x1:UInt64,∃ x2:UInt64,∃ x3:UInt64,∃ x4:UInt64,∃ x5:UInt64,∃ x6:UInt64,∃ x7:UInt64,∃ x8:UInt64,∃ x9:UInt64,∃ x10:UInt64,∃ x11:UInt64,∃ x12:UInt64,∃ x13:UInt64,∃ x14:UInt64,∃ x15:UInt64,∃ x16:UInt64,∃ x17:UInt64,∃ x18:UInt64,∃ x19:UInt64,∃ b:Bool,v = .tuple #[e20 x0 x1 x2 x3 x4 x5 x6 x7 x8 x9 x10 x11 x12 x13 x14 x15 x16 x17 x18 x19,.bool b]/\K x0 x1 x2 x3 x4 x5 x6 x7 x8 x9 x10 x11 x12 x13 x14 x15 x16 x17 x18 x19 b w':=
 aB hc λv w' ⟨x0,x1,x2,x3,x4,x5,x6,x7,x8,x9,x10,x11,x12,x13,x14,x15,x16,x17,x18,x19,b,hv,hm⟩=>⟨x0,x1,x2,x3,x4,x5,x6,x7,x8,x9,x10,x11,x12,x13,x14,x15,x16,x17,x18,x19,b,hv,hK _ _ _ _ _ _ _ _ _ _ _ _ _ _ _ _ _ _ _ _ _ _ (h.mod hm) hm⟩
end
section
variable {w:World} {a b c d e a' b' c' d' e':UInt64}
theorem jCE:Calls prog 246 #[e5 a b c d e] w (Ret (R32 w)):=by
 refine qPL _ _ _ _ _ ?_
 unfold qUT
 have p8:=J.start w
 obtain ⟨u2,p9,q8,q9,t6⟩:=i5
 refine gF p8 λp w1 k3 hM=>?_
 refine iZ k3 (o:=0) rfl List.mem_cons_self (by omega) λa b c d e=>?_
 refine cN fZ k3 λa b c d e w2 t7 hM=>?_
 refine jH t7 (o:=0) rfl List.mem_cons_self (by kernel_rfl) (by kernel_rfl) (by omega) λw3 h9 hT=>?_
 refine bW u26 p9 q8 q9 rfl t6 (l:=32) (c:=32) rfl rfl (by omega) (by omega) (by omega) λq w4 hN hb ho=>⟨⟨some ⟨q,0,none⟩,32,32⟩,rfl,?_⟩
 rw [kI] at hb
 have u0:=h9.mod hN.mod
 have k4:w.heap.size<=q:=by have:=hN.at_; have:=h9.m.size; omega
 have u1:p≠q:=by have:=hN.at_; have:=(h9.2 _ List.mem_cons_self).2.1; simp only [] at this; omega
 refine ⟨λl w'=>match l with | [.i _ x]=>(0<=x/\x<=255)/\J NoB w [(p,5,true)] w'/\∃ l,l.length=32/\Blk w' q (bys l) 5 | _=>False,λl _=>match l with | [.i _ x]=>(255 - x).toNat | _=>0,⟨by omega,u0,_,by simp,hb⟩,?_⟩
 rintro x w5 ⟨hi,hJ,l,hl,hbl⟩
 refine aC (λhx=>?_) λhx=>?_
 ·have hx:x<255:=by simpa using hx
  have e8:zW (Int.tdiv x 8)=x / 8:=by rw [Int.tdiv_eq_ediv_of_nonneg (by omega),wrap_i64 (by omega)]
  have e51:zW (Int.tdiv x 51)=x / 51:=by rw [Int.tdiv_eq_ediv_of_nonneg (by omega),wrap_i64 (by omega)]
  rw [e8,e51,wrap_i64 (show -9223372036854775808<=x+1/\x+1<=9223372036854775807 by omega)]
  refine dT hJ λk5=>?_
  refine ⟨by omega,⟨by omega,by simp only []; omega⟩,⟨by omega,⟨by omega,by omega⟩,?_⟩⟩
  refine ⟨by omega,by omega,?_⟩
  have hlt:(x / 8).toNat<l.length:=by omega
  refine ⟨_,λw' hm=>rda (hbl.drew.no hm) (zZ hlt),?_⟩
  refine iH k5 List.mem_cons_self (by omega) λy=>?_
  refine ⟨Int.tmod_nonneg _ (by omega),Int.tmod_nonneg _ (by omega),⟨by omega,by simp only []; omega⟩,?_,trivial⟩
  refine iX (b:=q) (n:=(x / 8).toNat) (by kernel_rfl) (by kernel_rfl) rfl hbl.drew (by simpa [bys] using hlt) λw6 ht k6=>?_
  rw [fU] at k6
  exact ⟨⟨by omega,k5.other ht.mod (λx e=>by subst e; exact k4) (λz hz e=>by simp at hz; subst hz; exact u1 e),_,by simp [hl],k6⟩,by (try simp only []); omega⟩
 ·exact ⟨q,l,rfl,hl,hbl,k4,hJ.m⟩
theorem jAB:Calls prog 315 #[e5 a b c d e,e5 a' b' c' d' e'] w (Ret (RG w)):=by
 refine qRU _ _ _ _ _ _ _ _ _ _ ?_
 unfold qTI
 have h9:=J.start w
 repeat' (first | (refine gF (by assumption) λp w' hJ hM=>?_) | (refine cF (by first | exact zi5 | exact zi2 | exact mT | exact kT) (by assumption) λp w' hJ hM=>?_) | (refine iZ (by assumption) (by (try simp only [aO,add0,Nat.zero_add]); rfl) (by (repeat first | exact List.mem_cons_self | assumption | apply List.mem_cons_of_mem); first | done | fail) (by first | omega | (simp only []; omega)) λa b c d e=>?_) | (refine oG (by assumption) (by (try simp only [aO,add0,Nat.zero_add]); rfl) (by (repeat first | exact List.mem_cons_self | assumption | apply List.mem_cons_of_mem); first | done | fail) (by first | omega | (simp only []; omega)) λa b c d e=>?_) | (refine jH (by assumption) (by (try simp only [aO,add0,Nat.zero_add]); rfl) (by (repeat first | exact List.mem_cons_self | assumption | apply List.mem_cons_of_mem); first | done | fail) (by kernel_rfl) (by kernel_rfl) (by omega) λw' hJ hT=>?_) | (refine cN rR (by assumption) λa b c d e w' hJ hM=>?_) | (refine cN oM (by assumption) λa b c d e w' hJ hM=>?_) | (refine cN qHL (by assumption) λa b c d e w' hJ hM=>?_) | (refine cN (qDT (by omega)) (by assumption) λa b c d e w' hJ hM=>?_) | (refine qDH jCJ (by assumption) λt w' hJ hM=>?_) | (refine qDH qXM (by assumption) λt w' hJ hM=>?_) | (refine qCD 5 (by assumption) ?_) | exact ⟨_,_,_,_,_,_,rfl,J.m (by assumption)⟩ | (refine aC (λhb=>?_) λhb=>?_ <;> try simp at hb) | (refine And.intro ?_ trivial) | (refine And.intro (by first | omega | (simp only []; omega)) ?_) | (refine dT (by assumption) λhJ=>?_) | (refine And.intro (by (repeat first | assumption | exact Mod.refl _ _ | refine Mod.tr ?_ (by assumption) | refine Mod.fresh ?_ (by assumption) (by rintro x rfl; assumption)); first | done | fail) ?_) | (refine qCF (by assumption) (λw hJ hM=>?_) ?_) | (refine qRT (by assumption) λp w hJ hN hM=>?_) | (refine λ(_:TS _ _ _ _ _)=>?_) | (refine λ(_:UInt64)=>?_) | exact TS.ptr (by assumption) | assumption | (refine Mod.tr ?_ (by assumption)) | (simp (disch:=omega) only [wrap_i64]) | (refine qHE (by assumption) ?_ ?_) | (refine λ(w:World) (hJ:J _ _ _ w)=>?_) | exact J.sub (by assumption) (by intro q hq; (repeat first | exact hq | apply List.mem_cons_of_mem); first | done | fail))
theorem qNS:Calls prog 249 #[] w (Ret (RP w)):=by
 refine qKZ ?_
 unfold qXQ
 have h9:=J.start w
 repeat' (first | (refine cF (by first | exact zi5 | exact zi2 | exact mT | exact kT) (by assumption) λp w' hJ hM=>?_) | (refine cN qIY (by assumption) λa b c d e w' hJ hM=>?_) | (refine pZ (by assumption) (by (try simp only [aO,add0,Nat.zero_add]); rfl) (by (repeat first | exact List.mem_cons_self | assumption | apply List.mem_cons_of_mem); first | done | fail) (by omega) λx0 x1 x2 x3 x4 x5 x6 x7 x8 x9 x10 x11 x12 x13 x14 x15 x16 x17 x18 x19=>?_) | (refine oT (by assumption) (by (try simp only [aO,add0,Nat.zero_add]); rfl) (by (repeat first | exact List.mem_cons_self | assumption | apply List.mem_cons_of_mem); first | done | fail) (by kernel_rfl) (by kernel_rfl) (by omega) λw' hJ hT=>?_) | exact ⟨_,_,_,_,_,_,_,_,_,_,_,_,_,_,_,_,_,_,_,_,rfl,J.m (by assumption)⟩)
theorem qJN {x0 x1 x2 x3 x4 x5 x6 x7 x8 x9 x10 x11 x12 x13 x14 x15 x16 x17 x18 x19:UInt64} : Calls prog 311 #[e5 x0 x1 x2 x3 x4,e5 x5 x6 x7 x8 x9,e5 x10 x11 x12 x13 x14,e5 x15 x16 x17 x18 x19] w (Ret (RP w)):=by
 refine qSC _ _ _ _ _ _ _ _ _ _ _ _ _ _ _ _ _ _ _ _ ?_
 unfold qWD
 have h9:=J.start w
 repeat' (first | (refine gF (by assumption) λp w' hJ hM=>?_) | (refine cF (by first | exact zi5 | exact zi2 | exact mT | exact kT) (by assumption) λp w' hJ hM=>?_) | (refine oG (by assumption) (by (try simp only [aO,add0,Nat.zero_add]); rfl) (by (repeat first | exact List.mem_cons_self | assumption | apply List.mem_cons_of_mem); first | done | fail) (by first | omega | (simp only []; omega)) λa b c d e=>?_) | (refine cN rR (by assumption) λa b c d e w' hJ hM=>?_) | (refine pZ (by assumption) (by (try simp only [aO,add0,Nat.zero_add]); rfl) (by (repeat first | exact List.mem_cons_self | assumption | apply List.mem_cons_of_mem); first | done | fail) (by omega) λx0 x1 x2 x3 x4 x5 x6 x7 x8 x9 x10 x11 x12 x13 x14 x15 x16 x17 x18 x19=>?_) | (refine oT (by assumption) (by (try simp only [aO,add0,Nat.zero_add]); rfl) (by (repeat first | exact List.mem_cons_self | assumption | apply List.mem_cons_of_mem); first | done | fail) (by kernel_rfl) (by kernel_rfl) (by omega) λw' hJ hT=>?_) | exact ⟨_,_,_,_,_,_,_,_,_,_,_,_,_,_,_,_,_,_,_,_,rfl,J.m (by assumption)⟩ | (refine And.intro ?_ trivial) | (refine And.intro (by first | omega | (simp only []; omega)) ?_) | (refine dT (by assumption) λhJ=>?_) | (refine And.intro (by (repeat first | assumption | exact Mod.refl _ _ | refine Mod.tr ?_ (by assumption) | refine Mod.fresh ?_ (by assumption) (by rintro x rfl; assumption)); first | done | fail) ?_))
end
section
variable {w w0:World} {s:Nat}
theorem qHR (hT:TB w (s,20)):Calls prog 252 #[.pointer (some ⟨s,0,none⟩)] w (Ret (RU s 20 w)):=by
 refine qQP _ ?_
 unfold qWG
 have hJ:J (λx=>x=s) w [(s,20,true)] w:=⟨Mod.refl _ _,λq hq=>by simp at hq; subst hq; exact ⟨λ_=>⟨.inl rfl,hT⟩,hT.r⟩⟩
 repeat' (first | (refine cF (by first | exact zi5 | exact zi2 | exact mT | exact kT) (by assumption) λp w' hJ hM=>?_) | (refine iZ (by assumption) (by (try simp only [aO,add0,Nat.zero_add]); rfl) (by (repeat first | exact List.mem_cons_self | assumption | apply List.mem_cons_of_mem); first | done | fail) (by first | omega | (simp only []; omega)) λa b c d e=>?_) | (refine oG (by assumption) (by (try simp only [aO,add0,Nat.zero_add]); rfl) (by (repeat first | exact List.mem_cons_self | assumption | apply List.mem_cons_of_mem); first | done | fail) (by first | omega | (simp only []; omega)) λa b c d e=>?_) | (refine jH (by assumption) (by (try simp only [aO,add0,Nat.zero_add]); rfl) (by (repeat first | exact List.mem_cons_self | assumption | apply List.mem_cons_of_mem); first | done | fail) (by kernel_rfl) (by kernel_rfl) (by omega) λw' hJ hT=>?_) | (refine cN oM (by assumption) λa b c d e w' hJ hM=>?_) | (refine cN qKG (by assumption) λa b c d e w' hJ hM=>?_) | (refine cN qDG (by assumption) λa b c d e w' hJ hM=>?_) | (refine cN qHL (by assumption) λa b c d e w' hJ hM=>?_) | (refine oT (by assumption) (by (try simp only [aO,add0,Nat.zero_add]); rfl) (by (repeat first | exact List.mem_cons_self | assumption | apply List.mem_cons_of_mem); first | done | fail) (by kernel_rfl) (by kernel_rfl) (by omega) λw' hJ hT=>?_) | exact ⟨rfl,J.m (by assumption),J.tb (by assumption) (by (repeat first | exact List.mem_cons_self | assumption | apply List.mem_cons_of_mem); first | done | fail)⟩ | (refine qCD 5 (by assumption) ?_) | (refine qJD qJN (by assumption) λx0 x1 x2 x3 x4 x5 x6 x7 x8 x9 x10 x11 x12 x13 x14 x15 x16 x17 x18 x19 w' hJ hM=>?_) | (refine And.intro ?_ trivial) | (refine And.intro (by first | omega | (simp only []; omega)) ?_) | (refine dT (by assumption) λhJ=>?_) | (refine And.intro (by (repeat first | assumption | exact Mod.refl _ _ | refine Mod.tr ?_ (by assumption) | refine Mod.fresh ?_ (by assumption) (by rintro x rfl; assumption)); first | done | fail) ?_) | (refine qCF (by assumption) (λw hJ hM=>?_) ?_) | (refine qRT (by assumption) λp w hJ hN hM=>?_) | (refine λ(hts:TS _ _ _ (Value.pointer _) _)=>?_; obtain ⟨p,rfl,hN,hT⟩:=hts; have hJ:=TS.add hT hN (by assumption) (by assumption); clear hT) | (refine λ(_:zO)=>?_) | (refine λ(_:TS _ _ _ _ _)=>?_) | (refine λ(_:UInt64)=>?_) | exact TS.ptr (by assumption) | assumption | (refine Mod.tr ?_ (by assumption)))
theorem qZM {x0 x1 x2 x3 x4 x5 x6 x7 x8 x9 x10 x11 x12 x13 x14 x15 x16 x17 x18 x19:UInt64} (hT:TB w (s,20)) (hg:TR w (1,5)):Calls prog 253 #[.pointer (some ⟨s,0,none⟩),e20 x0 x1 x2 x3 x4 x5 x6 x7 x8 x9 x10 x11 x12 x13 x14 x15 x16 x17 x18 x19] w (Ret (RU s 20 w)):=by
 refine qOJ _ _ _ _ _ _ _ _ _ _ _ _ _ _ _ _ _ _ _ _ _ ?_
 unfold qYP
 have hJ:J (λx=>x=s) w [(s,20,true),(1,5,false)] w:=⟨Mod.refl _ _,λq hq=>by
  simp at hq
  rcases hq with rfl | rfl
  ·exact ⟨λ_=>⟨.inl rfl,hT⟩,hT.r⟩
  ·exact ⟨λh=>(by cases h),hg⟩⟩
 repeat' (first | (refine cF (by first | exact zi5 | exact zi2 | exact mT | exact kT) (by assumption) λp w' hJ hM=>?_) | (refine iZ (by assumption) (by (try simp only [aO,add0,Nat.zero_add]); rfl) (by (repeat first | exact List.mem_cons_self | assumption | apply List.mem_cons_of_mem); first | done | fail) (by first | omega | (simp only []; omega)) λa b c d e=>?_) | (refine oG (by assumption) (by (try simp only [aO,add0,Nat.zero_add]); rfl) (by (repeat first | exact List.mem_cons_self | assumption | apply List.mem_cons_of_mem); first | done | fail) (by first | omega | (simp only []; omega)) λa b c d e=>?_) | (refine jH (by assumption) (by (try simp only [aO,add0,Nat.zero_add]); rfl) (by (repeat first | exact List.mem_cons_self | assumption | apply List.mem_cons_of_mem); first | done | fail) (by kernel_rfl) (by kernel_rfl) (by omega) λw' hJ hT=>?_) | (refine cN rR (by assumption) λa b c d e w' hJ hM=>?_) | (refine cN qKG (by assumption) λa b c d e w' hJ hM=>?_) | (refine cN qDG (by assumption) λa b c d e w' hJ hM=>?_) | (refine qAL (by assumption) λp w' hJ hM=>?_) | (refine oT (by assumption) (by (try simp only [aO,add0,Nat.zero_add]); rfl) (by (repeat first | exact List.mem_cons_self | assumption | apply List.mem_cons_of_mem); first | done | fail) (by kernel_rfl) (by kernel_rfl) (by omega) λw' hJ hT=>?_) | exact ⟨rfl,J.m (by assumption),J.tb (by assumption) (by (repeat first | exact List.mem_cons_self | assumption | apply List.mem_cons_of_mem); first | done | fail)⟩ | (refine qCD 5 (by assumption) ?_) | (refine qJD qJN (by assumption) λx0 x1 x2 x3 x4 x5 x6 x7 x8 x9 x10 x11 x12 x13 x14 x15 x16 x17 x18 x19 w' hJ hM=>?_) | (refine And.intro ?_ trivial) | (refine And.intro (by first | omega | (simp only []; omega)) ?_) | (refine dT (by assumption) λhJ=>?_) | (refine And.intro (by (repeat first | assumption | exact Mod.refl _ _ | refine Mod.tr ?_ (by assumption) | refine Mod.fresh ?_ (by assumption) (by rintro x rfl; assumption)); first | done | fail) ?_) | (refine qCF (by assumption) (λw hJ hM=>?_) ?_) | (refine qRT (by assumption) λp w hJ hN hM=>?_) | (refine λ(_:TS _ _ _ _ _)=>?_) | (refine λ(_:UInt64)=>?_) | exact TS.ptr (by assumption) | assumption | (refine Mod.tr ?_ (by assumption)) | (refine jBQ (by assumption) ?_ λb w' hJ=>?_) | exact ⟨_,rfl,J.sub (by assumption) (by intro q hq; first | ((repeat first | exact hq | apply List.mem_cons_of_mem); first | done | fail) | (rcases List.mem_cons.1 hq with rfl | hq; (first | exact List.mem_cons_self | (apply List.mem_cons_of_mem; exact List.mem_cons_self)); ((repeat first | exact hq | apply List.mem_cons_of_mem); first | done | fail)))⟩ | (refine And.intro ?_ ?_))
end
def jFC (a b:Slc) (w:World) (R:RW):Prop:=
 aE ((a.len:Int) != (b.len:Int)) (zF R false w) (∃ (inv:zT) (mu:zU),inv [.i .i64 0] w/\(∀ i:Int,∀ w1:World,inv [.i .i64 i] w1->aE (decide (i<a.len)) ((zB i a.len/\aA a.a λa1=>(zB i b.len/\aA b.a λa2=>∃ x:UInt8,Rd w1.drew (a1.add (i.toNat*1)) [.int .u8 x.toNat]/\∃ x1:UInt8,Rd w1.drew (a2.add (i.toNat*1)) [.int .u8 x1.toNat]/\aE (x != x1) (zF R false w1.drew) ((inv [.i .i64 (zW (i+1))] w1.drew/\mu [.i .i64 (zW (i+1))] w1.drew<mu [.i .i64 i] w1))))) (zF R true w1)))
theorem jBS (a b:Slc) {w:World} {R:RW} (h9:jFC a b w R):Calls prog 43 #[zS a,zS b] w R:=
 zC (q0 .z (q0 (q0 .z (.cond (q0 .z .z) .z)) (q0 (q0 .z (.block none (.loop [(5,(.i .i64))] (q0 (q0 .z (.cond .z .z)) (q0 (.block none (q0 (.draw 2 (.take 0 (.take 1 (.take 2 (.take 4 (.take 5 (.take 6 (.take 3 (.take 7 (.take 8 .done)))))))))) (.cond (q0 .z .z) .z))) .z))))) (q0 .z .z)))) func43 [.sl a,.sl b] h9
theorem qKV {w:World} {a b:Slc} {l m:zY} (ha:aK w a 1 (bys l)) (hb:aK w b 1 (bys m)) (hn:l.length<=9000000000000000000) :
 Calls prog 43 #[.slice a.a a.len a.cap,.slice b.a b.len b.cap] w (Ret λv w'=>v = .bool (decide (l=m))/\Mod NoB w w'):=by
 refine jBS _ _ ?_
 unfold jFC
 have hla:=aV ha; have hlb:=aV hb
 refine aC (λh=>⟨?_,Mod.refl _ _⟩) (λh=>?_)
 ·have:l≠m:=by rintro rfl; simp at h; omega
  simp [this]
 ·have hlen:l.length=m.length:=by simp at h; omega
  refine ⟨λl' w'=>match l' with | [.i _ x]=>∃ k:Nat,x=k/\k<=l.length/\l.take k=m.take k/\Mod NoB w w' | _=>False,λl' _=>match l' with | [.i _ x]=>(l.length - x).toNat | _=>0,⟨0,rfl,by omega,rfl,Mod.refl _ _⟩,?_⟩
  rintro x w1 ⟨k,rfl,hk,hkk,h9⟩
  refine aC (λh=>?_) (λh=>?_)
  ·have k3:k<l.length:=by simp at h; omega
   obtain ⟨a1,ea,hra⟩:=gL ha k3
   obtain ⟨a2,eb,k4⟩:=gL hb (i:=k) (by omega)
   rw [ea,eb]
   refine ⟨⟨by omega,by omega⟩,⟨by omega,by omega⟩,_,Rd.drew (hra.mod h9 λh=>h),_,Rd.drew (k4.mod h9 λh=>h),aC (λhne=>⟨?_,Mod.dr h9⟩) (λhne=>⟨⟨k+1,aI (by omega),by omega,?_,Mod.dr h9⟩,?_⟩)⟩
   ·have:l≠m:=by rintro rfl; simp at hne
    simp [this]
   ·have:l[k]=m[k]'(by omega):=by simpa using hne
    rw [aL k3,aL (by omega),hkk,this]
   ·rw [aI (by omega)]; (try simp only []); omega
  ·have k3:k=l.length:=by simp at h; omega
   rw [k3,List.take_length,hlen,List.take_length] at hkk
   exact ⟨by simp [hkk],h9⟩
def qTK (parts:Slc) (w:World) (R:RW):Prop:=
 aD prog 293 [] w (aG R) λv w1=>∃ x:zO,v=(.pointer x)/\aD prog 294 [.pointer x,zS parts] w1 (aG R) λv1 w2=>∃ x1:Int,v1=(.int .i64 x1)/\aD prog 295 [.pointer x] w2 (aG R) λv2 w3=>∃ x2:Slc,v2=(zS x2)/\R (.returned (zS x2)) w3
theorem qOK (parts:Slc) {w:World} {R:RW} (h9:qTK parts w R):Calls prog 241 #[zS parts] w R:=
 zC (q0 .z (q0 .z (q0 .z (q0 .z .z)))) func241 [.sl parts] h9
def qXD (w:World) (R:RW):Prop:=
 ∃ xa xb xc xd xe xf xg xh:UInt64,Rd w (⟨3,0,none⟩:Addr) [.int .u64 xa.toNat,.int .u64 xb.toNat,.int .u64 xc.toNat,.int .u64 xd.toNat,.int .u64 xe.toNat,.int .u64 xf.toNat,.int .u64 xg.toNat,.int .u64 xh.toNat]/\aH prog (Instr.box 449 (.agg #[.int .u64 xa.toNat,.int .u64 xb.toNat,.int .u64 xc.toNat,.int .u64 xd.toNat,.int .u64 xe.toNat,.int .u64 xf.toNat,.int .u64 xg.toNat,.int .u64 xh.toNat,.slice none 0 0,.int .u64 ((0:UInt64)).toNat,.bool true])) w λv w1=>∃ x:zO,v=(.pointer x)/\R (.returned (.pointer x)) w1
theorem qOZ {w:World} {R:RW} (h9:qXD w R):Calls prog 293 #[] w R:=
 zC (q0 .z (q0 .z .z)) func293 [] h9
def qXI (h:zO) (parts:Slc) (w:World) (R:RW):Prop:=
 aD prog 348 [.pointer h] w (aG R) λv w1=>∃ x:Bool,v=(.bool x)/\aE (!x) (R (.returned (.int .i64 1)) w1) (∃ (inv:zT) (mu:zU),inv [.i .i64 0] w1/\(∀ x1:Int,∀ w2:World,inv [.i .i64 x1] w2->aE (decide (x1<parts.len)) ((zB x1 parts.len/\aA parts.a λa=>∃ x2:Slc,Rd w2 (a.add (x1.toNat*1)) [zS x2]/\aA h λa1=>∃ x3:UInt64,Rd w2 (a1.add 9) [.int .u64 x3.toNat]/\aA h λa2=>aJ prog (storeVar 188 (a2.add 9) (.int .u64 ((x3+(aP (x2.len:Int)))).toNat)) w2 λw3=>∃ j:zT,(aA h λa3=>∃ x4:Slc,Rd w3 (a3.add 8) [zS x4]/\aA h λa4=>∃ x5:Slc,Rd w3 (a4.add 8) [zS x5]/\aE (decide ((x5.len:Int) > (0:Int))) (∃ sx:zP,sx w3.drew/\aA h λa5=>((0<=(if (x2.len:Int)<(zW ((128:Int) - (x4.len:Int))) then (x2.len:Int) else (zW ((128:Int) - (x4.len:Int))))/\(if (x2.len:Int)<(zW ((128:Int) - (x4.len:Int))) then (x2.len:Int) else (zW ((128:Int) - (x4.len:Int))))<=(x2.cap:Nat))/\((0<=(if (x2.len:Int)<(zW ((128:Int) - (x4.len:Int))) then (x2.len:Int) else (zW ((128:Int) - (x4.len:Int))))/\(if (x2.len:Int)<(zW ((128:Int) - (x4.len:Int))) then (x2.len:Int) else (zW ((128:Int) - (x4.len:Int))))<=(x2.len:Nat))/\∃ x6:Slc,(∀ w',sx w'->Rd w' (a5.add 8) [zS x6])/\((aH prog (Builtin.append_ #[38,38] 38 #[zS x6,.slice (aF x2 1 0 (((if (x2.len:Int)<(zW ((128:Int) - (x4.len:Int))) then (x2.len:Int) else (zW ((128:Int) - (x4.len:Int))))).toNat) x2.cap).a (aF x2 1 0 (((if (x2.len:Int)<(zW ((128:Int) - (x4.len:Int))) then (x2.len:Int) else (zW ((128:Int) - (x4.len:Int))))).toNat) x2.cap).len (aF x2 1 0 (((if (x2.len:Int)<(zW ((128:Int) - (x4.len:Int))) then (x2.len:Int) else (zW ((128:Int) - (x4.len:Int))))).toNat) x2.cap).cap]) w3.drew λv1 w4=>∃ x7:Slc,v1=(zS x7)/\aA h λa6=>((aJ prog (storeVar 38 (a6.add 8) (zS x7)) w4 λw5=>aA h λa7=>∃ x8:Slc,Rd w5 (a7.add 8) [zS x8]/\aE (decide ((x8.len:Int)<(128:Int))) ((inv [.i .i64 (zW (x1+1))] w5/\mu [.i .i64 (zW (x1+1))] w5<mu [.i .i64 x1] w2)) (∃ sx1:zP,sx1 w5.drew/\aA h λa8=>aA h λa9=>∃ x9:Slc,(∀ w',sx1 w'->Rd w' (a9.add 8) [zS x9])/\((aD prog 349 [.pointer (some (a8.add 0)),zS x9] w5.drew (aG R) λv2 w6=>v2=(.tuple #[])/\aA h λa10=>∃ x10:Slc,Rd w6 (a10.add 8) [zS x10]/\((0<=(0:Int)/\(0:Int)<=(x10.cap:Nat))/\aA h λa11=>aJ prog (storeVar 38 (a11.add 8) (.slice (aF x10 1 0 (((0:Int)).toNat) x10.cap).a (aF x10 1 0 (((0:Int)).toNat) x10.cap).len (aF x10 1 0 (((0:Int)).toNat) x10.cap).cap)) w6 λw7=>j [.sl (aF x2 1 (((if (x2.len:Int)<(zW ((128:Int) - (x4.len:Int))) then (x2.len:Int) else (zW ((128:Int) - (x4.len:Int))))).toNat) x2.len x2.cap)] w7))/\True)))/\True))/\True)))) (j [.sl x2] w3))/\(∀ p:Slc,∀ w8:World,j [.sl p] w8->∃ (inv1:zT) (mu1:zU),inv1 [.sl p] w8/\(∀ p1:Slc,∀ w9:World,inv1 [.sl p1] w9->aE (decide ((p1.len:Int)>=(128:Int))) (aA h λa12=>((0<=(128:Int)/\(128:Int)<=(p1.cap:Nat))/\((aD prog 349 [.pointer (some (a12.add 0)),.slice (aF p1 1 0 (((128:Int)).toNat) p1.cap).a (aF p1 1 0 (((128:Int)).toNat) p1.cap).len (aF p1 1 0 (((128:Int)).toNat) p1.cap).cap] w9.drew (aG R) λv3 w10=>v3=(.tuple #[])/\((0<=(128:Int)/\(128:Int)<=(p1.len:Nat))/\(inv1 [.sl (aF p1 1 (((128:Int)).toNat) p1.len p1.cap)] w10/\mu1 [.sl (aF p1 1 (((128:Int)).toNat) p1.len p1.cap)] w10<mu1 [.sl p1] w9)))/\True))) (aA h λa13=>∃ x11:Slc,Rd w9 (a13.add 8) [zS x11]/\aH prog (Builtin.append_ #[38,38] 38 #[zS x11,zS p1]) w9 λv4 w11=>∃ x12:Slc,v4=(zS x12)/\aA h λa14=>aJ prog (storeVar 38 (a14.add 8) (zS x12)) w11 λw12=>(inv [.i .i64 (zW (x1+1))] w12/\mu [.i .i64 (zW (x1+1))] w12<mu [.i .i64 x1] w2)))))) (R (.returned (.int .i64 0)) w2)))
theorem qMV (h:zO) (parts:Slc) {w:World} {R:RW} (h9:qXI h parts w R):Calls prog 294 #[.pointer h,zS parts] w R:=
 zC (q0 .z (q0 (q0 .z (.cond (q0 .z .z) .z)) (q0 (q0 .z (.block none (.loop [(13,(.i .i64))] (q0 .z (q0 (.cond .z .z) (q0 (.block none (q0 .z (q0 .z (.seq (some [(6,.sl)]) (q0 .z (q0 .z (.cond (q0 (.draw 1 (.take 0 (.take 1 (.take 2 (.take 3 (.take 5 (.take 6 (.take 7 (.take 9 (.take 10 (.take 11 (.take 4 (.all [(8,(.take 12 (.take 13 (.all [(14,(.take 15 .done))]))))]))))))))))))) (q0 (q0 .z (.cond .z .z)) (q0 (.draw 1 (.take 0 (.take 1 (.take 2 (.take 3 (.take 4 (.take 5 (.take 6 (.all [(7,.done)]))))))))) .z))) .z))) (q0 (.block none (.loop [(6,.sl)] (q0 (q0 .z (.cond .z .z)) (q0 (.block none (.draw 0 (.take 0 (.take 1 (.take 2 (.take 3 (.take 4 (.all [(5,.done)])))))))) .z)))) .z))))) .z)))))) (q0 .z .z)))) func294 [.p h,.sl parts] h9
def qVN (h:zO) (w:World) (R:RW):Prop:=
 aD prog 350 [.pointer h] w (aG R) λv w1=>∃ x:zO,v=(.pointer x)/\bB prog (do eqGuard .eql 395 (.tmp 13) (.const (.pointer none)) (.pointer x) (.pointer none); binOp .eql 395 (.pointer x) (.pointer none)) λv1=>∃ x1:Bool,v1=(.bool x1)/\aE x1 (R (.returned (.slice none 0 0)) w1) (aA x λa=>∃ x2:UInt64,Rd w1 (a.add 9) [.int .u64 x2.toNat]/\aH prog (Instr.makeSlice 38 (.int .i64 0) (.int .i64 256)) w1 λv2 w2=>∃ x3:Slc,v2=(zS x3)/\aH prog (Instr.buildSlice 38 1 #[(0,(.int .u8 ((128:UInt8)).toNat))]) w2 λv3 w3=>∃ x4:Slc,v3=(zS x4)/\aH prog (Builtin.append_ #[38,38] 38 #[zS x3,zS x4]) w3 λv4 w4=>∃ x5:Slc,v4=(zS x5)/\∃ (inv:zT) (mu:zU),inv [.sl x5] w4/\(∀ end0:Slc,∀ w5:World,inv [.sl end0] w5->aA x λa1=>∃ x6:Slc,Rd w5 (a1.add 8) [zS x6]/\((128:Int)≠0/\aE ((Int.tmod (zW ((x6.len:Int)+(end0.len:Int))) (128:Int)) != (112:Int)) (aH prog (Instr.buildSlice 38 1 #[(0,(.int .u8 ((0:UInt8)).toNat))]) w5 λv5 w6=>∃ x7:Slc,v5=(zS x7)/\aH prog (Builtin.append_ #[38,38] 38 #[zS end0,zS x7]) w6 λv6 w7=>∃ x8:Slc,v6=(zS x8)/\(inv [.sl x8] w7/\mu [.sl x8] w7<mu [.sl end0] w5)) (aH prog (Builtin.append_ #[38,3] 38 #[zS end0,.int .i64 8]) w5 λv7 w8=>∃ x9:Slc,v7=(zS x9)/\∃ (inv1:zT) (mu1:zU),inv1 [.sl x9,.i .i64 56] w8/\(∀ end1:Slc,∀ s:Int,∀ w9:World,inv1 [.sl end1,.i .i64 s] w9->aE (decide (s>=0)) ((0<=s/\aH prog (Instr.buildSlice 38 1 #[(0,(.int .u8 (((aM ((8:UInt64)*x2) s.toNat)).toUInt8).toNat))]) w9 λv8 w10=>∃ x10:Slc,v8=(zS x10)/\aH prog (Builtin.append_ #[38,38] 38 #[zS end1,zS x10]) w10 λv9 w11=>∃ x11:Slc,v9=(zS x11)/\(inv1 [.sl x11,.i .i64 (zW (s - 8))] w11/\mu1 [.sl x11,.i .i64 (zW (s - 8))] w11<mu1 [.sl end1,.i .i64 s] w9))) (aH prog (Instr.buildSlice 77 1 #[(0,(zS end1))]) w9 λv10 w12=>∃ x12:Slc,v10=(zS x12)/\aD prog 294 [.pointer x,zS x12] w12 (aG R) λv11 w13=>∃ x13:Int,v11=(.int .i64 x13)/\aA x λa2=>∃ xa xb xc xd xe xf xg xh:UInt64,Rd w13 (a2.add 0) [.int .u64 xa.toNat,.int .u64 xb.toNat,.int .u64 xc.toNat,.int .u64 xd.toNat,.int .u64 xe.toNat,.int .u64 xf.toNat,.int .u64 xg.toNat,.int .u64 xh.toNat]/\∃ (inv2:zT) (mu2:zU),inv2 [.sl ⟨none,0,0⟩,.i .i64 0] w13/\(∀ out:Slc,∀ x14:Int,∀ w14:World,inv2 [.sl out,.i .i64 x14] w14->aE (decide (x14<8)) (((0<=x14/\x14<(8:Nat))/\(∀ z∈([.u64 xa,.u64 xb,.u64 xc,.u64 xd,.u64 xe,.u64 xf,.u64 xg,.u64 xh]:List TV),z.cells.length=1)/\∃ x15:UInt64,([.u64 xa,.u64 xb,.u64 xc,.u64 xd,.u64 xe,.u64 xf,.u64 xg,.u64 xh]:List TV)[x14.toNat]? = some (.u64 x15)/\∃ (inv3:zT) (mu3:zU),inv3 [.sl out,.i .i64 56] w14/\(∀ out1:Slc,∀ s1:Int,∀ w15:World,inv3 [.sl out1,.i .i64 s1] w15->aE (decide (s1>=0)) ((0<=s1/\aH prog (Instr.buildSlice 38 1 #[(0,(.int .u8 (((aM x15 s1.toNat)).toUInt8).toNat))]) w15 λv12 w16=>∃ x16:Slc,v12=(zS x16)/\aH prog (Builtin.append_ #[38,38] 38 #[zS out1,zS x16]) w16 λv13 w17=>∃ x17:Slc,v13=(zS x17)/\(inv3 [.sl x17,.i .i64 (zW (s1 - 8))] w17/\mu3 [.sl x17,.i .i64 (zW (s1 - 8))] w17<mu3 [.sl out1,.i .i64 s1] w15))) ((inv2 [.sl out1,.i .i64 (zW (x14+1))] w15/\mu2 [.sl out1,.i .i64 (zW (x14+1))] w15<mu2 [.sl out,.i .i64 x14] w14))))) (R (.returned (zS out)) w14))))))))
theorem qSM (h:zO) {w:World} {R:RW} (h9:qVN h w R):Calls prog 295 #[.pointer h] w R:=
 zC (q0 .z (q0 .z (q0 (q0 .z (.cond (q0 .z .z) .z)) (q0 .z (q0 .z (q0 (.block none (.loop [(5,.sl)] (q0 (q0 .z (.cond .z .z)) (.block none .z)))) (q0 .z (q0 (q0 .z (.block none (.loop [(5,.sl),(6,(.i .i64))] (q0 (q0 .z (.cond .z .z)) (q0 (.block none .z) .z))))) (q0 .z (q0 .z (q0 (q0 .z (.block none (.loop [(7,.sl),(57,(.i .i64))] (q0 .z (q0 (.cond .z .z) (q0 (.block none (q0 .z (q0 .z (.block none (.loop [(7,.sl),(10,(.i .i64))] (q0 (q0 .z (.cond .z .z)) (q0 (.block none .z) .z))))))) .z)))))) (q0 .z .z)))))))))))) func295 [.p h] h9
def qTN (h:zO) (w:World) (R:RW):Prop:=
 bB prog (do eqGuard .neq 395 (.tmp 3) (.const (.pointer none)) (.pointer h) (.pointer none); binOp .neq 395 (.pointer h) (.pointer none)) λv=>∃ x:Bool,v=(.bool x)/\aE x (aA h λa=>∃ x1:Bool,Rd w (a.add 10) [.bool x1]/\R (.returned (.bool x1)) w) (zF R false w)
theorem qQW (h:zO) {w:World} {R:RW} (h9:qTN h w R):Calls prog 348 #[.pointer h] w R:=
 zC (q0 .z (q0 .z .z)) func348 [.p h] h9
def qWT (wv:zO) (b:Slc) (w:World) (R:RW):Prop:=
 aH prog (Instr.alloc 470 true (.tuple #[])) w λv w1=>∃ m:zO,v=(.pointer m)/\∃ (inv:zT) (mu:zU),inv [.i .i64 0] w1/\(∀ x:Int,∀ w2:World,inv [.i .i64 x] w2->aE (decide (x<80)) (aE (decide (x<16)) (((0<=(zW ((8:Int)*x))/\(zW ((8:Int)*x))<=(zW ((zW ((8:Int)*x))+8))/\(zW ((zW ((8:Int)*x))+8))<=(b.cap:Nat))/\∃ (inv1:zT) (mu1:zU),inv1 [.i .i64 0] w2/\(∀ x1:Int,∀ w3:World,inv1 [.i .i64 x1] w3->aE (decide (x1<((aF b 1 (((zW ((8:Int)*x))).toNat) (((zW ((zW ((8:Int)*x))+8))).toNat) b.cap).len:Int))) (((0<=x1/\x1<((aF b 1 (((zW ((8:Int)*x))).toNat) (((zW ((zW ((8:Int)*x))+8))).toNat) b.cap).len:Nat))/\aA (aF b 1 (((zW ((8:Int)*x))).toNat) (((zW ((zW ((8:Int)*x))+8))).toNat) b.cap).a λa=>∃ x2:UInt8,Rd w3 (a.add (x1.toNat*1)) [.int .u8 x2.toNat]/\((0<=x/\x<(80:Nat))/\aA m λa1=>∃ x3:UInt64,Rd w3 (a1.add (x.toNat*1)) [.int .u64 x3.toNat]/\(0<=(((8:UInt64)).toNat:Int)/\((0<=x/\x<(80:Nat))/\aA m λa2=>aJ prog (storeVar 188 (a2.add (x.toNat*1)) (.int .u64 (((dS x3 ((((8:UInt64)).toNat:Int)).toNat) ||| (x2).toUInt64)).toNat)) w3 λw4=>(inv1 [.i .i64 (zW (x1+1))] w4/\mu1 [.i .i64 (zW (x1+1))] w4<mu1 [.i .i64 x1] w3)))))) ((inv [.i .i64 (zW (x+1))] w3/\mu [.i .i64 (zW (x+1))] w3<mu [.i .i64 x] w2))))) (∃ sx:zP,sx w2.drew/\((0<=(zW (x - 2))/\(zW (x - 2))<(80:Nat))/\aA m λa3=>((0<=(zW (x - 7))/\(zW (x - 7))<(80:Nat))/\aA m λa4=>((0<=(zW (x - 15))/\(zW (x - 15))<(80:Nat))/\aA m λa5=>((0<=(zW (x - 16))/\(zW (x - 16))<(80:Nat))/\aA m λa6=>∃ x4:UInt64,(∀ w',sx w'->Rd w' (a3.add (((zW (x - 2))).toNat*1)) [.int .u64 x4.toNat])/\∃ x5:UInt64,(∀ w',sx w'->Rd w' (a4.add (((zW (x - 7))).toNat*1)) [.int .u64 x5.toNat])/\∃ x6:UInt64,(∀ w',sx w'->Rd w' (a5.add (((zW (x - 15))).toNat*1)) [.int .u64 x6.toNat])/\∃ x7:UInt64,(∀ w',sx w'->Rd w' (a6.add (((zW (x - 16))).toNat*1)) [.int .u64 x7.toNat])/\((aD prog 372 [.int .u64 x4.toNat,.int .i64 19,.int .i64 61,.int .i64 6] w2.drew (aG R) λv1 w5=>∃ x8:UInt64,v1=(.int .u64 x8.toNat)/\(sx w5/\((aD prog 372 [.int .u64 x6.toNat,.int .i64 1,.int .i64 8,.int .i64 7] w5 (aG R) λv2 w6=>∃ x9:UInt64,v2=(.int .u64 x9.toNat)/\(sx w6/\((0<=x/\x<(80:Nat))/\aA m λa7=>((aJ prog (storeVar 188 (a7.add (x.toNat*1)) (.int .u64 ((((x8+x5)+x9)+x7)).toNat)) w6 λw7=>(inv [.i .i64 (zW (x+1))] w7/\mu [.i .i64 (zW (x+1))] w7<mu [.i .i64 x] w2))/\True))))/\True)))/\True))))))) (aA wv λa8=>∃ xa xb xc xd xe xf xg xh:UInt64,Rd w2 a8 [.int .u64 xa.toNat,.int .u64 xb.toNat,.int .u64 xc.toNat,.int .u64 xd.toNat,.int .u64 xe.toNat,.int .u64 xf.toNat,.int .u64 xg.toNat,.int .u64 xh.toNat]/\aH prog (Instr.alloc 447 true (.tuple #[])) w2 λv3 w8=>∃ v4:zO,v3=(.pointer v4)/\aA v4 λa9=>aJ prog (storeVar 447 a9 (.agg #[.int .u64 xa.toNat,.int .u64 xb.toNat,.int .u64 xc.toNat,.int .u64 xd.toNat,.int .u64 xe.toNat,.int .u64 xf.toNat,.int .u64 xg.toNat,.int .u64 xh.toNat])) w8 λw9=>aA m λa10=>∃ x10:List UInt64,x10.length=80/\Rd w9 a10 (bR ((x10).map TV.u64))/\∃ (inv2:zT) (mu2:zU),inv2 [.i .i64 0] w9/\(∀ x11:Int,∀ w10:World,inv2 [.i .i64 x11] w10->aE (decide (x11<80)) (((0<=x11/\x11<(80:Nat))/\(∀ z∈(((x10).map TV.u64):List TV),z.cells.length=1)/\∃ x12:UInt64,(((x10).map TV.u64):List TV)[x11.toNat]? = some (.u64 x12)/\((0<=(0:Int)/\(0:Int)<(8:Nat))/\aA v4 λa11=>((0<=(4:Int)/\(4:Int)<(8:Nat))/\aA v4 λa12=>∃ x13:UInt64,Rd w10.drew (a11.add (((0:Int)).toNat*1)) [.int .u64 x13.toNat]/\∃ x14:UInt64,Rd w10.drew (a12.add (((4:Int)).toNat*1)) [.int .u64 x14.toNat]/\∃ sx1:zP,sx1 w10.drew.drew/\((0<=(7:Int)/\(7:Int)<(8:Nat))/\aA v4 λa13=>((0<=(5:Int)/\(5:Int)<(8:Nat))/\aA v4 λa14=>((0<=(6:Int)/\(6:Int)<(8:Nat))/\aA v4 λa15=>((0<=x11/\x11<(80:Nat))/\∃ x15:UInt64,(∀ w',sx1 w'->Rd w' (a13.add (((7:Int)).toNat*1)) [.int .u64 x15.toNat])/\∃ x16:UInt64,(∀ w',sx1 w'->Rd w' (a14.add (((5:Int)).toNat*1)) [.int .u64 x16.toNat])/\∃ x17:UInt64,(∀ w',sx1 w'->Rd w' (a15.add (((6:Int)).toNat*1)) [.int .u64 x17.toNat])/\∃ x18:UInt64,(∀ w',sx1 w'->Rd w' ((⟨4,0,none⟩:Addr).add (x11.toNat*1)) [.int .u64 x18.toNat])/\((aD prog 373 [.int .u64 x14.toNat,.int .i64 14,.int .i64 18,.int .i64 41] w10.drew.drew (aG R) λv5 w11=>∃ x19:UInt64,v5=(.int .u64 x19.toNat)/\(sx1 w11/\∃ sx2:zP,sx2 w11.drew/\((0<=(1:Int)/\(1:Int)<(8:Nat))/\aA v4 λa16=>((0<=(2:Int)/\(2:Int)<(8:Nat))/\aA v4 λa17=>((0<=(1:Int)/\(1:Int)<(8:Nat))/\aA v4 λa18=>((0<=(2:Int)/\(2:Int)<(8:Nat))/\aA v4 λa19=>∃ x20:UInt64,(∀ w',sx2 w'->Rd w' (a16.add (((1:Int)).toNat*1)) [.int .u64 x20.toNat])/\∃ x21:UInt64,(∀ w',sx2 w'->Rd w' (a17.add (((2:Int)).toNat*1)) [.int .u64 x21.toNat])/\∃ x22:UInt64,(∀ w',sx2 w'->Rd w' (a18.add (((1:Int)).toNat*1)) [.int .u64 x22.toNat])/\∃ x23:UInt64,(∀ w',sx2 w'->Rd w' (a19.add (((2:Int)).toNat*1)) [.int .u64 x23.toNat])/\((aD prog 373 [.int .u64 x13.toNat,.int .i64 28,.int .i64 34,.int .i64 39] w11.drew (aG R) λv6 w12=>∃ x24:UInt64,v6=(.int .u64 x24.toNat)/\(sx2 w12/\aA v4 λa20=>((0<=(1:Int)/\(1:Int)<=(8:Nat))/\aA v4 λa21=>((0<=(7:Int)/\(7:Int)<=(8:Nat))/\((aH prog (Builtin.copy_ #[187,187] 3 #[.slice (aF ⟨some a20,8,8⟩ 1 (((1:Int)).toNat) 8 8).a (aF ⟨some a20,8,8⟩ 1 (((1:Int)).toNat) 8 8).len (aF ⟨some a20,8,8⟩ 1 (((1:Int)).toNat) 8 8).cap,.slice (aF ⟨some a21,8,8⟩ 1 0 (((7:Int)).toNat) 8).a (aF ⟨some a21,8,8⟩ 1 0 (((7:Int)).toNat) 8).len (aF ⟨some a21,8,8⟩ 1 0 (((7:Int)).toNat) 8).cap]) w12.drew λv7 w13=>∃ x25:Int,v7=(.int .i64 x25)/\((0<=(4:Int)/\(4:Int)<(8:Nat))/\aA v4 λa22=>∃ x26:UInt64,Rd w13 (a22.add (((4:Int)).toNat*1)) [.int .u64 x26.toNat]/\((0<=(0:Int)/\(0:Int)<(8:Nat))/\aA v4 λa23=>aJ prog (storeVar 188 (a23.add (((0:Int)).toNat*1)) (.int .u64 ((((((x15+x19)+((x14 &&& x16) ^^^ ((~~~x14) &&& x17)))+x18)+x12)+(x24+(((x13 &&& x20) ^^^ (x13 &&& x21)) ^^^ (x22 &&& x23))))).toNat)) w13 λw14=>((0<=(4:Int)/\(4:Int)<(8:Nat))/\aA v4 λa24=>aJ prog (storeVar 188 (a24.add (((4:Int)).toNat*1)) (.int .u64 ((x26+((((x15+x19)+((x14 &&& x16) ^^^ ((~~~x14) &&& x17)))+x18)+x12))).toNat)) w14 λw15=>(inv2 [.i .i64 (zW (x11+1))] w15/\mu2 [.i .i64 (zW (x11+1))] w15<mu2 [.i .i64 x11] w10)))))/\True)))))/\True)))))))/\True))))))))) (∃ (inv3:zT) (mu3:zU),inv3 [.i .i64 0] w10/\(∀ x27:Int,∀ w16:World,inv3 [.i .i64 x27] w16->aE (decide (x27<8)) (∃ sx3:zP,sx3 w16.drew/\aA wv λa25=>((0<=x27/\x27<(8:Nat))/\((0<=x27/\x27<(8:Nat))/\aA v4 λa26=>aA wv λa27=>∃ x28:UInt64,(∀ w',sx3 w'->Rd w' (a25.add (x27.toNat*1)) [.int .u64 x28.toNat])/\∃ x29:UInt64,(∀ w',sx3 w'->Rd w' (a26.add (x27.toNat*1)) [.int .u64 x29.toNat])/\((0<=x27/\x27<(8:Nat))/\((aJ prog (storeVar 188 (a27.add (x27.toNat*1)) (.int .u64 ((x28+x29)).toNat)) w16.drew λw17=>(inv3 [.i .i64 (zW (x27+1))] w17/\mu3 [.i .i64 (zW (x27+1))] w17<mu3 [.i .i64 x27] w16))/\True))))) (R (.returned (.tuple #[])) w16))))))
theorem qMQ (wv:zO) (b:Slc) {w:World} {R:RW} (h9:qWT wv b w R):Calls prog 349 #[.pointer wv,zS b] w R:=
 zC (q0 .z (q0 (q0 .z (.block none (.loop [(16,(.i .i64))] (q0 .z (q0 (.cond .z .z) (q0 (.block none (q0 .z (q0 (q0 .z (.cond (q0 (q0 .z (.block none (.loop [(29,(.i .i64))] (q0 .z (q0 (.cond .z .z) (q0 (.block none (q0 .z .z)) .z)))))) .z) .z)) (.draw 1 (.take 0 (.take 1 (.take 2 (.take 3 (.take 6 (.take 7 (.take 8 (.take 11 (.take 12 (.take 13 (.take 17 (.take 18 (.take 19 (.take 4 (.take 9 (.take 14 (.take 20 (.all [(5,(.take 10 (.all [(15,(.take 16 (.take 21 (.take 22 (.all [(23,.done)])))))])))])))))))))))))))))))))) .z)))))) (q0 .z (q0 (q0 .z (.block none (.loop [(71,(.i .i64))] (q0 .z (q0 (.cond .z .z) (q0 (.block none (q0 .z (q0 (.draw 2 (.take 0 (.take 2 (.take 1 (.take 4 (.take 3 (.take 5 .done))))))) (q0 (.draw 1 (.take 0 (.take 2 (.take 5 (.take 6 (.take 9 (.take 10 (.take 11 (.take 16 (.take 17 (.take 20 (.take 1 (.take 7 (.take 8 (.take 12 (.take 13 (.take 14 (.take 18 (.all [(3,(.take 4 (.take 15 (.take 19 (.take 21 (.take 22 .done))))))]))))))))))))))))))) (q0 (.draw 1 (.take 0 (.take 2 (.take 3 (.take 6 (.take 7 (.take 11 (.take 13 (.take 4 (.take 5 (.take 8 (.take 9 (.take 10 (.take 12 (.take 14 (.take 15 (.take 16 (.all [(1,(.take 17 (.take 18 .done)))])))))))))))))))))) (q0 (.draw 0 (.take 0 (.take 1 (.all [(2,.done)])))) .z)))))) .z)))))) (q0 .z (.block none (.loop [(132,(.i .i64))] (q0 .z (q0 (.cond .z .z) (q0 (.block none (q0 .z (.draw 1 (.take 0 (.take 1 (.take 2 (.take 3 (.take 5 (.take 6 (.take 9 (.take 4 (.take 7 (.take 8 (.take 10 (.all [(11,.done)]))))))))))))))) .z)))))))))) func349 [.p wv,.sl b] h9
def qWU (h:zO) (w:World) (R:RW):Prop:=
 aD prog 348 [.pointer h] w (aG R) λv w1=>∃ x:Bool,v=(.bool x)/\aE (!x) (R (.returned (.pointer none)) w1) (aA h λa=>∃ xaa xab xac xad xae xaf xag xah:UInt64,∃ xb:Slc,∃ xc:UInt64,∃ xd:Bool,Rd w1 a [.int .u64 xaa.toNat,.int .u64 xab.toNat,.int .u64 xac.toNat,.int .u64 xad.toNat,.int .u64 xae.toNat,.int .u64 xaf.toNat,.int .u64 xag.toNat,.int .u64 xah.toNat,zS xb,.int .u64 xc.toNat,.bool xd]/\aH prog (Instr.alloc 449 true (.tuple #[])) w1 λv1 w2=>∃ c:zO,v1=(.pointer c)/\aA c λa1=>aJ prog (storeVar 449 a1 (.agg #[.int .u64 xaa.toNat,.int .u64 xab.toNat,.int .u64 xac.toNat,.int .u64 xad.toNat,.int .u64 xae.toNat,.int .u64 xaf.toNat,.int .u64 xag.toNat,.int .u64 xah.toNat,zS xb,.int .u64 xc.toNat,.bool xd])) w2 λw3=>aA h λa2=>∃ x1:Slc,Rd w3 (a2.add 8) [zS x1]/\aD prog 186 [zS x1] w3 (aG R) λv2 w4=>∃ x2:Slc,v2=(zS x2)/\aA c λa3=>aJ prog (storeVar 38 (a3.add 8) (zS x2)) w4 λw5=>R (.returned (.pointer c)) w5)
theorem qLE (h:zO) {w:World} {R:RW} (h9:qWU h w R):Calls prog 350 #[.pointer h] w R:=
 zC (q0 .z (q0 (q0 .z (.cond (q0 .z .z) .z)) (q0 .z (q0 .z (q0 .z .z))))) func350 [.p h] h9
def qST (s:Slc) (w:World) (R:RW):Prop:=
 bB prog (do eqGuard .eql 38 (.tmp 3) (.const (.slice none 0 0)) (zS s) (.slice none 0 0); binOp .eql 38 (zS s) (.slice none 0 0)) λv=>∃ x:Bool,v=(.bool x)/\aE x (R (.returned (.slice none 0 0)) w) (aH prog (Instr.buildSlice 38 0 #[]) w λv1 w1=>∃ x1:Slc,v1=(zS x1)/\aH prog (Builtin.append_ #[38,38] 38 #[zS x1,zS s]) w1 λv2 w2=>∃ x2:Slc,v2=(zS x2)/\R (.returned (zS x2)) w2)
theorem qMC (s:Slc) {w:World} {R:RW} (h9:qST s w R):Calls prog 186 #[zS s] w R:=
 zC (q0 .z (q0 (q0 .z (.cond (q0 .z .z) .z)) (q0 .z .z))) func186 [.sl s] h9
def qUI (x:UInt64) (a b shift:Int) (w:World) (R:RW):Prop:=
 (0<=shift/\((aD prog 380 [.int .u64 x.toNat,.int .i64 (zW (0 - a))] w.drew (aG R) λv w1=>∃ x1:UInt64,v=(.int .u64 x1.toNat)/\((aD prog 380 [.int .u64 x.toNat,.int .i64 (zW (0 - b))] w1 (aG R) λv1 w2=>∃ x2:UInt64,v1=(.int .u64 x2.toNat)/\R (.returned (.int .u64 (((x1 ^^^ x2) ^^^ (aM x shift.toNat))).toNat)) w2)/\True))/\True))
theorem qMR (x:UInt64) (a b shift:Int) {w:World} {R:RW} (h9:qUI x a b shift w R):Calls prog 372 #[.int .u64 x.toNat,.int .i64 a,.int .i64 b,.int .i64 shift] w R:=
 zC (q0 .z (q0 (.draw 0 (.take 0 (.take 1 (.take 2 (.take 4 (.take 5 (.take 6 (.take 9 (.take 10 (.take 11 (.all [(3,(.all [(7,(.take 8 (.take 12 (.take 13 .done))))]))]))))))))))) .z)) func372 [.u64 x,.i .i64 a,.i .i64 b,.i .i64 shift] h9
def qVR (x:UInt64) (a b c:Int) (w:World) (R:RW):Prop:=
 aD prog 380 [.int .u64 x.toNat,.int .i64 (zW (0 - a))] w (aG R) λv w1=>∃ x1:UInt64,v=(.int .u64 x1.toNat)/\aD prog 380 [.int .u64 x.toNat,.int .i64 (zW (0 - b))] w1 (aG R) λv1 w2=>∃ x2:UInt64,v1=(.int .u64 x2.toNat)/\aD prog 380 [.int .u64 x.toNat,.int .i64 (zW (0 - c))] w2 (aG R) λv2 w3=>∃ x3:UInt64,v2=(.int .u64 x3.toNat)/\R (.returned (.int .u64 (((x1 ^^^ x2) ^^^ x3)).toNat)) w3
theorem qPW (x:UInt64) (a b c:Int) {w:World} {R:RW} (h9:qVR x a b c w R):Calls prog 373 #[.int .u64 x.toNat,.int .i64 a,.int .i64 b,.int .i64 c] w R:=
 zC (q0 .z (q0 .z .z)) func373 [.u64 x,.i .i64 a,.i .i64 b,.i .i64 c] h9
def qUD (x:UInt64) (k:Int) (w:World) (R:RW):Prop:=
 (0<=((((aP k) &&& (63:UInt64))).toNat:Int)/\(0<=((((64:UInt64) - ((aP k) &&& (63:UInt64)))).toNat:Int)/\R (.returned (.int .u64 (((dS x (((((aP k) &&& (63:UInt64))).toNat:Int)).toNat) ||| (aM x (((((64:UInt64) - ((aP k) &&& (63:UInt64)))).toNat:Int)).toNat))).toNat)) w))
theorem qLT (x:UInt64) (k:Int) {w:World} {R:RW} (h9:qUD x k w R):Calls prog 380 #[.int .u64 x.toNat,.int .i64 k] w R:=
 zC (q0 .z (q0 .z (q0 .z .z))) func380 [.u64 x,.i .i64 k] h9
end Go.Proofs.YthaefcgpbccmbaaGreatDoor
end
section
namespace Go.Sh
open Go
def rr (x:UInt64) (n:Nat):UInt64:=aM x n ||| dS x (64 - n)
def bsg1 (e:UInt64):UInt64:=(rr e 14 ^^^ rr e 18) ^^^ rr e 41
def bsg0 (a:UInt64):UInt64:=(rr a 28 ^^^ rr a 34) ^^^ rr a 39
def ssg1 (x:UInt64):UInt64:=(rr x 19 ^^^ rr x 61) ^^^ aM x 6
def ssg0 (x:UInt64):UInt64:=(rr x 1 ^^^ rr x 8) ^^^ aM x 7
def vC (l:zY):UInt64:=l.foldl (λx c=>dS x 8 ||| c.toUInt64) 0
def word (b:zY) (t:Nat):UInt64:=vC ((b.drop (8*t)).take 8)
def yN (b:zY) (l:List UInt64) (t:Nat):UInt64:=
 if t<16 then word b t else ((ssg1 (l.getD (t - 2) 0)+l.getD (t - 7) 0)+ssg0 (l.getD (t - 15) 0))+l.getD (t - 16) 0
def cO (b:zY):Nat->List UInt64
 | 0=>[]
 | t+1=>let l:=cO b t; l++[yN b l t]
def rnd (v:List UInt64) (k x:UInt64):List UInt64:=
 match v with
 | [a,b,c,d,e,f,g,h]=>
   let t1:=(((h+bsg1 e)+((e &&& f) ^^^ ((~~~e) &&& g)))+k)+x
   let t2:=bsg0 a+(((a &&& b) ^^^ (a &&& c)) ^^^ (b &&& c))
   [t1+t2,a,b,c,d+t1,e,f,g]
 | v=>v
def rounds (ks ws v:List UInt64):Nat->List UInt64
 | 0=>v
 | t+1=>rnd (rounds ks ws v t) (ks.getD t 0) (ws.getD t 0)
def comp (ks h:List UInt64) (b:zY):List UInt64:=List.zipWith (λx y=>x+y) h (rounds ks (cO b 80) h 80)
def dK (ks h:List UInt64) (b:zY):Nat->List UInt64
 | 0=>h
 | n+1=>comp ks (dK ks h b n) ((b.drop (128*n)).take 128)
def be8 (x:UInt64):zY:=[(aM x 56).toUInt8,(aM x 48).toUInt8,(aM x 40).toUInt8,(aM x 32).toUInt8,(aM x 24).toUInt8,(aM x 16).toUInt8,(aM x 8).toUInt8,(aM x 0).toUInt8]
def iG (h:List UInt64):zY:=h.flatMap be8
def tO (n:Nat):Nat:=(239 - n % 128) % 128
def nL (n:Nat):zY:=[128]++List.replicate (tO n) 0++List.replicate 8 0++be8 (8*UInt64.ofNat n)
def pad (b:zY):zY:=b++nL b.length
def qUB (h ks:List UInt64) (b:zY):zY:=iG (dK ks h (pad b) ((pad b).length / 128))
theorem iA (b:zY) : ∀ t,(cO b t).length=t
 | 0=>rfl
 | t+1=>by simp [cO,iA b t]
theorem qRS {v:List UInt64} {k x:UInt64} (h:v.length=8):(rnd v k x).length=8:=by
 unfold rnd
 split
 ·rfl
 ·exact h
theorem kF {ks ws v:List UInt64} (h:v.length=8) : ∀ t,(rounds ks ws v t).length=8
 | 0=>h
 | t+1=>qRS (kF h t)
theorem wV {ks h:List UInt64} {b:zY} (hh:h.length=8):(comp ks h b).length=8:=by simp [comp,hh,kF hh]
theorem mV {ks h:List UInt64} {b:zY} (hh:h.length=8) : ∀ n,(dK ks h b n).length=8
 | 0=>hh
 | n+1=>wV (mV hh n)
@[simp] theorem qRX (x:UInt64):(be8 x).length=8:=rfl
theorem qAG {h:List UInt64} (hh:h.length=8):(iG h).length=64:=by
 match h,hh with
 | [a,b,c,d,e,f,g,k],_=>rfl
theorem mB {ks h:List UInt64} {a b:zY} : ∀ n,128*n<=a.length->dK ks h (a++b) n=dK ks h a n
 | 0,_=>rfl
 | n+1,hn=>by
   simp only [dK]
   rw [mB n (by omega),List.drop_append_of_le_length (by omega),List.take_append_of_le_length (by rw [List.length_drop]; omega)]
theorem nF {ks h:List UInt64} {a b:zY} {m:Nat} (ha:a.length=128*m) : ∀ n,dK ks h (a++b) (m+n)=dK ks (dK ks h a m) b n
 | 0=>mB m (by omega)
 | n+1=>by
   rw [show m+(n+1)=(m+n)+1 from rfl]
   simp only [dK]
   rw [nF ha n,List.drop_append,List.drop_eq_nil_of_le (by omega),List.nil_append]
   congr 3
   omega
def rest (b:zY):zY:=b.drop (128*(b.length / 128))
def state (ks h:List UInt64) (b:zY):List UInt64:=dK ks h b (b.length / 128)
theorem lI (b:zY):(rest b).length=b.length % 128:=by simp [rest]; omega
theorem qEX {ks h:List UInt64} {b:zY} (hh:h.length=8):(state ks h b).length=8:=mV hh _
theorem uX {ks h:List UInt64} {b c:zY} : state ks h (b++c)=dK ks (state ks h b) (rest b++c) ((rest b++c).length / 128):=by
 have e:b++c=b.take (128*(b.length / 128))++(rest b++c):=by
  rw [<-List.append_assoc]; simp [rest]
 have hl:(b.take (128*(b.length / 128))).length=128*(b.length / 128):=by rw [List.length_take]; omega
 have hn:(b++c).length / 128=b.length / 128+(rest b++c).length / 128:=by
  rw [List.length_append,List.length_append,lI]; omega
 unfold state
 rw [hn]
 conv=>lhs; rw [e]
 rw [nF hl]
 congr 1
 have:=mB (ks:=ks) (h:=h) (a:=b.take (128*(b.length / 128))) (b:=b.drop (128*(b.length / 128))) (b.length / 128) (by omega)
 rw [List.take_append_drop] at this
 exact this.symm
theorem yB {b c:zY} : rest (b++c)=(rest b++c).drop (128*((rest b++c).length / 128)):=by
 have e:b++c=b.take (128*(b.length / 128))++(rest b++c):=by
  rw [<-List.append_assoc]; simp [rest]
 have hl:(b.take (128*(b.length / 128))).length=128*(b.length / 128):=by rw [List.length_take]; omega
 have hn:(b++c).length / 128=b.length / 128+(rest b++c).length / 128:=by
  rw [List.length_append,List.length_append,lI]; omega
 show (b++c).drop (128*((b++c).length / 128))=_
 rw [hn]
 conv=>lhs; rw [e]
 rw [List.drop_append,List.drop_eq_nil_of_le (by omega),List.nil_append]
 congr 1
 omega
theorem qNI (b:zY):(pad b).length % 128=0/\(nL b.length).length<=256:=by
 simp [pad,nL,tO]; omega
theorem xT (h ks:List UInt64) (b:zY):qUB h ks b=iG (state ks h (pad b)):=rfl
end Go.Sh
end
section
namespace Go.Proofs.YthaefcgpbccmbaaGreatDoor
open Go Go.Sh
open Go.Proofs.Tryz
theorem qAS : ∀ a:Fin 64,a.val≠0->(aP (zW (0 - (a.val:Int)))) &&& 63=UInt64.ofNat (64 - a.val):=by decide
theorem zL {w:World} {x:UInt64} {a:Nat} (h0:0<a) (h1:a<64) {k:Int} (hk:k=zW (0 - (a:Int))) :
 Calls prog 380 #[.int .u64 x.toNat,.int .i64 k] w (Ret λv w'=>v = .int .u64 (rr x a).toNat/\w'=w):=by
 subst hk
 refine qLT _ _ ?_
 unfold qUD
 rw [qAS ⟨a,h1⟩ (by simp only; omega)]
 have e1:(UInt64.ofNat (64 - a)).toNat=64 - a:=by simp [UInt64.toNat_ofNat']; omega
 have e2:((64:UInt64) - UInt64.ofNat (64 - a)).toNat=a:=by
  rw [UInt64.toNat_sub,e1]
  simp; omega
 simp only [e1,e2,Int.toNat_natCast]
 refine ⟨by omega,by omega,?_,rfl⟩
 show Value.int .u64 _=Value.int .u64 _
 rw [UInt64.or_comm]
 rfl
theorem qXJ {w:World} {x:UInt64} {a b c:Nat} (ha:0<a/\a<64) (hb:0<b/\b<64) (hc:0<c/\c<64) :
 Calls prog 373 #[.int .u64 x.toNat,.int .i64 a,.int .i64 b,.int .i64 c] w (Ret λv w'=>v = .int .u64 ((rr x a ^^^ rr x b) ^^^ rr x c).toNat/\w'=w):=by
 refine qPW _ _ _ _ ?_
 unfold qVR
 refine aB (zL ha.1 ha.2 rfl) ?_
 rintro v w1 ⟨rfl,rfl⟩
 refine ⟨_,rfl,aB (zL hb.1 hb.2 rfl) ?_⟩
 rintro v w1 ⟨rfl,rfl⟩
 refine ⟨_,rfl,aB (zL hc.1 hc.2 rfl) ?_⟩
 rintro v w1 ⟨rfl,rfl⟩
 exact ⟨_,rfl,rfl,rfl⟩
theorem qCN {w:World} {x:UInt64} {a b c:Nat} (ha:0<a/\a<64) (hb:0<b/\b<64) :
 Calls prog 372 #[.int .u64 x.toNat,.int .i64 a,.int .i64 b,.int .i64 c] w (Ret λv w'=>v = .int .u64 ((rr x a ^^^ rr x b) ^^^ aM x c).toNat/\w'=w.drew):=by
 refine qMR _ _ _ _ ?_
 unfold qUI
 refine ⟨by omega,aB (zL ha.1 ha.2 rfl) ?_,trivial⟩
 rintro v w1 ⟨rfl,rfl⟩
 refine ⟨_,rfl,aB (zL hb.1 hb.2 rfl) ?_,trivial⟩
 rintro v w1 ⟨rfl,rfl⟩
 exact ⟨_,rfl,rfl,rfl⟩
def H0:List UInt64:=[0x6a09e667f3bcc908,0xbb67ae8584caa73b,0x3c6ef372fe94f82b,0xa54ff53a5f1d36f1,0x510e527fade682d1,0x9b05688c2b3e6c1f,0x1f83d9abfb41bd6b,0x5be0cd19137e2179]
def KS:List UInt64:=[
 0x428a2f98d728ae22,0x7137449123ef65cd,0xb5c0fbcfec4d3b2f,0xe9b5dba58189dbbc,
 0x3956c25bf348b538,0x59f111f1b605d019,0x923f82a4af194f9b,0xab1c5ed5da6d8118,
 0xd807aa98a3030242,0x12835b0145706fbe,0x243185be4ee4b28c,0x550c7dc3d5ffb4e2,
 0x72be5d74f27b896f,0x80deb1fe3b1696b1,0x9bdc06a725c71235,0xc19bf174cf692694,
 0xe49b69c19ef14ad2,0xefbe4786384f25e3,0x0fc19dc68b8cd5b5,0x240ca1cc77ac9c65,
 0x2de92c6f592b0275,0x4a7484aa6ea6e483,0x5cb0a9dcbd41fbd4,0x76f988da831153b5,
 0x983e5152ee66dfab,0xa831c66d2db43210,0xb00327c898fb213f,0xbf597fc7beef0ee4,
 0xc6e00bf33da88fc2,0xd5a79147930aa725,0x06ca6351e003826f,0x142929670a0e6e70,
 0x27b70a8546d22ffc,0x2e1b21385c26c926,0x4d2c6dfc5ac42aed,0x53380d139d95b3df,
 0x650a73548baf63de,0x766a0abb3c77b2a8,0x81c2c92e47edaee6,0x92722c851482353b,
 0xa2bfe8a14cf10364,0xa81a664bbc423001,0xc24b8b70d0f89791,0xc76c51a30654be30,
 0xd192e819d6ef5218,0xd69906245565a910,0xf40e35855771202a,0x106aa07032bbd1b8,
 0x19a4c116b8d2d0c8,0x1e376c085141ab53,0x2748774cdf8eeb99,0x34b0bcb5e19b48a8,
 0x391c0cb3c5c95a63,0x4ed8aa4ae3418acb,0x5b9cca4f7763e373,0x682e6ff3d6b2b8a3,
 0x748f82ee5defb2fc,0x78a5636f43172f60,0x84c87814a1f0ab72,0x8cc702081a6439ec,
 0x90befffa23631e28,0xa4506cebde82bde9,0xbef9a3f7b2c67915,0xc67178f2e372532b,
 0xca273eceea26619c,0xd186b8c721c0c207,0xeada7dd6cde0eb1e,0xf57d4f7fee6ed178,
 0x06f067aa72176fba,0x0a637dc5a2c898a6,0x113f9804bef90dae,0x1b710b35131c471b,
 0x28db77f523047d84,0x32caab7b40c72493,0x3c9ebe0a15c9bebc,0x431d67c49c100d4c,
 0x4cc5d4becb3e42b6,0x597f299cfc657e2a,0x5fcb6fab3ad6faec,0x6c44198c4a475817]
def sha (b:zY):zY:=qUB H0 KS b
theorem qKS:H0.length=8:=rfl
theorem qGV:KS.length=80:=rfl
def isG (x:Nat):Prop:=x=3\/x=4
structure gE (w:World):Prop where
 begin0:Rd w ⟨3,0,none⟩ (us H0)
 rest0:Rd w ⟨4,0,none⟩ (us KS)
theorem gE.lt {w:World} (h:gE w) {x:Nat} (hx:isG x):x<w.heap.size:=by
 rcases hx with rfl | rfl
 ·exact qIN h.begin0 (by simp [qKS])
 ·exact qIN h.rest0 (by simp [qGV])
theorem gE.mod {w w':World} {S:Nat->Prop} (h:gE w) (hm:Mod S w w') (hs : ∀ x,isG x->¬ S x):gE w':=
 ⟨h.begin0.mod hm (hs _ (.inl rfl)),h.rest0.mod hm (hs _ (.inr rfl))⟩
theorem gE.no {w w':World} (h:gE w) (hm:Mod NoB w w'):gE w':=h.mod hm λ_ _ h=>h
theorem gE.drew {w:World} (h:gE w):gE w.drew:=⟨h.begin0,h.rest0⟩
theorem gE.fresh {w:World} (h:gE w) {x:Nat} (hx:w.heap.size<=x) : ¬ isG x:=λe=>by have:=h.lt e; omega
theorem i640 : ∃ i,prog.info? 470=some i/\i.zero=some (.agg (List.replicate 80 z64).toArray)/\i.size=80/\i.bytes=640:=bC (by kernel_rfl) (by kernel_rfl) (by kernel_rfl)
theorem jBK : ∃ i,prog.info? 447=some i/\i.zero=some (.agg (List.replicate 8 z64).toArray)/\i.size=8/\i.bytes=64:=bC (by kernel_rfl) (by kernel_rfl) (by kernel_rfl)
theorem qFO (l:zY) (c:UInt8):vC (l++[c])=dS (vC l) 8 ||| c.toUInt64:=by simp [vC]
def fill (ws:List UInt64):List Value:=us ws++List.replicate (80 - ws.length) z64
theorem qM {ws:List UInt64} {i:Nat} (h:i<ws.length):(fill ws)[i]? = some (.int .u64 (ws.getD i 0).toNat):=by
 unfold fill
 rw [List.getElem?_append_left (by simpa using h),mC h]
theorem uQ {ws:List UInt64} {x:UInt64} (h:ws.length<80):(fill ws).set ws.length (.int .u64 x.toNat)=fill (ws++[x]):=by
 unfold fill
 rw [yA (by omega),set_mid (by simp),rT]
 simp only [List.length_append,List.length_cons,List.length_nil,List.append_assoc]
 congr 1
@[simp] theorem oE {ws:List UInt64} (h:ws.length<=80):(fill ws).length=80:=by unfold fill; simp; omega
theorem qIL {w:World} {b:Slc} {bs:zY} (hb:aK w b 1 (bys bs)) (hl:bs.length=128) {m t:Nat} (ht:t<16) {w2:World} (hm:Mod NoB w w2) (q8 : ∀ x,b.blk=some x->x≠m) (q9:w.heap.size<=m) (hM:Blk w2 m (fill (cO bs t)) 470) {R:Prop}
 {K:zP} (hk : ∀ w3,Mod NoB w w3->Blk w3 m (fill (cO bs (t+1))) 470->K w3) :
 ∃ (h9:zT) (k4:zU),h9 [.i .i64 (0:Int)] w2/\(∀ x1:Int,∀ w3:World,h9 [.i .i64 x1] w3->aE (decide (x1<((aF b 1 (8*t) (8*t+8) b.cap).len:Int))) (((0<=x1/\x1<((aF b 1 (8*t) (8*t+8) b.cap).len:Nat))/\aA (aF b 1 (8*t) (8*t+8) b.cap).a λa=>∃ x2:UInt8,Rd w3 (a.add ((x1).toNat*1)) [(.int .u8 (x2).toNat)]/\((0<=(t:Int)/\(t:Int)<(80:Nat))/\∃ x3:UInt64,Rd w3 ((⟨m,0,none⟩:Addr).add (t*1)) [(.int .u64 (x3).toNat)]/\(0<=(((8:UInt64)).toNat:Int)/\((0<=(t:Int)/\(t:Int)<(80:Nat))/\aJ prog (storeVar 188 ((⟨m,0,none⟩:Addr).add (t*1)) (.int .u64 (((dS x3 ((((8:UInt64)).toNat:Int)).toNat) ||| (x2).toUInt64)).toNat)) w3 λw4=>(h9 [.i .i64 (zW (x1+(1:Int)))] w4/\k4 [.i .i64 (zW (x1+(1:Int)))] w4<k4 [.i .i64 x1] w3)))))) (K w3)):=by
 have hbl:=aV hb
 have hcut:=hb.cut (l:=8*t) (n:=8*t+8) (m:=b.cap) (by omega) (by omega) (by have:=hb.2.1; omega) (Nat.le_refl _)
 have hwl:((bs.drop (8*t)).take 8).length=8:=by rw [List.length_take,List.length_drop]; omega
 rw [show 8*t+8 - 8*t=8 by omega,fV] at hcut
 have hcl:(aF b 1 (8*t) (8*t+8) b.cap).len=8:=by simp [aF]
 have hsl:=iA bs t
 refine ⟨λl w'=>match l with | [.i _ x]=>∃ j:Nat,x=j/\j<=8/\Blk w' m ((fill (cO bs t)).set t (.int .u64 (vC (((bs.drop (8*t)).take 8).take j)).toNat)) 470/\Mod NoB w w' | _=>False,λl _=>match l with | [.i _ x]=>(8 - x).toNat | _=>0,⟨0,rfl,by omega,?_,hm⟩,?_⟩
 ·have:(fill (cO bs t)).set t (.int .u64 (vC (((bs.drop (8*t)).take 8).take 0)).toNat)=fill (cO bs t):=by
   apply List.ext_getElem?
   intro i
   rw [List.getElem?_set]
   split
   ·next h=>
    subst h
    rw [if_pos (by rw [oE (by omega)]; omega)]
    unfold fill
    rw [List.getElem?_append_right (by simp [hsl]),qBE,hsl,Nat.sub_self,yA (by omega)]
    rfl
   ·rfl
  rw [this]; exact hM
 rintro x1 w3 ⟨j,rfl,hj,hB,k3⟩
 rw [hcl]
 have hfl:((fill (cO bs t)).set t (Value.int .u64 (vC (((bs.drop (8*t)).take 8).take j)).toNat)).length=80:=by rw [List.length_set,oE (by omega)]
 refine aC (λh=>?_) (λh=>?_)
 ·have k5:j<8:=by simp at h; omega
  obtain ⟨a,ha,p8⟩:=gL hcut (i:=j) (by omega)
  rw [ha]
  refine ⟨⟨by omega,by omega⟩,_,(p8.mod k3 λh=>h),⟨by omega,by omega⟩,vC (((bs.drop (8*t)).take 8).take j),?_,by decide,⟨by omega,by omega⟩,?_⟩
  ·rw [aO]
   exact hB.rd1 (by rw [Nat.zero_add,Nat.mul_one,List.getElem?_set_self (by rw [oE (by omega)]; omega)])
  ·rw [aO]
   refine aX (by kernel_rfl) (by kernel_rfl) rfl hB (by rw [hfl]; omega) λw4 p9 k6=>⟨?_,?_⟩
   ·rw [aI (by omega)]
    refine ⟨j+1,rfl,by omega,?_,k3.fresh p9.mod λx e=>by omega⟩
    rw [Nat.zero_add,Nat.mul_one,List.set_set] at k6
    rw [aL (by omega),qFO]
    exact k6
   ·rw [aI (by omega)]
    simp only []
    omega
 ·have k5:j=8:=by simp at h; omega
  subst k5
  refine hk w3 k3 ?_
  rw [List.take_of_length_le (by omega)] at hB
  have e:cO bs (t+1)=cO bs t++[vC ((bs.drop (8*t)).take 8)]:=by
   show (let l:=cO bs t; l++[yN bs l t])=_
   simp only [yN,if_pos ht,word]
  rw [e,<-uQ (by omega),hsl]
  exact hB
theorem gE.k {w:World} (h:gE w) {t:Nat} (ht:t<80):Rd w ((⟨4,0,none⟩:Addr).add (t*1)) [.int .u64 (KS.getD t 0).toNat]:=by
 intro j v hj
 cases j with
 | zero=>
   simp only [List.length_cons,List.length_nil,Nat.zero_add,Nat.lt_add_one,List.getElem?_cons_zero,Option.some.injEq] at hj
   subst hj
   have:=h.rest0 t _ (mC (l:=KS) (i:=t) (by rw [qGV]; exact ht))
   simpa using this
 | succ j=>simp at hj
theorem qIA {h v:List UInt64} {i:Nat} (hh:h.length=8) (hv:v.length=8) (hi:i<8) :
 (us (List.zipWith (λx y=>x+y) (h.take i) (v.take i)++h.drop i)).set i (.int .u64 (h[i]+v[i]).toNat)=us (List.zipWith (λx y=>x+y) (h.take (i+1)) (v.take (i+1))++h.drop (i+1)):=by
 have e1:h.drop i=h[i] :: h.drop (i+1):=List.drop_eq_getElem_cons (by omega)
 have hl:(List.zipWith (λx y=>x+y) (h.take i) (v.take i)).length=i:=by simp; omega
 have e2:List.zipWith (λx y=>x+y) (h.take (i+1)) (v.take (i+1))=List.zipWith (λx y=>x+y) (h.take i) (v.take i)++[h[i]+v[i]]:=by
  rw [aL (by omega),aL (by omega),List.zipWith_append (by simp; omega)]
  rfl
 rw [e1,e2,rT,rT,rT]
 have:us (h[i] :: h.drop (i+1)) = .int .u64 h[i].toNat :: us (h.drop (i+1)):=rfl
 rw [this,set_mid (by simpa using hl.symm),List.append_assoc]
 rfl
theorem qEF {w:World} {p:Nat} {h:List UInt64} {r:List Value} {T:TypeId} {b:Slc} {bs:zY} (hp:Blk w p (us h++r) T) (hh:h.length=8) (hb:aK w b 1 (bys bs)) (hl:bs.length=128)
 (hg:gE w) (o0 : ¬ isG p) :
 Calls prog 349 #[.pointer (some ⟨p,0,none⟩),.slice b.a b.len b.cap] w (Ret λv w'=>v = .tuple #[]/\Blk w' p (us (comp KS h bs)++r) T/\Mod (λx=>x=p) w w'):=by
 refine qMQ _ _ ?_
 unfold qWT
 obtain ⟨i0,y8,y9,-,-⟩:=i640
 obtain ⟨i1,z1,z6,-,-⟩:=jBK
 have hbl:=aV hb
 have hpl:=hp.lt
 refine aN (l:=List.replicate 80 z64) y8 y9 rfl λm w1 hN hM0=>⟨_,rfl,?_⟩
 have z7:=hN.at_
 have z8 : ∀ x,b.blk=some x->x≠m:=λx hx=>by
  rcases hb.2.2 with h0 | ⟨bb,e1,e2⟩
  ·have:=congrArg List.length h0; simp [hl] at this
  ·have h1:=qIN e2 (by simp [hl])
   unfold Slc.blk at hx
   split at hx
   ·cases hx
   ·simp [e1] at hx; subst hx; omega
 refine ⟨λl w'=>match l with | [.i _ x]=>∃ t:Nat,x=t/\t<=80/\Blk w' m (fill (cO bs t)) 470/\Mod NoB w w' | _=>False,λl _=>match l with | [.i _ x]=>(80 - x).toNat | _=>0,⟨0,rfl,by omega,hM0,hN.mod⟩,?_⟩
 rintro x w2 ⟨t,rfl,ht,hM,q9⟩
 refine aC (λh80=>?_) (λh80=>?_)
 ·have h9:t<80:=by simp at h80; omega
  refine aC (λh16=>?_) (λh16=>?_)
  ·have t6:t<16:=by simp at h16; omega
   have e1:zW ((8:Int)*(t:Int))=((8*t:Nat):Int):=by rw [wrap_i64 (by omega)]; omega
   have e2:zW (((8*t:Nat):Int)+(8:Int))=((8*t+8:Nat):Int):=by rw [wrap_i64 (by omega)]; omega
   simp only [e1,e2,Int.toNat_natCast]
   refine ⟨⟨by omega,by omega,by have:=hb.2.1; omega⟩,?_⟩
   refine qIL (R:=True) hb hl t6 q9 z8 (by omega) hM λw3 j2 j3=>⟨?_,?_⟩
   ·rw [aI (by omega)]
    exact ⟨t+1,rfl,by omega,j3,j2⟩
   ·rw [aI (by omega)]
    (try simp only []); omega
  ·have t6:16<=t:=by simp at h16; omega
   have hsl:=iA bs t
   have f2:zW ((t:Int) - (2:Int))=((t - 2:Nat):Int):=by rw [wrap_i64 (by omega)]; omega
   have f7:zW ((t:Int) - (7:Int))=((t - 7:Nat):Int):=by rw [wrap_i64 (by omega)]; omega
   have f15:zW ((t:Int) - (15:Int))=((t - 15:Nat):Int):=by rw [wrap_i64 (by omega)]; omega
   have f16:zW ((t:Int) - (16:Int))=((t - 16:Nat):Int):=by rw [wrap_i64 (by omega)]; omega
   simp only [f2,f7,f15,f16,Int.toNat_natCast]
   refine ⟨λw'=>Blk w' m (fill (cO bs t)) 470,hM,⟨by omega,by omega⟩,⟨by omega,by omega⟩,⟨by omega,by omega⟩,⟨by omega,by omega⟩,
    (cO bs t).getD (t - 2) 0,λw' h=>rda h (qM (by omega)),(cO bs t).getD (t - 7) 0,λw' h=>rda h (qM (by omega)),(cO bs t).getD (t - 15) 0,λw' h=>rda h (qM (by omega)),(cO bs t).getD (t - 16) 0,λw' h=>rda h (qM (by omega)),?_,trivial⟩
   refine aB (qCN (a:=19) (b:=61) (c:=6) (by omega) (by omega)) ?_
   rintro v w5 ⟨rfl,rfl⟩
   refine ⟨_,rfl,hM,?_,trivial⟩
   refine aB (qCN (a:=1) (b:=8) (c:=7) (by omega) (by omega)) ?_
   rintro v w5 ⟨rfl,rfl⟩
   refine ⟨_,rfl,hM,⟨by omega,by omega⟩,?_,trivial⟩
   rw [aO]
   refine aX (l:=fill (cO bs t)) (by kernel_rfl) (by kernel_rfl) rfl (w:=w2.drew.drew.drew) (E:=470) hM (by rw [oE (by omega)]; omega) λw7 j4 y2=>⟨?_,?_⟩
   ·rw [aI (by omega)]
    refine ⟨t+1,rfl,by omega,?_,(Mod.dr (Mod.dr (Mod.dr q9))).fresh j4.mod λx e=>by omega⟩
    rw [Nat.zero_add,Nat.mul_one] at y2
    have e:cO bs (t+1)=cO bs t++[yN bs (cO bs t) t]:=rfl
    rw [e,<-uQ (by omega),hsl]
    unfold yN
    rw [if_neg (by omega)]
    exact y2
   ·rw [aI (by omega)]
    (try simp only []); omega
 ·have h9:t=80:=by simp at h80; omega
  subst h9
  obtain ⟨k0,k1,k2,k3,k4,k5,k6,k7,rfl⟩:=qCC hh
  have hp2:=hp.no q9
  have j5:fill (cO bs 80)=us (cO bs 80):=by unfold fill; rw [iA]; simp
  rw [j5] at hM
  refine ⟨k0,k1,k2,k3,k4,k5,k6,k7,(hp2.rd (o:=0) (vs:=us [k0,k1,k2,k3,k4,k5,k6,k7]) λj v hj=>by
   rw [Nat.zero_add,List.getElem?_append_left (List.getElem?_eq_some_iff.1 hj).1,hj]),?_⟩
  refine aN (l:=List.replicate 8 z64) z1 z6 rfl λvB w8 u7 j6=>⟨_,rfl,?_⟩
  have b5:=u7.at_
  refine bU (vs:=us [k0,k1,k2,k3,k4,k5,k6,k7]) (by kernel_rfl) (by kernel_rfl) rfl j6 (by simp) (vD _) λw9 y5 b6=>?_
  have a6:Blk w9 m (us (cO bs 80)) 470:=(hM.no u7.mod).mod y5.mod (by have:=hM.lt; omega)
  have a7:Mod NoB w w9:=(q9.tr u7.mod).fresh y5.mod λx e=>by have:=q9.size; omega
  refine ⟨cO bs 80,iA bs 80,by rw [uJ]; exact a6.rd (o:=0) λj v hj=>by rw [Nat.zero_add]; exact hj,?_⟩
  have o1:w.heap.size<=vB:=by have:=q9.size; omega
  refine ⟨λl w'=>match l with | [.i _ x]=>∃ t:Nat,x=t/\t<=80/\Blk w' vB (us (rounds KS (cO bs 80) [k0,k1,k2,k3,k4,k5,k6,k7] t)) 447/\Mod NoB w w' | _=>False,λl _=>match l with | [.i _ x]=>(80 - x).toNat | _=>0,⟨0,rfl,by omega,b6,a7⟩,?_⟩
  rintro x u5 ⟨t,rfl,ht,hV,p8⟩
  have t7:=hg.no p8
  refine aC (λh8=>?_) (λh8=>?_)
  ·have h9:t<80:=by simp at h8; omega
   obtain ⟨a,b',c,d,e,f,g,k,hr⟩:=qCC (kF (ks:=KS) (ws:=cO bs 80) (v:=[k0,k1,k2,k3,k4,k5,k6,k7]) rfl t)
   have u0:rounds KS (cO bs 80) [k0,k1,k2,k3,k4,k5,k6,k7] (t+1)=rnd [a,b',c,d,e,f,g,k] (KS.getD t 0) ((cO bs 80).getD t 0):=by
    show rnd (rounds KS (cO bs 80) _ t) _ _=_
    rw [hr]
   rw [hr] at hV
   refine ⟨⟨by omega,by omega⟩,?_,(cO bs 80).getD t 0,?_,⟨by omega,by omega⟩,⟨by omega,by omega⟩,a,rda (w:=u5.drew) hV rfl,e,rda (w:=u5.drew) hV rfl,?_⟩
   ·intro z hz
    obtain ⟨y,_,rfl⟩:=List.mem_map.1 hz
    rfl
   ·rw [Int.toNat_natCast]
    have hlt:t<(cO bs 80).length:=by rw [iA]; omega
    rw [List.getElem?_map,List.getElem?_eq_getElem hlt,List.getD_eq_getElem?_getD,List.getElem?_eq_getElem hlt]
    rfl
   refine ⟨λw'=>Blk w' vB (us [a,b',c,d,e,f,g,k]) 447/\gE w',⟨hV,t7.drew.drew⟩,⟨by omega,by omega⟩,⟨by omega,by omega⟩,⟨by omega,by omega⟩,⟨by omega,by omega⟩,
    k,λw' h=>rda h.1 rfl,f,λw' h=>rda h.1 rfl,g,λw' h=>rda h.1 rfl,KS.getD t 0,λw' h=>gE.k h.2 h9,?_,trivial⟩
   refine aB (qXJ (a:=14) (b:=18) (c:=41) (by omega) (by omega) (by omega)) ?_
   rintro v w5 ⟨rfl,rfl⟩
   refine ⟨_,rfl,⟨hV,t7.drew.drew⟩,λw'=>Blk w' vB (us [a,b',c,d,e,f,g,k]) 447,hV,⟨by omega,by omega⟩,⟨by omega,by omega⟩,⟨by omega,by omega⟩,⟨by omega,by omega⟩,
    b',λw' h=>rda h rfl,c,λw' h=>rda h rfl,b',λw' h=>rda h rfl,c,λw' h=>rda h rfl,?_,trivial⟩
   refine aB (qXJ (a:=28) (b:=34) (c:=39) (by omega) (by omega) (by omega)) ?_
   rintro v w5 ⟨rfl,rfl⟩
   refine ⟨_,rfl,hV,⟨by omega,by omega⟩,⟨by omega,by omega⟩,?_,trivial⟩
   obtain ⟨i4,a8,o2,h43,o3⟩:=i44
   have i6:Sh.Own u5.drew.drew.drew.drew ⟨some ⟨vB,0,none⟩,8,8⟩ 1 (us [a,b',c,d,e,f,g,k]):=aY (n:=8) (k:=1) (T:=447) hV rfl
   have hsrc:aK u5.drew.drew.drew.drew (aF ⟨some ⟨vB,0,none⟩,8,8⟩ 1 0 7 8) 1 (us [a,b',c,d,e,f,g]):=i6.rd.cut (l:=0) (n:=7) (m:=8) (by omega) (by simp only []; omega) (by omega) (by simp only []; omega)
   refine qZ (d:=aF ⟨some ⟨vB,0,none⟩,8,8⟩ 1 1 8 8) (x:=aF ⟨some ⟨vB,0,none⟩,8,8⟩ 1 0 7 8) (b:=vB) (o:=1) (T:=447) (l:=us [a,b',c,d,e,f,g,k]) u40 a8 h43 rfl hV (by simp [aF]) hsrc (vD _) λi7 u9 v1 i8=>⟨_,rfl,?_⟩
   have p9:Blk i7 vB (us [a,a,b',c,d,e,f,g]) 447:=u9
   refine ⟨⟨by omega,by omega⟩,d,rda p9 rfl,⟨by omega,by omega⟩,?_⟩
   refine aX (b:=vB) (o:=0) (by kernel_rfl) (by kernel_rfl) rfl p9 (by simp) λo4 v6 v7=>⟨⟨by omega,by omega⟩,?_⟩
   refine aX (b:=vB) (o:=4) (by kernel_rfl) (by kernel_rfl) rfl v7 (by simp) λo5 v8 y0=>⟨?_,?_⟩
   ·rw [aI (by omega)]
    refine ⟨t+1,rfl,by omega,?_,?_⟩
    ·rw [u0]
     exact y0
    ·exact (((Mod.dr (Mod.dr (Mod.dr (Mod.dr p8)))).fresh v1 λx e=>by omega).fresh v6.mod λx e=>by omega).fresh v8.mod λx e=>by omega
   ·rw [aI (by omega)]
    (try simp only []); omega
  ·have h9:t=80:=by simp at h8; omega
   subst h9
   obtain ⟨hv,u6⟩ : ∃ hv,hv=rounds KS (cO bs 80) [k0,k1,k2,k3,k4,k5,k6,k7] 80:=⟨_,rfl⟩
   have u1:hv.length=8:=by rw [u6]; exact kF rfl 80
   rw [<-u6] at hV
   have q8:comp KS [k0,k1,k2,k3,k4,k5,k6,k7] bs=List.zipWith (λx y=>x+y) [k0,k1,k2,k3,k4,k5,k6,k7] hv:=by rw [u6]; rfl
   rw [q8]
   clear q8 u6
   obtain ⟨hk,hkl⟩ : ∃ hk,hk=[k0,k1,k2,k3,k4,k5,k6,k7]:=⟨_,rfl⟩
   rw [<-hkl] at hp ⊢
   have hkn:hk.length=8:=by rw [hkl]; rfl
   clear hkl
   have hpv:p≠vB:=by omega
   refine ⟨λl w'=>match l with | [.i _ x]=>∃ i:Nat,x=i/\i<=8/\Blk w' p (us (List.zipWith (λx y=>x+y) (hk.take i) (hv.take i)++hk.drop i)++r) T/\Blk w' vB (us hv) 447/\Mod (λx=>x=p) w w' | _=>False,λl _=>match l with | [.i _ x]=>(8 - x).toNat | _=>0,
    ⟨0,rfl,by omega,by simpa using hp.no p8,hV,p8.mono λ_ _ e=>e.elim⟩,?_⟩
   rintro x y7 ⟨i,rfl,hi,hP,hV,u2⟩
   refine aC (λh8=>?_) (λh8=>?_)
   ·have y1:i<8:=by simp at h8; omega
    have hzl:(List.zipWith (λx y=>x+y) (hk.take i) (hv.take i)).length=i:=by simp; omega
    have hget:(us (List.zipWith (λx y=>x+y) (hk.take i) (hv.take i)++hk.drop i)++r)[i]? = some (.int .u64 hk[i].toNat):=by
     rw [List.getElem?_append_left (by simp; omega),rT,List.getElem?_append_right (by simp; omega)]
     simp only [qBE,hzl,Nat.sub_self]
     rw [pU (by simp; omega)]
     simp
    refine ⟨λw'=>Blk w' p (us (List.zipWith (λx y=>x+y) (hk.take i) (hv.take i)++hk.drop i)++r) T/\Blk w' vB (us hv) 447,⟨hP,hV⟩,⟨by omega,by omega⟩,⟨by omega,by omega⟩,
     hk[i],λw' h=>rda h.1 hget,hv[i],λw' h=>rda h.2 (pU (by omega)),⟨by omega,by omega⟩,?_,trivial⟩
    rw [aO]
    refine aX (l:=us (List.zipWith (λx y=>x+y) (hk.take i) (hv.take i)++hk.drop i)++r) (w:=y7.drew) (E:=T) (by kernel_rfl) (by kernel_rfl) rfl hP (by simp; omega) λo6 u3 u4=>⟨?_,?_⟩
    ·rw [aI (by omega)]
     refine ⟨i+1,rfl,by omega,?_,Blk.mod (w:=y7.drew) hV u3.mod (λe=>hpv e.symm),(Mod.dr u2).tr u3.mod⟩
     rw [Nat.zero_add,Int.toNat_natCast,Nat.mul_one,List.set_append_left _ _ (by simp; omega),qIA hkn u1 y1] at u4
     exact u4
    ·rw [aI (by omega)]
     (try simp only []); omega
   ·have y1:i=8:=by simp at h8; omega
    subst y1
    refine ⟨rfl,?_,u2⟩
    rw [List.take_of_length_le (by omega),List.take_of_length_le (by omega),List.drop_eq_nil_of_le (by omega),List.append_nil] at hP
    exact hP
def HW (st:List UInt64) (s:Slc) (n:UInt64):List Value:=us st++[s.val,.int .u64 n.toNat,.bool true]
section
variable {st:List UInt64} {s:Slc} {n:UInt64}
theorem hw8 (h:st.length=8):(HW st s n)[8]? = some s.val:=by unfold HW; rw [List.getElem?_append_right (by simp [h])]; simp [h]
theorem hw9 (h:st.length=8):(HW st s n)[9]? = some (.int .u64 n.toNat):=by unfold HW; rw [List.getElem?_append_right (by simp [h])]; simp [h]
theorem hw10 (h:st.length=8):(HW st s n)[10]? = some (.bool true):=by unfold HW; rw [List.getElem?_append_right (by simp [h])]; simp [h]
theorem wD (h:st.length=8):(HW st s n).length=11:=by simp [HW,h]
theorem wE (h:st.length=8) (s':Slc):(HW st s n).set 8 s'.val=HW st s' n:=by
 unfold HW; rw [List.set_append_right _ _ (by simp [h])]; simp [h]
theorem qQL (h:st.length=8) (n':UInt64):(HW st s n).set 9 (.int .u64 n'.toNat)=HW st s n':=by
 unfold HW; rw [List.set_append_right _ _ (by simp [h])]; simp [h]
end
abbrev iS:TypeId:=449
structure eV (w:World) (p:Nat) (s:Slc) (b:zY):Prop where
 blk:Blk w p (HW (state KS H0 b) s (UInt64.ofNat b.length)) iS
 own:Sh.Own w s 1 (bys (rest b))
 ne:s.blk≠some p
 pg : ¬ isG p
 sg : ∀ x,s.blk=some x->¬ isG x
theorem eV.mod {w w':World} {p:Nat} {s:Slc} {b:zY} {S:Nat->Prop} (h:eV w p s b) (hm:Mod S w w') (hp : ¬ S p) (hs : ∀ x,s.blk=some x->¬ S x):eV w' p s b:=
 ⟨h.blk.mod hm hp,h.own.mod hm hs,h.ne,h.pg,h.sg⟩
theorem eV.no {w w':World} {p:Nat} {s:Slc} {b:zY} (h:eV w p s b) (hm:Mod NoB w w'):eV w' p s b:=h.mod hm (λh=>h) λ_ _ h=>h
theorem kN (b:zY):(state KS H0 b).length=8:=qEX qKS
theorem qDU {w:World} {p:Nat} {st:List UInt64} {s:Slc} {n:UInt64} (h:Blk w p (HW st s n) iS) (hst:st.length=8) :
 Calls prog 348 #[.pointer (some ⟨p,0,none⟩)] w (Ret λv w'=>v = .bool true/\w'=w):=by
 refine qQW _ ?_
 unfold qTN
 refine rU (e:=iS) (by kernel_rfl) ⟨_,rfl,true,?_,rfl,rfl⟩
 exact h.rd1 (o:=10) (hw10 hst)
structure Mid (w0 w':World) (p:Nat) (s0:Slc) (X:Nat->Prop) (b' c:zY) (n':UInt64) (q:Slc):Prop where
 ex : ∃ (s3:Slc) (c1 c2:zY),c=c1++c2/\(rest b'++c1).length % 128=0/\aK w' q 1 (bys c2)/\(∀ x,q.blk=some x->X x)/\
  Blk w' p (HW (dK KS (state KS H0 b') (rest b'++c1) ((rest b'++c1).length / 128)) s3 n') iS/\Sh.Own w' s3 1 (bys [])/\BO w0 s0 s3
 mod:Mod (λx=>x=p\/s0.blk=some x) w0 w'
set_option maxRecDepth 10000 in
theorem qCU {w:World} {p:Nat} {s:Slc} {b:zY} {parts:Slc} {pl:List (zY)} {X:Nat->Prop} (h:eV w p s b) (hg:gE w) (hp:PartsAt w parts pl X)
 (z1 : ¬ X p) (i8 : ∀ x,s.blk=some x->¬ X x) (s7 : ∀ x,X x->x<w.heap.size) (hn:b.length+(pl.flatten).length<=1000000000) (hm:pl.length<=1000000000) :
 Calls prog 294 #[.pointer (some ⟨p,0,none⟩),.slice parts.a parts.len parts.cap] w (Ret λv w'=>v = .int .i64 0/\∃ s',eV w' p s' (b++pl.flatten)/\BO w s s'/\Mod (λx=>x=p\/s.blk=some x) w w'):=by
 refine qMV _ _ ?_
 unfold qXI
 refine aB (qDU h.blk (kN b)) ?_
 rintro v w1 ⟨rfl,rfl⟩
 refine ⟨true,rfl,?_⟩
 show aE false _ _
 refine aC (λe=>by cases e) λ_=>?_
 obtain ⟨gm,o0,o1,o2,o3⟩:=i5
 have hpl:=h.blk.lt
 have hY : ∀ x,s.blk=some x->¬ (x=p\/isG x\/X x):=λx hx e=>e.elim (λe=>h.ne (by rw [hx,e])) λe=>e.elim (h.sg x hx) (i8 x hx)
 have hYl : ∀ x,(x=p\/isG x\/X x)->x<w1.heap.size:=λx e=>e.elim (λe=>by omega) λe=>e.elim hg.lt (s7 x)
 have o4 : ∀ x,s.blk=some x->(x=p\/s.blk=some x):=λx hx=>.inr hx
 have z6 : ∀ x,X x->¬ (x=p\/s.blk=some x):=λx hx e=>e.elim (λe=>z1 (by rw [<-e]; exact hx)) λe=>i8 x e hx
 have hGn : ∀ x,isG x->¬ (x=p\/s.blk=some x):=λx hx e=>e.elim (λe=>h.pg (by rw [<-e]; exact hx)) λe=>h.sg x e hx
 obtain ⟨ss,z7,hr2,gn,s8⟩:=hp
 refine ⟨λl w'=>match l with | [.i _ x]=>∃ i:Nat,x=i/\i<=pl.length/\(∃ s',eV w' p s' (b++(pl.take i).flatten)/\BO w1 s s')/\Mod (λx=>x=p\/s.blk=some x) w1 w' | _=>False,
  λl _=>match l with | [.i _ x]=>(pl.length - x).toNat | _=>0,⟨0,rfl,by omega,⟨s,by simpa using h,BO.refl _ _⟩,Mod.refl _ _⟩,?_⟩
 rintro x w2 ⟨i,rfl,hi,⟨s2,h2,hb2⟩,y2⟩
 have hr1:=z7.mod y2 λx hx=>z6 x (hr2 x hx)
 have gp:parts.len=pl.length:=by have:=hr1.1; simp at this; omega
 refine aC (λhc=>?_) (λhc=>?_)
 ·have u0:i<pl.length:=by simp at hc; omega
  obtain ⟨a,ha,o5⟩:=pA hr1 (i:=i) (by omega)
  obtain ⟨k5,hrx⟩:=s8 i (by omega) u0
  have hrs:=k5.mod y2 λx hx=>z6 x (hrx x hx)
  obtain ⟨q,hq⟩ : ∃ q,q=ss[i]'(by omega):=⟨_,rfl⟩
  rw [<-hq] at o5 hrs hrx k5
  obtain ⟨c,hcd⟩ : ∃ c,c=pl[i]:=⟨_,rfl⟩
  rw [<-hcd] at hrs k5
  obtain ⟨b',z8⟩ : ∃ b',b'=b++(pl.take i).flatten:=⟨_,rfl⟩
  rw [<-z8] at h2
  have hb'n:b'.length+c.length<=1000000000:=by
   have e1:pl.flatten=(pl.take i).flatten++c++(pl.drop (i+1)).flatten:=by
    conv=>lhs; rw [<-List.take_append_drop (i+1) pl]
    rw [List.flatten_append,aL u0,List.flatten_append,hcd]
    simp
   have:=congrArg List.length e1
   simp only [List.length_append] at this
   rw [z8,List.length_append]; omega
  have hnx:b++(pl.take (i+1)).flatten=b'++c:=by rw [aL u0,List.flatten_append,z8,hcd]; simp
  have hcl:=aV hrs
  have gq:=hrs.2.1
  rw [ha]
  have hst:=kN b'
  have hrl:=lI b'
  refine ⟨⟨by omega,by omega⟩,q,o5,UInt64.ofNat b'.length,h2.blk.rd1 (o:=9) (hw9 hst),?_⟩
  have u1:UInt64.ofNat b'.length+aP (q.len:Int)=UInt64.ofNat (b'++c).length:=by
   rw [List.length_append,hcl]
   apply UInt64.toNat_inj.1
   have hu:(aP (q.len:Int)).toNat=q.len:=by unfold aP; simp [UInt64.toNat_ofNat']; omega
   rw [UInt64.toNat_add,hu]
   simp [UInt64.toNat_ofNat']
  rw [u1]
  refine aX (b:=p) (o:=9) (by kernel_rfl) (by kernel_rfl) rfl h2.blk (by rw [wD hst]; omega) λw3 ht3 t6=>?_
  rw [qQL hst] at t6
  have o6:Mod (λx=>x=p\/s.blk=some x) w1 w3:=y2.tr (ht3.mod.mono λ_ _ e=>.inl e)
  have y5:Sh.Own w3 s2 1 (bys (rest b')):=h2.own.mod ht3.mod λx hx e=>h2.ne (by rw [hx,e])
  have u2:aK w3 q 1 (bys c):=hrs.mod ht3.mod λx hx e=>z1 (by rw [<-e]; exact hrx x hx)
  have gr:(rest b').length=s2.len:=by have:=y5.1; simpa using this
  have hend : ∀ (w':World) (s':Slc),eV w' p s' (b'++c)->BO w1 s s'->Mod (λx=>x=p\/s.blk=some x) w1 w'->
   ∃ i':Nat,zW ((i:Int)+(1:Int))=i'/\i'<=pl.length/\(∃ s',eV w' p s' (b++(pl.take i').flatten)/\BO w1 s s')/\Mod (λx=>x=p\/s.blk=some x) w1 w':=λw' s' ha hb hm=>
   ⟨i+1,aI (by omega),by omega,⟨s',by rw [hnx]; exact ha,hb⟩,hm⟩
  have o7:(pl.length - zW ((i:Int)+(1:Int))).toNat<((pl.length:Int) - i).toNat:=by rw [aI (by omega)]; omega
  refine ⟨λl w'=>match l with | [.sl q']=>Mid w1 w' p s X b' c (UInt64.ofNat (b'++c).length) q' | _=>False,⟨s2,t6.rd1 (o:=8) (hw8 hst),s2,t6.rd1 (o:=8) (hw8 hst),?_⟩,?_⟩
  ·refine aC (λhl=>?_) (λhl=>?_)
   ·have hs2:0<s2.len:=by simpa using hl
    have e1:zW ((128:Int) - (s2.len:Int))=((128 - s2.len:Nat):Int):=by rw [wrap_i64 (by omega)]; omega
    rw [e1]
    obtain ⟨n0,hn0⟩ : ∃ n0,n0=min (128 - s2.len) q.len:=⟨_,rfl⟩
    have e2:(if (q.len:Int)<((128 - s2.len:Nat):Int) then (q.len:Int) else ((128 - s2.len:Nat):Int))=(n0:Int):=by split <;> omega
    rw [e2]
    simp only [Int.toNat_natCast]
    have hcut:=aK.cut (aK.drew u2) (l:=0) (n:=n0) (m:=q.cap) (by omega) (by omega) (by omega) (Nat.le_refl _)
    rw [Nat.sub_zero,fV,List.drop_zero] at hcut
    refine ⟨λw'=>Blk w' p (HW (state KS H0 b') s2 (UInt64.ofNat (b'++c).length)) iS,t6,⟨by omega,by omega⟩,⟨by omega,by omega⟩,s2,λw' h=>h.rd1 (o:=8) (hw8 hst),?_,trivial⟩
    refine aS u26 o0 o1 o2 rfl o3 (w:=w3.drew) y5 hcut (eX _) (by simp only [aF]; omega) (by simp only [aF]; omega) λs4 w4 o8 u3 u4 o9=>⟨s4,rfl,?_⟩
    rw [<-gV] at o8
    have j2:s4.len=s2.len+n0:=by simpa [aF] using u3
    have hm3d:Mod (λx=>x=p\/s.blk=some x) w1 w3.drew:=Mod.dr o6
    have j3:=hb2.mod hm3d o4 o9
    have hb4:BO w1 s s4:=hb2.step hm3d.size u4
    have s9:Blk w4 p (HW (state KS H0 b') s2 (UInt64.ofNat (b'++c).length)) iS:=Blk.mod (w:=w3.drew) t6 o9 h2.ne
    have k6:=hb4.not hY hYl
    refine ⟨aX (b:=p) (o:=8) (by kernel_rfl) (by kernel_rfl) rfl s9 (by rw [wD hst]; omega) λw5 r0 t7=>?_,trivial⟩
    have t7:Blk w5 p (HW (state KS H0 b') s4 (UInt64.ofNat (b'++c).length)) iS:=by rw [<-wE hst s4]; exact t7
    have u5:Sh.Own w5 s4 1 (bys (rest b'++c.take n0)):=o8.mod r0.mod λx hx e=>k6 x hx (.inl e)
    have j4:=j3.tr (r0.mod.mono λ_ _ e=>.inl e)
    refine ⟨s4,t7.rd1 (o:=8) (hw8 hst),aC (λh128=>?_) (λh128=>?_)⟩
    ·have u6:s4.len<128:=by simp at h128; omega
     have hn0c:n0=c.length:=by omega
     rw [hn0c,List.take_length] at u5
     have hdiv:(rest b'++c).length / 128=0:=by rw [List.length_append]; omega
     have hs5:state KS H0 (b'++c)=state KS H0 b':=by rw [uX,hdiv]; rfl
     have ga:rest (b'++c)=rest b'++c:=by rw [yB,hdiv]; simp
     exact ⟨hend w5 s4 ⟨by rw [hs5]; exact t7,by rw [ga]; exact u5,λe=>k6 p e (.inl rfl),h.pg,λx hx e=>k6 x hx (.inr (.inl e))⟩ hb4 j4,o7⟩
    ·have u6:s4.len=128:=by simp at h128; omega
     have hlb:(rest b'++c.take n0).length=128:=by have:=u5.1; simp at this ⊢; omega
     have gb:gE w5:=hg.mod j4 hGn
     refine ⟨λw'=>Blk w' p (HW (state KS H0 b') s4 (UInt64.ofNat (b'++c).length)) iS,t7,s4,λw' h=>h.rd1 (o:=8) (hw8 hst),?_,trivial⟩
     have gf:=qEF (w:=w5.drew) (p:=p) (h:=state KS H0 b') (T:=iS) (r:=[s4.val,.int .u64 (UInt64.ofNat (b'++c).length).toNat,.bool true]) t7 hst (aK.drew u5.rd) hlb gb.drew h.pg
     refine aB gf ?_
     rintro v w6 ⟨rfl,y7,r7⟩
     have y7:Blk w6 p (HW (comp KS (state KS H0 b') (rest b'++c.take n0)) s4 (UInt64.ofNat (b'++c).length)) iS:=y7
     have p9:(comp KS (state KS H0 b') (rest b'++c.take n0)).length=8:=wV hst
     refine ⟨rfl,s4,y7.rd1 (o:=8) (hw8 p9),⟨by omega,by omega⟩,?_⟩
     have gg:Sh.Own w6 s4 1 (bys (rest b'++c.take n0)):=Own.mod (w:=w5.drew) u5 r7 λx hx e=>k6 x hx (.inl e)
     have ho6c:=gg.cut (l:=0) (n:=0) (m:=s4.cap) (by omega) (by omega) (by omega) (Nat.le_refl _)
     refine aX (b:=p) (o:=8) (by kernel_rfl) (by kernel_rfl) rfl y7 (by rw [wD p9]; omega) λw7 r8 j5=>?_
     have j5:Blk w7 p (HW (comp KS (state KS H0 b') (rest b'++c.take n0)) (aF s4 1 0 0 s4.cap) (UInt64.ofNat (b'++c).length)) iS:=by rw [<-wE p9 (aF s4 1 0 0 s4.cap)]; exact j5
     have j6:=(hb4.cut (k:=1) (l:=0) (n:=0) (m:=s4.cap) (Nat.le_refl _)).not hY hYl
     have r9:=((Mod.dr j4).tr (r7.mono λ_ _ e=>.inl e)).tr (r8.mod.mono λ_ _ e=>.inl e)
     have b5:aK w7 q 1 (bys c):=k5.mod r9 λx hx=>z6 x (hrx x hx)
     ·have k3:=b5.cut (l:=n0) (n:=q.len) (m:=q.cap) (by omega) (Nat.le_refl _) (by omega) (Nat.le_refl _)
      rw [fV] at k3
      refine ⟨⟨aF s4 1 0 0 s4.cap,c.take n0,c.drop n0,(List.take_append_drop n0 c).symm,by omega,?_,λx hx=>hrx x (nQ hx (Nat.le_refl _)),?_,?_,hb4.cut (Nat.le_refl _)⟩,r9⟩
      ·rw [List.take_of_length_le (by rw [List.length_drop]; omega)] at k3
       exact k3
      ·have:(rest b'++c.take n0).length / 128=1:=by omega
       rw [this]
       have b6:dK KS (state KS H0 b') (rest b'++c.take n0) 1=comp KS (state KS H0 b') (rest b'++c.take n0):=by
        show comp KS (dK KS (state KS H0 b') (rest b'++c.take n0) 0) _=_
        simp only [dK,Nat.mul_zero,List.drop_zero]
        rw [List.take_of_length_le (by omega)]
       rw [b6]
       exact j5
      ·have:=ho6c.mod r8.mod λx hx e=>j6 x hx (.inl e)
       simpa [bys] using this
   ·have hs2:s2.len=0:=by simp at hl; omega
    have hr0:rest b'=[]:=List.eq_nil_of_length_eq_zero (by omega)
    rw [hr0] at y5
    refine ⟨⟨s2,[],c,rfl,by rw [hr0]; rfl,u2,hrx,?_,y5,hb2⟩,o6⟩
    rw [hr0]
    exact t6
  ·rintro q1 w8 a6
   refine ⟨λl w'=>match l with | [.sl q']=>Mid w1 w' p s X b' c (UInt64.ofNat (b'++c).length) q' | _=>False,λl _=>match l with | [.sl q']=>q'.len | _=>0,a6,?_⟩
   rintro q2 w9 ⟨⟨s3,c1,c2,hcc,hmod,u7,s5,a7,a8,y8⟩,y9⟩
   have hal:(dK KS (state KS H0 b') (rest b'++c1) ((rest b'++c1).length / 128)).length=8:=mV hst _
   have hc2:=aV u7
   have u9:=y8.not hY hYl
   refine aC (λhl=>?_) (λhl=>?_)
   ·have v1:128<=q2.len:=by simp at hl; omega
    have gh:=u7.2.1
    have hcut:=aK.cut (aK.drew u7) (l:=0) (n:=128) (m:=q2.cap) (by omega) (by omega) (by omega) (Nat.le_refl _)
    rw [Nat.sub_zero,fV,List.drop_zero] at hcut
    have gj:gE w9:=hg.mod y9 hGn
    refine ⟨⟨by omega,by omega⟩,?_,trivial⟩
    refine aB (qEF (w:=w9.drew) (p:=p) (h:=dK KS (state KS H0 b') (rest b'++c1) ((rest b'++c1).length / 128)) (T:=iS) (r:=[s3.val,.int .u64 (UInt64.ofNat (b'++c).length).toNat,.bool true]) a7 hal hcut (by rw [List.length_take]; omega) gj.drew h.pg) ?_
    rintro v s6 ⟨rfl,q8,h9⟩
    have v6:aK s6 q2 1 (bys c2):=aK.mod (w:=w9.drew) u7 h9 λx hx e=>z1 (by rw [<-e]; exact s5 x hx)
    have p8:=v6.cut (l:=128) (n:=q2.len) (m:=q2.cap) (by omega) (Nat.le_refl _) (by omega) (Nat.le_refl _)
    rw [fV,List.take_of_length_le (by rw [List.length_drop]; omega)] at p8
    refine ⟨rfl,⟨by omega,by omega⟩,⟨⟨s3,c1++c2.take 128,c2.drop 128,by rw [hcc,List.append_assoc,List.take_append_drop],?_,p8,λx hx=>s5 x (nQ hx (Nat.le_refl _)),?_,Own.mod (w:=w9.drew) a8 h9 λx hx e=>u9 x hx (.inl e),y8⟩,(Mod.dr y9).tr (h9.mono λ_ _ e=>.inl e)⟩,by simp only [aF]; omega⟩
    ·rw [<-List.append_assoc,List.length_append,List.length_take]; omega
    ·have hl2:(rest b'++(c1++c2.take 128)).length / 128=(rest b'++c1).length / 128+1:=by rw [<-List.append_assoc,List.length_append,List.length_take]; omega
     rw [hl2,<-List.append_assoc]
     have e3:=nF (ks:=KS) (h:=state KS H0 b') (a:=rest b'++c1) (b:=c2.take 128) (m:=(rest b'++c1).length / 128) (by omega) 1
     rw [e3]
     have b6 : ∀ st,dK KS st (c2.take 128) 1=comp KS st (c2.take 128):=λst=>by
      show comp KS (dK KS st (c2.take 128) 0) _=_
      simp only [dK,Nat.mul_zero,List.drop_zero,List.take_take,Nat.min_self]
     rw [b6]
     exact q8
   ·have v1:q2.len<128:=by simp at hl; omega
    refine ⟨s3,a7.rd1 (o:=8) (hw8 hal),?_⟩
    have hs3:s3.len=0:=by have:=a8.1; simp [bys] at this; omega
    refine aS u26 o0 o1 o2 rfl o3 a8 u7 (eX _) (by omega) (by omega) λs4 s6 v7 i6 q9 h9=>⟨s4,rfl,?_⟩
    rw [<-gV,List.nil_append] at v7
    have v8:=y8.mod y9 o4 h9
    have y0:BO w1 s s4:=y8.step y9.size q9
    have k4:=y0.not hY hYl
    have q8:=a7.mod h9 λe=>u9 p e (.inl rfl)
    refine aX (b:=p) (o:=8) (by kernel_rfl) (by kernel_rfl) rfl q8 (by rw [wD hal]; omega) λgk y1 i7=>⟨hend gk s4 ⟨?_,?_,λe=>k4 p e (.inl rfl),h.pg,λx hx e=>k4 x hx (.inr (.inl e))⟩ y0 (v8.tr (y1.mod.mono λ_ _ e=>.inl e)),o7⟩
    ·have hdiv:(rest b'++c).length / 128=(rest b'++c1).length / 128:=by rw [hcc,<-List.append_assoc,List.length_append]; omega
     have:state KS H0 (b'++c)=dK KS (state KS H0 b') (rest b'++c1) ((rest b'++c1).length / 128):=by
      rw [uX,hdiv]
      conv=>lhs; rw [hcc,<-List.append_assoc]
      exact mB _ (by omega)
     rw [this,<-wE hal s4]
     exact i7
    ·have hdiv:(rest b'++c).length / 128=(rest b'++c1).length / 128:=by rw [hcc,<-List.append_assoc,List.length_append]; omega
     have:rest (b'++c)=c2:=by
      rw [yB,hdiv,hcc,<-List.append_assoc,List.drop_append,List.drop_eq_nil_of_le (by omega),List.nil_append]
      have:128*((rest b'++c1).length / 128) - (rest b'++c1).length=0:=by omega
      rw [this,List.drop_zero]
     rw [this]
     exact v7.mod y1.mod λx hx e=>k4 x hx (.inl e)
 ·have u0:i=pl.length:=by simp at hc; omega
  subst u0
  rw [List.take_length] at h2
  exact ⟨rfl,s2,h2,hb2,y2⟩
theorem jDL {w:World} (hg:gE w):Calls prog 293 #[] w (Ret λv w'=>∃ p,v = .pointer (some ⟨p,0,none⟩)/\eV w' p ⟨none,0,0⟩ []/\p=w.heap.size/\w'.heap.size=p+1/\Mod NoB w w'):=by
 refine qOZ ?_
 unfold qXD
 refine ⟨_,_,_,_,_,_,_,_,hg.begin0,?_⟩
 refine aQ (l:=HW H0 ⟨none,0,0⟩ 0) rfl λp w1 hN hb=>⟨_,rfl,p,rfl,⟨hb,bK _ _,by simp,hg.fresh (by rw [hN.at_]; exact Nat.le_refl _),by simp⟩,hN.at_,hN.size,hN.mod⟩
theorem uZ {w:World} {s:Slc} {l:zY} (hs:aK w s 1 (bys l)) (hn:l.length<=1000000000) :
 Calls prog 186 #[.slice s.a s.len s.cap] w (Ret λv w'=>∃ s',v=s'.val/\Sh.Own w' s' 1 (bys l)/\(s'.blk=none\/∃ x,s'.blk=some x/\w.heap.size<=x)/\Mod NoB w w'):=by
 obtain ⟨k6,h9,k3,k4,k5⟩:=i5
 have hl:=aV hs
 refine qMC _ ?_
 unfold qST
 refine kG (e:=5) u26 ⟨_,rfl,aC (λh=>?_) (λh=>?_)⟩
 ·have:l=[]:=by
   rcases hs.2.2 with h0 | ⟨b,e1,_⟩
   ·exact vI (b:=[]) h0
   ·rw [e1] at h; simp at h
  subst this
  exact ⟨⟨none,0,0⟩,rfl,bK _ _,.inl rfl,Mod.refl _ _⟩
 ·refine kZ u26 h9 λb w1 hN=>⟨⟨some ⟨b,0,none⟩,0,0⟩,rfl,?_⟩
  refine aS (s:=⟨some ⟨b,0,none⟩,0,0⟩) u26 h9 k3 k4 rfl k5 (kW _ _ _) (hs.no hN.mod) (eX _) (by simp only []; omega) (by simp only []; omega) λs' w2 ho hlen hblk hm=>⟨s',rfl,s',rfl,by simpa using ho,?_,?_⟩
  ·rcases hblk with h | h
   ·exact .inl (by rw [h]; simp)
   ·exact .inr ⟨_,h,hN.mod.size⟩
  ·exact hN.mod.fresh hm λx e=>by simp at e
theorem jAV {w:World} {p:Nat} {s:Slc} {b:zY} (h:eV w p s b) (hg:gE w) (hn:b.length<=1000000000) :
 Calls prog 350 #[.pointer (some ⟨p,0,none⟩)] w (Ret λv w'=>∃ p' s',v = .pointer (some ⟨p',0,none⟩)/\eV w' p' s' b/\w.heap.size<=p'/\(s'.blk=none\/∃ x,s'.blk=some x/\w.heap.size<=x)/\Mod NoB w w'):=by
 refine qLE _ ?_
 unfold qWU
 refine aB (qDU h.blk (kN b)) ?_
 rintro v w1 ⟨rfl,rfl⟩
 refine ⟨true,rfl,?_⟩
 show aE false _ _
 refine aC (λe=>by cases e) λ_=>?_
 obtain ⟨ih,q9,t6,-,-⟩:=(bC (by kernel_rfl) (by kernel_rfl) (by kernel_rfl) : ∃ i,prog.info? 449=some i/\i.zero=some (.agg (List.replicate 8 z64++[.slice none 0 0,z64,.bool false]).toArray)/\i.size=11/\i.bytes=104)
 obtain ⟨k0,k1,k2,k3,k4,k5,k6,k7,hk⟩:=qCC (kN b)
 have hB:=h.blk
 rw [hk] at hB
 have hpl:=h.blk.lt
 refine ⟨k0,k1,k2,k3,k4,k5,k6,k7,s,UInt64.ofNat b.length,true,hB.rd (o:=0) (vs:=HW [k0,k1,k2,k3,k4,k5,k6,k7] s (UInt64.ofNat b.length)) (λj v hj=>by rw [Nat.zero_add]; exact hj),?_⟩
 refine aN (l:=List.replicate 8 z64++[.slice none 0 0,z64,.bool false]) q9 t6 rfl λp' w2 hN hb2=>⟨_,rfl,?_⟩
 have hat:=hN.at_; have hsz:=hN.size
 refine bU (b:=p') (o:=0) (vs:=HW [k0,k1,k2,k3,k4,k5,k6,k7] s (UInt64.ofNat b.length)) (by kernel_rfl) (by kernel_rfl) rfl hb2 (by simp [HW]) (by
  intro u hu
  rcases List.mem_append.1 hu with hu | hu
  ·exact vD _ u hu
  ·simp at hu; rcases hu with rfl | rfl | rfl <;> rfl) λw3 ht3 hb3=>?_
 have hb3:Blk w3 p' (HW [k0,k1,k2,k3,k4,k5,k6,k7] s (UInt64.ofNat b.length)) iS:=hb3
 have p8:Mod NoB w1 w3:=hN.mod.fresh ht3.mod λx e=>by omega
 have t7:=h.blk.no p8
 refine ⟨s,t7.rd1 (o:=8) (hw8 (kN b)),?_⟩
 have u0:=h.own.no p8
 refine aB (uZ u0.rd (by rw [lI]; omega)) ?_
 rintro v w4 ⟨s',rfl,u1,h9,p9⟩
 refine ⟨s',rfl,?_⟩
 have hb4:=hb3.no p9
 have u2:=ht3.size
 have hno : ∀ x,s'.blk=some x->w3.heap.size<=x:=λx hx=>by
  rcases h9 with e | ⟨y,e,hy⟩
  ·rw [e] at hx; cases hx
  ·rw [e] at hx; cases hx; exact hy
 refine aX (b:=p') (o:=8) (by kernel_rfl) (by kernel_rfl) rfl hb4 (by simp [HW]) λw5 q8 u3=>⟨p',s',rfl,⟨?_,?_,?_,hg.fresh (by omega),λx hx=>hg.fresh (by have:=hno x hx; omega)⟩,by omega,?_,?_⟩
 ·have:(HW [k0,k1,k2,k3,k4,k5,k6,k7] s (UInt64.ofNat b.length)).set 8 s'.val=HW [k0,k1,k2,k3,k4,k5,k6,k7] s' (UInt64.ofNat b.length):=rfl
  rw [hk,<-this]; exact u3
 ·exact u1.mod q8.mod λx hx e=>by have:=hno x hx; omega
 ·intro e; have:=hno p' e; omega
 ·rcases h9 with e | ⟨y,e,hy⟩
  ·exact .inl e
  ·exact .inr ⟨y,e,by omega⟩
 ·exact (p8.tr p9).fresh q8.mod λx e=>by omega
theorem jAL (x:UInt64) : ∀ k,k<8->(be8 x)[k]? = some (aM x (56 - 8*k)).toUInt8
 | 0,_=>rfl | 1,_=>rfl | 2,_=>rfl | 3,_=>rfl | 4,_=>rfl | 5,_=>rfl | 6,_=>rfl | 7,_=>rfl
 | n+8,h=>by omega
theorem wT {x:UInt64} {k:Nat} (h:k<8):(be8 x).take (k+1)=(be8 x).take k++[(aM x (56 - 8*k)).toUInt8]:=by
 have:=jAL x k h
 rw [aL (by simpa using h)]
 rw [List.getElem?_eq_getElem (by simpa using h)] at this
 rw [Option.some.inj this]
theorem jCT {w:World} {p:Nat} {s:Slc} {b:zY} (h:eV w p s b) (hg:gE w) (hn:b.length<=900000000) :
 Calls prog 295 #[.pointer (some ⟨p,0,none⟩)] w (Ret λv w'=>∃ x:Slc,v=x.val/\Sh.Own w' x 1 (bys (sha b))/\FB w x/\Mod NoB w w'):=by
 refine qSM _ ?_
 unfold qVN
 obtain ⟨gf,j2,j3,j4,j5⟩:=i5
 obtain ⟨i7,v1,v6,v7,i8⟩:=i26
 refine aB (jAV h hg (by omega)) ?_
 rintro v w1 ⟨p',s1,rfl,t6,gg,hs1,u5⟩
 refine ⟨_,rfl,mX (e:=iS) (by kernel_rfl) ⟨_,rfl,aC (λe=>by cases e) λ_=>?_⟩⟩
 have o0:FB w s1:=FB.of hs1
 have hp1l:=t6.blk.lt
 have hrl:=lI b
 have j6:(rest b).length=s1.len:=aV t6.own.rd
 refine ⟨UInt64.ofNat b.length,t6.blk.rd1 (o:=9) (hw9 (kN b)),?_⟩
 refine bW (l:=0) (c:=256) u26 j2 j3 j4 rfl j5 rfl rfl (by omega) (by omega) (by omega) λe0 w2 u6 hb2 o1=>⟨⟨_,_,_⟩,rfl,?_⟩
 have gh:Mod NoB w w2:=u5.tr u6.mod
 have hf2:FB w ⟨some ⟨e0,0,none⟩,0,256⟩:=FB.new (by rw [u6.at_]; exact u5.size)
 have hsep : ∀ (w':World),Mod NoB w1 w'->eV w' p' s1 b:=λw' hm=>t6.no hm
 have v8:FB w1 ⟨some ⟨e0,0,none⟩,0,256⟩:=FB.new (by rw [u6.at_]; exact Nat.le_refl _)
 refine lC (w0:=w1) (l:=[]) (c:=128) (s:=⟨some ⟨e0,0,none⟩,0,256⟩) o1 v8 u6.mod (by simp) λs3 w3 o2 o3 o4 gj=>?_
 refine ⟨λl w'=>match l with | [.sl q]=>∃ j:Nat,j<=tO b.length/\Sh.Own w' q 1 (bys ([128]++List.replicate j 0))/\FB w1 q/\Mod NoB w1 w' | _=>False,λl _=>match l with | [.sl q]=>1+tO b.length - q.len | _=>0,⟨0,by omega,o2,o3,o4⟩,?_⟩
 rintro q w4 ⟨j,hj,y0,y1,u7⟩
 have gk:q.len=1+j:=by have:=aV y0.rd; simp at this; omega
 have o5:=hsep w4 u7
 have gm:tO b.length<128:=Nat.mod_lt _ (by decide)
 have o6:tO b.length=(239 - b.length % 128) % 128:=rfl
 have hw:zW ((s1.len:Int)+(q.len:Int))=((s1.len+q.len:Nat):Int):=by rw [wrap_i64 (by omega)]; omega
 refine ⟨s1,o5.blk.rd1 (o:=8) (hw8 (kN b)),by decide,?_⟩
 rw [hw]
 have o7:Int.tmod ((s1.len+q.len:Nat):Int) (128:Int)=((s1.len+q.len) % 128:Nat):=rfl
 rw [o7]
 refine aC (λhc=>?_) (λhc=>?_)
 ·have hne:(s1.len+q.len) % 128≠112:=by simp at hc; omega
  have o8:j<tO b.length:=by omega
  refine lC (w0:=w1) (c:=0) y0 y1 u7 (by simp; omega) λs5 w5 t7 y2 u0 o9=>⟨⟨j+1,by omega,?_,y2,u0⟩,by (try simp only []); omega⟩
  rw [List.append_assoc,<-List.replicate_succ'] at t7
  exact t7
 ·have heq:(s1.len+q.len) % 128=112:=by simp at hc; omega
  have y5:j=tO b.length:=by omega
  subst y5
  refine jI (t2:=3) (k2:=.i64) (z:=.int .u8 0) (n:=8) (s:=q) u26 (by kernel_rfl) j2 j3 j4 rfl rfl j5 rfl y0 (by omega) (by omega) λs5 w5 t7 o9 u1 u0=>⟨s5,rfl,?_⟩
  rw [kI,<-gV] at t7
  have y2:=y1.step u7.size u1
  have u0:=y1.mod u7 u0
  refine ⟨λl w'=>match l with | [.sl q,.i _ s]=>∃ k:Nat,s=56 - 8*(k:Int)/\k<=8/\Sh.Own w' q 1 (bys ([128]++List.replicate (tO b.length) 0++List.replicate 8 0++(be8 (8*UInt64.ofNat b.length)).take k))/\FB w1 q/\Mod NoB w1 w' | _=>False,
   λl _=>match l with | [.sl q,.i _ s]=>(s+8).toNat | _=>0,⟨0,by omega,by omega,by simpa using t7,y2,u0⟩,?_⟩
  rintro q6 t w6 ⟨k,rfl,hk,q9,b5,y7⟩
  refine aC (λhc=>?_) (λhc=>?_)
  ·have h9:k<8:=by simp at hc; omega
   have y8:(56 - 8*(k:Int)).toNat=56 - 8*k:=by omega
   rw [y8]
   refine ⟨by omega,lC (w0:=w1) q9 b5 y7 (by simp; omega) λs7 w7 u2 y9 p8 r0=>⟨⟨k+1,?_,by omega,?_,y9,p8⟩,?_⟩⟩
   ·rw [wrap_i64 (by omega)]; omega
   ·rw [wT h9,<-List.append_assoc]; exact u2
   ·rw [wrap_i64 (by omega)]; (try simp only []); omega
  ·have h9:k=8:=by simp at hc; omega
   subst h9
   rw [List.take_of_length_le (by simp)] at q9
   have r7:[128]++List.replicate (tO b.length) 0++List.replicate 8 0++be8 (8*UInt64.ofNat b.length)=nL b.length:=rfl
   rw [r7] at q9
   have gn:=aV q9.rd
   have r8:(nL b.length).length<=256:=(qNI b).2
   refine bZ (l:=[q6.val]) [q6.val] u22 v1 v6 v7 (by decide) rfl (by decide) (by decide) rfl (by simp [Slc.val,Value.cells]) rfl λe7 w7 u9 r9=>⟨⟨_,_,_⟩,rfl,?_⟩
   have p8:=y7.tr u9.mod
   have s4:=hsep w7 p8
   have u2:=q9.no u9.mod
   have gp:=u9.at_
   have hq6l : ∀ x,q6.blk=some x->w1.heap.size<=x/\x<w6.heap.size:=λx hx=>⟨b5 x hx,q9.lt hx⟩
   have hs1l : ∀ x,s1.blk=some x->x<w1.heap.size:=λx hx=>t6.own.lt hx
   have hm6s:=y7.size
   have s6:=u9.size
   have hparts:PartsAt w7 ⟨some ⟨e7,0,none⟩,1,1⟩ [nL b.length] (λx=>x=e7\/q6.blk=some x):=by
    refine ⟨[q6],(aY (n:=1) (k:=1) r9 rfl).rd,λx hx=>.inl ?_,rfl,λi hi gq=>?_⟩
    ·simp at hx; omega
    ·have:i=0:=by simp at hi; omega
     subst this
     exact ⟨u2.rd,λx hx=>.inr hx⟩
   refine aB (qCU s4 (hg.no (u5.tr p8)) hparts (λe=>e.elim (λe=>by omega) λe=>by have:=hq6l _ e; omega) (λx hx e=>e.elim (λe=>by have:=hs1l x hx; omega) λe=>by have:=hq6l _ e; have:=hs1l x hx; omega)
    (λx e=>e.elim (λe=>by omega) λe=>by have:=hq6l _ e; omega) (by simp; omega) (by simp)) ?_
   rintro v w8 ⟨rfl,s8,b6,gr,s9⟩
   have z1:Mod NoB w w8:=(u5.tr p8).fresh s9 λx e=>e.elim (λe=>by omega) λe=>o0 x e
   have z6:b++[nL b.length].flatten=pad b:=by simp [pad]
   rw [z6] at b6
   obtain ⟨k0,k1,k2,k3,k4,k5,k6,k7,hst⟩:=qCC (kN (pad b))
   have a6:=b6.blk
   rw [hst] at a6
   have z7:sha b=iG [k0,k1,k2,k3,k4,k5,k6,k7]:=by unfold sha; rw [xT,hst]
   refine ⟨_,rfl,k0,k1,k2,k3,k4,k5,k6,k7,a6.rd (o:=0) (vs:=us [k0,k1,k2,k3,k4,k5,k6,k7]) (λj v hj=>by
    rw [Nat.zero_add]; unfold HW; rw [List.getElem?_append_left (List.getElem?_eq_some_iff.1 hj).1,hj]),?_⟩
   rw [z7]
   obtain ⟨st,p9⟩ : ∃ st,st=[k0,k1,k2,k3,k4,k5,k6,k7]:=⟨_,rfl⟩
   have ga:st.length=8:=by rw [p9]; rfl
   have gb:([.u64 k0,.u64 k1,.u64 k2,.u64 k3,.u64 k4,.u64 k5,.u64 k6,.u64 k7]:List TV)=st.map TV.u64:=by rw [p9]; rfl
   rw [gb,<-p9]
   refine ⟨λl w'=>match l with | [.sl q,.i _ x]=>∃ i:Nat,x=i/\i<=8/\Sh.Own w' q 1 (bys (iG (st.take i)))/\FB w q/\Mod NoB w w' | _=>False,λl _=>match l with | [.sl q,.i _ x]=>(8 - x).toNat | _=>0,
    ⟨0,rfl,by omega,bK _ _,FB.nil _,z1⟩,?_⟩
   rintro out x w9 ⟨i,rfl,hi,z8,a7,a8⟩
   have hdl : ∀ (l:List UInt64),(iG l).length=8*l.length:=λl=>by
    induction l with
    | nil=>rfl
    | cons a l ih=>simp [iG] at ih ⊢; omega
   refine aC (λhc=>?_) (λhc=>?_)
   ·have i6:i<8:=by simp at hc; omega
    refine ⟨⟨by omega,by omega⟩,?_,st[i],?_,?_⟩
    ·intro z hz
     obtain ⟨y,_,rfl⟩:=List.mem_map.1 hz
     rfl
    ·rw [Int.toNat_natCast,List.getElem?_map,List.getElem?_eq_getElem (by omega)]; rfl
    refine ⟨λl w'=>match l with | [.sl q,.i _ s]=>∃ k:Nat,s=56 - 8*(k:Int)/\k<=8/\Sh.Own w' q 1 (bys (iG (st.take i)++(be8 st[i]).take k))/\FB w q/\Mod NoB w w' | _=>False,
     λl _=>match l with | [.sl q,.i _ s]=>(s+8).toNat | _=>0,⟨0,by omega,by omega,by simpa using z8,a7,a8⟩,?_⟩
    rintro gu t gv ⟨k,rfl,hk,q8,u3,u4⟩
    refine aC (λhc=>?_) (λhc=>?_)
    ·have h9:k<8:=by simp at hc; omega
     have y8:(56 - 8*(k:Int)).toNat=56 - 8*k:=by omega
     rw [y8]
     refine ⟨by omega,lC (w0:=w) q8 u3 u4 (by simp [hdl]; omega) λs7 w7 u2 y9 p8 r0=>⟨⟨k+1,?_,by omega,?_,y9,p8⟩,?_⟩⟩
     ·rw [wrap_i64 (by omega)]; omega
     ·rw [wT h9,<-List.append_assoc]; exact u2
     ·rw [wrap_i64 (by omega)]; (try simp only []); omega
    ·have h9:k=8:=by simp at hc; omega
     subst h9
     rw [List.take_of_length_le (l:=be8 (st[i]'(by omega))) (by rw [qRX]; omega)] at q8
     refine ⟨⟨i+1,aI (by omega),by omega,?_,u3,u4⟩,?_⟩
     ·rw [aL (by omega)]
      have:iG (st.take i++[st[i]])=iG (st.take i)++be8 st[i]:=by simp only [iG,List.flatMap_append,List.flatMap_cons,List.flatMap_nil,List.append_nil]
      rw [this]; exact q8
     ·rw [aI (by omega)]; (try simp only []); omega
   ·have i6:i=8:=by simp at hc; omega
    subst i6
    rw [List.take_of_length_le (by omega)] at z8
    exact ⟨out,rfl,z8,a7,a8⟩
theorem qVQ {w:World} {parts:Slc} {pl:List (zY)} {X:Nat->Prop} (hg:gE w) (hp:PartsAt w parts pl X) (k4 : ∀ x,X x->x<w.heap.size) (hn:(pl.flatten).length<=900000000) (hm:pl.length<=1000000000) :
 Calls prog 241 #[.slice parts.a parts.len parts.cap] w (Ret λv w'=>∃ x:Slc,v=x.val/\Sh.Own w' x 1 (bys (sha pl.flatten))/\FB w x/\Mod NoB w w'):=by
 refine qOK _ ?_
 unfold qTK
 refine aB (jDL hg) ?_
 rintro v w1 ⟨p,rfl,k5,q8,hs1,k3⟩
 refine ⟨_,rfl,?_⟩
 refine aB (qCU k5 (hg.no k3) (hp.mod k3 λ_ _ h=>h) (λe=>by have:=k4 _ e; omega) (λx hx=>by simp at hx) (λx e=>by have:=k4 _ e; omega) (by rw [List.length_nil,Nat.zero_add]; omega) hm) ?_
 rintro v w2 ⟨rfl,s2,k6,hb2,p8⟩
 have h9:Mod NoB w w2:=k3.fresh p8 λx e=>e.elim (λe=>by omega) λe=>by simp at e
 refine ⟨_,rfl,aB (jCT k6 (hg.no h9) (by simpa using hn)) ?_⟩
 rintro v w3 ⟨x,rfl,ho,hf,p9⟩
 rw [List.nil_append] at ho
 exact ⟨x,rfl,x,rfl,ho,hf.le h9.size,h9.tr p9⟩
end Go.Proofs.YthaefcgpbccmbaaGreatDoor
end
