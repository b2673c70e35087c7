/- The forms of the translated functions,their contracts and the plain laws behind them,put together by a program. -/
import Derived.Test.YtahjmeegfkfokaaGreatDoorPA10
import Derived.RecoverIn
import Derived.Test.YtahjmeegfkfokaaGreatDoorProg
set_option linter.unusedSimpArgs false
set_option linter.unusedVariables false
set_option maxRecDepth 100000
set_option maxHeartbeats 4000000
section
namespace Go.Sh
open Go
section
variable {P:Program} {N:Nat}
theorem vZ {c0:Frame} {cs:List Frame} {u:FrameMode} : recoverD ({c0 with mode:=u} :: cs)=(qUL u).map fun p=>(p.1,{c0 with mode:=p.2} :: cs):=by
 cases u with
 | run=>rfl
 | returning=>rfl
 | panicking c=>
   match c with
   | []=>rfl
   | {v,recovered:=true,goexit} :: r=>rfl
   | {v,recovered:=false,goexit:=true} :: r=>rfl
   | {v,recovered:=false,goexit:=false} :: r=>rfl
theorem qMD {o:Oper} {env:Env} {a:Act} {w:World} {pan:List PanicEntry→World→Prop} {next:TV→World→Prop} (hsim:Sim N env a.tmps) (ho:okS o.op=true) (h:mG P o env w pan next) :
 (∃ t v w',(execOp a.eval o).run P w = .ok (.value v) w'∧(t.isBad=false→v=t.enc)∧next t w')∨(∃ w',(execOp a.eval o).run P w = .ok .skip w'∧next .bad w')∨∃ v,(execOp a.eval o).run P w = .halt (.panic v) w∧pan [{v:=v,recovered:=false}] w:=by
 obtain ⟨dst,op,type,pos,after,guard⟩:=o
 unfold mG at h
 cases op <;> simp [okS] at ho <;> simp only at h
 case store T x y=>
  split at h
  ·rename_i q hx
   obtain ⟨ad,rfl,h⟩:=cB h
   cases hg:(!(ev env y).isBad) with
   | false=>simp [hg,aA] at h
   | true=>
     simp only [hg,cond_true] at h
     obtain ⟨w',hr,h⟩:=h
     refine .inr (.inl ⟨w',?_,h⟩)
     have he:execOp a.eval {dst,op:=.store T x y,type,pos,after,guard} = (do storeVar T ad (ev env y).enc; pure Next.skip):=by
      simp only [execOp,hsim.is hx rfl,bP hsim hg,TV.enc]
      rfl
     rw [he]; simp [hr]
  ·exact h.elim
 case load T x=>
  split at h
  ·rename_i q hx
   obtain ⟨ad,rfl,h⟩:=cB h
   cases hf:gB P T with
   | false=>simp [hf,aA] at h
   | true=>
     simp only [hf,cond_true] at h
     obtain ⟨t,t1,t2,t3,hr,h⟩:=dG _ _ h
     refine .inl ⟨t,t.enc,w,?_,fun _=>rfl,h⟩
     simp [execOp,hsim.is hx rfl,TV.enc,Instr.loadAt,Instr.sureAddr,eT hf t1 t2 t3 hr]
  ·exact h.elim
 case alloc T=>
  obtain ⟨v,w',hr,h1⟩:=h
  have h2:exK .p fun t=>v=t.enc∧next t w':=h1
  obtain ⟨t,_,_,_,hv,h3⟩:=dG _ _ h2
  refine .inl ⟨t,v,w',?_,fun _=>hv,h3⟩
  simp only [execOp]
  simp [hr]
 case typeAssert x T b ok=>
  cases hg:(!(ev env x).isBad) with
  | false=>simp [hg] at h
  | true=>
    simp only [hg,cond_true] at h
    obtain ⟨v,w',hr,h1⟩:=h
    have h2:exK (kindOf P 20 type) fun t=>v=t.enc∧next t w':=h1
    obtain ⟨t,_,_,_,hv,h3⟩:=dG _ _ h2
    refine .inl ⟨t,v,w',?_,fun _=>hv,h3⟩
    simp only [execOp,bP hsim hg]
    simp [hr]
 case panic x=>
  split at h
  ·rename_i z hx
   unfold wF at h
   split at h
   ·rename_i T y
    refine .inr (.inr ⟨.iface T y,?_,h⟩)
    simp [execOp,hsim.is hx rfl,TV.enc,Instr.panic]
   ·exact h.elim
  ·exact h.elim
def QS (N:Nat) (k:KtS) (c0:Frame) (cs:List Frame):Exit→Act→List Frame→World→Prop
 | .normal,a,cs',w=>a.defers=[]∧∃ u,cs' = {c0 with mode:=u} :: cs∧∃ env,Sim N env a.tmps∧k.nrm u env w
 | .ret,a,cs',w=>a.defers=[]∧∃ u,cs' = {c0 with mode:=u} :: cs∧∃ env,Sim N env a.tmps∧k.ret u env w
 | .panic c,a,cs',w=>a.defers=[]∧∃ u,cs' = {c0 with mode:=u} :: cs∧k.pan u c w
 | _,_,_,_=>False
theorem qBI {ops:List Oper} {k:KtS} {c0:Frame} {cs:List Frame} : ∀ (suf pre:List Oper) (nrm:FrameMode→Env→World→Prop) (u:FrameMode) (env:Env) (a:Act) (w:World),ops=pre++suf→Sim N env a.tmps→a.defers=[]→
 yP P N k.pan suf nrm u env w→wpOpsSIn Fence.wide 0 P ops.toArray (QS N {k with nrm:=nrm} c0 cs) (List.range' pre.length suf.length) a ({c0 with mode:=u} :: cs) w
 | [],pre,nrm,u,env,a,w,_,hs,hd,h=>⟨hd,u,rfl,env,hs,h⟩
 | o :: q,pre,nrm,u,env,a,w,e,hs,hd,h=>by
   have ho:ops.toArray[pre.length]? = some o:=by simp [e]
   have ih : ∀ u env a w,Sim N env a.tmps→a.defers=[]→yP P N k.pan q nrm u env w→wpOpsSIn Fence.wide 0 P ops.toArray (QS N {k with nrm:=nrm} c0 cs) (List.range' (pre.length+1) q.length) a ({c0 with mode:=u} :: cs) w:=fun u env a w h1 h2 h3=>by
    have:=qBI (ops:=ops) (k:=k) (c0:=c0) (cs:=cs) q (pre++[o]) nrm u env a w (by simp [e]) h1 h2 h3
    simpa using this
   unfold yP at h
   cases hc:(eE N o.dst&&o.guard.isNone) with
   | false=>simp only [hc,cond_false] at h
   | true=>
     simp only [hc,cond_true] at h
     simp only [Bool.and_eq_true,Option.isNone_iff_eq_none] at hc
     have hw:Region.wanted o (yielded ops.toArray a.tmps)=true:=by unfold Region.wanted; rw [hc.2]
     simp only [List.length_cons,List.range'_succ,wpOpsSIn,ho,hw,if_true]
     refine ⟨fun _ _=>trivial,?_⟩
     cases hr:qAS o.op with
     | true=>
       simp only [hr,cond_true] at h
       have hrun:(execOp a.eval o).run P w = .ok .recover w:=by
        obtain ⟨dst,op,type,pos,after,guard⟩:=o
        have hr':qAS op=true:=hr
        unfold qAS at hr'
        split at hr'
        ·rename_i args at_
         simp [execOp,resolve,invoke,builtin]
        ·cases hr'
       rw [hrun]
       simp only [vZ]
       unfold zC at h
       cases hu:qUL u with
       | none=>
         simp only [hu] at h
         simp only [Option.map_none]
         exact ih _ _ _ _ (hs.putD' hc.1 fun _=>rfl) (by rw [put_defers]; exact hd) h
       | some p=>
         simp only [hu] at h
         simp only [Option.map_some]
         exact ih _ _ _ _ (hs.putD' hc.1 fun _=>rfl) (by rw [put_defers]; exact hd) h
     | false=>
       simp only [hr,cond_false] at h
       cases hp:gT P o with
       | true=>
         simp only [hp,cond_true] at h
         obtain ⟨t,v,hrun,hv,h⟩:=jD hs h
         rw [hrun w]
         exact ih _ _ _ _ (hs.putD' hc.1 hv) (by rw [put_defers]; exact hd) h
       | false=>
         simp only [hp,cond_false] at h
         cases hk:okS o.op with
         | false=>simp [hk] at h
         | true=>
           simp only [hk,cond_true] at h
           rcases qMD hs hk h with ⟨t,v,w',hrun,hv,h⟩ | ⟨w',hrun,h⟩ | ⟨v,hrun,h⟩
           ·rw [hrun]
            exact ih _ _ _ _ (hs.putD' hc.1 hv) (by rw [put_defers]; exact hd) h
           ·rw [hrun]
            exact ih _ _ _ _ (hs.putD' hc.1 fun e=>by simp [TV.isBad] at e) (by rw [put_defers]; exact hd) h
           ·rw [hrun]
            exact ⟨hd,u,rfl,h⟩
theorem pZ {c:Code} {F:Fence} {n:Nat} {Q Q':Exit→Act→List Frame→World→Prop} {a:Act} {cs:List Frame} {w:World} (h:c.wpSIn F n P Q a cs w) (hq : ∀ e a cs w,Q e a cs w→Q' e a cs w):c.wpSIn F n P Q' a cs w:=
 fun b k h1 h2 h3 h4=>let ⟨e,a',cs',w',l,q,r⟩:=h b k h1 h2 h3 h4; ⟨e,a',cs',w',l,hq _ _ _ _ q,r⟩
theorem nY {c0:Frame} {cs:List Frame} : ∀ (c:Code) (k:KtS) (u:FrameMode) (env:Env) (a:Act) (w:World),Sim N env a.tmps→a.defers=[]→fX P N c k u env w→c.wpSIn Fence.wide 0 P (QS N k c0 cs) a ({c0 with mode:=u} :: cs) w
 | .skip,k,u,env,a,w,hs,hd,h=>wpSIn_of_wpIn rfl (wpIn_skip (show QS N k c0 cs .normal a ({c0 with mode:=u} :: cs) w from ⟨hd,u,rfl,env,hs,by simpa [fX] using h⟩))
 | .ret,k,u,env,a,w,hs,hd,h=>wpSIn_of_wpIn rfl (wpIn_ret (show QS N k c0 cs .ret a ({c0 with mode:=u} :: cs) w from ⟨hd,u,rfl,env,hs,by simpa [fX] using h⟩))
 | .seq x y,k,u,env,a,w,hs,hd,h=>by
   unfold fX at h
   refine wpSIn_seq (pZ (nY x _ u env a w hs hd h) ?_)
   intro e a' cs' w' hq
   cases e with
   | normal=>
     obtain ⟨hd',u',rfl,env',hs',hk⟩:=hq
     exact nY y k u' env' a' w' hs' hd' hk
   | ret=>exact hq
   | panic c=>exact hq
   | exit i=>exact hq.elim
   | goto l=>exact hq.elim
   | outgrown=>exact hq.elim
 | .cond c x y,k,u,env,a,w,hs,hd,h=>by
   unfold fX at h
   split at h
   ·rename_i t hc
    have he:=hs.is (a:=a) hc rfl
    refine wpSIn_cond (t:=t) he ?_
    cases t with
    | true=>exact nY x k u _ a w (nZ hs hc) hd h
    | false=>exact nY y k u _ a w (nZ hs hc) hd h
   ·exact h.elim
 | .region id ops false,k,u,env,a,w,hs,hd,h=>by
   unfold fX at h
   refine wpSIn_region ?_
   have:=qBI (ops:=ops.toList) (k:=k) (c0:=c0) (cs:=cs) ops.toList [] k.nrm u env a w rfl hs hd h
   simpa [List.range_eq_range'] using this
 | .region id ops true,k,u,env,a,w,hs,hd,h=>by simp [fX] at h
 | .block _ _,k,u,env,a,w,hs,hd,h=>by simp [fX] at h
 | .loop _,k,u,env,a,w,hs,hd,h=>by simp [fX] at h
 | .exit _,k,u,env,a,w,hs,hd,h=>by simp [fX] at h
 | .rangeFunc _ _ _ _,k,u,env,a,w,hs,hd,h=>by simp [fX] at h
 | .scope _,k,u,env,a,w,hs,hd,h=>by simp [fX] at h
 | .label _,k,u,env,a,w,hs,hd,h=>by simp [fX] at h
 | .goto _,k,u,env,a,w,hs,hd,h=>by simp [fX] at h
 | .refuse _,k,u,env,a,w,hs,hd,h=>by simp [fX] at h
theorem fC {f:FuncId} {fn:Func} {c:Code} (hf:P.funcs[f]? = some fn) (hb:fn.body=some c) (args:List TV) (hl:args.length≤fn.ntmps) {u:FrameMode} {w:World} {R:Ending→FrameMode→World→Prop}
 (h:fX P fn.ntmps c (sK P fn R) u (gY 0 args) w):CallsDIn Fence.wide 0 P f (dQ args).toArray u w R:=by
 refine callsDIn_of_wpSIn hf hb trivial fun c0 cs hu=>?_
 have hs:Sim fn.ntmps (gY 0 args) ((dQ args).toArray++Array.replicate (fn.ntmps - (dQ args).toArray.size) undef):=by
  have hle:=mU args
  refine ⟨by simp [hle]; omega,fun t ht=>?_⟩
  obtain ⟨j,x,h1,h2,h3⟩:=mM 0 args t ht
  rw [h3]
  have:t=j:=by omega
  subst this
  have hjl:t<args.length:=(List.getElem?_eq_some_iff.1 h2).1
  rw [Array.getElem?_append_left (by simpa [hle] using hjl)]
  simp [qU,h2]
 have hc0:c0 = {c0 with mode:=u}:=by subst hu; rfl
 rw [hc0]
 refine pZ (nY (c0:=c0) (cs:=cs) c _ u _ _ w hs rfl h) ?_
 intro e a cs' w' hq
 cases e with
 | normal=>
   obtain ⟨hd,u',rfl,env,hs',hk⟩:=hq
   have:=lL (R:=fun e w=>R e u' w) hs' hk
   exact ⟨hd,u',rfl,this⟩
 | ret=>
   obtain ⟨hd,u',rfl,env,hs',hk⟩:=hq
   have:=lL (R:=fun e w=>R e u' w) hs' hk
   exact ⟨hd,u',rfl,this⟩
 | panic c=>
   obtain ⟨hd,u',rfl,hk⟩:=hq
   exact ⟨hd,u',rfl,hk⟩
 | exit i=>exact hq.elim
 | goto l=>exact hq.elim
 | outgrown=>exact hq.elim
end
end Go.Sh
end
section
namespace Go.Proofs.YtahjmeegfkfokaaGreatDoor
open Go Go.Sh
open Go.Proofs.Tryz
def qTQ (aa ab ac ad ae ba bb bc bd be:UInt64) (w:World) (R:RW):Prop:=
 aI prog (Instr.box 121 (e5 aa ab ac ad ae)) w fun v w1=>∃ a:Option Addr,v=(.pointer a)∧aI prog (Instr.box 121 (e5 ba bb bc bd be)) w1 fun v1 w2=>∃ b:Option Addr,v1=(.pointer b)∧aI prog (Instr.alloc 121 true (.tuple #[])) w2 fun v2 w3=>∃ x:Option Addr,v2=(.pointer x)∧aI prog (Instr.alloc 120 true (.tuple #[])) w3 fun v3 w4=>∃ n:Option Addr,v3=(.pointer n)∧∃ (inv:List TV→World→Prop) (mu:List TV→World→Nat),inv [.i .i64 (0:Int)] w4∧(∀ x1:Int,∀ w5:World,inv [.i .i64 x1] w5→aH (decide (x1<(5:Int))) (((0≤x1∧x1<(5:Nat))∧aA b fun a1=>∃ x2:UInt64,Rd w5 (a1.add (x1.toNat*1)) [.int .u64 x2.toNat]∧((0≤x1∧x1<(5:Nat))∧aA n fun a2=>aJ prog (storeVar 119 (a2.add (x1.toNat*1)) (.int .u64 (((19:UInt64)*x2)).toNat)) w5 fun w6=>(inv [.i .i64 (IntKind.i64.wrap (x1+(1:Int)))] w6∧mu [.i .i64 (IntKind.i64.wrap (x1+(1:Int)))] w6<mu [.i .i64 x1] w5)))) (∃ sx:World→Prop,sx w5.drew∧(∃ ts:Nat→Value→World→Prop,(∀ i v w1 w2,Mod NoB w1 w2→ts i v w1→ts i v w2)∧sx w5.drew∧((0≤(0:Int)∧(0:Int)<(5:Nat))∧aA a fun a3=>∃ x3:UInt64,(∀ w',sx w'→Rd w' (a3.add (((0:Int)).toNat*1)) [.int .u64 x3.toNat])∧((0≤(0:Int)∧(0:Int)<(5:Nat))∧aA b fun a4=>∃ x4:UInt64,(∀ w',sx w'→Rd w' (a4.add (((0:Int)).toNat*1)) [.int .u64 x4.toNat])∧((0≤(1:Int)∧(1:Int)<(5:Nat))∧aA a fun a5=>∃ x5:UInt64,(∀ w',sx w'→Rd w' (a5.add (((1:Int)).toNat*1)) [.int .u64 x5.toNat])∧((0≤(4:Int)∧(4:Int)<(5:Nat))∧aA n fun a6=>∃ x6:UInt64,(∀ w',sx w'→Rd w' (a6.add (((4:Int)).toNat*1)) [.int .u64 x6.toNat])∧((0≤(2:Int)∧(2:Int)<(5:Nat))∧aA a fun a7=>∃ x7:UInt64,(∀ w',sx w'→Rd w' (a7.add (((2:Int)).toNat*1)) [.int .u64 x7.toNat])∧((0≤(3:Int)∧(3:Int)<(5:Nat))∧aA n fun a8=>∃ x8:UInt64,(∀ w',sx w'→Rd w' (a8.add (((3:Int)).toNat*1)) [.int .u64 x8.toNat])∧((0≤(3:Int)∧(3:Int)<(5:Nat))∧aA a fun a9=>∃ x9:UInt64,(∀ w',sx w'→Rd w' (a9.add (((3:Int)).toNat*1)) [.int .u64 x9.toNat])∧((0≤(2:Int)∧(2:Int)<(5:Nat))∧aA n fun a10=>∃ x10:UInt64,(∀ w',sx w'→Rd w' (a10.add (((2:Int)).toNat*1)) [.int .u64 x10.toNat])∧((0≤(4:Int)∧(4:Int)<(5:Nat))∧aA a fun a11=>∃ x11:UInt64,(∀ w',sx w'→Rd w' (a11.add (((4:Int)).toNat*1)) [.int .u64 x11.toNat])∧((0≤(1:Int)∧(1:Int)<(5:Nat))∧aA n fun a12=>∃ x12:UInt64,(∀ w',sx w'→Rd w' (a12.add (((1:Int)).toNat*1)) [.int .u64 x12.toNat])∧((∀ w7,Mod NoB w5.drew w7→sx w7→aI prog (Instr.buildSlice 197 10 #[(0,(.int .u64 x3.toNat)),(1,(.int .u64 x4.toNat)),(2,(.int .u64 x5.toNat)),(3,(.int .u64 x6.toNat)),(4,(.int .u64 x7.toNat)),(5,(.int .u64 x8.toNat)),(6,(.int .u64 x9.toNat)),(7,(.int .u64 x10.toNat)),(8,(.int .u64 x11.toNat)),(9,(.int .u64 x12.toNat))]) w7 fun v4 w8=>∃ x13:Slc,v4=(zS x13)∧(Mod NoB w7 w8∧sx w8∧ts 20 (zS x13) w8))∧∀ x14:Slc,((∀ w9,Mod NoB w5.drew w9→sx w9→ts 20 (zS x14) w9→aD prog 176 [zS x14] w9 (aG R) fun v5 w10=>∃ xa xb:UInt64,v5=(.agg #[.int .u64 xa.toNat,.int .u64 xb.toNat])∧(Mod NoB w9 w10∧sx w10∧ts 21 (.agg #[.int .u64 xa.toNat,.int .u64 xb.toNat]) w10))∧∀ xa1 xb1:UInt64,((0≤(0:Int)∧(0:Int)<(5:Nat))∧aA a fun a13=>∃ x15:UInt64,(∀ w',sx w'→Rd w' (a13.add (((0:Int)).toNat*1)) [.int .u64 x15.toNat])∧((0≤(1:Int)∧(1:Int)<(5:Nat))∧aA b fun a14=>∃ x16:UInt64,(∀ w',sx w'→Rd w' (a14.add (((1:Int)).toNat*1)) [.int .u64 x16.toNat])∧((0≤(1:Int)∧(1:Int)<(5:Nat))∧aA a fun a15=>∃ x17:UInt64,(∀ w',sx w'→Rd w' (a15.add (((1:Int)).toNat*1)) [.int .u64 x17.toNat])∧((0≤(0:Int)∧(0:Int)<(5:Nat))∧aA b fun a16=>∃ x18:UInt64,(∀ w',sx w'→Rd w' (a16.add (((0:Int)).toNat*1)) [.int .u64 x18.toNat])∧((0≤(2:Int)∧(2:Int)<(5:Nat))∧aA a fun a17=>∃ x19:UInt64,(∀ w',sx w'→Rd w' (a17.add (((2:Int)).toNat*1)) [.int .u64 x19.toNat])∧((0≤(4:Int)∧(4:Int)<(5:Nat))∧aA n fun a18=>∃ x20:UInt64,(∀ w',sx w'→Rd w' (a18.add (((4:Int)).toNat*1)) [.int .u64 x20.toNat])∧((0≤(3:Int)∧(3:Int)<(5:Nat))∧aA a fun a19=>∃ x21:UInt64,(∀ w',sx w'→Rd w' (a19.add (((3:Int)).toNat*1)) [.int .u64 x21.toNat])∧((0≤(3:Int)∧(3:Int)<(5:Nat))∧aA n fun a20=>∃ x22:UInt64,(∀ w',sx w'→Rd w' (a20.add (((3:Int)).toNat*1)) [.int .u64 x22.toNat])∧((0≤(4:Int)∧(4:Int)<(5:Nat))∧aA a fun a21=>∃ x23:UInt64,(∀ w',sx w'→Rd w' (a21.add (((4:Int)).toNat*1)) [.int .u64 x23.toNat])∧((0≤(2:Int)∧(2:Int)<(5:Nat))∧aA n fun a22=>∃ x24:UInt64,(∀ w',sx w'→Rd w' (a22.add (((2:Int)).toNat*1)) [.int .u64 x24.toNat])∧((∀ w11,Mod NoB w5.drew w11→sx w11→aI prog (Instr.buildSlice 197 10 #[(0,(.int .u64 x15.toNat)),(1,(.int .u64 x16.toNat)),(2,(.int .u64 x17.toNat)),(3,(.int .u64 x18.toNat)),(4,(.int .u64 x19.toNat)),(5,(.int .u64 x20.toNat)),(6,(.int .u64 x21.toNat)),(7,(.int .u64 x22.toNat)),(8,(.int .u64 x23.toNat)),(9,(.int .u64 x24.toNat))]) w11 fun v6 w12=>∃ x25:Slc,v6=(zS x25)∧(Mod NoB w11 w12∧sx w12∧ts 42 (zS x25) w12))∧∀ x26:Slc,((∀ w13,Mod NoB w5.drew w13→sx w13→ts 42 (zS x26) w13→ts 21 (.agg #[.int .u64 xa1.toNat,.int .u64 xb1.toNat]) w13→aD prog 176 [zS x26] w13 (aG R) fun v7 w14=>∃ xa2 xb2:UInt64,v7=(.agg #[.int .u64 xa2.toNat,.int .u64 xb2.toNat])∧(Mod NoB w13 w14∧sx w14∧ts 43 (.agg #[.int .u64 xa2.toNat,.int .u64 xb2.toNat]) w14))∧∀ xa3 xb3:UInt64,((0≤(0:Int)∧(0:Int)<(5:Nat))∧aA a fun a23=>∃ x27:UInt64,(∀ w',sx w'→Rd w' (a23.add (((0:Int)).toNat*1)) [.int .u64 x27.toNat])∧((0≤(2:Int)∧(2:Int)<(5:Nat))∧aA b fun a24=>∃ x28:UInt64,(∀ w',sx w'→Rd w' (a24.add (((2:Int)).toNat*1)) [.int .u64 x28.toNat])∧((0≤(1:Int)∧(1:Int)<(5:Nat))∧aA a fun a25=>∃ x29:UInt64,(∀ w',sx w'→Rd w' (a25.add (((1:Int)).toNat*1)) [.int .u64 x29.toNat])∧((0≤(1:Int)∧(1:Int)<(5:Nat))∧aA b fun a26=>∃ x30:UInt64,(∀ w',sx w'→Rd w' (a26.add (((1:Int)).toNat*1)) [.int .u64 x30.toNat])∧((0≤(2:Int)∧(2:Int)<(5:Nat))∧aA a fun a27=>∃ x31:UInt64,(∀ w',sx w'→Rd w' (a27.add (((2:Int)).toNat*1)) [.int .u64 x31.toNat])∧((0≤(0:Int)∧(0:Int)<(5:Nat))∧aA b fun a28=>∃ x32:UInt64,(∀ w',sx w'→Rd w' (a28.add (((0:Int)).toNat*1)) [.int .u64 x32.toNat])∧((0≤(3:Int)∧(3:Int)<(5:Nat))∧aA a fun a29=>∃ x33:UInt64,(∀ w',sx w'→Rd w' (a29.add (((3:Int)).toNat*1)) [.int .u64 x33.toNat])∧((0≤(4:Int)∧(4:Int)<(5:Nat))∧aA n fun a30=>∃ x34:UInt64,(∀ w',sx w'→Rd w' (a30.add (((4:Int)).toNat*1)) [.int .u64 x34.toNat])∧((0≤(4:Int)∧(4:Int)<(5:Nat))∧aA a fun a31=>∃ x35:UInt64,(∀ w',sx w'→Rd w' (a31.add (((4:Int)).toNat*1)) [.int .u64 x35.toNat])∧((0≤(3:Int)∧(3:Int)<(5:Nat))∧aA n fun a32=>∃ x36:UInt64,(∀ w',sx w'→Rd w' (a32.add (((3:Int)).toNat*1)) [.int .u64 x36.toNat])∧((∀ w15,Mod NoB w5.drew w15→sx w15→aI prog (Instr.buildSlice 197 10 #[(0,(.int .u64 x27.toNat)),(1,(.int .u64 x28.toNat)),(2,(.int .u64 x29.toNat)),(3,(.int .u64 x30.toNat)),(4,(.int .u64 x31.toNat)),(5,(.int .u64 x32.toNat)),(6,(.int .u64 x33.toNat)),(7,(.int .u64 x34.toNat)),(8,(.int .u64 x35.toNat)),(9,(.int .u64 x36.toNat))]) w15 fun v8 w16=>∃ x37:Slc,v8=(zS x37)∧(Mod NoB w15 w16∧sx w16∧ts 64 (zS x37) w16))∧∀ x38:Slc,((∀ w17,Mod NoB w5.drew w17→sx w17→ts 64 (zS x38) w17→ts 43 (.agg #[.int .u64 xa3.toNat,.int .u64 xb3.toNat]) w17→aD prog 176 [zS x38] w17 (aG R) fun v9 w18=>∃ xa4 xb4:UInt64,v9=(.agg #[.int .u64 xa4.toNat,.int .u64 xb4.toNat])∧(Mod NoB w17 w18∧sx w18∧ts 65 (.agg #[.int .u64 xa4.toNat,.int .u64 xb4.toNat]) w18))∧∀ xa5 xb5:UInt64,((0≤(0:Int)∧(0:Int)<(5:Nat))∧aA a fun a33=>∃ x39:UInt64,(∀ w',sx w'→Rd w' (a33.add (((0:Int)).toNat*1)) [.int .u64 x39.toNat])∧((0≤(3:Int)∧(3:Int)<(5:Nat))∧aA b fun a34=>∃ x40:UInt64,(∀ w',sx w'→Rd w' (a34.add (((3:Int)).toNat*1)) [.int .u64 x40.toNat])∧((0≤(1:Int)∧(1:Int)<(5:Nat))∧aA a fun a35=>∃ x41:UInt64,(∀ w',sx w'→Rd w' (a35.add (((1:Int)).toNat*1)) [.int .u64 x41.toNat])∧((0≤(2:Int)∧(2:Int)<(5:Nat))∧aA b fun a36=>∃ x42:UInt64,(∀ w',sx w'→Rd w' (a36.add (((2:Int)).toNat*1)) [.int .u64 x42.toNat])∧((0≤(2:Int)∧(2:Int)<(5:Nat))∧aA a fun a37=>∃ x43:UInt64,(∀ w',sx w'→Rd w' (a37.add (((2:Int)).toNat*1)) [.int .u64 x43.toNat])∧((0≤(1:Int)∧(1:Int)<(5:Nat))∧aA b fun a38=>∃ x44:UInt64,(∀ w',sx w'→Rd w' (a38.add (((1:Int)).toNat*1)) [.int .u64 x44.toNat])∧((0≤(3:Int)∧(3:Int)<(5:Nat))∧aA a fun a39=>∃ x45:UInt64,(∀ w',sx w'→Rd w' (a39.add (((3:Int)).toNat*1)) [.int .u64 x45.toNat])∧((0≤(0:Int)∧(0:Int)<(5:Nat))∧aA b fun a40=>∃ x46:UInt64,(∀ w',sx w'→Rd w' (a40.add (((0:Int)).toNat*1)) [.int .u64 x46.toNat])∧((0≤(4:Int)∧(4:Int)<(5:Nat))∧aA a fun a41=>∃ x47:UInt64,(∀ w',sx w'→Rd w' (a41.add (((4:Int)).toNat*1)) [.int .u64 x47.toNat])∧((0≤(4:Int)∧(4:Int)<(5:Nat))∧aA n fun a42=>∃ x48:UInt64,(∀ w',sx w'→Rd w' (a42.add (((4:Int)).toNat*1)) [.int .u64 x48.toNat])∧((∀ w19,Mod NoB w5.drew w19→sx w19→aI prog (Instr.buildSlice 197 10 #[(0,(.int .u64 x39.toNat)),(1,(.int .u64 x40.toNat)),(2,(.int .u64 x41.toNat)),(3,(.int .u64 x42.toNat)),(4,(.int .u64 x43.toNat)),(5,(.int .u64 x44.toNat)),(6,(.int .u64 x45.toNat)),(7,(.int .u64 x46.toNat)),(8,(.int .u64 x47.toNat)),(9,(.int .u64 x48.toNat))]) w19 fun v10 w20=>∃ x49:Slc,v10=(zS x49)∧(Mod NoB w19 w20∧sx w20∧ts 86 (zS x49) w20))∧∀ x50:Slc,((∀ w21,Mod NoB w5.drew w21→sx w21→ts 86 (zS x50) w21→ts 65 (.agg #[.int .u64 xa5.toNat,.int .u64 xb5.toNat]) w21→aD prog 176 [zS x50] w21 (aG R) fun v11 w22=>∃ xa6 xb6:UInt64,v11=(.agg #[.int .u64 xa6.toNat,.int .u64 xb6.toNat])∧(Mod NoB w21 w22∧sx w22∧ts 87 (.agg #[.int .u64 xa6.toNat,.int .u64 xb6.toNat]) w22))∧∀ xa7 xb7:UInt64,((0≤(0:Int)∧(0:Int)<(5:Nat))∧aA a fun a43=>∃ x51:UInt64,(∀ w',sx w'→Rd w' (a43.add (((0:Int)).toNat*1)) [.int .u64 x51.toNat])∧((0≤(4:Int)∧(4:Int)<(5:Nat))∧aA b fun a44=>∃ x52:UInt64,(∀ w',sx w'→Rd w' (a44.add (((4:Int)).toNat*1)) [.int .u64 x52.toNat])∧((0≤(1:Int)∧(1:Int)<(5:Nat))∧aA a fun a45=>∃ x53:UInt64,(∀ w',sx w'→Rd w' (a45.add (((1:Int)).toNat*1)) [.int .u64 x53.toNat])∧((0≤(3:Int)∧(3:Int)<(5:Nat))∧aA b fun a46=>∃ x54:UInt64,(∀ w',sx w'→Rd w' (a46.add (((3:Int)).toNat*1)) [.int .u64 x54.toNat])∧((0≤(2:Int)∧(2:Int)<(5:Nat))∧aA a fun a47=>∃ x55:UInt64,(∀ w',sx w'→Rd w' (a47.add (((2:Int)).toNat*1)) [.int .u64 x55.toNat])∧((0≤(2:Int)∧(2:Int)<(5:Nat))∧aA b fun a48=>∃ x56:UInt64,(∀ w',sx w'→Rd w' (a48.add (((2:Int)).toNat*1)) [.int .u64 x56.toNat])∧((0≤(3:Int)∧(3:Int)<(5:Nat))∧aA a fun a49=>∃ x57:UInt64,(∀ w',sx w'→Rd w' (a49.add (((3:Int)).toNat*1)) [.int .u64 x57.toNat])∧((0≤(1:Int)∧(1:Int)<(5:Nat))∧aA b fun a50=>∃ x58:UInt64,(∀ w',sx w'→Rd w' (a50.add (((1:Int)).toNat*1)) [.int .u64 x58.toNat])∧((0≤(4:Int)∧(4:Int)<(5:Nat))∧aA a fun a51=>∃ x59:UInt64,(∀ w',sx w'→Rd w' (a51.add (((4:Int)).toNat*1)) [.int .u64 x59.toNat])∧((0≤(0:Int)∧(0:Int)<(5:Nat))∧aA b fun a52=>∃ x60:UInt64,(∀ w',sx w'→Rd w' (a52.add (((0:Int)).toNat*1)) [.int .u64 x60.toNat])∧((∀ w23,Mod NoB w5.drew w23→sx w23→aI prog (Instr.buildSlice 197 10 #[(0,(.int .u64 x51.toNat)),(1,(.int .u64 x52.toNat)),(2,(.int .u64 x53.toNat)),(3,(.int .u64 x54.toNat)),(4,(.int .u64 x55.toNat)),(5,(.int .u64 x56.toNat)),(6,(.int .u64 x57.toNat)),(7,(.int .u64 x58.toNat)),(8,(.int .u64 x59.toNat)),(9,(.int .u64 x60.toNat))]) w23 fun v12 w24=>∃ x61:Slc,v12=(zS x61)∧(Mod NoB w23 w24∧sx w24∧ts 108 (zS x61) w24))∧∀ x62:Slc,((∀ w25,Mod NoB w5.drew w25→sx w25→ts 108 (zS x62) w25→ts 87 (.agg #[.int .u64 xa7.toNat,.int .u64 xb7.toNat]) w25→aD prog 176 [zS x62] w25 (aG R) fun v13 w26=>∃ xa8 xb8:UInt64,v13=(.agg #[.int .u64 xa8.toNat,.int .u64 xb8.toNat])∧(Mod NoB w25 w26∧sx w26∧ts 109 (.agg #[.int .u64 xa8.toNat,.int .u64 xb8.toNat]) w26))∧∀ xa9 xb9:UInt64,((∀ w27,Mod NoB w5.drew w27→sx w27→aI prog (Instr.alloc 239 true (.tuple #[])) w27 fun v14 w28=>∃ all:Option Addr,v14=(.pointer all)∧(Mod NoB w27 w28∧sx w28∧ts 111 (.pointer all) w28))∧∀ all1:Option Addr,∀ w29,Mod NoB w5.drew w29→sx w29→ts 111 (.pointer all1) w29→ts 109 (.agg #[.int .u64 xa9.toNat,.int .u64 xb9.toNat]) w29→ts 108 (zS x62) w29→ts 87 (.agg #[.int .u64 xa7.toNat,.int .u64 xb7.toNat]) w29→ts 86 (zS x50) w29→ts 65 (.agg #[.int .u64 xa5.toNat,.int .u64 xb5.toNat]) w29→ts 64 (zS x38) w29→ts 43 (.agg #[.int .u64 xa3.toNat,.int .u64 xb3.toNat]) w29→ts 42 (zS x26) w29→ts 21 (.agg #[.int .u64 xa1.toNat,.int .u64 xb1.toNat]) w29→ts 20 (zS x14) w29→((aA all1 fun a53=>aJ prog (storeVar 239 a53 (.agg #[.int .u64 xa1.toNat,.int .u64 xb1.toNat,.int .u64 xa3.toNat,.int .u64 xb3.toNat,.int .u64 xa5.toNat,.int .u64 xb5.toNat,.int .u64 xa7.toNat,.int .u64 xb7.toNat,.int .u64 xa9.toNat,.int .u64 xb9.toNat])) w29 fun w30=>aI prog (Instr.alloc 121 true (.tuple #[])) w30 fun v15 w31=>∃ out:Option Addr,v15=(.pointer out)∧aI prog (Instr.alloc 121 true (.tuple #[])) w31 fun v16 w32=>∃ up:Option Addr,v16=(.pointer up)∧aA all1 fun a54=>∃ xaa xab xba xbb xca xcb xda xdb xea xeb:UInt64,Rd w32 a54 [.int .u64 xaa.toNat,.int .u64 xab.toNat,.int .u64 xba.toNat,.int .u64 xbb.toNat,.int .u64 xca.toNat,.int .u64 xcb.toNat,.int .u64 xda.toNat,.int .u64 xdb.toNat,.int .u64 xea.toNat,.int .u64 xeb.toNat]∧∃ (inv1:List TV→World→Prop) (mu1:List TV→World→Nat),inv1 [.i .i64 (0:Int)] w32∧(∀ x63:Int,∀ w33:World,inv1 [.i .i64 x63] w33→aH (decide (x63<(5:Int))) (((0≤x63∧x63<(5:Nat))∧(∀ z∈([.agg [.agg [.u64 xaa,.u64 xab]],.agg [.agg [.u64 xba,.u64 xbb]],.agg [.agg [.u64 xca,.u64 xcb]],.agg [.agg [.u64 xda,.u64 xdb]],.agg [.agg [.u64 xea,.u64 xeb]]]:List TV),z.cells.length=2)∧∃ xa10 xb10:UInt64,([.agg [.agg [.u64 xaa,.u64 xab]],.agg [.agg [.u64 xba,.u64 xbb]],.agg [.agg [.u64 xca,.u64 xcb]],.agg [.agg [.u64 xda,.u64 xdb]],.agg [.agg [.u64 xea,.u64 xeb]]]:List TV)[x63.toNat]? = some (.agg [.agg [.u64 xa10,.u64 xb10]])∧aI prog (Instr.alloc 237 true (.tuple #[])) w33 fun v17 w34=>∃ s:Option Addr,v17=(.pointer s)∧aA s fun a55=>aJ prog (storeVar 237 a55 (.agg #[.int .u64 xa10.toNat,.int .u64 xb10.toNat])) w34 fun w35=>aA s fun a56=>∃ xa11 xb11:UInt64,Rd w35 a56 [.int .u64 xa11.toNat,.int .u64 xb11.toNat]∧aD prog 177 [.agg #[.int .u64 xa11.toNat,.int .u64 xb11.toNat]] w35 (aG R) fun v18 w36=>∃ xa12 xb12:UInt64,v18=(.tuple #[.int .u64 xa12.toNat,.int .u64 xb12.toNat])∧((0≤x63∧x63<(5:Nat))∧aA out fun a57=>aJ prog (storeVar 119 (a57.add (x63.toNat*1)) (.int .u64 xa12.toNat)) w36 fun w37=>((0≤x63∧x63<(5:Nat))∧aA up fun a58=>aJ prog (storeVar 119 (a58.add (x63.toNat*1)) (.int .u64 xb12.toNat)) w37 fun w38=>(inv1 [.i .i64 (IntKind.i64.wrap (x63+(1:Int)))] w38∧mu1 [.i .i64 (IntKind.i64.wrap (x63+(1:Int)))] w38<mu1 [.i .i64 x63] w33))))) (∃ (inv2:List TV→World→Prop) (mu2:List TV→World→Nat),inv2 [.i .i64 (0:Int)] w33∧(∀ x64:Int,∀ w39:World,inv2 [.i .i64 x64] w39→aH (decide (x64<(5:Int))) (aH (decide (x64<(4:Int))) (∃ sx1:World→Prop,sx1 w39.drew∧((0≤(IntKind.i64.wrap (x64+(1:Int)))∧(IntKind.i64.wrap (x64+(1:Int)))<(5:Nat))∧aA out fun a59=>((0≤x64∧x64<(5:Nat))∧aA up fun a60=>∃ x65:UInt64,(∀ w',sx1 w'→Rd w' (a59.add (((IntKind.i64.wrap (x64+(1:Int)))).toNat*1)) [.int .u64 x65.toNat])∧∃ x66:UInt64,(∀ w',sx1 w'→Rd w' (a60.add (x64.toNat*1)) [.int .u64 x66.toNat])∧((0≤(IntKind.i64.wrap (x64+(1:Int)))∧(IntKind.i64.wrap (x64+(1:Int)))<(5:Nat))∧aA out fun a61=>((aJ prog (storeVar 119 (a61.add (((IntKind.i64.wrap (x64+(1:Int)))).toNat*1)) (.int .u64 ((x65+x66)).toNat)) w39.drew fun w40=>(inv2 [.i .i64 (IntKind.i64.wrap (x64+(1:Int)))] w40∧mu2 [.i .i64 (IntKind.i64.wrap (x64+(1:Int)))] w40<mu2 [.i .i64 x64] w39))∧True))))) (((0≤(4:Int)∧(4:Int)<(5:Nat))∧aA up fun a62=>∃ x67:UInt64,Rd w39 (a62.add (((4:Int)).toNat*1)) [.int .u64 x67.toNat]∧aD prog 178 [.int .u64 x67.toNat,.int .u64 ((19:UInt64)).toNat] w39 (aG R) fun v19 w41=>∃ xa13 xb13:UInt64,v19=(.tuple #[.int .u64 xa13.toNat,.int .u64 xb13.toNat])∧((0≤(0:Int)∧(0:Int)<(5:Nat))∧aA out fun a63=>∃ x68:UInt64,Rd w41 (a63.add (((0:Int)).toNat*1)) [.int .u64 x68.toNat]∧((0≤(0:Int)∧(0:Int)<(5:Nat))∧aA out fun a64=>aJ prog (storeVar 119 (a64.add (((0:Int)).toNat*1)) (.int .u64 ((x68+(xb13 &&& (2251799813685247:UInt64)))).toNat)) w41 fun w42=>((0≤(1:Int)∧(1:Int)<(5:Nat))∧aA out fun a65=>∃ x69:UInt64,Rd w42 (a65.add (((1:Int)).toNat*1)) [.int .u64 x69.toNat]∧(0≤(((13:UInt64)).toNat:Int)∧(0≤(((51:UInt64)).toNat:Int)∧((0≤(1:Int)∧(1:Int)<(5:Nat))∧aA out fun a66=>aJ prog (storeVar 119 (a66.add (((1:Int)).toNat*1)) (.int .u64 ((x69+((dO xa13 ((((13:UInt64)).toNat:Int)).toNat) ||| (aM xb13 ((((51:UInt64)).toNat:Int)).toNat)))).toNat)) w42 fun w43=>(inv2 [.i .i64 (IntKind.i64.wrap (x64+(1:Int)))] w43∧mu2 [.i .i64 (IntKind.i64.wrap (x64+(1:Int)))] w43<mu2 [.i .i64 x64] w39)))))))))) (aA out fun a67=>∃ xa14 xb14 xc xd xe:UInt64,Rd w39 a67 (l5 xa14 xb14 xc xd xe)∧aD prog 179 [e5 xa14 xb14 xc xd xe] w39 (aG R) fun v20 w44=>∃ xa15 xb15 xc1 xd1 xe1:UInt64,v20=(e5 xa15 xb15 xc1 xd1 xe1)∧aD prog 179 [e5 xa15 xb15 xc1 xd1 xe1] w44 (aG R) fun v21 w45=>∃ xa16 xb16 xc2 xd2 xe2:UInt64,v21=(e5 xa16 xb16 xc2 xd2 xe2)∧aA x fun a68=>aJ prog (storeVar 121 a68 (e5 xa16 xb16 xc2 xd2 xe2)) w45 fun w46=>aA x fun a69=>∃ xa17 xb17 xc3 xd3 xe3:UInt64,Rd w46 a69 (l5 xa17 xb17 xc3 xd3 xe3)∧R (.returned (e5 xa17 xb17 xc3 xd3 xe3)) w46)))))∧True)))))))))))))))))))))))))))))))))))))))))))))))))))))))))))))))))
theorem qLS (aa ab ac ad ae ba bb bc bd be:UInt64) {w:World} {R:RW} (hden:qTQ aa ab ac ad ae ba bb bc bd be w R):Calls prog 128 #[e5 aa ab ac ad ae,e5 ba bb bc bd be] w R:=
 aB (q0 .z (q0 .z (q0 (q0 .z (.block none (.loop [(15,(.i .i64))] (q0 .z (q0 (.cond .z .z) (q0 (.block none (q0 .z .z)) .z)))))) (q0 (.draw 1 (.safe [(0,.p),(1,.u64),(2,.p),(3,.u64),(4,.p),(5,.u64),(6,.p),(7,.u64),(8,.p),(9,.u64),(10,.p),(11,.u64),(12,.p),(13,.u64),(14,.p),(15,.u64),(16,.p),(17,.u64),(18,.p),(19,.u64),(20,.sl),(21,(.agg [.agg [.u64,.u64]])),(22,.p),(23,.u64),(24,.p),(25,.u64),(26,.p),(27,.u64),(28,.p),(29,.u64),(30,.p),(31,.u64),(32,.p),(33,.u64),(34,.p),(35,.u64),(36,.p),(37,.u64),(38,.p),(39,.u64),(40,.p),(41,.u64),(42,.sl),(43,(.agg [.agg [.u64,.u64]])),(44,.p),(45,.u64),(46,.p),(47,.u64),(48,.p),(49,.u64),(50,.p),(51,.u64),(52,.p),(53,.u64),(54,.p),(55,.u64),(56,.p),(57,.u64),(58,.p),(59,.u64),(60,.p),(61,.u64),(62,.p),(63,.u64),(64,.sl),(65,(.agg [.agg [.u64,.u64]])),(66,.p),(67,.u64),(68,.p),(69,.u64),(70,.p),(71,.u64),(72,.p),(73,.u64),(74,.p),(75,.u64),(76,.p),(77,.u64),(78,.p),(79,.u64),(80,.p),(81,.u64),(82,.p),(83,.u64),(84,.p),(85,.u64),(86,.sl),(87,(.agg [.agg [.u64,.u64]])),(88,.p),(89,.u64),(90,.p),(91,.u64),(92,.p),(93,.u64),(94,.p),(95,.u64),(96,.p),(97,.u64),(98,.p),(99,.u64),(100,.p),(101,.u64),(102,.p),(103,.u64),(104,.p),(105,.u64),(106,.p),(107,.u64),(108,.sl),(109,(.agg [.agg [.u64,.u64]])),(110,(.agg [.agg [.agg [.u64,.u64]],.agg [.agg [.u64,.u64]],.agg [.agg [.u64,.u64]],.agg [.agg [.u64,.u64]],.agg [.agg [.u64,.u64]]])),(111,.p)] (.all [(112,.done)]))) (q0 .z (q0 (q0 .z (.block none (.loop [(137,(.i .i64))] (q0 .z (q0 (.cond .z .z) (q0 (.block none (q0 .z .z)) .z)))))) (q0 (q0 .z (.block none (.loop [(151,(.i .i64))] (q0 .z (q0 (.cond .z .z) (q0 (.block none (q0 .z (q0 .z (.cond (.draw 1 (.take 0 (.take 1 (.take 2 (.take 4 (.take 5 (.take 3 (.take 6 (.take 7 (.take 8 (.all [(9,.done)]))))))))))) (q0 .z (q0 .z .z)))))) .z)))))) (q0 .z .z)))))))) func128 (by kernel_rfl) [.agg [.u64 aa,.u64 ab,.u64 ac,.u64 ad,.u64 ae],.agg [.u64 ba,.u64 bb,.u64 bc,.u64 bd,.u64 be]] (by kernel_rfl) (by kernel_rfl) hden
def qUK (aa ab ac ad ae:UInt64) (n:Int) (less:UInt64) (w:World) (R:RW):Prop:=
 aI prog (Instr.box 121 (e5 aa ab ac ad ae)) w fun v w1=>∃ a:Option Addr,v=(.pointer a)∧aI prog (Instr.box 119 (.int .u64 less.toNat)) w1 fun v1 w2=>∃ less1:Option Addr,v1=(.pointer less1)∧aI prog (Instr.alloc 121 true (.tuple #[])) w2 fun v2 w3=>∃ x:Option Addr,v2=(.pointer x)∧aD prog 180 [] w3 (aG R) fun v3 w4=>∃ xa xb xc xd xe:UInt64,v3=(e5 xa xb xc xd xe)∧aI prog (Instr.alloc 121 true (.tuple #[])) w4 fun v4 w5=>∃ out:Option Addr,v4=(.pointer out)∧aA out fun a1=>aJ prog (storeVar 121 a1 (e5 xa xb xc xd xe)) w5 fun w6=>∃ (inv:List TV→World→Prop) (mu:List TV→World→Nat),inv [.i .i64 (IntKind.i64.wrap (n - (1:Int)))] w6∧(∀ i:Int,∀ w7:World,inv [.i .i64 i] w7→aH (decide (i≥(0:Int))) (aA out fun a2=>∃ xa1 xb1 xc1 xd1 xe1:UInt64,Rd w7 a2 (l5 xa1 xb1 xc1 xd1 xe1)∧aD prog 184 [e5 xa1 xb1 xc1 xd1 xe1] w7 (aG R) fun v5 w8=>∃ xa2 xb2 xc2 xd2 xe2:UInt64,v5=(e5 xa2 xb2 xc2 xd2 xe2)∧aA out fun a3=>aJ prog (storeVar 121 a3 (e5 xa2 xb2 xc2 xd2 xe2)) w8 fun w9=>aD prog 226 [.int .i64 i,.pointer less1] w9 (aG R) fun v6 w10=>∃ x1:Bool,v6=(.bool x1)∧aH x1 (aA out fun a4=>∃ xa3 xb3 xc3 xd3 xe3:UInt64,Rd w10 a4 (l5 xa3 xb3 xc3 xd3 xe3)∧aA a fun a5=>∃ xa4 xb4 xc4 xd4 xe4:UInt64,Rd w10 a5 (l5 xa4 xb4 xc4 xd4 xe4)∧aD prog 128 [e5 xa3 xb3 xc3 xd3 xe3,e5 xa4 xb4 xc4 xd4 xe4] w10 (aG R) fun v7 w11=>∃ xa5 xb5 xc5 xd5 xe5:UInt64,v7=(e5 xa5 xb5 xc5 xd5 xe5)∧aA out fun a6=>aJ prog (storeVar 121 a6 (e5 xa5 xb5 xc5 xd5 xe5)) w11 fun w12=>(inv [.i .i64 (IntKind.i64.wrap (i - (1:Int)))] w12∧mu [.i .i64 (IntKind.i64.wrap (i - (1:Int)))] w12<mu [.i .i64 i] w7)) ((inv [.i .i64 (IntKind.i64.wrap (i - (1:Int)))] w10∧mu [.i .i64 (IntKind.i64.wrap (i - (1:Int)))] w10<mu [.i .i64 i] w7))) (aA out fun a7=>∃ xa6 xb6 xc6 xd6 xe6:UInt64,Rd w7 a7 (l5 xa6 xb6 xc6 xd6 xe6)∧aA x fun a8=>aJ prog (storeVar 121 a8 (e5 xa6 xb6 xc6 xd6 xe6)) w7 fun w13=>aA x fun a9=>∃ xa7 xb7 xc7 xd7 xe7:UInt64,Rd w13 a9 (l5 xa7 xb7 xc7 xd7 xe7)∧R (.returned (e5 xa7 xb7 xc7 xd7 xe7)) w13))
theorem qNV (aa ab ac ad ae:UInt64) (n:Int) (less:UInt64) {w:World} {R:RW} (hden:qUK aa ab ac ad ae n less w R):Calls prog 174 #[e5 aa ab ac ad ae,.int .i64 n,.int .u64 less.toNat] w R:=
 aB (q0 .z (q0 .z (q0 .z (q0 (q0 .z (.block none (.loop [(9,(.i .i64))] (q0 (q0 .z (.cond .z .z)) (q0 (.block none (q0 .z (q0 .z (.cond .z .z)))) .z))))) (q0 .z .z))))) func174 (by kernel_rfl) [.agg [.u64 aa,.u64 ab,.u64 ac,.u64 ad,.u64 ae],.i .i64 n,.u64 less] (by kernel_rfl) (by kernel_rfl) hden
def qUB (aa ab ac ad ae:UInt64) (w:World) (R:RW):Prop:=
 aI prog (Instr.box 121 (e5 aa ab ac ad ae)) w fun v w1=>∃ a:Option Addr,v=(.pointer a)∧aI prog (Instr.alloc 121 true (.tuple #[])) w1 fun v1 w2=>∃ x:Option Addr,v1=(.pointer x)∧aA a fun a1=>∃ xa xb xc xd xe:UInt64,Rd w2 a1 (l5 xa xb xc xd xe)∧aD prog 179 [e5 xa xb xc xd xe] w2 (aG R) fun v2 w3=>∃ xa1 xb1 xc1 xd1 xe1:UInt64,v2=(e5 xa1 xb1 xc1 xd1 xe1)∧aD prog 179 [e5 xa1 xb1 xc1 xd1 xe1] w3 (aG R) fun v3 w4=>∃ xa2 xb2 xc2 xd2 xe2:UInt64,v3=(e5 xa2 xb2 xc2 xd2 xe2)∧aA a fun a2=>aJ prog (storeVar 121 a2 (e5 xa2 xb2 xc2 xd2 xe2)) w4 fun w5=>((0≤(0:Int)∧(0:Int)<(5:Nat))∧aA a fun a3=>∃ x1:UInt64,Rd w5 (a3.add (((0:Int)).toNat*1)) [.int .u64 x1.toNat]∧(0≤(((51:UInt64)).toNat:Int)∧∃ (inv:List TV→World→Prop) (mu:List TV→World→Nat),inv [.u64 (aM (x1+(19:UInt64)) ((((51:UInt64)).toNat:Int)).toNat),.i .i64 (1:Int)] w5∧(∀ q:UInt64,∀ i:Int,∀ w6:World,inv [.u64 q,.i .i64 i] w6→aH (decide (i<(5:Int))) (((0≤i∧i<(5:Nat))∧aA a fun a4=>∃ x2:UInt64,Rd w6 (a4.add (i.toNat*1)) [.int .u64 x2.toNat]∧(0≤(((51:UInt64)).toNat:Int)∧(inv [.u64 (aM (x2+q) ((((51:UInt64)).toNat:Int)).toNat),.i .i64 (IntKind.i64.wrap (i+(1:Int)))] w6∧mu [.u64 (aM (x2+q) ((((51:UInt64)).toNat:Int)).toNat),.i .i64 (IntKind.i64.wrap (i+(1:Int)))] w6<mu [.u64 q,.i .i64 i] w6)))) (((0≤(0:Int)∧(0:Int)<(5:Nat))∧aA a fun a5=>∃ x3:UInt64,Rd w6 (a5.add (((0:Int)).toNat*1)) [.int .u64 x3.toNat]∧((0≤(0:Int)∧(0:Int)<(5:Nat))∧aA a fun a6=>aJ prog (storeVar 119 (a6.add (((0:Int)).toNat*1)) (.int .u64 ((x3+((19:UInt64)*q))).toNat)) w6 fun w7=>∃ (inv1:List TV→World→Prop) (mu1:List TV→World→Nat),inv1 [.i .i64 (0:Int)] w7∧(∀ i1:Int,∀ w8:World,inv1 [.i .i64 i1] w8→aH (decide (i1<(4:Int))) (∃ sx:World→Prop,sx w8.drew∧((0≤(IntKind.i64.wrap (i1+(1:Int)))∧(IntKind.i64.wrap (i1+(1:Int)))<(5:Nat))∧aA a fun a7=>((0≤i1∧i1<(5:Nat))∧aA a fun a8=>∃ x4:UInt64,(∀ w',sx w'→Rd w' (a7.add (((IntKind.i64.wrap (i1+(1:Int)))).toNat*1)) [.int .u64 x4.toNat])∧∃ x5:UInt64,(∀ w',sx w'→Rd w' (a8.add (i1.toNat*1)) [.int .u64 x5.toNat])∧(0≤(((51:UInt64)).toNat:Int)∧((0≤(IntKind.i64.wrap (i1+(1:Int)))∧(IntKind.i64.wrap (i1+(1:Int)))<(5:Nat))∧aA a fun a9=>((aJ prog (storeVar 119 (a9.add (((IntKind.i64.wrap (i1+(1:Int)))).toNat*1)) (.int .u64 ((x4+(aM x5 ((((51:UInt64)).toNat:Int)).toNat))).toNat)) w8.drew fun w9=>((0≤i1∧i1<(5:Nat))∧aA a fun a10=>∃ x6:UInt64,Rd w9 (a10.add (i1.toNat*1)) [.int .u64 x6.toNat]∧((0≤i1∧i1<(5:Nat))∧aA a fun a11=>aJ prog (storeVar 119 (a11.add (i1.toNat*1)) (.int .u64 ((x6 &&& (2251799813685247:UInt64))).toNat)) w9 fun w10=>(inv1 [.i .i64 (IntKind.i64.wrap (i1+(1:Int)))] w10∧mu1 [.i .i64 (IntKind.i64.wrap (i1+(1:Int)))] w10<mu1 [.i .i64 i1] w8))))∧True)))))) (((0≤(4:Int)∧(4:Int)<(5:Nat))∧aA a fun a12=>∃ x7:UInt64,Rd w8 (a12.add (((4:Int)).toNat*1)) [.int .u64 x7.toNat]∧((0≤(4:Int)∧(4:Int)<(5:Nat))∧aA a fun a13=>aJ prog (storeVar 119 (a13.add (((4:Int)).toNat*1)) (.int .u64 ((x7 &&& (2251799813685247:UInt64))).toNat)) w8 fun w11=>aA a fun a14=>∃ xa3 xb3 xc3 xd3 xe3:UInt64,Rd w11 a14 (l5 xa3 xb3 xc3 xd3 xe3)∧aA x fun a15=>aJ prog (storeVar 121 a15 (e5 xa3 xb3 xc3 xd3 xe3)) w11 fun w12=>aA x fun a16=>∃ xa4 xb4 xc4 xd4 xe4:UInt64,Rd w12 a16 (l5 xa4 xb4 xc4 xd4 xe4)∧R (.returned (e5 xa4 xb4 xc4 xd4 xe4)) w12))))))))))
theorem qMO (aa ab ac ad ae:UInt64) {w:World} {R:RW} (hden:qUB aa ab ac ad ae w R):Calls prog 175 #[e5 aa ab ac ad ae] w R:=
 aB (q0 .z (q0 .z (q0 .z (q0 (q0 .z (.block none (.loop [(3,.u64),(4,(.i .i64))] (q0 (q0 .z (.cond .z .z)) (q0 (.block none .z) .z))))) (q0 .z (q0 (q0 .z (.block none (.loop [(5,(.i .i64))] (q0 (q0 .z (.cond .z .z)) (q0 (.block none (q0 (.draw 1 (.take 0 (.take 1 (.take 2 (.take 4 (.take 5 (.take 3 (.take 6 (.take 7 (.take 8 (.take 9 (.all [(10,.done)])))))))))))) .z)) .z))))) (q0 .z (q0 .z .z)))))))) func175 (by kernel_rfl) [.agg [.u64 aa,.u64 ab,.u64 ac,.u64 ad,.u64 ae]] (by kernel_rfl) (by kernel_rfl) hden
def qRA (l:Slc) (w:World) (R:RW):Prop:=
 aI prog (Instr.alloc 237 true (.tuple #[])) w fun v w1=>∃ x:Option Addr,v=(.pointer x)∧aI prog (Instr.alloc 237 true (.tuple #[])) w1 fun v1 w2=>∃ s:Option Addr,v1=(.pointer s)∧∃ (inv:List TV→World→Prop) (mu:List TV→World→Nat),inv [.i .i64 (0:Int)] w2∧(∀ i:Int,∀ w3:World,inv [.i .i64 i] w3→aH (decide ((IntKind.i64.wrap (i+(1:Int)))<(l.len:Int))) (∃ sx:World→Prop,sx w3.drew∧aA s fun a=>((0≤i∧i<(l.len:Nat))∧aA l.a fun a1=>((0≤(IntKind.i64.wrap (i+(1:Int)))∧(IntKind.i64.wrap (i+(1:Int)))<(l.len:Nat))∧aA l.a fun a2=>∃ x1:UInt64,(∀ w',sx w'→Rd w' (a1.add (i.toNat*1)) [.int .u64 x1.toNat])∧∃ x2:UInt64,(∀ w',sx w'→Rd w' (a2.add (((IntKind.i64.wrap (i+(1:Int)))).toNat*1)) [.int .u64 x2.toNat])∧((aD prog 227 [.pointer (some (a.add 0)),.int .u64 x1.toNat,.int .u64 x2.toNat] w3.drew (aG R) fun v2 w4=>v2=(.tuple #[])∧(inv [.i .i64 (IntKind.i64.wrap (i+(2:Int)))] w4∧mu [.i .i64 (IntKind.i64.wrap (i+(2:Int)))] w4<mu [.i .i64 i] w3))∧True)))) (aA s fun a3=>∃ xa xb:UInt64,Rd w3 a3 [.int .u64 xa.toNat,.int .u64 xb.toNat]∧aA x fun a4=>aJ prog (storeVar 237 a4 (.agg #[.int .u64 xa.toNat,.int .u64 xb.toNat])) w3 fun w5=>aA x fun a5=>∃ xa1 xb1:UInt64,Rd w5 a5 [.int .u64 xa1.toNat,.int .u64 xb1.toNat]∧R (.returned (.agg #[.int .u64 xa1.toNat,.int .u64 xb1.toNat])) w5))
theorem qMV (l:Slc) {w:World} {R:RW} (hden:qRA l w R):Calls prog 176 #[zS l] w R:=
 aB (q0 .z (q0 .z (q0 (q0 .z (.block none (.loop [(4,(.i .i64))] (q0 (q0 .z (.cond .z .z)) (q0 (.block none (.draw 1 (.take 0 (.take 1 (.take 2 (.take 3 (.take 5 (.take 6 (.take 7 (.take 8 (.take 4 (.take 9 (.all [(10,.done)]))))))))))))) .z))))) (q0 .z .z)))) func176 (by kernel_rfl) [.sl l] (by kernel_rfl) (by kernel_rfl) hden
def qTS (sa sb:UInt64) (w:World) (R:RW):Prop:=
 aI prog (Instr.box 237 (.agg #[.int .u64 sa.toNat,.int .u64 sb.toNat])) w fun v w1=>∃ s:Option Addr,v=(.pointer s)∧aA s fun a=>aA s fun a1=>aA s fun a2=>∃ x:UInt64,Rd w1.drew ((a.add 0).add 1) [.int .u64 x.toNat]∧∃ x1:UInt64,Rd w1.drew ((a1.add 0).add 0) [.int .u64 x1.toNat]∧(0≤(((13:UInt64)).toNat:Int)∧∃ x2:UInt64,Rd w1.drew ((a2.add 0).add 1) [.int .u64 x2.toNat]∧(0≤(((51:UInt64)).toNat:Int)∧R (.returned (.tuple #[.int .u64 ((x &&& (2251799813685247:UInt64))).toNat,.int .u64 (((dO x1 ((((13:UInt64)).toNat:Int)).toNat) ||| (aM x2 ((((51:UInt64)).toNat:Int)).toNat))).toNat])) w1.drew))
theorem qMW (sa sb:UInt64) {w:World} {R:RW} (hden:qTS sa sb w R):Calls prog 177 #[.agg #[.int .u64 sa.toNat,.int .u64 sb.toNat]] w R:=
 aB (q0 .z (q0 (.draw 2 (.take 0 (.take 1 (.take 4 (.take 5 (.take 8 (.take 9 (.take 2 (.take 3 (.take 13 (.take 6 (.take 7 (.take 10 (.take 11 (.take 12 (.take 14 .done)))))))))))))))) .z)) func177 (by kernel_rfl) [.agg [.agg [.u64 sa,.u64 sb]]] (by kernel_rfl) (by kernel_rfl) hden
def qIJ (x y:UInt64) (w:World) (R:RW):Prop:=
 (0≤(((32:UInt64)).toNat:Int)∧(0≤(((32:UInt64)).toNat:Int)∧(0≤(((32:UInt64)).toNat:Int)∧(0≤(((32:UInt64)).toNat:Int)∧(0≤(((32:UInt64)).toNat:Int)∧R (.returned (.tuple #[.int .u64 (((((aM x ((((32:UInt64)).toNat:Int)).toNat)*(aM y ((((32:UInt64)).toNat:Int)).toNat))+(aM (((aM x ((((32:UInt64)).toNat:Int)).toNat)*(y &&& (4294967295:UInt64)))+(aM ((x &&& (4294967295:UInt64))*(y &&& (4294967295:UInt64))) ((((32:UInt64)).toNat:Int)).toNat)) ((((32:UInt64)).toNat:Int)).toNat))+(aM (((((aM x ((((32:UInt64)).toNat:Int)).toNat)*(y &&& (4294967295:UInt64)))+(aM ((x &&& (4294967295:UInt64))*(y &&& (4294967295:UInt64))) ((((32:UInt64)).toNat:Int)).toNat)) &&& (4294967295:UInt64))+((x &&& (4294967295:UInt64))*(aM y ((((32:UInt64)).toNat:Int)).toNat))) ((((32:UInt64)).toNat:Int)).toNat))).toNat,.int .u64 ((x*y)).toNat])) w)))))
theorem qCA (x y:UInt64) {w:World} {R:RW} (hden:qIJ x y w R):Calls prog 178 #[.int .u64 x.toNat,.int .u64 y.toNat] w R:=
 aB (q0 .z (q0 .z (q0 .z (q0 .z (q0 .z (q0 .z (q0 .z (q0 .z (q0 .z (q0 .z (q0 .z (q0 .z .z)))))))))))) func178 (by kernel_rfl) [.u64 x,.u64 y] (by kernel_rfl) (by kernel_rfl) hden
def qQN (aa ab ac ad ae:UInt64) (w:World) (R:RW):Prop:=
 aI prog (Instr.box 121 (e5 aa ab ac ad ae)) w fun v w1=>∃ a:Option Addr,v=(.pointer a)∧aI prog (Instr.alloc 121 true (.tuple #[])) w1 fun v1 w2=>∃ x:Option Addr,v1=(.pointer x)∧((0≤(4:Int)∧(4:Int)<(5:Nat))∧aA a fun a1=>∃ x1:UInt64,Rd w2 (a1.add (((4:Int)).toNat*1)) [.int .u64 x1.toNat]∧(0≤(((51:UInt64)).toNat:Int)∧∃ (inv:List TV→World→Prop) (mu:List TV→World→Nat),inv [.i .i64 (4:Int)] w2∧(∀ i:Int,∀ w3:World,inv [.i .i64 i] w3→aH (decide (i > (0:Int))) (∃ sx:World→Prop,sx w3.drew∧((0≤i∧i<(5:Nat))∧aA a fun a2=>((0≤(IntKind.i64.wrap (i - (1:Int)))∧(IntKind.i64.wrap (i - (1:Int)))<(5:Nat))∧aA a fun a3=>∃ x2:UInt64,(∀ w',sx w'→Rd w' (a2.add (i.toNat*1)) [.int .u64 x2.toNat])∧∃ x3:UInt64,(∀ w',sx w'→Rd w' (a3.add (((IntKind.i64.wrap (i - (1:Int)))).toNat*1)) [.int .u64 x3.toNat])∧(0≤(((51:UInt64)).toNat:Int)∧((0≤i∧i<(5:Nat))∧aA a fun a4=>((aJ prog (storeVar 119 (a4.add (i.toNat*1)) (.int .u64 (((x2 &&& (2251799813685247:UInt64))+(aM x3 ((((51:UInt64)).toNat:Int)).toNat))).toNat)) w3.drew fun w4=>(inv [.i .i64 (IntKind.i64.wrap (i - (1:Int)))] w4∧mu [.i .i64 (IntKind.i64.wrap (i - (1:Int)))] w4<mu [.i .i64 i] w3))∧True)))))) (((0≤(0:Int)∧(0:Int)<(5:Nat))∧aA a fun a5=>∃ x4:UInt64,Rd w3 (a5.add (((0:Int)).toNat*1)) [.int .u64 x4.toNat]∧((0≤(0:Int)∧(0:Int)<(5:Nat))∧aA a fun a6=>aJ prog (storeVar 119 (a6.add (((0:Int)).toNat*1)) (.int .u64 (((x4 &&& (2251799813685247:UInt64))+((19:UInt64)*(aM x1 ((((51:UInt64)).toNat:Int)).toNat)))).toNat)) w3 fun w5=>aA a fun a7=>∃ xa xb xc xd xe:UInt64,Rd w5 a7 (l5 xa xb xc xd xe)∧aA x fun a8=>aJ prog (storeVar 121 a8 (e5 xa xb xc xd xe)) w5 fun w6=>aA x fun a9=>∃ xa1 xb1 xc1 xd1 xe1:UInt64,Rd w6 a9 (l5 xa1 xb1 xc1 xd1 xe1)∧R (.returned (e5 xa1 xb1 xc1 xd1 xe1)) w6))))))
theorem qIZ (aa ab ac ad ae:UInt64) {w:World} {R:RW} (hden:qQN aa ab ac ad ae w R):Calls prog 179 #[e5 aa ab ac ad ae] w R:=
 aB (q0 .z (q0 .z (q0 (q0 .z (.block none (.loop [(4,(.i .i64))] (q0 (q0 .z (.cond .z .z)) (q0 (.block none (.draw 1 (.take 0 (.take 1 (.take 2 (.take 5 (.take 6 (.take 7 (.take 3 (.take 4 (.take 8 (.take 9 (.take 10 (.take 11 (.all [(12,.done)]))))))))))))))) .z))))) (q0 .z (q0 .z .z))))) func179 (by kernel_rfl) [.agg [.u64 aa,.u64 ab,.u64 ac,.u64 ad,.u64 ae]] (by kernel_rfl) (by kernel_rfl) hden
def qSN (w:World) (R:RW):Prop:=
 aI prog (Instr.alloc 121 true (.tuple #[])) w fun v w1=>∃ x:Option Addr,v=(.pointer x)∧aA x fun a=>aJ prog (storeVar 121 a (.agg #[.int .u64 ((1:UInt64)).toNat,.int .u64 ((0:UInt64)).toNat,.int .u64 ((0:UInt64)).toNat,.int .u64 ((0:UInt64)).toNat,.int .u64 ((0:UInt64)).toNat])) w1 fun w2=>aA x fun a1=>∃ xa xb xc xd xe:UInt64,Rd w2 a1 (l5 xa xb xc xd xe)∧R (.returned (e5 xa xb xc xd xe)) w2
theorem qOQ {w:World} {R:RW} (hden:qSN w R):Calls prog 180 #[] w R:=
 aB (q0 .z (q0 .z .z)) func180 (by kernel_rfl) [] (by kernel_rfl) (by kernel_rfl) hden
def qTG (aa ab ac ad ae:UInt64) (w:World) (R:RW):Prop:=
 aI prog (Instr.box 121 (e5 aa ab ac ad ae)) w fun v w1=>∃ a:Option Addr,v=(.pointer a)∧aI prog (Instr.alloc 121 true (.tuple #[])) w1 fun v1 w2=>∃ x:Option Addr,v1=(.pointer x)∧aA a fun a1=>∃ xa xb xc xd xe:UInt64,Rd w2 a1 (l5 xa xb xc xd xe)∧aA a fun a2=>∃ xa1 xb1 xc1 xd1 xe1:UInt64,Rd w2 a2 (l5 xa1 xb1 xc1 xd1 xe1)∧aD prog 128 [e5 xa xb xc xd xe,e5 xa1 xb1 xc1 xd1 xe1] w2 (aG R) fun v2 w3=>∃ xa2 xb2 xc2 xd2 xe2:UInt64,v2=(e5 xa2 xb2 xc2 xd2 xe2)∧aA x fun a3=>aJ prog (storeVar 121 a3 (e5 xa2 xb2 xc2 xd2 xe2)) w3 fun w4=>aA x fun a4=>∃ xa3 xb3 xc3 xd3 xe3:UInt64,Rd w4 a4 (l5 xa3 xb3 xc3 xd3 xe3)∧R (.returned (e5 xa3 xb3 xc3 xd3 xe3)) w4
theorem qIY (aa ab ac ad ae:UInt64) {w:World} {R:RW} (hden:qTG aa ab ac ad ae w R):Calls prog 184 #[e5 aa ab ac ad ae] w R:=
 aB (q0 .z (q0 .z .z)) func184 (by kernel_rfl) [.agg [.u64 aa,.u64 ab,.u64 ac,.u64 ad,.u64 ae]] (by kernel_rfl) (by kernel_rfl) hden
def qTH (aa ab ac ad ae ba bb bc bd be:UInt64) (w:World) (R:RW):Prop:=
 aI prog (Instr.box 121 (e5 aa ab ac ad ae)) w fun v w1=>∃ a:Option Addr,v=(.pointer a)∧aI prog (Instr.box 121 (e5 ba bb bc bd be)) w1 fun v1 w2=>∃ b:Option Addr,v1=(.pointer b)∧aI prog (Instr.alloc 121 true (.tuple #[])) w2 fun v2 w3=>∃ x:Option Addr,v2=(.pointer x)∧∃ (inv:List TV→World→Prop) (mu:List TV→World→Nat),inv [.i .i64 (0:Int)] w3∧(∀ x1:Int,∀ w4:World,inv [.i .i64 x1] w4→aH (decide (x1<(5:Int))) (∃ sx:World→Prop,sx w4.drew∧((0≤x1∧x1<(5:Nat))∧aA a fun a1=>((0≤x1∧x1<(5:Nat))∧aA b fun a2=>∃ x2:UInt64,(∀ w',sx w'→Rd w' (a1.add (x1.toNat*1)) [.int .u64 x2.toNat])∧∃ x3:UInt64,(∀ w',sx w'→Rd w' (a2.add (x1.toNat*1)) [.int .u64 x3.toNat])∧((0≤x1∧x1<(5:Nat))∧aA a fun a3=>((aJ prog (storeVar 119 (a3.add (x1.toNat*1)) (.int .u64 ((x2+x3)).toNat)) w4.drew fun w5=>(inv [.i .i64 (IntKind.i64.wrap (x1+(1:Int)))] w5∧mu [.i .i64 (IntKind.i64.wrap (x1+(1:Int)))] w5<mu [.i .i64 x1] w4))∧True))))) (aA a fun a4=>∃ xa xb xc xd xe:UInt64,Rd w4 a4 (l5 xa xb xc xd xe)∧aD prog 179 [e5 xa xb xc xd xe] w4 (aG R) fun v3 w6=>∃ xa1 xb1 xc1 xd1 xe1:UInt64,v3=(e5 xa1 xb1 xc1 xd1 xe1)∧aA x fun a5=>aJ prog (storeVar 121 a5 (e5 xa1 xb1 xc1 xd1 xe1)) w6 fun w7=>aA x fun a6=>∃ xa2 xb2 xc2 xd2 xe2:UInt64,Rd w7 a6 (l5 xa2 xb2 xc2 xd2 xe2)∧R (.returned (e5 xa2 xb2 xc2 xd2 xe2)) w7))
theorem qMY (aa ab ac ad ae ba bb bc bd be:UInt64) {w:World} {R:RW} (hden:qTH aa ab ac ad ae ba bb bc bd be w R):Calls prog 185 #[e5 aa ab ac ad ae,e5 ba bb bc bd be] w R:=
 aB (q0 .z (q0 (q0 .z (.block none (.loop [(6,(.i .i64))] (q0 .z (q0 (.cond .z .z) (q0 (.block none (q0 .z (.draw 1 (.take 0 (.take 1 (.take 3 (.take 4 (.take 2 (.take 5 (.take 6 (.take 7 (.all [(8,.done)])))))))))))) .z)))))) (q0 .z .z))) func185 (by kernel_rfl) [.agg [.u64 aa,.u64 ab,.u64 ac,.u64 ad,.u64 ae],.agg [.u64 ba,.u64 bb,.u64 bc,.u64 bd,.u64 be]] (by kernel_rfl) (by kernel_rfl) hden
def qSM (aa ab ac ad ae ba bb bc bd be:UInt64) (w:World) (R:RW):Prop:=
 aI prog (Instr.box 121 (e5 aa ab ac ad ae)) w fun v w1=>∃ a:Option Addr,v=(.pointer a)∧aI prog (Instr.box 121 (e5 ba bb bc bd be)) w1 fun v1 w2=>∃ b:Option Addr,v1=(.pointer b)∧aI prog (Instr.alloc 121 true (.tuple #[])) w2 fun v2 w3=>∃ x:Option Addr,v2=(.pointer x)∧∃ (inv:List TV→World→Prop) (mu:List TV→World→Nat),inv [.i .i64 (0:Int)] w3∧(∀ x1:Int,∀ w4:World,inv [.i .i64 x1] w4→aH (decide (x1<(5:Int))) (∃ sx:World→Prop,sx w4.drew∧((0≤x1∧x1<(5:Nat))∧aA a fun a1=>((0≤x1∧x1<(5:Nat))∧aA b fun a2=>∃ x2:UInt64,(∀ w',sx w'→Rd w' (a1.add (x1.toNat*1)) [.int .u64 x2.toNat])∧∃ x3:UInt64,(∀ w',sx w'→Rd w' (a2.add (x1.toNat*1)) [.int .u64 x3.toNat])∧((0≤x1∧x1<(5:Nat))∧aA a fun a3=>((aJ prog (storeVar 119 (a3.add (x1.toNat*1)) (.int .u64 ((x2+((9007199254740988:UInt64) - x3))).toNat)) w4.drew fun w5=>(inv [.i .i64 (IntKind.i64.wrap (x1+(1:Int)))] w5∧mu [.i .i64 (IntKind.i64.wrap (x1+(1:Int)))] w5<mu [.i .i64 x1] w4))∧True))))) (((0≤(0:Int)∧(0:Int)<(5:Nat))∧aA a fun a4=>∃ x4:UInt64,Rd w4 (a4.add (((0:Int)).toNat*1)) [.int .u64 x4.toNat]∧((0≤(0:Int)∧(0:Int)<(5:Nat))∧aA a fun a5=>aJ prog (storeVar 119 (a5.add (((0:Int)).toNat*1)) (.int .u64 ((x4 - (72:UInt64))).toNat)) w4 fun w6=>aA a fun a6=>∃ xa xb xc xd xe:UInt64,Rd w6 a6 (l5 xa xb xc xd xe)∧aD prog 179 [e5 xa xb xc xd xe] w6 (aG R) fun v3 w7=>∃ xa1 xb1 xc1 xd1 xe1:UInt64,v3=(e5 xa1 xb1 xc1 xd1 xe1)∧aA x fun a7=>aJ prog (storeVar 121 a7 (e5 xa1 xb1 xc1 xd1 xe1)) w7 fun w8=>aA x fun a8=>∃ xa2 xb2 xc2 xd2 xe2:UInt64,Rd w8 a8 (l5 xa2 xb2 xc2 xd2 xe2)∧R (.returned (e5 xa2 xb2 xc2 xd2 xe2)) w8))))
theorem qKU (aa ab ac ad ae ba bb bc bd be:UInt64) {w:World} {R:RW} (hden:qSM aa ab ac ad ae ba bb bc bd be w R):Calls prog 186 #[e5 aa ab ac ad ae,e5 ba bb bc bd be] w R:=
 aB (q0 .z (q0 (q0 .z (.block none (.loop [(6,(.i .i64))] (q0 .z (q0 (.cond .z .z) (q0 (.block none (q0 .z (.draw 1 (.take 0 (.take 1 (.take 3 (.take 4 (.take 2 (.take 5 (.take 6 (.take 7 (.take 8 (.all [(9,.done)]))))))))))))) .z)))))) (q0 .z (q0 .z .z)))) func186 (by kernel_rfl) [.agg [.u64 aa,.u64 ab,.u64 ac,.u64 ad,.u64 ae],.agg [.u64 ba,.u64 bb,.u64 bc,.u64 bd,.u64 be]] (by kernel_rfl) (by kernel_rfl) hden
def qTM (aa ab ac ad ae:UInt64) (w:World) (R:RW):Prop:=
 aI prog (Instr.box 121 (e5 aa ab ac ad ae)) w fun v w1=>∃ a:Option Addr,v=(.pointer a)∧aI prog (Instr.alloc 121 true (.tuple #[])) w1 fun v1 w2=>∃ x:Option Addr,v1=(.pointer x)∧aA a fun a1=>∃ xa xb xc xd xe:UInt64,Rd w2 a1 (l5 xa xb xc xd xe)∧aD prog 186 [.agg #[.int .u64 ((0:UInt64)).toNat,.int .u64 ((0:UInt64)).toNat,.int .u64 ((0:UInt64)).toNat,.int .u64 ((0:UInt64)).toNat,.int .u64 ((0:UInt64)).toNat],e5 xa xb xc xd xe] w2 (aG R) fun v2 w3=>∃ xa1 xb1 xc1 xd1 xe1:UInt64,v2=(e5 xa1 xb1 xc1 xd1 xe1)∧aA x fun a2=>aJ prog (storeVar 121 a2 (e5 xa1 xb1 xc1 xd1 xe1)) w3 fun w4=>aA x fun a3=>∃ xa2 xb2 xc2 xd2 xe2:UInt64,Rd w4 a3 (l5 xa2 xb2 xc2 xd2 xe2)∧R (.returned (e5 xa2 xb2 xc2 xd2 xe2)) w4
theorem qOW (aa ab ac ad ae:UInt64) {w:World} {R:RW} (hden:qTM aa ab ac ad ae w R):Calls prog 188 #[e5 aa ab ac ad ae] w R:=
 aB (q0 .z (q0 .z .z)) func188 (by kernel_rfl) [.agg [.u64 aa,.u64 ab,.u64 ac,.u64 ad,.u64 ae]] (by kernel_rfl) (by kernel_rfl) hden
def qQJ (aa ab ac ad ae:UInt64) (w:World) (R:RW):Prop:=
 aI prog (Instr.box 121 (e5 aa ab ac ad ae)) w fun v w1=>∃ a:Option Addr,v=(.pointer a)∧aA a fun a1=>∃ xa xb xc xd xe:UInt64,Rd w1 a1 (l5 xa xb xc xd xe)∧aD prog 175 [e5 xa xb xc xd xe] w1 (aG R) fun v1 w2=>∃ xa1 xb1 xc1 xd1 xe1:UInt64,v1=(e5 xa1 xb1 xc1 xd1 xe1)∧aU prog (do eqGuard .eql 121 (.tmp 4) (.tmp 5) (e5 xa1 xb1 xc1 xd1 xe1) (.agg #[.int .u64 ((0:UInt64)).toNat,.int .u64 ((0:UInt64)).toNat,.int .u64 ((0:UInt64)).toNat,.int .u64 ((0:UInt64)).toNat,.int .u64 ((0:UInt64)).toNat]); binOp .eql 121 (e5 xa1 xb1 xc1 xd1 xe1) (.agg #[.int .u64 ((0:UInt64)).toNat,.int .u64 ((0:UInt64)).toNat,.int .u64 ((0:UInt64)).toNat,.int .u64 ((0:UInt64)).toNat,.int .u64 ((0:UInt64)).toNat])) fun v2=>∃ x:Bool,v2=(.bool x)∧R (.returned (.bool x)) w2
theorem qPP (aa ab ac ad ae:UInt64) {w:World} {R:RW} (hden:qQJ aa ab ac ad ae w R):Calls prog 192 #[e5 aa ab ac ad ae] w R:=
 aB (q0 .z (q0 .z .z)) func192 (by kernel_rfl) [.agg [.u64 aa,.u64 ab,.u64 ac,.u64 ad,.u64 ae]] (by kernel_rfl) (by kernel_rfl) hden
def qSH (b:Slc) (w:World) (R:RW):Prop:=
 aI prog (Instr.alloc 121 true (.tuple #[])) w fun v w1=>∃ x:Option Addr,v=(.pointer x)∧aI prog (Instr.alloc 121 true (.tuple #[])) w1 fun v1 w2=>∃ a:Option Addr,v1=(.pointer a)∧aH ((b.len:Int) != (32:Int)) (aA a fun a1=>∃ xa xb xc xd xe:UInt64,Rd w2 a1 (l5 xa xb xc xd xe)∧aA x fun a2=>aJ prog (storeVar 121 a2 (e5 xa xb xc xd xe)) w2 fun w3=>aA x fun a3=>∃ xa1 xb1 xc1 xd1 xe1:UInt64,Rd w3 a3 (l5 xa1 xb1 xc1 xd1 xe1)∧R (.returned (.tuple #[e5 xa1 xb1 xc1 xd1 xe1,.bool false])) w3) (∃ (inv:List TV→World→Prop) (mu:List TV→World→Nat),inv [.i .i64 (0:Int)] w2∧(∀ x1:Int,∀ w4:World,inv [.i .i64 x1] w4→aH (decide (x1<(255:Int))) (∃ sx:World→Prop,sx w4.drew∧((51:Int)≠0∧((0≤(IntKind.i64.wrap (Int.tdiv x1 (51:Int)))∧(IntKind.i64.wrap (Int.tdiv x1 (51:Int)))<(5:Nat))∧aA a fun a4=>((8:Int)≠0∧((0≤(IntKind.i64.wrap (Int.tdiv x1 (8:Int)))∧(IntKind.i64.wrap (Int.tdiv x1 (8:Int)))<(b.len:Nat))∧aA b.a fun a5=>((8:Int)≠0∧((51:Int)≠0∧∃ x2:UInt64,(∀ w',sx w'→Rd w' (a4.add (((IntKind.i64.wrap (Int.tdiv x1 (51:Int)))).toNat*1)) [.int .u64 x2.toNat])∧∃ x3:UInt8,(∀ w',sx w'→Rd w' (a5.add (((IntKind.i64.wrap (Int.tdiv x1 (8:Int)))).toNat*1)) [.int .u8 x3.toNat])∧(0≤(Int.tmod x1 (8:Int))∧(0≤(Int.tmod x1 (51:Int))∧((0≤(IntKind.i64.wrap (Int.tdiv x1 (51:Int)))∧(IntKind.i64.wrap (Int.tdiv x1 (51:Int)))<(5:Nat))∧aA a fun a6=>((aJ prog (storeVar 119 (a6.add (((IntKind.i64.wrap (Int.tdiv x1 (51:Int)))).toNat*1)) (.int .u64 ((x2 ||| (dO ((((iF x3 ((Int.tmod x1 (8:Int))).toNat) &&& (1:UInt8))).toUInt64) ((Int.tmod x1 (51:Int))).toNat))).toNat)) w4.drew fun w5=>(inv [.i .i64 (IntKind.i64.wrap (x1+(1:Int)))] w5∧mu [.i .i64 (IntKind.i64.wrap (x1+(1:Int)))] w5<mu [.i .i64 x1] w4))∧True))))))))))) (∃ j:List TV→World→Prop,(∃ sx1:World→Prop,sx1 w4.drew∧((0≤(31:Int)∧(31:Int)<(b.len:Nat))∧aA b.a fun a7=>∃ x4:UInt8,(∀ w',sx1 w'→Rd w' (a7.add (((31:Int)).toNat*1)) [.int .u8 x4.toNat])∧(0≤(((7:UInt64)).toNat:Int)∧aH ((iF x4 ((((7:UInt64)).toNat:Int)).toNat)==(1:UInt8)) ((((sx1 w4.drew∧j [.b true] w4.drew))∧True)) (aA a fun a8=>∃ xa2 xb2 xc2 xd2 xe2:UInt64,(∀ w',sx1 w'→Rd w' a8 (l5 xa2 xb2 xc2 xd2 xe2))∧aA a fun a9=>∃ xa3 xb3 xc3 xd3 xe3:UInt64,(∀ w',sx1 w'→Rd w' a9 (l5 xa3 xb3 xc3 xd3 xe3))∧((aD prog 175 [e5 xa2 xb2 xc2 xd2 xe2] w4.drew (aG R) fun v2 w6=>∃ xa4 xb4 xc4 xd4 xe4:UInt64,v2=(e5 xa4 xb4 xc4 xd4 xe4)∧(sx1 w6∧aU prog (do eqGuard .neq 121 (.tmp 40) (.tmp 41) (e5 xa4 xb4 xc4 xd4 xe4) (e5 xa3 xb3 xc3 xd3 xe3); binOp .neq 121 (e5 xa4 xb4 xc4 xd4 xe4) (e5 xa3 xb3 xc3 xd3 xe3)) fun v3=>∃ x5:Bool,v3=(.bool x5)∧j [.b x5] w6))∧True)))))∧(∀ x6:Bool,∀ w7:World,j [.b x6] w7→aH x6 (aA x fun a10=>aJ prog (storeVar 121 a10 (.agg #[.int .u64 ((0:UInt64)).toNat,.int .u64 ((0:UInt64)).toNat,.int .u64 ((0:UInt64)).toNat,.int .u64 ((0:UInt64)).toNat,.int .u64 ((0:UInt64)).toNat])) w7 fun w8=>aA x fun a11=>∃ xa5 xb5 xc5 xd5 xe5:UInt64,Rd w8 a11 (l5 xa5 xb5 xc5 xd5 xe5)∧R (.returned (.tuple #[e5 xa5 xb5 xc5 xd5 xe5,.bool false])) w8) (aA a fun a12=>∃ xa6 xb6 xc6 xd6 xe6:UInt64,Rd w7 a12 (l5 xa6 xb6 xc6 xd6 xe6)∧aA x fun a13=>aJ prog (storeVar 121 a13 (e5 xa6 xb6 xc6 xd6 xe6)) w7 fun w9=>aA x fun a14=>∃ xa7 xb7 xc7 xd7 xe7:UInt64,Rd w9 a14 (l5 xa7 xb7 xc7 xd7 xe7)∧R (.returned (.tuple #[e5 xa7 xb7 xc7 xd7 xe7,.bool true])) w9)))))
theorem qME (b:Slc) {w:World} {R:RW} (hden:qSH b w R):Calls prog 190 #[zS b] w R:=
 aB (q0 .z (q0 .z (q0 (q0 .z (.cond (q0 .z .z) .z)) (q0 (q0 .z (.block none (.loop [(10,(.i .i64))] (q0 .z (q0 (.cond .z .z) (q0 (.block none (q0 .z (.draw 1 (.take 0 (.take 1 (.take 2 (.take 4 (.take 5 (.take 6 (.take 7 (.take 9 (.take 10 (.take 14 (.take 15 (.take 3 (.take 8 (.take 11 (.take 12 (.take 13 (.take 16 (.take 17 (.take 18 (.all [(19,.done)]))))))))))))))))))))))) .z)))))) (q0 (.seq (some [(43,.b)]) (.draw 1 (.take 0 (.take 1 (.take 2 (.take 3 (.take 4 (.take 5 (.take 6 (.take 8 (.all [(7,(.take 9 (.take 10 .done)))])))))))))) (.cond (q0 .z .z) .z)) (q0 .z .z)))))) func190 (by kernel_rfl) [.sl b] (by kernel_rfl) (by kernel_rfl) hden
def qRW (aa ab ac ad ae ba bb bc bd be:UInt64) (w:World) (R:RW):Prop:=
 aI prog (Instr.box 121 (e5 aa ab ac ad ae)) w fun v w1=>∃ a:Option Addr,v=(.pointer a)∧aI prog (Instr.box 121 (e5 ba bb bc bd be)) w1 fun v1 w2=>∃ b:Option Addr,v1=(.pointer b)∧∃ sx:World→Prop,sx w2.drew∧aA a fun a1=>∃ xa xb xc xd xe:UInt64,(∀ w',sx w'→Rd w' a1 (l5 xa xb xc xd xe))∧aA b fun a2=>∃ xa1 xb1 xc1 xd1 xe1:UInt64,(∀ w',sx w'→Rd w' a2 (l5 xa1 xb1 xc1 xd1 xe1))∧((aD prog 175 [e5 xa xb xc xd xe] w2.drew (aG R) fun v2 w3=>∃ xa2 xb2 xc2 xd2 xe2:UInt64,v2=(e5 xa2 xb2 xc2 xd2 xe2)∧(sx w3∧((aD prog 175 [e5 xa1 xb1 xc1 xd1 xe1] w3 (aG R) fun v3 w4=>∃ xa3 xb3 xc3 xd3 xe3:UInt64,v3=(e5 xa3 xb3 xc3 xd3 xe3)∧(sx w4∧aU prog (do eqGuard .eql 121 (.tmp 6) (.tmp 8) (e5 xa2 xb2 xc2 xd2 xe2) (e5 xa3 xb3 xc3 xd3 xe3); binOp .eql 121 (e5 xa2 xb2 xc2 xd2 xe2) (e5 xa3 xb3 xc3 xd3 xe3)) fun v4=>∃ x:Bool,v4=(.bool x)∧R (.returned (.bool x)) w4))∧True)))∧True)
theorem qMI (aa ab ac ad ae ba bb bc bd be:UInt64) {w:World} {R:RW} (hden:qRW aa ab ac ad ae ba bb bc bd be w R):Calls prog 231 #[e5 aa ab ac ad ae,e5 ba bb bc bd be] w R:=
 aB (q0 .z (q0 (.draw 1 (.take 0 (.take 2 (.all [(1,(.all [(3,(.take 4 (.take 5 .done)))]))])))) .z)) func231 (by kernel_rfl) [.agg [.u64 aa,.u64 ab,.u64 ac,.u64 ad,.u64 ae],.agg [.u64 ba,.u64 bb,.u64 bc,.u64 bd,.u64 be]] (by kernel_rfl) (by kernel_rfl) hden
def qTZ (aa ab ac ad ae:UInt64) (w:World) (R:RW):Prop:=
 aI prog (Instr.box 121 (e5 aa ab ac ad ae)) w fun v w1=>∃ a:Option Addr,v=(.pointer a)∧aA a fun a1=>∃ xa xb xc xd xe:UInt64,Rd w1 a1 (l5 xa xb xc xd xe)∧aD prog 175 [e5 xa xb xc xd xe] w1 (aG R) fun v1 w2=>∃ xa1 xb1 xc1 xd1 xe1:UInt64,v1=(e5 xa1 xb1 xc1 xd1 xe1)∧aA a fun a2=>aJ prog (storeVar 121 a2 (e5 xa1 xb1 xc1 xd1 xe1)) w2 fun w3=>aI prog (Instr.makeSlice 28 (.int .i64 (32:Int)) (.int .i64 (32:Int))) w3 fun v2 w4=>∃ x:Slc,v2=(zS x)∧∃ (inv:List TV→World→Prop) (mu:List TV→World→Nat),inv [.i .i64 (0:Int)] w4∧(∀ x1:Int,∀ w5:World,inv [.i .i64 x1] w5→aH (decide (x1<(255:Int))) (∃ sx:World→Prop,sx w5.drew∧((8:Int)≠0∧((0≤(IntKind.i64.wrap (Int.tdiv x1 (8:Int)))∧(IntKind.i64.wrap (Int.tdiv x1 (8:Int)))<(x.len:Nat))∧aA x.a fun a3=>((51:Int)≠0∧((0≤(IntKind.i64.wrap (Int.tdiv x1 (51:Int)))∧(IntKind.i64.wrap (Int.tdiv x1 (51:Int)))<(5:Nat))∧aA a fun a4=>((51:Int)≠0∧((8:Int)≠0∧∃ x2:UInt8,(∀ w',sx w'→Rd w' (a3.add (((IntKind.i64.wrap (Int.tdiv x1 (8:Int)))).toNat*1)) [.int .u8 x2.toNat])∧∃ x3:UInt64,(∀ w',sx w'→Rd w' (a4.add (((IntKind.i64.wrap (Int.tdiv x1 (51:Int)))).toNat*1)) [.int .u64 x3.toNat])∧(0≤(Int.tmod x1 (51:Int))∧(0≤(Int.tmod x1 (8:Int))∧((0≤(IntKind.i64.wrap (Int.tdiv x1 (8:Int)))∧(IntKind.i64.wrap (Int.tdiv x1 (8:Int)))<(x.len:Nat))∧aA x.a fun a5=>((aJ prog (storeVar 5 (a5.add (((IntKind.i64.wrap (Int.tdiv x1 (8:Int)))).toNat*1)) (.int .u8 ((x2 ||| (qCF ((((aM x3 ((Int.tmod x1 (51:Int))).toNat) &&& (1:UInt64))).toUInt8) ((Int.tmod x1 (8:Int))).toNat))).toNat)) w5.drew fun w6=>(inv [.i .i64 (IntKind.i64.wrap (x1+(1:Int)))] w6∧mu [.i .i64 (IntKind.i64.wrap (x1+(1:Int)))] w6<mu [.i .i64 x1] w5))∧True))))))))))) (R (.returned (zS x)) w5))
theorem qLT (aa ab ac ad ae:UInt64) {w:World} {R:RW} (hden:qTZ aa ab ac ad ae w R):Calls prog 127 #[e5 aa ab ac ad ae] w R:=
 aB (q0 .z (q0 .z (q0 .z (q0 (q0 .z (.block none (.loop [(8,(.i .i64))] (q0 .z (q0 (.cond .z .z) (q0 (.block none (q0 .z (.draw 1 (.take 0 (.take 1 (.take 2 (.take 3 (.take 5 (.take 6 (.take 7 (.take 9 (.take 10 (.take 14 (.take 15 (.take 4 (.take 8 (.take 11 (.take 12 (.take 13 (.take 16 (.take 17 (.take 18 (.all [(19,.done)]))))))))))))))))))))))) .z)))))) (q0 .z .z))))) func127 (by kernel_rfl) [.agg [.u64 aa,.u64 ab,.u64 ac,.u64 ad,.u64 ae]] (by kernel_rfl) (by kernel_rfl) hden
def qTU (aa ab ac ad ae:UInt64) (w:World) (R:RW):Prop:=
 aI prog (Instr.box 121 (e5 aa ab ac ad ae)) w fun v w1=>∃ a:Option Addr,v=(.pointer a)∧aI prog (Instr.alloc 121 true (.tuple #[])) w1 fun v1 w2=>∃ x:Option Addr,v1=(.pointer x)∧aA a fun a1=>∃ xa xb xc xd xe:UInt64,Rd w2 a1 (l5 xa xb xc xd xe)∧aD prog 174 [e5 xa xb xc xd xe,.int .i64 (255:Int),.int .u64 ((21:UInt64)).toNat] w2 (aG R) fun v2 w3=>∃ xa1 xb1 xc1 xd1 xe1:UInt64,v2=(e5 xa1 xb1 xc1 xd1 xe1)∧aA x fun a2=>aJ prog (storeVar 121 a2 (e5 xa1 xb1 xc1 xd1 xe1)) w3 fun w4=>aA x fun a3=>∃ xa2 xb2 xc2 xd2 xe2:UInt64,Rd w4 a3 (l5 xa2 xb2 xc2 xd2 xe2)∧R (.returned (e5 xa2 xb2 xc2 xd2 xe2)) w4
theorem qLC (aa ab ac ad ae:UInt64) {w:World} {R:RW} (hden:qTU aa ab ac ad ae w R):Calls prog 126 #[e5 aa ab ac ad ae] w R:=
 aB (q0 .z (q0 .z .z)) func126 (by kernel_rfl) [.agg [.u64 aa,.u64 ab,.u64 ac,.u64 ad,.u64 ae]] (by kernel_rfl) (by kernel_rfl) hden
def qSB (aa ab ac ad ae:UInt64) (w:World) (R:RW):Prop:=
 aI prog (Instr.box 121 (e5 aa ab ac ad ae)) w fun v w1=>∃ a:Option Addr,v=(.pointer a)∧aA a fun a1=>∃ xa xb xc xd xe:UInt64,Rd w1 a1 (l5 xa xb xc xd xe)∧aD prog 175 [e5 xa xb xc xd xe] w1 (aG R) fun v1 w2=>∃ xa1 xb1 xc1 xd1 xe1:UInt64,v1=(e5 xa1 xb1 xc1 xd1 xe1)∧((0≤(0:Int)∧(0:Int)<(5:Nat))∧(∀ z∈([.u64 xa1,.u64 xb1,.u64 xc1,.u64 xd1,.u64 xe1]:List TV),z.cells.length=1)∧∃ x:UInt64,([.u64 xa1,.u64 xb1,.u64 xc1,.u64 xd1,.u64 xe1]:List TV)[((0:Int)).toNat]? = some (.u64 x)∧R (.returned (.bool ((x &&& (1:UInt64))==(1:UInt64)))) w2)
theorem qJD (aa ab ac ad ae:UInt64) {w:World} {R:RW} (hden:qSB aa ab ac ad ae w R):Calls prog 129 #[e5 aa ab ac ad ae] w R:=
 aB (q0 .z (q0 .z .z)) func129 (by kernel_rfl) [.agg [.u64 aa,.u64 ab,.u64 ac,.u64 ad,.u64 ae]] (by kernel_rfl) (by kernel_rfl) hden
def qPQ (h:Option Addr) (a b:UInt64) (w:World) (R:RW):Prop:=
 aD prog 178 [.int .u64 a.toNat,.int .u64 b.toNat] w (aG R) fun v w1=>∃ xa xb:UInt64,v=(.tuple #[.int .u64 xa.toNat,.int .u64 xb.toNat])∧aA h fun a1=>∃ x:UInt64,Rd w1 (a1.add 1) [.int .u64 x.toNat]∧∃ v1 w2,(callFunc 248 #[.int .u64 x.toNat,.int .u64 xb.toNat,.int .u64 ((0:UInt64)).toNat]).run prog w1 = .ok (.value v1) w2∧∃ xa1 xb1:UInt64,v1=(.tuple #[.int .u64 xa1.toNat,.int .u64 xb1.toNat])∧aA h fun a2=>aJ prog (storeVar 119 (a2.add 1) (.int .u64 xa1.toNat)) w2 fun w3=>aA h fun a3=>∃ x1:UInt64,Rd w3 (a3.add 0) [.int .u64 x1.toNat]∧aA h fun a4=>aJ prog (storeVar 119 (a4.add 0) (.int .u64 ((x1+(xa+xb1))).toNat)) w3 fun w4=>R (.returned (.tuple #[])) w4
theorem qLQ (h:Option Addr) (a b:UInt64) {w:World} {R:RW} (hden:qPQ h a b w R):Calls prog 227 #[.pointer h,.int .u64 a.toNat,.int .u64 b.toNat] w R:=
 aB (q0 .z (q0 .z (q0 .z .z))) func227 (by kernel_rfl) [.p h,.u64 a,.u64 b] (by kernel_rfl) (by kernel_rfl) hden
def qPT (i:Int) (c:Option Addr) (w:World) (R:RW):Prop:=
 aH (decide (i≥(6:Int))) (R (.returned (.bool true)) w) (aA c fun a=>∃ x:UInt64,Rd w a [.int .u64 x.toNat]∧(0≤i∧R (.returned (.bool (((aM ((64:UInt64) - x) i.toNat) &&& (1:UInt64))==(1:UInt64)))) w))
theorem qNC (i:Int) (c:Option Addr) {w:World} {R:RW} (hden:qPT i c w R):Calls prog 226 #[.int .i64 i,.pointer c] w R:=
 aB (q0 .z (q0 (q0 .z (.cond (q0 .z .z) .z)) (q0 .z .z))) func226 (by kernel_rfl) [.i .i64 i,.p c] (by kernel_rfl) (by kernel_rfl) hden
theorem zi5:ZI prog 121 5:=by
 obtain ⟨i,h1,h2,_,_⟩:=bM (P:=prog) (T:=121) (z:=.agg #[.int .u64 0,.int .u64 0,.int .u64 0,.int .u64 0,.int .u64 0]) (n:=5) (m:=40) (by kernel_rfl) (by kernel_rfl) (by kernel_rfl)
 exact ⟨i,_,h1,h2,rfl⟩
theorem zi5':ZI prog 120 5:=by
 obtain ⟨i,h1,h2,_,_⟩:=bM (P:=prog) (T:=120) (z:=.agg #[.int .u64 0,.int .u64 0,.int .u64 0,.int .u64 0,.int .u64 0]) (n:=5) (m:=40) (by kernel_rfl) (by kernel_rfl) (by kernel_rfl)
 exact ⟨i,_,h1,h2,rfl⟩
theorem zi2:ZI prog 237 2:=by
 obtain ⟨i,h1,h2,_,_⟩:=bM (P:=prog) (T:=237) (z:=.agg #[.int .u64 0,.int .u64 0]) (n:=2) (m:=16) (by kernel_rfl) (by kernel_rfl) (by kernel_rfl)
 exact ⟨i,_,h1,h2,rfl⟩
section
variable {w:World} {a b c d e a' b' c' d' e':UInt64}
theorem qIM:Calls prog 180 #[] w (Ret (RE w)):=by
 refine qOQ ?_
 unfold qSN
 have hJ0:=J.start w
 repeat' (first | (refine bU (by first | exact zi5 | exact zi2 | exact mI | exact kJ) (by assumption) fun p w' hJ hM=>?_) | (refine iQ (by assumption) (by (try simp only [aK,add0,Nat.zero_add]); rfl) (by (repeat first | exact List.mem_cons_self | assumption | apply List.mem_cons_of_mem); first | done | fail) (by first | omega | (simp only []; omega)) fun a b c d e=>?_) | (refine iW (by assumption) (by (try simp only [aK,add0,Nat.zero_add]); rfl) (by (repeat first | exact List.mem_cons_self | assumption | apply List.mem_cons_of_mem); first | done | fail) (by kernel_rfl) (by kernel_rfl) (by omega) fun w' hJ hT=>?_) | exact ⟨_,_,_,_,_,rfl,J.m (by assumption)⟩)
theorem lP:Calls prog 179 #[e5 a b c d e] w (Ret (RE w)):=by
 refine qIZ _ _ _ _ _ ?_
 unfold qQN
 have hJ0:=J.start w
 refine fW (by assumption) fun p w1 hJ1 hM=>?_
 refine bU zi5 hJ1 fun q w2 hJ2 hM=>?_
 refine ⟨by omega,?_⟩
 refine qDP hJ2 (by repeat (first | exact List.mem_cons_self | apply List.mem_cons_of_mem)) (by omega) fun x=>?_
 refine ⟨by omega,?_⟩
 refine ⟨fun l w'=>match l with | [.i _ x]=>(0≤x∧x≤4)∧J NoB w [(q,5,true),(p,5,true)] w' | _=>False,fun l _=>match l with | [.i _ x]=>x.toNat | _=>0,⟨by omega,hJ2⟩,?_⟩
 rintro i w3 ⟨hi,hJ⟩
 refine aE (fun hgt=>?_) fun _=>?_
 ·have hgt:0<i:=by simpa using hgt
  rw [wrap_i64 (by omega)]
  repeat' (first | (refine gV (by assumption) (by (repeat first | exact List.mem_cons_self | assumption | apply List.mem_cons_of_mem); first | done | fail) (by first | omega | (simp only []; omega)) fun x=>?_) | (refine oU (by assumption) (by (repeat first | exact List.mem_cons_self | assumption | apply List.mem_cons_of_mem); first | done | fail) (by omega) (by kernel_rfl) (by kernel_rfl) fun w' hJ hT=>?_) | exact ⟨⟨by omega,by assumption⟩,by (try simp only []); omega⟩ | (refine And.intro ?_ trivial) | (refine And.intro (Int.natCast_nonneg _) ?_) | (refine And.intro (by first | omega | (simp only []; omega)) ?_) | (refine dN (by assumption) fun hJ=>?_))
 ·skip
  repeat' (first | (refine qDP (by assumption) (by (repeat first | exact List.mem_cons_self | assumption | apply List.mem_cons_of_mem); first | done | fail) (by first | omega | (simp only []; omega)) fun x=>?_) | (refine iQ (by assumption) (by (try simp only [aK,add0,Nat.zero_add]); rfl) (by (repeat first | exact List.mem_cons_self | assumption | apply List.mem_cons_of_mem); first | done | fail) (by first | omega | (simp only []; omega)) fun a b c d e=>?_) | (refine oU (by assumption) (by (repeat first | exact List.mem_cons_self | assumption | apply List.mem_cons_of_mem); first | done | fail) (by omega) (by kernel_rfl) (by kernel_rfl) fun w' hJ hT=>?_) | (refine iW (by assumption) (by (try simp only [aK,add0,Nat.zero_add]); rfl) (by (repeat first | exact List.mem_cons_self | assumption | apply List.mem_cons_of_mem); first | done | fail) (by kernel_rfl) (by kernel_rfl) (by omega) fun w' hJ hT=>?_) | exact ⟨_,_,_,_,_,rfl,J.m (by assumption)⟩ | (refine And.intro (by first | omega | (simp only []; omega)) ?_))
theorem qEH:Calls prog 185 #[e5 a b c d e,e5 a' b' c' d' e'] w (Ret (RE w)):=by
 refine qMY _ _ _ _ _ _ _ _ _ _ ?_
 unfold qTH
 have hJ0:=J.start w
 refine fW (by assumption) fun p w1 hJ1 hM=>?_
 refine fW (by assumption) fun p' w2 hJ2 hM=>?_
 refine bU zi5 hJ2 fun q w3 hJ3 hM=>?_
 refine ⟨fun l w'=>match l with | [.i _ x]=>(0≤x∧x≤5)∧J NoB w [(q,5,true),(p',5,true),(p,5,true)] w' | _=>False,fun l _=>match l with | [.i _ x]=>(5 - x).toNat | _=>0,⟨by omega,hJ3⟩,?_⟩
 rintro i w4 ⟨hi,hJ⟩
 refine aE (fun hgt=>?_) fun _=>?_
 ·have hgt:i<5:=by simpa using hgt
  rw [wrap_i64 (by omega)]
  repeat' (first | (refine gV (by assumption) (by (repeat first | exact List.mem_cons_self | assumption | apply List.mem_cons_of_mem); first | done | fail) (by first | omega | (simp only []; omega)) fun x=>?_) | (refine oU (by assumption) (by (repeat first | exact List.mem_cons_self | assumption | apply List.mem_cons_of_mem); first | done | fail) (by omega) (by kernel_rfl) (by kernel_rfl) fun w' hJ hT=>?_) | exact ⟨⟨by omega,by assumption⟩,by (try simp only []); omega⟩ | (refine And.intro ?_ trivial) | (refine And.intro (by first | omega | (simp only []; omega)) ?_) | (refine dN (by assumption) fun hJ=>?_))
 ·skip
  repeat' (first | (refine iQ (by assumption) (by (try simp only [aK,add0,Nat.zero_add]); rfl) (by (repeat first | exact List.mem_cons_self | assumption | apply List.mem_cons_of_mem); first | done | fail) (by first | omega | (simp only []; omega)) fun a b c d e=>?_) | (refine iW (by assumption) (by (try simp only [aK,add0,Nat.zero_add]); rfl) (by (repeat first | exact List.mem_cons_self | assumption | apply List.mem_cons_of_mem); first | done | fail) (by kernel_rfl) (by kernel_rfl) (by omega) fun w' hJ hT=>?_) | (refine cG lP (by assumption) fun a b c d e w' hJ hM=>?_) | exact ⟨_,_,_,_,_,rfl,J.m (by assumption)⟩)
theorem qAJ:Calls prog 186 #[e5 a b c d e,e5 a' b' c' d' e'] w (Ret (RE w)):=by
 refine qKU _ _ _ _ _ _ _ _ _ _ ?_
 unfold qSM
 have hJ0:=J.start w
 refine fW (by assumption) fun p w1 hJ1 hM=>?_
 refine fW (by assumption) fun p' w2 hJ2 hM=>?_
 refine bU zi5 hJ2 fun q w3 hJ3 hM=>?_
 refine ⟨fun l w'=>match l with | [.i _ x]=>(0≤x∧x≤5)∧J NoB w [(q,5,true),(p',5,true),(p,5,true)] w' | _=>False,fun l _=>match l with | [.i _ x]=>(5 - x).toNat | _=>0,⟨by omega,hJ3⟩,?_⟩
 rintro i w4 ⟨hi,hJ⟩
 refine aE (fun hgt=>?_) fun _=>?_
 ·have hgt:i<5:=by simpa using hgt
  rw [wrap_i64 (by omega)]
  repeat' (first | (refine gV (by assumption) (by (repeat first | exact List.mem_cons_self | assumption | apply List.mem_cons_of_mem); first | done | fail) (by first | omega | (simp only []; omega)) fun x=>?_) | (refine oU (by assumption) (by (repeat first | exact List.mem_cons_self | assumption | apply List.mem_cons_of_mem); first | done | fail) (by omega) (by kernel_rfl) (by kernel_rfl) fun w' hJ hT=>?_) | exact ⟨⟨by omega,by assumption⟩,by (try simp only []); omega⟩ | (refine And.intro ?_ trivial) | (refine And.intro (by first | omega | (simp only []; omega)) ?_) | (refine dN (by assumption) fun hJ=>?_))
 ·skip
  repeat' (first | (refine qDP (by assumption) (by (repeat first | exact List.mem_cons_self | assumption | apply List.mem_cons_of_mem); first | done | fail) (by first | omega | (simp only []; omega)) fun x=>?_) | (refine iQ (by assumption) (by (try simp only [aK,add0,Nat.zero_add]); rfl) (by (repeat first | exact List.mem_cons_self | assumption | apply List.mem_cons_of_mem); first | done | fail) (by first | omega | (simp only []; omega)) fun a b c d e=>?_) | (refine oU (by assumption) (by (repeat first | exact List.mem_cons_self | assumption | apply List.mem_cons_of_mem); first | done | fail) (by omega) (by kernel_rfl) (by kernel_rfl) fun w' hJ hT=>?_) | (refine iW (by assumption) (by (try simp only [aK,add0,Nat.zero_add]); rfl) (by (repeat first | exact List.mem_cons_self | assumption | apply List.mem_cons_of_mem); first | done | fail) (by kernel_rfl) (by kernel_rfl) (by omega) fun w' hJ hT=>?_) | (refine cG lP (by assumption) fun a b c d e w' hJ hM=>?_) | exact ⟨_,_,_,_,_,rfl,J.m (by assumption)⟩ | (refine And.intro (by first | omega | (simp only []; omega)) ?_))
theorem qFA:Calls prog 188 #[e5 a b c d e] w (Ret (RE w)):=by
 refine qOW _ _ _ _ _ ?_
 unfold qTM
 have hJ0:=J.start w
 repeat' (first | (refine fW (by assumption) fun p w' hJ hM=>?_) | (refine bU (by first | exact zi5 | exact zi2 | exact mI | exact kJ) (by assumption) fun p w' hJ hM=>?_) | (refine iQ (by assumption) (by (try simp only [aK,add0,Nat.zero_add]); rfl) (by (repeat first | exact List.mem_cons_self | assumption | apply List.mem_cons_of_mem); first | done | fail) (by first | omega | (simp only []; omega)) fun a b c d e=>?_) | (refine iW (by assumption) (by (try simp only [aK,add0,Nat.zero_add]); rfl) (by (repeat first | exact List.mem_cons_self | assumption | apply List.mem_cons_of_mem); first | done | fail) (by kernel_rfl) (by kernel_rfl) (by omega) fun w' hJ hT=>?_) | (refine cG qAJ (by assumption) fun a b c d e w' hJ hM=>?_) | exact ⟨_,_,_,_,_,rfl,J.m (by assumption)⟩)
theorem qAH:Calls prog 178 #[.int .u64 a.toNat,.int .u64 b.toNat] w (Ret (RT w)):=by
 refine qCA _ _ ?_
 unfold qIJ
 have hJ0:=J.start w
 repeat' (first | exact ⟨_,_,rfl,J.m (by assumption)⟩ | (refine And.intro (Int.natCast_nonneg _) ?_))
theorem qLE:Calls prog 177 #[.agg #[.int .u64 a.toNat,.int .u64 b.toNat]] w (Ret (RT w)):=by
 refine qMW _ _ ?_
 unfold qTS
 have hJ0:=J.start w
 refine jDR (by assumption) fun p w1 hJ1 hM=>?_
 have hJ2:=hJ1.drew
 clear hJ1
 repeat' (first | (refine qFL (by assumption) (by (try simp only [aK,add0,Nat.zero_add]); rfl) (by (repeat first | exact List.mem_cons_self | assumption | apply List.mem_cons_of_mem); first | done | fail) (by first | omega | (simp only []; omega)) fun x=>?_) | exact ⟨_,_,rfl,J.m (by assumption)⟩ | (refine And.intro (Int.natCast_nonneg _) ?_))
def qHL:Array Value→Sem Value:=(Extern.MathBitsCarry.rows.getD 0 ("",fun _=>pure .nilFunc)).2
theorem yY (x y:Nat) (w:World):(qHL #[.int .u64 x,.int .u64 y,.int .u64 0]).run prog w =
 .ok (.tuple #[.int .u64 (((x+y+0) % 18446744073709551616:Nat):Int),.int .u64 (((x+y+0) / 18446744073709551616:Nat):Int)]) w:=rfl
theorem qDU {x y:UInt64} (w:World) : ∃ d b':UInt64,(callFunc 248 #[.int .u64 x.toNat,.int .u64 y.toNat,.int .u64 ((0:UInt64)).toNat]).run prog w = .ok (.value (.tuple #[.int .u64 d.toNat,.int .u64 b'.toNat])) w:=by
 have hx:=x.toNat_lt; have hy:=y.toNat_lt
 refine ⟨UInt64.ofNat ((x.toNat+y.toNat+0) % 18446744073709551616),UInt64.ofNat ((x.toNat+y.toNat+0) / 18446744073709551616),?_⟩
 rw [run_callFunc_extern func248 (by kernel_rfl) (by kernel_rfl) (by kernel_rfl) (e:=qHL) (by kernel_rfl)]
 have e0:((0:UInt64).toNat:Int)=0:=rfl
 have e1:(UInt64.ofNat ((x.toNat+y.toNat+0) % 18446744073709551616)).toNat=(x.toNat+y.toNat+0) % 18446744073709551616:=by rw [UInt64.toNat_ofNat']; omega
 have e2:(UInt64.ofNat ((x.toNat+y.toNat+0) / 18446744073709551616)).toNat=(x.toNat+y.toNat+0) / 18446744073709551616:=by rw [UInt64.toNat_ofNat']; omega
 rw [e0,yY,e1,e2]
 rfl
theorem qXN {p:Nat} (hT:TB w (p,2)):Calls prog 227 #[.pointer (some (Addr.add ⟨p,0,none⟩ 0)),.int .u64 a.toNat,.int .u64 b.toNat] w (Ret (RU p 2 w)):=by
 refine qLQ _ _ _ ?_
 unfold qPQ
 have hJ:J (fun x=>x=p) w [(p,2,true)] w:=⟨Mod.refl _ _,fun q hq=>by simp at hq; subst hq; exact ⟨fun _=>⟨.inl rfl,hT⟩,hT.r⟩⟩
 have hp:(p,2,true)∈[(p,2,true)]:=List.mem_cons_self
 refine qHP qAH hJ fun x y w1 hJ1 hM=>?_
 refine qFL hJ1 (o:=1) rfl hp (by omega) fun x1=>?_
 obtain ⟨d,b',hr⟩:=qDU (x:=x1) (y:=y) w1
 refine ⟨_,_,hr,_,_,rfl,?_⟩
 refine jBH hJ1 (o:=1) rfl hp (by kernel_rfl) (by kernel_rfl) (by omega) fun w2 hJ2 hT=>?_
 refine qFL hJ2 (o:=0) rfl hp (by omega) fun x2=>?_
 refine jBH hJ2 (o:=0) rfl hp (by kernel_rfl) (by kernel_rfl) (by omega) fun w3 hJ3 hT=>?_
 exact ⟨rfl,hJ3.m,hJ3.tb hp⟩
theorem xW {w0:World} {k i:Nat} {l:Slc} (hl:TS w0 k i (.slice l.a l.len l.cap) w) (hk:k≤100):Calls prog 176 #[.slice l.a l.len l.cap] w (Ret (RA w)):=by
 obtain ⟨la,ln,lc⟩:=l
 obtain ⟨h1,h2,b,h3,h4,h5⟩:=hl
 simp only [] at h1 h2 h3
 subst h1 h2 h3
 refine qMV _ ?_
 unfold qRA
 have hJ0:J NoB w [(b,lc,false)] w:=(J.start w).cons (fun h=>by cases h) h5
 refine bU zi2 hJ0 fun p w1 hJ1 hM=>?_
 refine bU zi2 hJ1 fun q w2 hJ2 hM=>?_
 refine ⟨fun l w'=>match l with | [.i _ x]=>(0≤x∧x≤lc+1)∧J NoB w [(q,2,true),(p,2,true),(b,lc,false)] w' | _=>False,fun l _=>match l with | [.i _ x]=>(lc+2 - x).toNat | _=>0,⟨by omega,hJ2⟩,?_⟩
 rintro i w4 ⟨hi,hJ⟩
 rw [wrap_i64 (by omega)]
 refine aE (fun hgt=>?_) fun _=>?_
 ·have hgt:i+1<lc:=by simpa using hgt
  rw [wrap_i64 (by omega)]
  repeat' (first | (refine gV (by assumption) (by (repeat first | exact List.mem_cons_self | assumption | apply List.mem_cons_of_mem); first | done | fail) (by first | omega | (simp only []; omega)) fun x=>?_) | (refine qGG (qXN (J.tb (by assumption) (by (repeat first | exact List.mem_cons_self | assumption | apply List.mem_cons_of_mem); first | done | fail))) (by assumption) (by (repeat first | exact List.mem_cons_self | assumption | apply List.mem_cons_of_mem); first | done | fail) fun w' hJ hT=>?_) | exact ⟨⟨by omega,by assumption⟩,by (try simp only []); omega⟩ | (refine And.intro ?_ trivial) | (refine And.intro (by first | omega | (simp only []; omega)) ?_) | (refine dN (by assumption) fun hJ=>?_))
 ·skip
  repeat' (first | (refine jBU (by assumption) (by (try simp only [aK,add0,Nat.zero_add]); rfl) (by (repeat first | exact List.mem_cons_self | assumption | apply List.mem_cons_of_mem); first | done | fail) (by first | omega | (simp only []; omega)) fun x y=>?_) | (refine jAE (by assumption) (by (try simp only [aK,add0,Nat.zero_add]); rfl) (by (repeat first | exact List.mem_cons_self | assumption | apply List.mem_cons_of_mem); first | done | fail) (by kernel_rfl) (by kernel_rfl) (by omega) fun w' hJ hT=>?_) | exact ⟨_,_,rfl,J.m (by assumption)⟩)
end
theorem mI:ZI prog 239 10:=by
 obtain ⟨i,h1,h2,_,_⟩:=bM (P:=prog) (T:=239) (z:=.agg #[.int .u64 0,.int .u64 0,.int .u64 0,.int .u64 0,.int .u64 0,.int .u64 0,.int .u64 0,.int .u64 0,.int .u64 0,.int .u64 0]) (n:=10) (m:=80) (by kernel_rfl) (by kernel_rfl) (by kernel_rfl)
 exact ⟨i,_,h1,h2,rfl⟩
theorem u285:prog.underlying 121=some (.array 5 119):=by kernel_rfl
theorem uU64:prog.underlying 119=some (.int .u64):=by kernel_rfl
theorem eqJ {op:BinOp} {ox oy:Operand} {a b c d e a' b' c' d' e':UInt64} (hop:op = .eql∨op = .neq) {K:Bool→Prop} (hK : ∀ b,K b) :
 aU prog (do eqGuard op 121 ox oy (e5 a b c d e) (e5 a' b' c' d' e'); binOp op 121 (e5 a b c d e) (e5 a' b' c' d' e')) fun v=>∃ x:Bool,v = .bool x∧K x:=by
 obtain ⟨i,h1,h2,h3,h4⟩:=i44
 exact qIN (K:=fun v=>∃ x:Bool,v = .bool x∧K x) (k:=.u64) (l:=[(a.toNat:Int),b.toNat,c.toNat,d.toNat,e.toNat]) (l':=[(a'.toNat:Int),b'.toNat,c'.toNat,d'.toNat,e'.toNat]) hop u285 uU64 (by kernel_rfl) h1 (by kernel_rfl) (by kernel_rfl) rfl rfl rfl rfl ⟨_,rfl,hK _⟩
theorem jBC {l:List UInt64} (h:l.length=10) : ∃ a b c d e f g h i j,l=[a,b,c,d,e,f,g,h,i,j]:=by
 match l,h with
 | [a,b,c,d,e,f,g,h,i,j],_=>exact ⟨a,b,c,d,e,f,g,h,i,j,rfl⟩
theorem jAC {Z:Nat→Prop} {w0 w:World} {L:List (Nat×Nat×Bool)} {t:Bool} {p n:Nat} {A:Addr} (hJ:J Z w0 L w) {o:Nat} (hA:A=⟨p,o,none⟩) (hp:(p,n,t)∈L) (ho:o+10≤n) {K:UInt64→UInt64→UInt64→UInt64→UInt64→UInt64→UInt64→UInt64→UInt64→UInt64→Prop} (hK : ∀ a b c d e f g h i j,K a b c d e f g h i j) :
 ∃ a:UInt64,∃ b:UInt64,∃ c:UInt64,∃ d:UInt64,∃ e:UInt64,∃ f:UInt64,∃ g:UInt64,∃ h:UInt64,∃ i:UInt64,∃ j:UInt64,Rd w A [.int .u64 a.toNat,.int .u64 b.toNat,.int .u64 c.toNat,.int .u64 d.toNat,.int .u64 e.toNat,.int .u64 f.toNat,.int .u64 g.toNat,.int .u64 h.toNat,.int .u64 i.toNat,.int .u64 j.toNat]∧K a b c d e f g h i j:=by
 obtain ⟨m,h1,h2⟩:=hJ.rd hp (k:=10) ho
 obtain ⟨a,b,c,d,e,f,g,h,i,j,rfl⟩:=jBC h1
 subst hA
 exact ⟨a,b,c,d,e,f,g,h,i,j,h2 w (Mod.refl _ _),hK _ _ _ _ _ _ _ _ _ _⟩
theorem jEG {Z:Nat→Prop} {w0 w:World} {L:List (Nat×Nat×Bool)} {p n:Nat} {A:Addr} {T:TypeId} {a b c d e f g h i j:UInt64} (hJ:J Z w0 L w) {o:Nat} (hA:A=⟨p,o,none⟩) (hp:(p,n,true)∈L) (hi:(prog.info? T).isSome=true) (hsz:bF prog T=10) (ho:o+10≤n) {K:World→Prop} (hK : ∀ w',J Z w0 L w'→Mod (fun x=>x=p) w w'→K w') :
 aJ prog (storeVar T A (.agg #[.int .u64 a.toNat,.int .u64 b.toNat,.int .u64 c.toNat,.int .u64 d.toNat,.int .u64 e.toNat,.int .u64 f.toNat,.int .u64 g.toNat,.int .u64 h.toNat,.int .u64 i.toNat,.int .u64 j.toNat])) w K:=
 stJ [a,b,c,d,e,f,g,h,i,j] hJ hA hp hi hsz rfl ho hK
section
variable {w:World} {a b c d e a' b' c' d' e':UInt64}
theorem fV:Calls prog 175 #[e5 a b c d e] w (Ret (RE w)):=by
 refine qMO _ _ _ _ _ ?_
 unfold qUB
 have hJ0:=J.start w
 repeat' (first | (refine fW (by assumption) fun p w' hJ hM=>?_) | (refine bU (by first | exact zi5 | exact zi2 | exact mI | exact kJ) (by assumption) fun p w' hJ hM=>?_) | (refine qDP (by assumption) (by (repeat first | exact List.mem_cons_self | assumption | apply List.mem_cons_of_mem); first | done | fail) (by first | omega | (simp only []; omega)) fun x=>?_) | (refine gV (by assumption) (by (repeat first | exact List.mem_cons_self | assumption | apply List.mem_cons_of_mem); first | done | fail) (by first | omega | (simp only []; omega)) fun x=>?_) | (refine iQ (by assumption) (by (try simp only [aK,add0,Nat.zero_add]); rfl) (by (repeat first | exact List.mem_cons_self | assumption | apply List.mem_cons_of_mem); first | done | fail) (by first | omega | (simp only []; omega)) fun a b c d e=>?_) | (refine oU (by assumption) (by (repeat first | exact List.mem_cons_self | assumption | apply List.mem_cons_of_mem); first | done | fail) (by omega) (by kernel_rfl) (by kernel_rfl) fun w' hJ hT=>?_) | (refine iW (by assumption) (by (try simp only [aK,add0,Nat.zero_add]); rfl) (by (repeat first | exact List.mem_cons_self | assumption | apply List.mem_cons_of_mem); first | done | fail) (by kernel_rfl) (by kernel_rfl) (by omega) fun w' hJ hT=>?_) | (refine cG lP (by assumption) fun a b c d e w' hJ hM=>?_) | (refine qLM 5 (by assumption) (by omega) fun q x w' hi hJ=>?_) | (refine yH 4 (by assumption) (by omega) fun x w' hi hJ=>?_) | exact ⟨_,_,_,_,_,rfl,J.m (by assumption)⟩ | (refine aE (fun hb=>?_) fun hb=>?_ <;> try simp at hb) | (refine And.intro ?_ trivial) | (refine And.intro (Int.natCast_nonneg _) ?_) | (refine And.intro (by first | omega | (simp only []; omega)) ?_) | (refine dN (by assumption) fun hJ=>?_) | exact qIO (by assumption) (by intro q hq; (repeat first | exact hq | apply List.mem_cons_of_mem); first | done | fail) (by omega) (by omega) | exact qZY (by assumption) (by intro q hq; (repeat first | exact hq | apply List.mem_cons_of_mem); first | done | fail) (by omega) (by omega) | (simp (disch:=omega) only [wrap_i64]))
theorem qV:Calls prog 128 #[e5 a b c d e,e5 a' b' c' d' e'] w (Ret (RE w)):=by
 refine qLS _ _ _ _ _ _ _ _ _ _ ?_
 unfold qTQ
 have hJ0:=J.start w
 repeat' (first | (refine fW (by assumption) fun p w' hJ hM=>?_) | (refine bU (by first | exact zi5 | exact zi2 | exact mI | exact kJ) (by assumption) fun p w' hJ hM=>?_) | (refine qDP (by assumption) (by (repeat first | exact List.mem_cons_self | assumption | apply List.mem_cons_of_mem); first | done | fail) (by first | omega | (simp only []; omega)) fun x=>?_) | (refine gV (by assumption) (by (repeat first | exact List.mem_cons_self | assumption | apply List.mem_cons_of_mem); first | done | fail) (by first | omega | (simp only []; omega)) fun x=>?_) | (refine jBU (by assumption) (by (try simp only [aK,add0,Nat.zero_add]); rfl) (by (repeat first | exact List.mem_cons_self | assumption | apply List.mem_cons_of_mem); first | done | fail) (by first | omega | (simp only []; omega)) fun x y=>?_) | (refine iQ (by assumption) (by (try simp only [aK,add0,Nat.zero_add]); rfl) (by (repeat first | exact List.mem_cons_self | assumption | apply List.mem_cons_of_mem); first | done | fail) (by first | omega | (simp only []; omega)) fun a b c d e=>?_) | (refine oU (by assumption) (by (repeat first | exact List.mem_cons_self | assumption | apply List.mem_cons_of_mem); first | done | fail) (by omega) (by kernel_rfl) (by kernel_rfl) fun w' hJ hT=>?_) | (refine iW (by assumption) (by (try simp only [aK,add0,Nat.zero_add]); rfl) (by (repeat first | exact List.mem_cons_self | assumption | apply List.mem_cons_of_mem); first | done | fail) (by kernel_rfl) (by kernel_rfl) (by omega) fun w' hJ hT=>?_) | (refine jAE (by assumption) (by (try simp only [aK,add0,Nat.zero_add]); rfl) (by (repeat first | exact List.mem_cons_self | assumption | apply List.mem_cons_of_mem); first | done | fail) (by kernel_rfl) (by kernel_rfl) (by omega) fun w' hJ hT=>?_) | (refine bU zi5' (by assumption) fun p w' hJ hM=>?_) | (refine cG lP (by assumption) fun a b c d e w' hJ hM=>?_) | (refine qHP qLE (by assumption) fun a b w' hJ hM=>?_) | (refine qHP qAH (by assumption) fun a b w' hJ hM=>?_) | (refine jEK (xW (by assumption) (by omega)) (by assumption) fun a b w' hJ hM=>?_) | (refine yH 5 (by assumption) (by omega) fun x w' hi hJ=>?_) | (refine qFU (by assumption) fun b w' hJ hM=>?_) | (refine And.intro (by intro z hz; simp only [List.mem_cons,List.not_mem_nil,or_false] at hz; rcases hz with rfl | rfl | rfl | rfl | rfl <;> rfl) (jAO (by omega) fun a b=>?_)) | (refine zW 10 (by assumption) ?_) | (refine jAC (by assumption) (by (try simp only [aK,add0,Nat.zero_add]); rfl) (by (repeat first | exact List.mem_cons_self | apply List.mem_cons_of_mem); first | done | fail) (by omega) fun a b c d e f g h i j=>?_) | (refine jEG (by assumption) (by (try simp only [aK,add0,Nat.zero_add]); rfl) (by (repeat first | exact List.mem_cons_self | apply List.mem_cons_of_mem); first | done | fail) (by kernel_rfl) (by kernel_rfl) (by omega) fun w' hJ hT=>?_) | exact ⟨_,_,_,_,_,rfl,J.m (by assumption)⟩ | (refine aE (fun hb=>?_) fun hb=>?_ <;> try simp at hb) | (refine And.intro ?_ trivial) | (refine And.intro (Int.natCast_nonneg _) ?_) | (refine And.intro (by first | omega | (simp only []; omega)) ?_) | (refine dN (by assumption) fun hJ=>?_) | (refine And.intro (by (repeat first | assumption | exact Mod.refl _ _ | refine Mod.tr ?_ (by assumption) | refine Mod.fresh ?_ (by assumption) (by rintro x rfl; assumption)); first | done | fail) ?_) | (refine qAT (by assumption) (fun w hJ hM=>?_) ?_) | (refine qKB (by assumption) fun p w hJ hN hM=>?_) | (refine fun (_:TS _ _ _ _ _)=>?_) | (refine fun (_:UInt64)=>?_) | (refine fun (_:Slc)=>?_) | exact TS.slc (by assumption) | exact TS.ptr (by assumption) | exact qIO (by assumption) (by intro q hq; (repeat first | exact hq | apply List.mem_cons_of_mem); first | done | fail) (by omega) (by omega) | assumption | (refine Mod.tr ?_ (by assumption)) | (simp (disch:=omega) only [wrap_i64]))
theorem nI:Calls prog 184 #[e5 a b c d e] w (Ret (RE w)):=by
 refine qIY _ _ _ _ _ ?_
 unfold qTG
 have hJ0:=J.start w
 repeat' (first | (refine fW (by assumption) fun p w' hJ hM=>?_) | (refine bU (by first | exact zi5 | exact zi2 | exact mI | exact kJ) (by assumption) fun p w' hJ hM=>?_) | (refine iQ (by assumption) (by (try simp only [aK,add0,Nat.zero_add]); rfl) (by (repeat first | exact List.mem_cons_self | assumption | apply List.mem_cons_of_mem); first | done | fail) (by first | omega | (simp only []; omega)) fun a b c d e=>?_) | (refine iW (by assumption) (by (try simp only [aK,add0,Nat.zero_add]); rfl) (by (repeat first | exact List.mem_cons_self | assumption | apply List.mem_cons_of_mem); first | done | fail) (by kernel_rfl) (by kernel_rfl) (by omega) fun w' hJ hT=>?_) | (refine cG qV (by assumption) fun a b c d e w' hJ hM=>?_) | exact ⟨_,_,_,_,_,rfl,J.m (by assumption)⟩)
theorem qFE {Z:Nat→Prop} {w0:World} {L:List (Nat×Nat×Bool)} {p:Nat} {i:Int} (hJ:J Z w0 L w) (hp:(p,1,true)∈L) (hi:0≤i):Calls prog 226 #[.int .i64 i,.pointer (some ⟨p,0,none⟩)] w (Ret fun v w'=>∃ b:Bool,v = .bool b∧w'=w):=by
 refine qNC _ _ ?_
 unfold qPT
 refine aE (fun _=>⟨_,rfl,rfl⟩) fun _=>?_
 refine qFL hJ (o:=0) rfl hp (by omega) fun x=>?_
 exact ⟨hi,_,rfl,rfl⟩
end
def qSK (ua ub uc ud ue va vb vc vd ve:UInt64) (w:World) (R:RW):Prop:=
 aI prog (Instr.box 121 (e5 ua ub uc ud ue)) w fun v w1=>∃ u:Option Addr,v=(.pointer u)∧aI prog (Instr.box 121 (e5 va vb vc vd ve)) w1 fun v1 w2=>∃ v2:Option Addr,v1=(.pointer v2)∧aI prog (Instr.alloc 121 true (.tuple #[])) w2 fun v3 w3=>∃ x:Option Addr,v3=(.pointer x)∧∃ sx:World→Prop,sx w3.drew∧(∃ ts:Nat→Value→World→Prop,(∀ i v w1 w2,Mod NoB w1 w2→ts i v w1→ts i v w2)∧sx w3.drew∧aA v2 fun a=>∃ xa xb xc xd xe:UInt64,(∀ w',sx w'→Rd w' a (l5 xa xb xc xd xe))∧((∀ w4,Mod NoB w3.drew w4→sx w4→aD prog 184 [e5 xa xb xc xd xe] w4 (aG R) fun v4 w5=>∃ xa1 xb1 xc1 xd1 xe1:UInt64,v4=(e5 xa1 xb1 xc1 xd1 xe1)∧(Mod NoB w4 w5∧sx w5∧ts 1 (e5 xa1 xb1 xc1 xd1 xe1) w5))∧∀ xa2 xb2 xc2 xd2 xe2:UInt64,aA v2 fun a1=>∃ xa3 xb3 xc3 xd3 xe3:UInt64,(∀ w',sx w'→Rd w' a1 (l5 xa3 xb3 xc3 xd3 xe3))∧((∀ w6,Mod NoB w3.drew w6→sx w6→ts 1 (e5 xa2 xb2 xc2 xd2 xe2) w6→aD prog 128 [e5 xa2 xb2 xc2 xd2 xe2,e5 xa3 xb3 xc3 xd3 xe3] w6 (aG R) fun v5 w7=>∃ xa4 xb4 xc4 xd4 xe4:UInt64,v5=(e5 xa4 xb4 xc4 xd4 xe4)∧(Mod NoB w6 w7∧sx w7∧ts 3 (e5 xa4 xb4 xc4 xd4 xe4) w7))∧∀ xa5 xb5 xc5 xd5 xe5:UInt64,((∀ w8,Mod NoB w3.drew w8→sx w8→aI prog (Instr.alloc 121 true (.tuple #[])) w8 fun v6 w9=>∃ v3:Option Addr,v6=(.pointer v3)∧(Mod NoB w8 w9∧sx w9∧ts 4 (.pointer v3) w9))∧∀ v31:Option Addr,∀ w10,Mod NoB w3.drew w10→sx w10→ts 4 (.pointer v31) w10→ts 3 (e5 xa5 xb5 xc5 xd5 xe5) w10→ts 1 (e5 xa2 xb2 xc2 xd2 xe2) w10→((aA v31 fun a2=>aJ prog (storeVar 121 a2 (e5 xa5 xb5 xc5 xd5 xe5)) w10 fun w11=>∃ sx1:World→Prop,sx1 w11.drew∧(∃ ts1:Nat→Value→World→Prop,(∀ i v w1 w2,Mod NoB w1 w2→ts1 i v w1→ts1 i v w2)∧sx1 w11.drew∧aA u fun a3=>∃ xa6 xb6 xc6 xd6 xe6:UInt64,(∀ w',sx1 w'→Rd w' a3 (l5 xa6 xb6 xc6 xd6 xe6))∧aA v31 fun a4=>∃ xa7 xb7 xc7 xd7 xe7:UInt64,(∀ w',sx1 w'→Rd w' a4 (l5 xa7 xb7 xc7 xd7 xe7))∧((∀ w12,Mod NoB w11.drew w12→sx1 w12→aD prog 128 [e5 xa6 xb6 xc6 xd6 xe6,e5 xa7 xb7 xc7 xd7 xe7] w12 (aG R) fun v7 w13=>∃ xa8 xb8 xc8 xd8 xe8:UInt64,v7=(e5 xa8 xb8 xc8 xd8 xe8)∧(Mod NoB w12 w13∧sx1 w13∧ts1 2 (e5 xa8 xb8 xc8 xd8 xe8) w13))∧∀ xa9 xb9 xc9 xd9 xe9:UInt64,aA u fun a5=>∃ xa10 xb10 xc10 xd10 xe10:UInt64,(∀ w',sx1 w'→Rd w' a5 (l5 xa10 xb10 xc10 xd10 xe10))∧aA v31 fun a6=>∃ xa11 xb11 xc11 xd11 xe11:UInt64,(∀ w',sx1 w'→Rd w' a6 (l5 xa11 xb11 xc11 xd11 xe11))∧((∀ w14,Mod NoB w11.drew w14→sx1 w14→ts1 2 (e5 xa9 xb9 xc9 xd9 xe9) w14→aD prog 184 [e5 xa11 xb11 xc11 xd11 xe11] w14 (aG R) fun v8 w15=>∃ xa12 xb12 xc12 xd12 xe12:UInt64,v8=(e5 xa12 xb12 xc12 xd12 xe12)∧(Mod NoB w14 w15∧sx1 w15∧ts1 5 (e5 xa12 xb12 xc12 xd12 xe12) w15))∧∀ xa13 xb13 xc13 xd13 xe13:UInt64,aA v2 fun a7=>∃ xa14 xb14 xc14 xd14 xe14:UInt64,(∀ w',sx1 w'→Rd w' a7 (l5 xa14 xb14 xc14 xd14 xe14))∧((∀ w16,Mod NoB w11.drew w16→sx1 w16→ts1 5 (e5 xa13 xb13 xc13 xd13 xe13) w16→aD prog 128 [e5 xa13 xb13 xc13 xd13 xe13,e5 xa14 xb14 xc14 xd14 xe14] w16 (aG R) fun v9 w17=>∃ xa15 xb15 xc15 xd15 xe15:UInt64,v9=(e5 xa15 xb15 xc15 xd15 xe15)∧(Mod NoB w16 w17∧sx1 w17∧ts1 7 (e5 xa15 xb15 xc15 xd15 xe15) w17))∧∀ xa16 xb16 xc16 xd16 xe16:UInt64,((∀ w18,Mod NoB w11.drew w18→sx1 w18→ts1 7 (e5 xa16 xb16 xc16 xd16 xe16) w18→aD prog 128 [e5 xa10 xb10 xc10 xd10 xe10,e5 xa16 xb16 xc16 xd16 xe16] w18 (aG R) fun v10 w19=>∃ xa17 xb17 xc17 xd17 xe17:UInt64,v10=(e5 xa17 xb17 xc17 xd17 xe17)∧(Mod NoB w18 w19∧sx1 w19∧ts1 8 (e5 xa17 xb17 xc17 xd17 xe17) w19))∧∀ xa18 xb18 xc18 xd18 xe18:UInt64,((∀ w20,Mod NoB w11.drew w20→sx1 w20→ts1 8 (e5 xa18 xb18 xc18 xd18 xe18) w20→aD prog 174 [e5 xa18 xb18 xc18 xd18 xe18,.int .i64 (252:Int),.int .u64 ((3:UInt64)).toNat] w20 (aG R) fun v11 w21=>∃ xa19 xb19 xc19 xd19 xe19:UInt64,v11=(e5 xa19 xb19 xc19 xd19 xe19)∧(Mod NoB w20 w21∧sx1 w21∧ts1 9 (e5 xa19 xb19 xc19 xd19 xe19) w21))∧∀ xa20 xb20 xc20 xd20 xe20:UInt64,((∀ w22,Mod NoB w11.drew w22→sx1 w22→ts1 9 (e5 xa20 xb20 xc20 xd20 xe20) w22→ts1 2 (e5 xa9 xb9 xc9 xd9 xe9) w22→aD prog 128 [e5 xa9 xb9 xc9 xd9 xe9,e5 xa20 xb20 xc20 xd20 xe20] w22 (aG R) fun v12 w23=>∃ xa21 xb21 xc21 xd21 xe21:UInt64,v12=(e5 xa21 xb21 xc21 xd21 xe21)∧(Mod NoB w22 w23∧sx1 w23∧ts1 10 (e5 xa21 xb21 xc21 xd21 xe21) w23))∧∀ xa22 xb22 xc22 xd22 xe22:UInt64,((∀ w24,Mod NoB w11.drew w24→sx1 w24→aI prog (Instr.alloc 121 true (.tuple #[])) w24 fun v13 w25=>∃ r:Option Addr,v13=(.pointer r)∧(Mod NoB w24 w25∧sx1 w25∧ts1 11 (.pointer r) w25))∧∀ r1:Option Addr,∀ w26,Mod NoB w11.drew w26→sx1 w26→ts1 11 (.pointer r1) w26→ts1 10 (e5 xa22 xb22 xc22 xd22 xe22) w26→ts1 9 (e5 xa20 xb20 xc20 xd20 xe20) w26→ts1 8 (e5 xa18 xb18 xc18 xd18 xe18) w26→ts1 7 (e5 xa16 xb16 xc16 xd16 xe16) w26→ts1 5 (e5 xa13 xb13 xc13 xd13 xe13) w26→ts1 2 (e5 xa9 xb9 xc9 xd9 xe9) w26→((aA r1 fun a8=>aJ prog (storeVar 121 a8 (e5 xa22 xb22 xc22 xd22 xe22)) w26 fun w27=>∃ j:List TV→World→Prop,(∃ sx2:World→Prop,sx2 w27.drew∧(∃ ts2:Nat→Value→World→Prop,(∀ i v w1 w2,Mod NoB w1 w2→ts2 i v w1→ts2 i v w2)∧sx2 w27.drew∧aA r1 fun a9=>∃ xa23 xb23 xc23 xd23 xe23:UInt64,(∀ w',sx2 w'→Rd w' a9 (l5 xa23 xb23 xc23 xd23 xe23))∧((∀ w28,Mod NoB w27.drew w28→sx2 w28→aD prog 184 [e5 xa23 xb23 xc23 xd23 xe23] w28 (aG R) fun v14 w29=>∃ xa24 xb24 xc24 xd24 xe24:UInt64,v14=(e5 xa24 xb24 xc24 xd24 xe24)∧(Mod NoB w28 w29∧sx2 w29∧ts2 1 (e5 xa24 xb24 xc24 xd24 xe24) w29))∧∀ xa25 xb25 xc25 xd25 xe25:UInt64,aA v2 fun a10=>∃ xa26 xb26 xc26 xd26 xe26:UInt64,(∀ w',sx2 w'→Rd w' a10 (l5 xa26 xb26 xc26 xd26 xe26))∧((∀ w30,Mod NoB w27.drew w30→sx2 w30→ts2 1 (e5 xa25 xb25 xc25 xd25 xe25) w30→aD prog 128 [e5 xa25 xb25 xc25 xd25 xe25,e5 xa26 xb26 xc26 xd26 xe26] w30 (aG R) fun v15 w31=>∃ xa27 xb27 xc27 xd27 xe27:UInt64,v15=(e5 xa27 xb27 xc27 xd27 xe27)∧(Mod NoB w30 w31∧sx2 w31∧ts2 3 (e5 xa27 xb27 xc27 xd27 xe27) w31))∧∀ xa28 xb28 xc28 xd28 xe28:UInt64,((∀ w32,Mod NoB w27.drew w32→sx2 w32→aI prog (Instr.alloc 121 true (.tuple #[])) w32 fun v16 w33=>∃ is:Option Addr,v16=(.pointer is)∧(Mod NoB w32 w33∧sx2 w33∧ts2 4 (.pointer is) w33))∧∀ is1:Option Addr,∀ w34,Mod NoB w27.drew w34→sx2 w34→ts2 4 (.pointer is1) w34→ts2 3 (e5 xa28 xb28 xc28 xd28 xe28) w34→ts2 1 (e5 xa25 xb25 xc25 xd25 xe25) w34→((aA is1 fun a11=>aJ prog (storeVar 121 a11 (e5 xa28 xb28 xc28 xd28 xe28)) w34 fun w35=>aA is1 fun a12=>∃ xa29 xb29 xc29 xd29 xe29:UInt64,Rd w35 a12 (l5 xa29 xb29 xc29 xd29 xe29)∧aA u fun a13=>∃ xa30 xb30 xc30 xd30 xe30:UInt64,Rd w35 a13 (l5 xa30 xb30 xc30 xd30 xe30)∧aD prog 231 [e5 xa29 xb29 xc29 xd29 xe29,e5 xa30 xb30 xc30 xd30 xe30] w35 (aG R) fun v17 w36=>∃ x1:Bool,v17=(.bool x1)∧aH x1 (j [] w36) (∃ sx3:World→Prop,sx3 w36.drew∧aA is1 fun a14=>∃ xa31 xb31 xc31 xd31 xe31:UInt64,(∀ w',sx3 w'→Rd w' a14 (l5 xa31 xb31 xc31 xd31 xe31))∧aA u fun a15=>∃ xa32 xb32 xc32 xd32 xe32:UInt64,(∀ w',sx3 w'→Rd w' a15 (l5 xa32 xb32 xc32 xd32 xe32))∧((aD prog 188 [e5 xa32 xb32 xc32 xd32 xe32] w36.drew (aG R) fun v18 w37=>∃ xa33 xb33 xc33 xd33 xe33:UInt64,v18=(e5 xa33 xb33 xc33 xd33 xe33)∧(sx3 w37∧((aD prog 231 [e5 xa31 xb31 xc31 xd31 xe31,e5 xa33 xb33 xc33 xd33 xe33] w37 (aG R) fun v19 w38=>∃ x2:Bool,v19=(.bool x2)∧(sx3 w38∧aH x2 (∃ sx4:World→Prop,sx4 w38.drew∧aA r1 fun a16=>∃ xa34 xb34 xc34 xd34 xe34:UInt64,(∀ w',sx4 w'→Rd w' a16 (l5 xa34 xb34 xc34 xd34 xe34))∧((aD prog 174 [.agg #[.int .u64 ((2:UInt64)).toNat,.int .u64 ((0:UInt64)).toNat,.int .u64 ((0:UInt64)).toNat,.int .u64 ((0:UInt64)).toNat,.int .u64 ((0:UInt64)).toNat],.int .i64 (253:Int),.int .u64 ((5:UInt64)).toNat] w38.drew (aG R) fun v20 w39=>∃ xa35 xb35 xc35 xd35 xe35:UInt64,v20=(e5 xa35 xb35 xc35 xd35 xe35)∧(sx4 w39∧((aD prog 128 [e5 xa34 xb34 xc34 xd34 xe34,e5 xa35 xb35 xc35 xd35 xe35] w39 (aG R) fun v21 w40=>∃ xa36 xb36 xc36 xd36 xe36:UInt64,v21=(e5 xa36 xb36 xc36 xd36 xe36)∧((aA r1 fun a17=>aJ prog (storeVar 121 a17 (e5 xa36 xb36 xc36 xd36 xe36)) w40 fun w41=>j [] w41)∧True))∧True)))∧True)) (aA x fun a18=>aJ prog (storeVar 121 a18 (.agg #[.int .u64 ((0:UInt64)).toNat,.int .u64 ((0:UInt64)).toNat,.int .u64 ((0:UInt64)).toNat,.int .u64 ((0:UInt64)).toNat,.int .u64 ((0:UInt64)).toNat])) w38 fun w42=>aA x fun a19=>∃ xa37 xb37 xc37 xd37 xe37:UInt64,Rd w42 a19 (l5 xa37 xb37 xc37 xd37 xe37)∧R (.returned (.tuple #[e5 xa37 xb37 xc37 xd37 xe37,.bool false])) w42)))∧True)))∧True)))∧True))))))∧(∀ w43:World,j [] w43→aA r1 fun a20=>∃ xa38 xb38 xc38 xd38 xe38:UInt64,Rd w43 a20 (l5 xa38 xb38 xc38 xd38 xe38)∧aD prog 129 [e5 xa38 xb38 xc38 xd38 xe38] w43 (aG R) fun v22 w44=>∃ x3:Bool,v22=(.bool x3)∧aH x3 (aA r1 fun a21=>∃ xa39 xb39 xc39 xd39 xe39:UInt64,Rd w44 a21 (l5 xa39 xb39 xc39 xd39 xe39)∧aD prog 188 [e5 xa39 xb39 xc39 xd39 xe39] w44 (aG R) fun v23 w45=>∃ xa40 xb40 xc40 xd40 xe40:UInt64,v23=(e5 xa40 xb40 xc40 xd40 xe40)∧aA r1 fun a22=>aJ prog (storeVar 121 a22 (e5 xa40 xb40 xc40 xd40 xe40)) w45 fun w46=>aA r1 fun a23=>∃ xa41 xb41 xc41 xd41 xe41:UInt64,Rd w46 a23 (l5 xa41 xb41 xc41 xd41 xe41)∧aA x fun a24=>aJ prog (storeVar 121 a24 (e5 xa41 xb41 xc41 xd41 xe41)) w46 fun w47=>aA x fun a25=>∃ xa42 xb42 xc42 xd42 xe42:UInt64,Rd w47 a25 (l5 xa42 xb42 xc42 xd42 xe42)∧R (.returned (.tuple #[e5 xa42 xb42 xc42 xd42 xe42,.bool true])) w47) (aA r1 fun a26=>∃ xa43 xb43 xc43 xd43 xe43:UInt64,Rd w44 a26 (l5 xa43 xb43 xc43 xd43 xe43)∧aA x fun a27=>aJ prog (storeVar 121 a27 (e5 xa43 xb43 xc43 xd43 xe43)) w44 fun w48=>aA x fun a28=>∃ xa44 xb44 xc44 xd44 xe44:UInt64,Rd w48 a28 (l5 xa44 xb44 xc44 xd44 xe44)∧R (.returned (.tuple #[e5 xa44 xb44 xc44 xd44 xe44,.bool true])) w48)))∧True))))))))))∧True)))))
theorem qKT (ua ub uc ud ue va vb vc vd ve:UInt64) {w:World} {R:RW} (hden:qSK ua ub uc ud ue va vb vc vd ve w R):Calls prog 191 #[e5 ua ub uc ud ue,e5 va vb vc vd ve] w R:=
 aB (q0 .z (q0 (.draw 1 (.safe [(0,(.agg [.u64,.u64,.u64,.u64,.u64])),(1,(.agg [.u64,.u64,.u64,.u64,.u64])),(2,(.agg [.u64,.u64,.u64,.u64,.u64])),(3,(.agg [.u64,.u64,.u64,.u64,.u64])),(4,.p)] (.all [(5,.done)]))) (q0 (.draw 1 (.safe [(0,(.agg [.u64,.u64,.u64,.u64,.u64])),(1,(.agg [.u64,.u64,.u64,.u64,.u64])),(2,(.agg [.u64,.u64,.u64,.u64,.u64])),(3,(.agg [.u64,.u64,.u64,.u64,.u64])),(4,(.agg [.u64,.u64,.u64,.u64,.u64])),(5,(.agg [.u64,.u64,.u64,.u64,.u64])),(6,(.agg [.u64,.u64,.u64,.u64,.u64])),(7,(.agg [.u64,.u64,.u64,.u64,.u64])),(8,(.agg [.u64,.u64,.u64,.u64,.u64])),(9,(.agg [.u64,.u64,.u64,.u64,.u64])),(10,(.agg [.u64,.u64,.u64,.u64,.u64])),(11,.p)] (.all [(12,.done)]))) (.seq (some []) (q0 (.draw 1 (.safe [(0,(.agg [.u64,.u64,.u64,.u64,.u64])),(1,(.agg [.u64,.u64,.u64,.u64,.u64])),(2,(.agg [.u64,.u64,.u64,.u64,.u64])),(3,(.agg [.u64,.u64,.u64,.u64,.u64])),(4,.p)] (.all [(5,.done)]))) (.block none (q0 .z (.cond .z (q0 (.draw 1 (.take 0 (.take 1 (.all [(2,(.all [(3,(.take 4 .done))]))])))) (.cond (.draw 1 (.take 1 (.take 0 (.all [(2,(.all [(3,(.all [(4,.done)]))]))])))) (q0 .z .z))))))) (q0 (q0 .z (.cond .z .z)) (q0 .z .z)))))) func191 (by kernel_rfl) [.agg [.u64 ua,.u64 ub,.u64 uc,.u64 ud,.u64 ue],.agg [.u64 va,.u64 vb,.u64 vc,.u64 vd,.u64 ve]] (by kernel_rfl) (by kernel_rfl) hden
def qRX (s:Option Addr) (w:World) (R:RW):Prop:=
 ∃ sx:World→Prop,sx w.drew∧aA s fun a=>aA s fun a1=>aA s fun a2=>∃ xa xb xc xd xe:UInt64,(∀ w',sx w'→Rd w' ((a.add 0).add 0) (l5 xa xb xc xd xe))∧∃ xa1 xb1 xc1 xd1 xe1:UInt64,(∀ w',sx w'→Rd w' ((a1.add 0).add 5) (l5 xa1 xb1 xc1 xd1 xe1))∧(∃ ts:Nat→Value→World→Prop,(∀ i v w1 w2,Mod NoB w1 w2→ts i v w1→ts i v w2)∧sx w.drew∧((∀ w1,Mod NoB w.drew w1→sx w1→aD prog 184 [e5 xa xb xc xd xe] w1 (aG R) fun v w2=>∃ xa2 xb2 xc2 xd2 xe2:UInt64,v=(e5 xa2 xb2 xc2 xd2 xe2)∧(Mod NoB w1 w2∧sx w2∧ts 5 (e5 xa2 xb2 xc2 xd2 xe2) w2))∧∀ xa3 xb3 xc3 xd3 xe3:UInt64,((∀ w3,Mod NoB w.drew w3→sx w3→ts 5 (e5 xa3 xb3 xc3 xd3 xe3) w3→aD prog 184 [e5 xa1 xb1 xc1 xd1 xe1] w3 (aG R) fun v1 w4=>∃ xa4 xb4 xc4 xd4 xe4:UInt64,v1=(e5 xa4 xb4 xc4 xd4 xe4)∧(Mod NoB w3 w4∧sx w4∧ts 11 (e5 xa4 xb4 xc4 xd4 xe4) w4))∧∀ xa5 xb5 xc5 xd5 xe5:UInt64,∃ xa6 xb6 xc6 xd6 xe6:UInt64,(∀ w',sx w'→Rd w' ((a2.add 0).add 10) (l5 xa6 xb6 xc6 xd6 xe6))∧((∀ w5,Mod NoB w.drew w5→sx w5→ts 11 (e5 xa5 xb5 xc5 xd5 xe5) w5→aD prog 184 [e5 xa6 xb6 xc6 xd6 xe6] w5 (aG R) fun v2 w6=>∃ xa7 xb7 xc7 xd7 xe7:UInt64,v2=(e5 xa7 xb7 xc7 xd7 xe7)∧(Mod NoB w5 w6∧sx w6∧ts 17 (e5 xa7 xb7 xc7 xd7 xe7) w6))∧∀ xa8 xb8 xc8 xd8 xe8:UInt64,((∀ w7,Mod NoB w.drew w7→sx w7→aI prog (Instr.alloc 121 true (.tuple #[])) w7 fun v3 w8=>∃ a3:Option Addr,v3=(.pointer a3)∧(Mod NoB w7 w8∧sx w8∧ts 18 (.pointer a3) w8))∧∀ a4:Option Addr,((∀ w9,Mod NoB w.drew w9→sx w9→aI prog (Instr.alloc 121 true (.tuple #[])) w9 fun v4 w10=>∃ b:Option Addr,v4=(.pointer b)∧(Mod NoB w9 w10∧sx w10∧ts 19 (.pointer b) w10))∧∀ b1:Option Addr,((∀ w11,Mod NoB w.drew w11→sx w11→aI prog (Instr.alloc 121 true (.tuple #[])) w11 fun v5 w12=>∃ c:Option Addr,v5=(.pointer c)∧(Mod NoB w11 w12∧sx w12∧ts 20 (.pointer c) w12))∧∀ c1:Option Addr,∀ w13,Mod NoB w.drew w13→sx w13→ts 20 (.pointer c1) w13→ts 19 (.pointer b1) w13→ts 18 (.pointer a4) w13→ts 17 (e5 xa8 xb8 xc8 xd8 xe8) w13→ts 11 (e5 xa5 xb5 xc5 xd5 xe5) w13→ts 5 (e5 xa3 xb3 xc3 xd3 xe3) w13→((aA a4 fun a5=>aJ prog (storeVar 121 a5 (e5 xa3 xb3 xc3 xd3 xe3)) w13 fun w14=>(sx w14∧((aA b1 fun a6=>aJ prog (storeVar 121 a6 (e5 xa5 xb5 xc5 xd5 xe5)) w14 fun w15=>(sx w15∧((aA c1 fun a7=>aJ prog (storeVar 121 a7 (e5 xa8 xb8 xc8 xd8 xe8)) w15 fun w16=>aA c1 fun a8=>∃ xa9 xb9 xc9 xd9 xe9:UInt64,Rd w16 a8 (l5 xa9 xb9 xc9 xd9 xe9)∧aA c1 fun a9=>∃ xa10 xb10 xc10 xd10 xe10:UInt64,Rd w16 a9 (l5 xa10 xb10 xc10 xd10 xe10)∧aD prog 185 [e5 xa9 xb9 xc9 xd9 xe9,e5 xa10 xb10 xc10 xd10 xe10] w16 (aG R) fun v6 w17=>∃ xa11 xb11 xc11 xd11 xe11:UInt64,v6=(e5 xa11 xb11 xc11 xd11 xe11)∧aA c1 fun a10=>aJ prog (storeVar 121 a10 (e5 xa11 xb11 xc11 xd11 xe11)) w17 fun w18=>∃ sx1:World→Prop,sx1 w18.drew∧(∃ ts1:Nat→Value→World→Prop,(∀ i v w1 w2,Mod NoB w1 w2→ts1 i v w1→ts1 i v w2)∧sx1 w18.drew∧aA s fun a11=>∃ xa12 xb12 xc12 xd12 xe12:UInt64,(∀ w',sx1 w'→Rd w' ((a11.add 0).add 0) (l5 xa12 xb12 xc12 xd12 xe12))∧aA s fun a12=>∃ xa13 xb13 xc13 xd13 xe13:UInt64,(∀ w',sx1 w'→Rd w' ((a12.add 0).add 5) (l5 xa13 xb13 xc13 xd13 xe13))∧((∀ w19,Mod NoB w18.drew w19→sx1 w19→aD prog 185 [e5 xa12 xb12 xc12 xd12 xe12,e5 xa13 xb13 xc13 xd13 xe13] w19 (aG R) fun v7 w20=>∃ xa14 xb14 xc14 xd14 xe14:UInt64,v7=(e5 xa14 xb14 xc14 xd14 xe14)∧(Mod NoB w19 w20∧sx1 w20∧ts1 10 (e5 xa14 xb14 xc14 xd14 xe14) w20))∧∀ xa15 xb15 xc15 xd15 xe15:UInt64,((∀ w21,Mod NoB w18.drew w21→sx1 w21→ts1 10 (e5 xa15 xb15 xc15 xd15 xe15) w21→aD prog 184 [e5 xa15 xb15 xc15 xd15 xe15] w21 (aG R) fun v8 w22=>∃ xa16 xb16 xc16 xd16 xe16:UInt64,v8=(e5 xa16 xb16 xc16 xd16 xe16)∧(Mod NoB w21 w22∧sx1 w22∧ts1 11 (e5 xa16 xb16 xc16 xd16 xe16) w22))∧∀ xa17 xb17 xc17 xd17 xe17:UInt64,aA a4 fun a13=>∃ xa18 xb18 xc18 xd18 xe18:UInt64,(∀ w',sx1 w'→Rd w' a13 (l5 xa18 xb18 xc18 xd18 xe18))∧aA b1 fun a14=>∃ xa19 xb19 xc19 xd19 xe19:UInt64,(∀ w',sx1 w'→Rd w' a14 (l5 xa19 xb19 xc19 xd19 xe19))∧((∀ w23,Mod NoB w18.drew w23→sx1 w23→ts1 11 (e5 xa17 xb17 xc17 xd17 xe17) w23→aD prog 185 [e5 xa18 xb18 xc18 xd18 xe18,e5 xa19 xb19 xc19 xd19 xe19] w23 (aG R) fun v9 w24=>∃ xa20 xb20 xc20 xd20 xe20:UInt64,v9=(e5 xa20 xb20 xc20 xd20 xe20)∧(Mod NoB w23 w24∧sx1 w24∧ts1 14 (e5 xa20 xb20 xc20 xd20 xe20) w24))∧∀ xa21 xb21 xc21 xd21 xe21:UInt64,((∀ w25,Mod NoB w18.drew w25→sx1 w25→ts1 14 (e5 xa21 xb21 xc21 xd21 xe21) w25→ts1 11 (e5 xa17 xb17 xc17 xd17 xe17) w25→aD prog 186 [e5 xa17 xb17 xc17 xd17 xe17,e5 xa21 xb21 xc21 xd21 xe21] w25 (aG R) fun v10 w26=>∃ xa22 xb22 xc22 xd22 xe22:UInt64,v10=(e5 xa22 xb22 xc22 xd22 xe22)∧(Mod NoB w25 w26∧sx1 w26∧ts1 15 (e5 xa22 xb22 xc22 xd22 xe22) w26))∧∀ xa23 xb23 xc23 xd23 xe23:UInt64,((∀ w27,Mod NoB w18.drew w27→sx1 w27→aI prog (Instr.alloc 121 true (.tuple #[])) w27 fun v11 w28=>∃ e:Option Addr,v11=(.pointer e)∧(Mod NoB w27 w28∧sx1 w28∧ts1 16 (.pointer e) w28))∧∀ e1:Option Addr,∀ w29,Mod NoB w18.drew w29→sx1 w29→ts1 16 (.pointer e1) w29→ts1 15 (e5 xa23 xb23 xc23 xd23 xe23) w29→ts1 14 (e5 xa21 xb21 xc21 xd21 xe21) w29→ts1 11 (e5 xa17 xb17 xc17 xd17 xe17) w29→ts1 10 (e5 xa15 xb15 xc15 xd15 xe15) w29→((aA e1 fun a15=>aJ prog (storeVar 121 a15 (e5 xa23 xb23 xc23 xd23 xe23)) w29 fun w30=>aA b1 fun a16=>∃ xa24 xb24 xc24 xd24 xe24:UInt64,Rd w30 a16 (l5 xa24 xb24 xc24 xd24 xe24)∧aA a4 fun a17=>∃ xa25 xb25 xc25 xd25 xe25:UInt64,Rd w30 a17 (l5 xa25 xb25 xc25 xd25 xe25)∧aD prog 186 [e5 xa24 xb24 xc24 xd24 xe24,e5 xa25 xb25 xc25 xd25 xe25] w30 (aG R) fun v12 w31=>∃ xa26 xb26 xc26 xd26 xe26:UInt64,v12=(e5 xa26 xb26 xc26 xd26 xe26)∧aI prog (Instr.alloc 121 true (.tuple #[])) w31 fun v13 w32=>∃ g:Option Addr,v13=(.pointer g)∧aA g fun a18=>aJ prog (storeVar 121 a18 (e5 xa26 xb26 xc26 xd26 xe26)) w32 fun w33=>∃ sx2:World→Prop,sx2 w33.drew∧aA e1 fun a19=>∃ xa27 xb27 xc27 xd27 xe27:UInt64,(∀ w',sx2 w'→Rd w' a19 (l5 xa27 xb27 xc27 xd27 xe27))∧aA g fun a20=>∃ xa28 xb28 xc28 xd28 xe28:UInt64,(∀ w',sx2 w'→Rd w' a20 (l5 xa28 xb28 xc28 xd28 xe28))∧aA c1 fun a21=>∃ xa29 xb29 xc29 xd29 xe29:UInt64,(∀ w',sx2 w'→Rd w' a21 (l5 xa29 xb29 xc29 xd29 xe29))∧aA g fun a22=>∃ xa30 xb30 xc30 xd30 xe30:UInt64,(∀ w',sx2 w'→Rd w' a22 (l5 xa30 xb30 xc30 xd30 xe30))∧aA a4 fun a23=>∃ xa31 xb31 xc31 xd31 xe31:UInt64,(∀ w',sx2 w'→Rd w' a23 (l5 xa31 xb31 xc31 xd31 xe31))∧aA b1 fun a24=>∃ xa32 xb32 xc32 xd32 xe32:UInt64,(∀ w',sx2 w'→Rd w' a24 (l5 xa32 xb32 xc32 xd32 xe32))∧((aD prog 186 [e5 xa28 xb28 xc28 xd28 xe28,e5 xa29 xb29 xc29 xd29 xe29] w33.drew (aG R) fun v14 w34=>∃ xa33 xb33 xc33 xd33 xe33:UInt64,v14=(e5 xa33 xb33 xc33 xd33 xe33)∧(sx2 w34∧((aD prog 185 [e5 xa31 xb31 xc31 xd31 xe31,e5 xa32 xb32 xc32 xd32 xe32] w34 (aG R) fun v15 w35=>∃ xa34 xb34 xc34 xd34 xe34:UInt64,v15=(e5 xa34 xb34 xc34 xd34 xe34)∧(sx2 w35∧((aD prog 188 [e5 xa34 xb34 xc34 xd34 xe34] w35 (aG R) fun v16 w36=>∃ xa35 xb35 xc35 xd35 xe35:UInt64,v16=(e5 xa35 xb35 xc35 xd35 xe35)∧(sx2 w36∧((aD prog 187 [e5 xa27 xb27 xc27 xd27 xe27,e5 xa33 xb33 xc33 xd33 xe33,e5 xa30 xb30 xc30 xd30 xe30,e5 xa35 xb35 xc35 xd35 xe35] w36 (aG R) fun v17 w37=>∃ xaa xab xac xad xae xba xbb xbc xbd xbe xca xcb xcc xcd xce xda xdb xdc xdd xde:UInt64,v17=(e20 xaa xab xac xad xae xba xbb xbc xbd xbe xca xcb xcc xcd xce xda xdb xdc xdd xde)∧(sx2 w37∧aA s fun a25=>((aJ prog (storeVar 123 (a25.add 0) (e20 xaa xab xac xad xae xba xbb xbc xbd xbe xca xcb xcc xcd xce xda xdb xdc xdd xde)) w37 fun w38=>R (.returned (.tuple #[])) w38)∧True)))∧True)))∧True)))∧True)))∧True))∧True))))))))∧True)))∧True)))∧True))))))))
theorem qKO (s:Option Addr) {w:World} {R:RW} (hden:qRX s w R):Calls prog 133 #[.pointer s] w R:=
 aB (q0 (.draw 1 (.take 0 (.take 1 (.take 2 (.take 3 (.take 6 (.take 7 (.take 8 (.take 9 (.take 12 (.take 13 (.take 14 (.take 15 (.take 4 (.take 10 (.safe [(5,(.agg [.u64,.u64,.u64,.u64,.u64])),(11,(.agg [.u64,.u64,.u64,.u64,.u64])),(16,(.agg [.u64,.u64,.u64,.u64,.u64])),(17,(.agg [.u64,.u64,.u64,.u64,.u64])),(18,.p),(19,.p),(20,.p)] (.all [(21,(.all [(22,(.all [(23,.done)]))]))]))))))))))))))))) (q0 .z (q0 (.draw 1 (.safe [(0,.p),(1,.p),(2,.p),(3,.p),(4,(.agg [.u64,.u64,.u64,.u64,.u64])),(5,.p),(6,.p),(7,.p),(8,.p),(9,(.agg [.u64,.u64,.u64,.u64,.u64])),(10,(.agg [.u64,.u64,.u64,.u64,.u64])),(11,(.agg [.u64,.u64,.u64,.u64,.u64])),(12,(.agg [.u64,.u64,.u64,.u64,.u64])),(13,(.agg [.u64,.u64,.u64,.u64,.u64])),(14,(.agg [.u64,.u64,.u64,.u64,.u64])),(15,(.agg [.u64,.u64,.u64,.u64,.u64])),(16,.p)] (.all [(17,.done)]))) (q0 .z (.draw 1 (.take 0 (.take 1 (.take 2 (.take 3 (.take 5 (.take 6 (.take 7 (.all [(4,(.all [(8,(.all [(9,(.all [(10,(.take 11 (.take 12 (.all [(13,.done)]))))]))]))]))]))))))))))))) func133 (by kernel_rfl) [.p s] (by kernel_rfl) (by kernel_rfl) hden
def qPS (s:Option Addr) (qaa qab qac qad qae qba qbb qbc qbd qbe qca qcb qcc qcd qce qda qdb qdc qdd qde:UInt64) (w:World) (R:RW):Prop:=
 aI prog (Instr.box 123 (e20 qaa qab qac qad qae qba qbb qbc qbd qbe qca qcb qcc qcd qce qda qdb qdc qdd qde)) w fun v w1=>∃ q:Option Addr,v=(.pointer q)∧∃ sx:World→Prop,sx w1.drew∧(∃ ts:Nat→Value→World→Prop,(∀ i v w1 w2,Mod NoB w1 w2→ts i v w1→ts i v w2)∧sx w1.drew∧aA s fun a=>∃ xa xb xc xd xe:UInt64,(∀ w',sx w'→Rd w' ((a.add 0).add 5) (l5 xa xb xc xd xe))∧aA s fun a1=>∃ xa1 xb1 xc1 xd1 xe1:UInt64,(∀ w',sx w'→Rd w' ((a1.add 0).add 0) (l5 xa1 xb1 xc1 xd1 xe1))∧((∀ w2,Mod NoB w1.drew w2→sx w2→aD prog 186 [e5 xa xb xc xd xe,e5 xa1 xb1 xc1 xd1 xe1] w2 (aG R) fun v1 w3=>∃ xa2 xb2 xc2 xd2 xe2:UInt64,v1=(e5 xa2 xb2 xc2 xd2 xe2)∧(Mod NoB w2 w3∧sx w3∧ts 10 (e5 xa2 xb2 xc2 xd2 xe2) w3))∧∀ xa3 xb3 xc3 xd3 xe3:UInt64,aA q fun a2=>∃ xa4 xb4 xc4 xd4 xe4:UInt64,(∀ w',sx w'→Rd w' (a2.add 5) (l5 xa4 xb4 xc4 xd4 xe4))∧aA q fun a3=>∃ xa5 xb5 xc5 xd5 xe5:UInt64,(∀ w',sx w'→Rd w' (a3.add 0) (l5 xa5 xb5 xc5 xd5 xe5))∧((∀ w4,Mod NoB w1.drew w4→sx w4→ts 10 (e5 xa3 xb3 xc3 xd3 xe3) w4→aD prog 186 [e5 xa4 xb4 xc4 xd4 xe4,e5 xa5 xb5 xc5 xd5 xe5] w4 (aG R) fun v2 w5=>∃ xa6 xb6 xc6 xd6 xe6:UInt64,v2=(e5 xa6 xb6 xc6 xd6 xe6)∧(Mod NoB w4 w5∧sx w5∧ts 15 (e5 xa6 xb6 xc6 xd6 xe6) w5))∧∀ xa7 xb7 xc7 xd7 xe7:UInt64,((∀ w6,Mod NoB w1.drew w6→sx w6→ts 15 (e5 xa7 xb7 xc7 xd7 xe7) w6→ts 10 (e5 xa3 xb3 xc3 xd3 xe3) w6→aD prog 128 [e5 xa3 xb3 xc3 xd3 xe3,e5 xa7 xb7 xc7 xd7 xe7] w6 (aG R) fun v3 w7=>∃ xa8 xb8 xc8 xd8 xe8:UInt64,v3=(e5 xa8 xb8 xc8 xd8 xe8)∧(Mod NoB w6 w7∧sx w7∧ts 16 (e5 xa8 xb8 xc8 xd8 xe8) w7))∧∀ xa9 xb9 xc9 xd9 xe9:UInt64,((∀ w8,Mod NoB w1.drew w8→sx w8→aI prog (Instr.alloc 121 true (.tuple #[])) w8 fun v4 w9=>∃ a4:Option Addr,v4=(.pointer a4)∧(Mod NoB w8 w9∧sx w9∧ts 17 (.pointer a4) w9))∧∀ a5:Option Addr,∀ w10,Mod NoB w1.drew w10→sx w10→ts 17 (.pointer a5) w10→ts 16 (e5 xa9 xb9 xc9 xd9 xe9) w10→ts 15 (e5 xa7 xb7 xc7 xd7 xe7) w10→ts 10 (e5 xa3 xb3 xc3 xd3 xe3) w10→((aA a5 fun a6=>aJ prog (storeVar 121 a6 (e5 xa9 xb9 xc9 xd9 xe9)) w10 fun w11=>∃ sx1:World→Prop,sx1 w11.drew∧(∃ ts1:Nat→Value→World→Prop,(∀ i v w1 w2,Mod NoB w1 w2→ts1 i v w1→ts1 i v w2)∧sx1 w11.drew∧aA s fun a7=>∃ xa10 xb10 xc10 xd10 xe10:UInt64,(∀ w',sx1 w'→Rd w' ((a7.add 0).add 5) (l5 xa10 xb10 xc10 xd10 xe10))∧aA s fun a8=>∃ xa11 xb11 xc11 xd11 xe11:UInt64,(∀ w',sx1 w'→Rd w' ((a8.add 0).add 0) (l5 xa11 xb11 xc11 xd11 xe11))∧((∀ w12,Mod NoB w11.drew w12→sx1 w12→aD prog 185 [e5 xa10 xb10 xc10 xd10 xe10,e5 xa11 xb11 xc11 xd11 xe11] w12 (aG R) fun v5 w13=>∃ xa12 xb12 xc12 xd12 xe12:UInt64,v5=(e5 xa12 xb12 xc12 xd12 xe12)∧(Mod NoB w12 w13∧sx1 w13∧ts1 10 (e5 xa12 xb12 xc12 xd12 xe12) w13))∧∀ xa13 xb13 xc13 xd13 xe13:UInt64,aA q fun a9=>∃ xa14 xb14 xc14 xd14 xe14:UInt64,(∀ w',sx1 w'→Rd w' (a9.add 5) (l5 xa14 xb14 xc14 xd14 xe14))∧aA q fun a10=>∃ xa15 xb15 xc15 xd15 xe15:UInt64,(∀ w',sx1 w'→Rd w' (a10.add 0) (l5 xa15 xb15 xc15 xd15 xe15))∧((∀ w14,Mod NoB w11.drew w14→sx1 w14→ts1 10 (e5 xa13 xb13 xc13 xd13 xe13) w14→aD prog 185 [e5 xa14 xb14 xc14 xd14 xe14,e5 xa15 xb15 xc15 xd15 xe15] w14 (aG R) fun v6 w15=>∃ xa16 xb16 xc16 xd16 xe16:UInt64,v6=(e5 xa16 xb16 xc16 xd16 xe16)∧(Mod NoB w14 w15∧sx1 w15∧ts1 15 (e5 xa16 xb16 xc16 xd16 xe16) w15))∧∀ xa17 xb17 xc17 xd17 xe17:UInt64,((∀ w16,Mod NoB w11.drew w16→sx1 w16→ts1 15 (e5 xa17 xb17 xc17 xd17 xe17) w16→ts1 10 (e5 xa13 xb13 xc13 xd13 xe13) w16→aD prog 128 [e5 xa13 xb13 xc13 xd13 xe13,e5 xa17 xb17 xc17 xd17 xe17] w16 (aG R) fun v7 w17=>∃ xa18 xb18 xc18 xd18 xe18:UInt64,v7=(e5 xa18 xb18 xc18 xd18 xe18)∧(Mod NoB w16 w17∧sx1 w17∧ts1 16 (e5 xa18 xb18 xc18 xd18 xe18) w17))∧∀ xa19 xb19 xc19 xd19 xe19:UInt64,((∀ w18,Mod NoB w11.drew w18→sx1 w18→aI prog (Instr.alloc 121 true (.tuple #[])) w18 fun v8 w19=>∃ b:Option Addr,v8=(.pointer b)∧(Mod NoB w18 w19∧sx1 w19∧ts1 17 (.pointer b) w19))∧∀ b1:Option Addr,∀ w20,Mod NoB w11.drew w20→sx1 w20→ts1 17 (.pointer b1) w20→ts1 16 (e5 xa19 xb19 xc19 xd19 xe19) w20→ts1 15 (e5 xa17 xb17 xc17 xd17 xe17) w20→ts1 10 (e5 xa13 xb13 xc13 xd13 xe13) w20→((aA b1 fun a11=>aJ prog (storeVar 121 a11 (e5 xa19 xb19 xc19 xd19 xe19)) w20 fun w21=>∃ sx2:World→Prop,sx2 w21.drew∧(∃ ts2:Nat→Value→World→Prop,(∀ i v w1 w2,Mod NoB w1 w2→ts2 i v w1→ts2 i v w2)∧sx2 w21.drew∧aA s fun a12=>∃ xa20 xb20 xc20 xd20 xe20:UInt64,(∀ w',sx2 w'→Rd w' ((a12.add 0).add 15) (l5 xa20 xb20 xc20 xd20 xe20))∧∃ xa21 xb21 xc21 xd21 xe21:UInt64,(∀ w',sx2 w'→Rd w' (⟨1,0,none⟩:Addr) (l5 xa21 xb21 xc21 xd21 xe21))∧((∀ w22,Mod NoB w21.drew w22→sx2 w22→aD prog 128 [e5 xa20 xb20 xc20 xd20 xe20,e5 xa21 xb21 xc21 xd21 xe21] w22 (aG R) fun v9 w23=>∃ xa22 xb22 xc22 xd22 xe22:UInt64,v9=(e5 xa22 xb22 xc22 xd22 xe22)∧(Mod NoB w22 w23∧sx2 w23∧ts2 6 (e5 xa22 xb22 xc22 xd22 xe22) w23))∧∀ xa23 xb23 xc23 xd23 xe23:UInt64,aA q fun a13=>∃ xa24 xb24 xc24 xd24 xe24:UInt64,(∀ w',sx2 w'→Rd w' (a13.add 15) (l5 xa24 xb24 xc24 xd24 xe24))∧((∀ w24,Mod NoB w21.drew w24→sx2 w24→ts2 6 (e5 xa23 xb23 xc23 xd23 xe23) w24→aD prog 128 [e5 xa23 xb23 xc23 xd23 xe23,e5 xa24 xb24 xc24 xd24 xe24] w24 (aG R) fun v10 w25=>∃ xa25 xb25 xc25 xd25 xe25:UInt64,v10=(e5 xa25 xb25 xc25 xd25 xe25)∧(Mod NoB w24 w25∧sx2 w25∧ts2 9 (e5 xa25 xb25 xc25 xd25 xe25) w25))∧∀ xa26 xb26 xc26 xd26 xe26:UInt64,((∀ w26,Mod NoB w21.drew w26→sx2 w26→aI prog (Instr.alloc 121 true (.tuple #[])) w26 fun v11 w27=>∃ c:Option Addr,v11=(.pointer c)∧(Mod NoB w26 w27∧sx2 w27∧ts2 10 (.pointer c) w27))∧∀ c1:Option Addr,∀ w28,Mod NoB w21.drew w28→sx2 w28→ts2 10 (.pointer c1) w28→ts2 9 (e5 xa26 xb26 xc26 xd26 xe26) w28→ts2 6 (e5 xa23 xb23 xc23 xd23 xe23) w28→((aA c1 fun a14=>aJ prog (storeVar 121 a14 (e5 xa26 xb26 xc26 xd26 xe26)) w28 fun w29=>∃ j:List TV→World→Prop,(∃ sx3:World→Prop,sx3 w29.drew∧aA s fun a15=>aA q fun a16=>∃ xa27 xb27 xc27 xd27 xe27:UInt64,(∀ w',sx3 w'→Rd w' ((a15.add 0).add 10) (l5 xa27 xb27 xc27 xd27 xe27))∧∃ xa28 xb28 xc28 xd28 xe28:UInt64,(∀ w',sx3 w'→Rd w' (a16.add 10) (l5 xa28 xb28 xc28 xd28 xe28))∧((aD prog 128 [e5 xa27 xb27 xc27 xd27 xe27,e5 xa28 xb28 xc28 xd28 xe28] w29.drew (aG R) fun v12 w30=>∃ xa29 xb29 xc29 xd29 xe29:UInt64,v12=(e5 xa29 xb29 xc29 xd29 xe29)∧((aI prog (Instr.alloc 121 true (.tuple #[])) w30 fun v13 w31=>∃ d:Option Addr,v13=(.pointer d)∧(sx3 w31∧((aA d fun a17=>aJ prog (storeVar 121 a17 (e5 xa29 xb29 xc29 xd29 xe29)) w31 fun w32=>j [.p d] w32)∧True)))∧True))∧(aI prog (Instr.alloc 121 true (.tuple #[])) w29.drew fun v14 w33=>∃ d1:Option Addr,v14=(.pointer d1)∧(sx3 w33∧((aD prog 128 [e5 xa27 xb27 xc27 xd27 xe27,e5 xa28 xb28 xc28 xd28 xe28] w33 (aG R) fun v15 w34=>∃ xa30 xb30 xc30 xd30 xe30:UInt64,v15=(e5 xa30 xb30 xc30 xd30 xe30)∧((aA d1 fun a18=>aJ prog (storeVar 121 a18 (e5 xa30 xb30 xc30 xd30 xe30)) w34 fun w35=>j [.p d1] w35)∧True))∧True)))∧True))∧(∀ d2:Option Addr,∀ w36:World,j [.p d2] w36→aA d2 fun a19=>∃ xa31 xb31 xc31 xd31 xe31:UInt64,Rd w36 a19 (l5 xa31 xb31 xc31 xd31 xe31)∧aA d2 fun a20=>∃ xa32 xb32 xc32 xd32 xe32:UInt64,Rd w36 a20 (l5 xa32 xb32 xc32 xd32 xe32)∧aD prog 185 [e5 xa31 xb31 xc31 xd31 xe31,e5 xa32 xb32 xc32 xd32 xe32] w36 (aG R) fun v16 w37=>∃ xa33 xb33 xc33 xd33 xe33:UInt64,v16=(e5 xa33 xb33 xc33 xd33 xe33)∧aA d2 fun a21=>aJ prog (storeVar 121 a21 (e5 xa33 xb33 xc33 xd33 xe33)) w37 fun w38=>∃ sx4:World→Prop,sx4 w38.drew∧aA b1 fun a22=>∃ xa34 xb34 xc34 xd34 xe34:UInt64,(∀ w',sx4 w'→Rd w' a22 (l5 xa34 xb34 xc34 xd34 xe34))∧aA a5 fun a23=>∃ xa35 xb35 xc35 xd35 xe35:UInt64,(∀ w',sx4 w'→Rd w' a23 (l5 xa35 xb35 xc35 xd35 xe35))∧aA d2 fun a24=>∃ xa36 xb36 xc36 xd36 xe36:UInt64,(∀ w',sx4 w'→Rd w' a24 (l5 xa36 xb36 xc36 xd36 xe36))∧aA c1 fun a25=>∃ xa37 xb37 xc37 xd37 xe37:UInt64,(∀ w',sx4 w'→Rd w' a25 (l5 xa37 xb37 xc37 xd37 xe37))∧aA d2 fun a26=>∃ xa38 xb38 xc38 xd38 xe38:UInt64,(∀ w',sx4 w'→Rd w' a26 (l5 xa38 xb38 xc38 xd38 xe38))∧aA c1 fun a27=>∃ xa39 xb39 xc39 xd39 xe39:UInt64,(∀ w',sx4 w'→Rd w' a27 (l5 xa39 xb39 xc39 xd39 xe39))∧aA b1 fun a28=>∃ xa40 xb40 xc40 xd40 xe40:UInt64,(∀ w',sx4 w'→Rd w' a28 (l5 xa40 xb40 xc40 xd40 xe40))∧aA a5 fun a29=>∃ xa41 xb41 xc41 xd41 xe41:UInt64,(∀ w',sx4 w'→Rd w' a29 (l5 xa41 xb41 xc41 xd41 xe41))∧((aD prog 186 [e5 xa34 xb34 xc34 xd34 xe34,e5 xa35 xb35 xc35 xd35 xe35] w38.drew (aG R) fun v17 w39=>∃ xa42 xb42 xc42 xd42 xe42:UInt64,v17=(e5 xa42 xb42 xc42 xd42 xe42)∧(sx4 w39∧((aD prog 186 [e5 xa36 xb36 xc36 xd36 xe36,e5 xa37 xb37 xc37 xd37 xe37] w39 (aG R) fun v18 w40=>∃ xa43 xb43 xc43 xd43 xe43:UInt64,v18=(e5 xa43 xb43 xc43 xd43 xe43)∧(sx4 w40∧((aD prog 185 [e5 xa38 xb38 xc38 xd38 xe38,e5 xa39 xb39 xc39 xd39 xe39] w40 (aG R) fun v19 w41=>∃ xa44 xb44 xc44 xd44 xe44:UInt64,v19=(e5 xa44 xb44 xc44 xd44 xe44)∧(sx4 w41∧((aD prog 185 [e5 xa40 xb40 xc40 xd40 xe40,e5 xa41 xb41 xc41 xd41 xe41] w41 (aG R) fun v20 w42=>∃ xa45 xb45 xc45 xd45 xe45:UInt64,v20=(e5 xa45 xb45 xc45 xd45 xe45)∧(sx4 w42∧((aD prog 187 [e5 xa42 xb42 xc42 xd42 xe42,e5 xa43 xb43 xc43 xd43 xe43,e5 xa44 xb44 xc44 xd44 xe44,e5 xa45 xb45 xc45 xd45 xe45] w42 (aG R) fun v21 w43=>∃ xaa xab xac xad xae xba xbb xbc xbd xbe xca xcb xcc xcd xce xda xdb xdc xdd xde:UInt64,v21=(e20 xaa xab xac xad xae xba xbb xbc xbd xbe xca xcb xcc xcd xce xda xdb xdc xdd xde)∧(sx4 w43∧aA s fun a30=>((aJ prog (storeVar 123 (a30.add 0) (e20 xaa xab xac xad xae xba xbb xbc xbd xbe xca xcb xcc xcd xce xda xdb xdc xdd xde)) w43 fun w44=>R (.returned (.tuple #[])) w44)∧True)))∧True)))∧True)))∧True)))∧True)))∧True)))∧True))))))∧True)))))))∧True))))))
theorem qMR (s:Option Addr) (qaa qab qac qad qae qba qbb qbc qbd qbe qca qcb qcc qcd qce qda qdb qdc qdd qde:UInt64) {w:World} {R:RW} (hden:qPS s qaa qab qac qad qae qba qbb qbc qbd qbe qca qcb qcc qcd qce qda qdb qdc qdd qde w R):Calls prog 134 #[.pointer s,e20 qaa qab qac qad qae qba qbb qbc qbd qbe qca qcb qcc qcd qce qda qdb qdc qdd qde] w R:=
 aB (q0 .z (q0 (.draw 1 (.safe [(0,.p),(1,.p),(2,.p),(3,.p),(4,(.agg [.u64,.u64,.u64,.u64,.u64])),(5,.p),(6,.p),(7,.p),(8,.p),(9,(.agg [.u64,.u64,.u64,.u64,.u64])),(10,(.agg [.u64,.u64,.u64,.u64,.u64])),(11,.p),(12,(.agg [.u64,.u64,.u64,.u64,.u64])),(13,.p),(14,(.agg [.u64,.u64,.u64,.u64,.u64])),(15,(.agg [.u64,.u64,.u64,.u64,.u64])),(16,(.agg [.u64,.u64,.u64,.u64,.u64])),(17,.p)] (.all [(18,.done)]))) (q0 (.draw 1 (.safe [(0,.p),(1,.p),(2,.p),(3,.p),(4,(.agg [.u64,.u64,.u64,.u64,.u64])),(5,.p),(6,.p),(7,.p),(8,.p),(9,(.agg [.u64,.u64,.u64,.u64,.u64])),(10,(.agg [.u64,.u64,.u64,.u64,.u64])),(11,.p),(12,(.agg [.u64,.u64,.u64,.u64,.u64])),(13,.p),(14,(.agg [.u64,.u64,.u64,.u64,.u64])),(15,(.agg [.u64,.u64,.u64,.u64,.u64])),(16,(.agg [.u64,.u64,.u64,.u64,.u64])),(17,.p)] (.all [(18,.done)]))) (q0 (.draw 1 (.safe [(0,.p),(1,.p),(2,.p),(3,.p),(4,(.agg [.u64,.u64,.u64,.u64,.u64])),(5,(.agg [.u64,.u64,.u64,.u64,.u64])),(6,(.agg [.u64,.u64,.u64,.u64,.u64])),(7,.p),(8,(.agg [.u64,.u64,.u64,.u64,.u64])),(9,(.agg [.u64,.u64,.u64,.u64,.u64])),(10,.p)] (.all [(11,.done)]))) (.seq (some [(7,.p)]) (.draw 1 (.take 0 (.take 1 (.take 2 (.take 3 (.take 5 (.take 4 (.take 6 (.all [(7,(.all [(8,(.all [(9,.done)]))])),(8,(.all [(7,(.all [(9,.done)]))]))]))))))))) (q0 .z (.draw 1 (.take 0 (.take 1 (.take 2 (.take 4 (.take 5 (.take 7 (.take 8 (.take 10 (.take 11 (.all [(3,(.all [(6,(.all [(9,(.all [(12,(.all [(13,(.take 14 (.take 15 (.all [(16,.done)]))))]))]))]))]))]))))))))))))))))) func134 (by kernel_rfl) [.p s,.agg [.agg [.u64 qaa,.u64 qab,.u64 qac,.u64 qad,.u64 qae],.agg [.u64 qba,.u64 qbb,.u64 qbc,.u64 qbd,.u64 qbe],.agg [.u64 qca,.u64 qcb,.u64 qcc,.u64 qcd,.u64 qce],.agg [.u64 qda,.u64 qdb,.u64 qdc,.u64 qdd,.u64 qde]]] (by kernel_rfl) (by kernel_rfl) hden
def qQO (ea eb ec ed ee fa fb fc fd fe ga gb gc gd ge ha hb hc hd he:UInt64) (w:World) (R:RW):Prop:=
 aI prog (Instr.box 121 (e5 ea eb ec ed ee)) w fun v w1=>∃ e:Option Addr,v=(.pointer e)∧aI prog (Instr.box 121 (e5 fa fb fc fd fe)) w1 fun v1 w2=>∃ f:Option Addr,v1=(.pointer f)∧aI prog (Instr.box 121 (e5 ga gb gc gd ge)) w2 fun v2 w3=>∃ g:Option Addr,v2=(.pointer g)∧aI prog (Instr.box 121 (e5 ha hb hc hd he)) w3 fun v3 w4=>∃ h:Option Addr,v3=(.pointer h)∧aI prog (Instr.alloc 123 true (.tuple #[])) w4 fun v4 w5=>∃ x:Option Addr,v4=(.pointer x)∧∃ sx:World→Prop,sx w5.drew∧aA e fun a=>∃ xa xb xc xd xe:UInt64,(∀ w',sx w'→Rd w' a (l5 xa xb xc xd xe))∧aA f fun a1=>∃ xa1 xb1 xc1 xd1 xe1:UInt64,(∀ w',sx w'→Rd w' a1 (l5 xa1 xb1 xc1 xd1 xe1))∧aA g fun a2=>∃ xa2 xb2 xc2 xd2 xe2:UInt64,(∀ w',sx w'→Rd w' a2 (l5 xa2 xb2 xc2 xd2 xe2))∧aA h fun a3=>∃ xa3 xb3 xc3 xd3 xe3:UInt64,(∀ w',sx w'→Rd w' a3 (l5 xa3 xb3 xc3 xd3 xe3))∧aA f fun a4=>∃ xa4 xb4 xc4 xd4 xe4:UInt64,(∀ w',sx w'→Rd w' a4 (l5 xa4 xb4 xc4 xd4 xe4))∧aA g fun a5=>∃ xa5 xb5 xc5 xd5 xe5:UInt64,(∀ w',sx w'→Rd w' a5 (l5 xa5 xb5 xc5 xd5 xe5))∧aA e fun a6=>∃ xa6 xb6 xc6 xd6 xe6:UInt64,(∀ w',sx w'→Rd w' a6 (l5 xa6 xb6 xc6 xd6 xe6))∧aA h fun a7=>∃ xa7 xb7 xc7 xd7 xe7:UInt64,(∀ w',sx w'→Rd w' a7 (l5 xa7 xb7 xc7 xd7 xe7))∧((aD prog 128 [e5 xa xb xc xd xe,e5 xa1 xb1 xc1 xd1 xe1] w5.drew (aG R) fun v5 w6=>∃ xa8 xb8 xc8 xd8 xe8:UInt64,v5=(e5 xa8 xb8 xc8 xd8 xe8)∧(sx w6∧((aD prog 128 [e5 xa2 xb2 xc2 xd2 xe2,e5 xa3 xb3 xc3 xd3 xe3] w6 (aG R) fun v6 w7=>∃ xa9 xb9 xc9 xd9 xe9:UInt64,v6=(e5 xa9 xb9 xc9 xd9 xe9)∧(sx w7∧((aD prog 128 [e5 xa4 xb4 xc4 xd4 xe4,e5 xa5 xb5 xc5 xd5 xe5] w7 (aG R) fun v7 w8=>∃ xa10 xb10 xc10 xd10 xe10:UInt64,v7=(e5 xa10 xb10 xc10 xd10 xe10)∧(sx w8∧((aD prog 128 [e5 xa6 xb6 xc6 xd6 xe6,e5 xa7 xb7 xc7 xd7 xe7] w8 (aG R) fun v8 w9=>∃ xa11 xb11 xc11 xd11 xe11:UInt64,v8=(e5 xa11 xb11 xc11 xd11 xe11)∧(sx w9∧((aA x fun a8=>aJ prog (storeVar 123 a8 (e20 xa8 xb8 xc8 xd8 xe8 xa9 xb9 xc9 xd9 xe9 xa10 xb10 xc10 xd10 xe10 xa11 xb11 xc11 xd11 xe11)) w9 fun w10=>aA x fun a9=>∃ xaa xab xac xad xae xba xbb xbc xbd xbe xca xcb xcc xcd xce xda xdb xdc xdd xde:UInt64,Rd w10 a9 (l20 xaa xab xac xad xae xba xbb xbc xbd xbe xca xcb xcc xcd xce xda xdb xdc xdd xde)∧R (.returned (e20 xaa xab xac xad xae xba xbb xbc xbd xbe xca xcb xcc xcd xce xda xdb xdc xdd xde)) w10)∧True)))∧True)))∧True)))∧True)))∧True)
theorem qNL (ea eb ec ed ee fa fb fc fd fe ga gb gc gd ge ha hb hc hd he:UInt64) {w:World} {R:RW} (hden:qQO ea eb ec ed ee fa fb fc fd fe ga gb gc gd ge ha hb hc hd he w R):Calls prog 187 #[e5 ea eb ec ed ee,e5 fa fb fc fd fe,e5 ga gb gc gd ge,e5 ha hb hc hd he] w R:=
 aB (q0 .z (q0 (.draw 1 (.take 0 (.take 1 (.take 3 (.take 4 (.take 6 (.take 7 (.take 9 (.take 10 (.all [(2,(.all [(5,(.all [(8,(.all [(11,(.take 12 (.all [(13,.done)])))]))]))]))])))))))))) .z)) func187 (by kernel_rfl) [.agg [.u64 ea,.u64 eb,.u64 ec,.u64 ed,.u64 ee],.agg [.u64 fa,.u64 fb,.u64 fc,.u64 fd,.u64 fe],.agg [.u64 ga,.u64 gb,.u64 gc,.u64 gd,.u64 ge],.agg [.u64 ha,.u64 hb,.u64 hc,.u64 hd,.u64 he]] (by kernel_rfl) (by kernel_rfl) hden
def qRG (w:World) (R:RW):Prop:=
 aI prog (Instr.alloc 123 true (.tuple #[])) w fun v w1=>∃ x:Option Addr,v=(.pointer x)∧aD prog 180 [] w1 (aG R) fun v1 w2=>∃ xa xb xc xd xe:UInt64,v1=(e5 xa xb xc xd xe)∧aD prog 180 [] w2 (aG R) fun v2 w3=>∃ xa1 xb1 xc1 xd1 xe1:UInt64,v2=(e5 xa1 xb1 xc1 xd1 xe1)∧aA x fun a=>aJ prog (storeVar 123 a (.agg #[.int .u64 ((0:UInt64)).toNat,.int .u64 ((0:UInt64)).toNat,.int .u64 ((0:UInt64)).toNat,.int .u64 ((0:UInt64)).toNat,.int .u64 ((0:UInt64)).toNat,.int .u64 xa.toNat,.int .u64 xb.toNat,.int .u64 xc.toNat,.int .u64 xd.toNat,.int .u64 xe.toNat,.int .u64 xa1.toNat,.int .u64 xb1.toNat,.int .u64 xc1.toNat,.int .u64 xd1.toNat,.int .u64 xe1.toNat,.int .u64 ((0:UInt64)).toNat,.int .u64 ((0:UInt64)).toNat,.int .u64 ((0:UInt64)).toNat,.int .u64 ((0:UInt64)).toNat,.int .u64 ((0:UInt64)).toNat])) w3 fun w4=>aA x fun a1=>∃ xaa xab xac xad xae xba xbb xbc xbd xbe xca xcb xcc xcd xce xda xdb xdc xdd xde:UInt64,Rd w4 a1 (l20 xaa xab xac xad xae xba xbb xbc xbd xbe xca xcb xcc xcd xce xda xdb xdc xdd xde)∧R (.returned (e20 xaa xab xac xad xae xba xbb xbc xbd xbe xca xcb xcc xcd xce xda xdb xdc xdd xde)) w4
theorem qJK {w:World} {R:RW} (hden:qRG w R):Calls prog 130 #[] w R:=
 aB (q0 .z (q0 .z .z)) func130 (by kernel_rfl) [] (by kernel_rfl) (by kernel_rfl) hden
def RG (w:World) (v:Value) (w':World):Prop:=∃ (a b c d e:UInt64) (t:Bool),v = .tuple #[e5 a b c d e,.bool t]∧Mod NoB w w'
theorem qSX {Z:Nat→Prop} {w0 w:World} {L:List (Nat×Nat×Bool)} {g:FuncId} {args:List Value} {pan:List PanicEntry→World→Prop} {K:UInt64→UInt64→UInt64→UInt64→UInt64→Bool→World→Prop} (hc:Calls prog g args.toArray w (Ret (RG w))) (h:J Z w0 L w) (hK : ∀ a b c d e t w',J Z w0 L w'→Mod NoB w w'→K a b c d e t w') :
 aD prog g args w pan fun v w'=>∃ a:UInt64,∃ b:UInt64,∃ c:UInt64,∃ d:UInt64,∃ e:UInt64,∃ t:Bool,v = .tuple #[e5 a b c d e,.bool t]∧K a b c d e t w':=
 aC hc fun v w' ⟨a,b,c,d,e,t,hv,hm⟩=>⟨a,b,c,d,e,t,hv,hK _ _ _ _ _ _ _ (h.mod hm) hm⟩
theorem qXX {Z:Nat→Prop} {w0 w:World} {L:List (Nat×Nat×Bool)} {p:Nat} {i:Int} {pan:List PanicEntry→World→Prop} {K:Bool→World→Prop} (hJ:J Z w0 L w) (hp:(p,1,true)∈L) (hi:0≤i) (hK : ∀ b,K b w) :
 aD prog 226 [.int .i64 i,.pointer (some ⟨p,0,none⟩)] w pan fun v w'=>∃ b:Bool,v = .bool b∧K b w':=
 aC (qFE hJ hp hi) fun v w' ⟨b,hv,hw⟩=>⟨b,hv,by rw [hw]; exact hK b⟩
def R32 (w:World) (v:Value) (w':World):Prop:=∃ (b:Nat) (l:List UInt8),v = .slice (some ⟨b,0,none⟩) 32 32∧l.length=32∧Blk w' b (bys l) 5∧w.heap.size≤b∧Mod NoB w w'
theorem jCJ {w:World} {a:Addr} {n c:Nat} {l:List UInt8} {i:Int} (h:aL w ⟨some a,n,c⟩ 1 (bys l)) (hi:0≤i∧i<n) {K:UInt8→Prop} (hK : ∀ x,K x) : ∃ x:UInt8,(∀ w',Mod NoB w w'→Rd w' (a.add (i.toNat*1)) [.int .u8 x.toNat])∧K x:=by
 have hl:=aW h
 simp only [] at hl
 obtain ⟨a',e,hr⟩:=gU h (i:=i.toNat) (by omega)
 cases e
 exact ⟨_,fun w' hm=>hr.mod hm fun h=>h,hK _⟩
section
variable {w:World} {a b c d e a' b' c' d' e':UInt64}
theorem qAV {n:Int} {less:UInt64} (hn:0≤n∧n≤1000):Calls prog 174 #[e5 a b c d e,.int .i64 n,.int .u64 less.toNat] w (Ret (RE w)):=by
 refine qNV _ _ _ _ _ _ _ ?_
 unfold qUK
 have hJ0:=J.start w
 rw [wrap_i64 (show -9223372036854775808≤n - 1∧n - 1≤9223372036854775807 by omega)]
 repeat' (first | (refine fW (by assumption) fun p w' hJ hM=>?_) | (refine jBY (by assumption) fun p w' hJ hM=>?_) | (refine bU (by first | exact zi5 | exact zi2 | exact mI | exact kJ) (by assumption) fun p w' hJ hM=>?_) | (refine iQ (by assumption) (by (try simp only [aK,add0,Nat.zero_add]); rfl) (by (repeat first | exact List.mem_cons_self | assumption | apply List.mem_cons_of_mem); first | done | fail) (by first | omega | (simp only []; omega)) fun a b c d e=>?_) | (refine iW (by assumption) (by (try simp only [aK,add0,Nat.zero_add]); rfl) (by (repeat first | exact List.mem_cons_self | assumption | apply List.mem_cons_of_mem); first | done | fail) (by kernel_rfl) (by kernel_rfl) (by omega) fun w' hJ hT=>?_) | (refine cG qIM (by assumption) fun a b c d e w' hJ hM=>?_) | (refine cG nI (by assumption) fun a b c d e w' hJ hM=>?_) | (refine cG qV (by assumption) fun a b c d e w' hJ hM=>?_) | (refine qXX (by assumption) (by (repeat first | exact List.mem_cons_self | apply List.mem_cons_of_mem); first | done | fail) (by omega) fun t=>?_) | (refine qWS 1000 (by assumption) (by omega) fun x w' hi hJ=>?_) | exact ⟨_,_,_,_,_,rfl,J.m (by assumption)⟩ | (refine aE (fun hb=>?_) fun hb=>?_ <;> try simp at hb) | exact jBQ (by assumption) (by intro q hq; (repeat first | exact hq | apply List.mem_cons_of_mem); first | done | fail) (by omega) (by omega) | (simp (disch:=omega) only [wrap_i64]))
theorem qHZ:Calls prog 126 #[e5 a b c d e] w (Ret (RE w)):=by
 refine qLC _ _ _ _ _ ?_
 unfold qTU
 have hJ0:=J.start w
 repeat' (first | (refine fW (by assumption) fun p w' hJ hM=>?_) | (refine bU (by first | exact zi5 | exact zi2 | exact mI | exact kJ) (by assumption) fun p w' hJ hM=>?_) | (refine iQ (by assumption) (by (try simp only [aK,add0,Nat.zero_add]); rfl) (by (repeat first | exact List.mem_cons_self | assumption | apply List.mem_cons_of_mem); first | done | fail) (by first | omega | (simp only []; omega)) fun a b c d e=>?_) | (refine iW (by assumption) (by (try simp only [aK,add0,Nat.zero_add]); rfl) (by (repeat first | exact List.mem_cons_self | assumption | apply List.mem_cons_of_mem); first | done | fail) (by kernel_rfl) (by kernel_rfl) (by omega) fun w' hJ hT=>?_) | (refine cG (qAV (by omega)) (by assumption) fun a b c d e w' hJ hM=>?_) | exact ⟨_,_,_,_,_,rfl,J.m (by assumption)⟩)
theorem qQB:Calls prog 129 #[e5 a b c d e] w (Ret (RB1 w)):=by
 refine qJD _ _ _ _ _ ?_
 unfold qSB
 have hJ0:=J.start w
 repeat' (first | (refine fW (by assumption) fun p w' hJ hM=>?_) | (refine iQ (by assumption) (by (try simp only [aK,add0,Nat.zero_add]); rfl) (by (repeat first | exact List.mem_cons_self | assumption | apply List.mem_cons_of_mem); first | done | fail) (by first | omega | (simp only []; omega)) fun a b c d e=>?_) | (refine cG fV (by assumption) fun a b c d e w' hJ hM=>?_) | (refine And.intro (by intro z hz; simp only [List.mem_cons,List.not_mem_nil,or_false] at hz; rcases hz with rfl | rfl | rfl | rfl | rfl <;> rfl) ?_) | (refine ⟨_,rfl,?_⟩) | (refine And.intro (by first | omega | (simp only []; omega)) ?_) | assumption | (refine Mod.tr ?_ (by assumption)))
theorem qWU:Calls prog 231 #[e5 a b c d e,e5 a' b' c' d' e'] w (Ret (RB1 w)):=by
 refine qMI _ _ _ _ _ _ _ _ _ _ ?_
 unfold qRW
 have hJ0:=J.start w
 repeat' (first | (refine fW (by assumption) fun p w' hJ hM=>?_) | (refine nE (by assumption) (by (try simp only [aK,add0,Nat.zero_add]); rfl) (by (repeat first | exact List.mem_cons_self | assumption | apply List.mem_cons_of_mem); first | done | fail) (by first | omega | (simp only []; omega)) fun a b c d e=>?_) | (refine cG fV (by assumption) fun a b c d e w' hJ hM=>?_) | (refine eqJ (.inl rfl) fun t=>?_) | exact ⟨_,rfl,J.m (by assumption)⟩ | (refine And.intro ?_ trivial) | (refine And.intro (by first | omega | (simp only []; omega)) ?_) | (refine dN (by assumption) fun hJ=>?_) | (refine And.intro (by (repeat first | assumption | exact Mod.refl _ _ | refine Mod.tr ?_ (by assumption) | refine Mod.fresh ?_ (by assumption) (by rintro x rfl; assumption)); first | done | fail) ?_))
theorem qUN:Calls prog 192 #[e5 a b c d e] w (Ret (RB1 w)):=by
 refine qPP _ _ _ _ _ ?_
 unfold qQJ
 have hJ0:=J.start w
 repeat' (first | (refine fW (by assumption) fun p w' hJ hM=>?_) | (refine iQ (by assumption) (by (try simp only [aK,add0,Nat.zero_add]); rfl) (by (repeat first | exact List.mem_cons_self | assumption | apply List.mem_cons_of_mem); first | done | fail) (by first | omega | (simp only []; omega)) fun a b c d e=>?_) | (refine cG fV (by assumption) fun a b c d e w' hJ hM=>?_) | (refine eqJ (.inl rfl) fun t=>?_) | exact ⟨_,rfl,J.m (by assumption)⟩)
theorem jEY {x:Slc} {l:List UInt8} (hx:aL w x 1 (bys l)):Calls prog 190 #[.slice x.a x.len x.cap] w (Ret (RG w)):=by
 refine qME _ ?_
 unfold qSH
 have hJ0:=J.start w
 refine bU zi5 hJ0 fun p w1 hJ1 hM=>?_
 refine bU zi5 hJ1 fun q w2 hJ2 hM=>?_
 refine aE (fun _=>?_) fun hb=>?_
 ·skip
  repeat' (first | (refine iQ (by assumption) (by (try simp only [aK,add0,Nat.zero_add]); rfl) (by (repeat first | exact List.mem_cons_self | assumption | apply List.mem_cons_of_mem); first | done | fail) (by first | omega | (simp only []; omega)) fun a b c d e=>?_) | (refine iW (by assumption) (by (try simp only [aK,add0,Nat.zero_add]); rfl) (by (repeat first | exact List.mem_cons_self | assumption | apply List.mem_cons_of_mem); first | done | fail) (by kernel_rfl) (by kernel_rfl) (by omega) fun w' hJ hT=>?_) | exact ⟨_,_,_,_,_,_,rfl,J.m (by assumption)⟩)
 ·have hb:x.len=32:=by have:=hb; simp at this; omega
  obtain ⟨xa,xl,xc⟩:=x
  simp only [] at hb
  subst hb
  obtain ⟨A,hA,_⟩:=gU hx (i:=0) (by have:=aW hx; simp only [] at this; omega)
  simp only [] at hA
  subst hA
  refine yH 255 (by assumption) (by omega) fun x w' hi hJ=>?_
  have hx':aL w'.drew ⟨some A,32,xc⟩ 1 (bys l):=hx.mod hJ.drew.m fun _ _ h=>h
  refine aE (fun hb=>?_) fun hb=>?_
  ·simp at hb
   have e8:IntKind.i64.wrap (Int.tdiv x 8)=x / 8:=by rw [Int.tdiv_eq_ediv_of_nonneg (by omega),wrap_i64 (by omega)]
   have e51:IntKind.i64.wrap (Int.tdiv x 51)=x / 51:=by rw [Int.tdiv_eq_ediv_of_nonneg (by omega),wrap_i64 (by omega)]
   rw [e8,e51]
   repeat' (first | (refine gV (by assumption) (by (repeat first | exact List.mem_cons_self | assumption | apply List.mem_cons_of_mem); first | done | fail) (by first | omega | (simp only []; omega)) fun x=>?_) | (refine oU (by assumption) (by (repeat first | exact List.mem_cons_self | assumption | apply List.mem_cons_of_mem); first | done | fail) (by omega) (by kernel_rfl) (by kernel_rfl) fun w' hJ hT=>?_) | (refine jCJ (by assumption) (by omega) fun y=>?_) | (refine And.intro ?_ trivial) | (refine And.intro (Int.tmod_nonneg _ (by omega)) ?_) | (refine And.intro (by first | omega | (simp only []; omega)) ?_) | (refine dN (by assumption) fun hJ=>?_) | exact qIO (by assumption) (by intro q hq; (repeat first | exact hq | apply List.mem_cons_of_mem); first | done | fail) (by omega) (by omega) | (simp (disch:=omega) only [wrap_i64]))
  ·skip
   repeat' (first | (refine iQ (by assumption) (by (try simp only [aK,add0,Nat.zero_add]); rfl) (by (repeat first | exact List.mem_cons_self | assumption | apply List.mem_cons_of_mem); first | done | fail) (by first | omega | (simp only []; omega)) fun a b c d e=>?_) | (refine nE (by assumption) (by (try simp only [aK,add0,Nat.zero_add]); rfl) (by (repeat first | exact List.mem_cons_self | assumption | apply List.mem_cons_of_mem); first | done | fail) (by first | omega | (simp only []; omega)) fun a b c d e=>?_) | (refine iW (by assumption) (by (try simp only [aK,add0,Nat.zero_add]); rfl) (by (repeat first | exact List.mem_cons_self | assumption | apply List.mem_cons_of_mem); first | done | fail) (by kernel_rfl) (by kernel_rfl) (by omega) fun w' hJ hT=>?_) | (refine jCJ (by assumption) (by omega) fun y=>?_) | (refine cG fV (by assumption) fun a b c d e w' hJ hM=>?_) | (refine qEW (by assumption) ?_ ?_) | (refine fun (_:Bool) (w:World) (hJ:J _ _ _ w)=>?_) | (refine eqJ (.inr rfl) fun t=>?_) | (exact J.sub (by assumption) (by intro q hq; first | exact hq | (apply List.mem_cons_of_mem; exact hq))) | exact ⟨_,_,_,_,_,_,rfl,J.m (by assumption)⟩ | (refine aE (fun hb=>?_) fun hb=>?_ <;> try simp at hb) | (refine And.intro ?_ trivial) | (refine And.intro (Int.natCast_nonneg _) ?_) | (refine And.intro (by first | omega | (simp only []; omega)) ?_) | (refine dN (by assumption) fun hJ=>?_) | (refine And.intro (by (repeat first | assumption | exact Mod.refl _ _ | refine Mod.tr ?_ (by assumption) | refine Mod.fresh ?_ (by assumption) (by rintro x rfl; assumption)); first | done | fail) ?_))
end
theorem qTF {l:List UInt64} (h:l.length=20) : ∃ x0:UInt64,∃ x1:UInt64,∃ x2:UInt64,∃ x3:UInt64,∃ x4:UInt64,∃ x5:UInt64,∃ x6:UInt64,∃ x7:UInt64,∃ x8:UInt64,∃ x9:UInt64,∃ x10:UInt64,∃ x11:UInt64,∃ x12:UInt64,∃ x13:UInt64,∃ x14:UInt64,∃ x15:UInt64,∃ x16:UInt64,∃ x17:UInt64,∃ x18:UInt64,∃ x19:UInt64,l=[x0,x1,x2,x3,x4,x5,x6,x7,x8,x9,x10,x11,x12,x13,x14,x15,x16,x17,x18,x19]:=by
 match l,h with
 | [x0,x1,x2,x3,x4,x5,x6,x7,x8,x9,x10,x11,x12,x13,x14,x15,x16,x17,x18,x19],_=>exact ⟨x0,x1,x2,x3,x4,x5,x6,x7,x8,x9,x10,x11,x12,x13,x14,x15,x16,x17,x18,x19,rfl⟩
def RP (w:World) (v:Value) (w':World):Prop:=∃ x0:UInt64,∃ x1:UInt64,∃ x2:UInt64,∃ x3:UInt64,∃ x4:UInt64,∃ x5:UInt64,∃ x6:UInt64,∃ x7:UInt64,∃ x8:UInt64,∃ x9:UInt64,∃ x10:UInt64,∃ x11:UInt64,∃ x12:UInt64,∃ x13:UInt64,∃ x14:UInt64,∃ x15:UInt64,∃ x16:UInt64,∃ x17:UInt64,∃ x18:UInt64,∃ x19:UInt64,v=e20 x0 x1 x2 x3 x4 x5 x6 x7 x8 x9 x10 x11 x12 x13 x14 x15 x16 x17 x18 x19∧Mod NoB w w'
def RPB (w:World) (v:Value) (w':World):Prop:=∃ x0:UInt64,∃ x1:UInt64,∃ x2:UInt64,∃ x3:UInt64,∃ x4:UInt64,∃ x5:UInt64,∃ x6:UInt64,∃ x7:UInt64,∃ x8:UInt64,∃ x9:UInt64,∃ x10:UInt64,∃ x11:UInt64,∃ x12:UInt64,∃ x13:UInt64,∃ x14:UInt64,∃ x15:UInt64,∃ x16:UInt64,∃ x17:UInt64,∃ x18:UInt64,∃ x19:UInt64,∃ t:Bool,v = .tuple #[e20 x0 x1 x2 x3 x4 x5 x6 x7 x8 x9 x10 x11 x12 x13 x14 x15 x16 x17 x18 x19,.bool t]∧Mod NoB w w'
theorem kJ:ZI prog 123 20:=by
 obtain ⟨i,h1,h2,_,_⟩:=bM (P:=prog) (T:=123) (z:=.agg #[.int .u64 0,.int .u64 0,.int .u64 0,.int .u64 0,.int .u64 0,.int .u64 0,.int .u64 0,.int .u64 0,.int .u64 0,.int .u64 0,.int .u64 0,.int .u64 0,.int .u64 0,.int .u64 0,.int .u64 0,.int .u64 0,.int .u64 0,.int .u64 0,.int .u64 0,.int .u64 0]) (n:=20) (m:=160) (by kernel_rfl) (by kernel_rfl) (by kernel_rfl)
 exact ⟨i,_,h1,h2,rfl⟩
theorem jAS:ZI prog 186 20:=by
 obtain ⟨i,h1,h2,_,_⟩:=bM (P:=prog) (T:=186) (z:=.agg #[.int .u64 0,.int .u64 0,.int .u64 0,.int .u64 0,.int .u64 0,.int .u64 0,.int .u64 0,.int .u64 0,.int .u64 0,.int .u64 0,.int .u64 0,.int .u64 0,.int .u64 0,.int .u64 0,.int .u64 0,.int .u64 0,.int .u64 0,.int .u64 0,.int .u64 0,.int .u64 0]) (n:=20) (m:=160) (by kernel_rfl) (by kernel_rfl) (by kernel_rfl)
 exact ⟨i,_,h1,h2,rfl⟩
section
variable {Z:Nat→Prop} {w0 w w':World} {L:List (Nat×Nat×Bool)} {t:Bool} {p n:Nat} {A:Addr} {T:TypeId} {K:World→Prop}
theorem pD (hJ:J Z w0 L w) {o:Nat} (hA:A=⟨p,o,none⟩) (hp:(p,n,t)∈L) (ho:o+20≤n) {K:UInt64→UInt64→UInt64→UInt64→UInt64→UInt64→UInt64→UInt64→UInt64→UInt64→UInt64→UInt64→UInt64→UInt64→UInt64→UInt64→UInt64→UInt64→UInt64→UInt64→Prop} (hK : ∀ x0 x1 x2 x3 x4 x5 x6 x7 x8 x9 x10 x11 x12 x13 x14 x15 x16 x17 x18 x19,K x0 x1 x2 x3 x4 x5 x6 x7 x8 x9 x10 x11 x12 x13 x14 x15 x16 x17 x18 x19) : ∃ x0:UInt64,∃ x1:UInt64,∃ x2:UInt64,∃ x3:UInt64,∃ x4:UInt64,∃ x5:UInt64,∃ x6:UInt64,∃ x7:UInt64,∃ x8:UInt64,∃ x9:UInt64,∃ x10:UInt64,∃ x11:UInt64,∃ x12:UInt64,∃ x13:UInt64,∃ x14:UInt64,∃ x15:UInt64,∃ x16:UInt64,∃ x17:UInt64,∃ x18:UInt64,∃ x19:UInt64,Rd w A (l20 x0 x1 x2 x3 x4 x5 x6 x7 x8 x9 x10 x11 x12 x13 x14 x15 x16 x17 x18 x19)∧K x0 x1 x2 x3 x4 x5 x6 x7 x8 x9 x10 x11 x12 x13 x14 x15 x16 x17 x18 x19:=by
 obtain ⟨m,h1,h2⟩:=hJ.rd hp (k:=20) ho
 obtain ⟨x0,x1,x2,x3,x4,x5,x6,x7,x8,x9,x10,x11,x12,x13,x14,x15,x16,x17,x18,x19,rfl⟩:=qTF h1
 subst hA
 exact ⟨x0,x1,x2,x3,x4,x5,x6,x7,x8,x9,x10,x11,x12,x13,x14,x15,x16,x17,x18,x19,h2 w (Mod.refl _ _),hK _ _ _ _ _ _ _ _ _ _ _ _ _ _ _ _ _ _ _ _⟩
theorem nA {x0 x1 x2 x3 x4 x5 x6 x7 x8 x9 x10 x11 x12 x13 x14 x15 x16 x17 x18 x19:UInt64} (hJ:J Z w0 L w) {o:Nat} (hA:A=⟨p,o,none⟩) (hp:(p,n,true)∈L) (hi:(prog.info? T).isSome=true) (hsz:bF prog T=20) (ho:o+20≤n) (hK : ∀ w',J Z w0 L w'→Mod (fun x=>x=p) w w'→K w') :
 aJ prog (storeVar T A (e20 x0 x1 x2 x3 x4 x5 x6 x7 x8 x9 x10 x11 x12 x13 x14 x15 x16 x17 x18 x19)) w K:=stJ [x0,x1,x2,x3,x4,x5,x6,x7,x8,x9,x10,x11,x12,x13,x14,x15,x16,x17,x18,x19] hJ hA hp hi hsz rfl ho hK
theorem yZ {x0 x1 x2 x3 x4 x5 x6 x7 x8 x9 x10 x11 x12 x13 x14 x15 x16 x17 x18 x19:UInt64} (h:J Z w0 L w) {K:Option Addr→World→Prop} (hK : ∀ p w',J Z w0 ((p,20,true) :: L) w'→Mod NoB w w'→K (some ⟨p,0,none⟩) w') :
 aI prog (Instr.box T (e20 x0 x1 x2 x3 x4 x5 x6 x7 x8 x9 x10 x11 x12 x13 x14 x15 x16 x17 x18 x19)) w fun v w'=>∃ a:Option Addr,v = .pointer a∧K a w':=qJX [x0,x1,x2,x3,x4,x5,x6,x7,x8,x9,x10,x11,x12,x13,x14,x15,x16,x17,x18,x19] h rfl rfl hK
theorem qHO {g:FuncId} {args:List Value} {pan:List PanicEntry→World→Prop} {K:UInt64→UInt64→UInt64→UInt64→UInt64→UInt64→UInt64→UInt64→UInt64→UInt64→UInt64→UInt64→UInt64→UInt64→UInt64→UInt64→UInt64→UInt64→UInt64→UInt64→World→Prop} (hc:Calls prog g args.toArray w (Ret (RP w))) (h:J Z w0 L w) (hK : ∀ x0 x1 x2 x3 x4 x5 x6 x7 x8 x9 x10 x11 x12 x13 x14 x15 x16 x17 x18 x19 w',J Z w0 L w'→Mod NoB w w'→K x0 x1 x2 x3 x4 x5 x6 x7 x8 x9 x10 x11 x12 x13 x14 x15 x16 x17 x18 x19 w') :
 aD prog g args w pan fun v w'=>∃ x0:UInt64,∃ x1:UInt64,∃ x2:UInt64,∃ x3:UInt64,∃ x4:UInt64,∃ x5:UInt64,∃ x6:UInt64,∃ x7:UInt64,∃ x8:UInt64,∃ x9:UInt64,∃ x10:UInt64,∃ x11:UInt64,∃ x12:UInt64,∃ x13:UInt64,∃ x14:UInt64,∃ x15:UInt64,∃ x16:UInt64,∃ x17:UInt64,∃ x18:UInt64,∃ x19:UInt64,v=e20 x0 x1 x2 x3 x4 x5 x6 x7 x8 x9 x10 x11 x12 x13 x14 x15 x16 x17 x18 x19∧K x0 x1 x2 x3 x4 x5 x6 x7 x8 x9 x10 x11 x12 x13 x14 x15 x16 x17 x18 x19 w':=
 aC hc fun v w' ⟨x0,x1,x2,x3,x4,x5,x6,x7,x8,x9,x10,x11,x12,x13,x14,x15,x16,x17,x18,x19,hv,hm⟩=>⟨x0,x1,x2,x3,x4,x5,x6,x7,x8,x9,x10,x11,x12,x13,x14,x15,x16,x17,x18,x19,hv,hK _ _ _ _ _ _ _ _ _ _ _ _ _ _ _ _ _ _ _ _ _ (h.mod hm) hm⟩
theorem qXK {g:FuncId} {args:List Value} {pan:List PanicEntry→World→Prop} {K:UInt64→UInt64→UInt64→UInt64→UInt64→UInt64→UInt64→UInt64→UInt64→UInt64→UInt64→UInt64→UInt64→UInt64→UInt64→UInt64→UInt64→UInt64→UInt64→UInt64→Bool→World→Prop} (hc:Calls prog g args.toArray w (Ret (RPB w))) (h:J Z w0 L w) (hK : ∀ x0 x1 x2 x3 x4 x5 x6 x7 x8 x9 x10 x11 x12 x13 x14 x15 x16 x17 x18 x19 b w',J Z w0 L w'→Mod NoB w w'→K x0 x1 x2 x3 x4 x5 x6 x7 x8 x9 x10 x11 x12 x13 x14 x15 x16 x17 x18 x19 b w') :
 aD prog g args w pan fun v w'=>∃ x0:UInt64,∃ x1:UInt64,∃ x2:UInt64,∃ x3:UInt64,∃ x4:UInt64,∃ x5:UInt64,∃ x6:UInt64,∃ x7:UInt64,∃ x8:UInt64,∃ x9:UInt64,∃ x10:UInt64,∃ x11:UInt64,∃ x12:UInt64,∃ x13:UInt64,∃ x14:UInt64,∃ x15:UInt64,∃ x16:UInt64,∃ x17:UInt64,∃ x18:UInt64,∃ x19:UInt64,∃ b:Bool,v = .tuple #[e20 x0 x1 x2 x3 x4 x5 x6 x7 x8 x9 x10 x11 x12 x13 x14 x15 x16 x17 x18 x19,.bool b]∧K x0 x1 x2 x3 x4 x5 x6 x7 x8 x9 x10 x11 x12 x13 x14 x15 x16 x17 x18 x19 b w':=
 aC hc fun v w' ⟨x0,x1,x2,x3,x4,x5,x6,x7,x8,x9,x10,x11,x12,x13,x14,x15,x16,x17,x18,x19,b,hv,hm⟩=>⟨x0,x1,x2,x3,x4,x5,x6,x7,x8,x9,x10,x11,x12,x13,x14,x15,x16,x17,x18,x19,b,hv,hK _ _ _ _ _ _ _ _ _ _ _ _ _ _ _ _ _ _ _ _ _ _ (h.mod hm) hm⟩
end
section
variable {w:World} {a b c d e a' b' c' d' e':UInt64}
theorem qUP:Calls prog 127 #[e5 a b c d e] w (Ret (R32 w)):=by
 refine qLT _ _ _ _ _ ?_
 unfold qTZ
 have hJ0:=J.start w
 obtain ⟨i5',h51,h52,h53,h54⟩:=i5
 refine fW hJ0 fun p w1 hJ1 hM=>?_
 refine iQ hJ1 (o:=0) rfl List.mem_cons_self (by omega) fun a b c d e=>?_
 refine cG fV hJ1 fun a b c d e w2 hJ2 hM=>?_
 refine iW hJ2 (o:=0) rfl List.mem_cons_self (by kernel_rfl) (by kernel_rfl) (by omega) fun w3 hJ3 hT=>?_
 refine cH u26 h51 h52 h53 rfl h54 (l:=32) (c:=32) rfl rfl (by omega) (by omega) (by omega) fun q w4 hN hb ho=>⟨⟨some ⟨q,0,none⟩,32,32⟩,rfl,?_⟩
 rw [jW] at hb
 have hJ4:=hJ3.mod hN.mod
 have hqs:w.heap.size≤q:=by have:=hN.at_; have:=hJ3.m.size; omega
 have hpq:p≠q:=by have:=hN.at_; have:=(hJ3.2 _ List.mem_cons_self).2.1; simp only [] at this; omega
 refine ⟨fun l w'=>match l with | [.i _ x]=>(0≤x∧x≤255)∧J NoB w [(p,5,true)] w'∧∃ l,l.length=32∧Blk w' q (bys l) 5 | _=>False,fun l _=>match l with | [.i _ x]=>(255 - x).toNat | _=>0,⟨by omega,hJ4,_,by simp,hb⟩,?_⟩
 rintro x w5 ⟨hi,hJ,l,hl,hbl⟩
 refine aE (fun hx=>?_) fun hx=>?_
 ·have hx:x<255:=by simpa using hx
  have e8:IntKind.i64.wrap (Int.tdiv x 8)=x / 8:=by rw [Int.tdiv_eq_ediv_of_nonneg (by omega),wrap_i64 (by omega)]
  have e51:IntKind.i64.wrap (Int.tdiv x 51)=x / 51:=by rw [Int.tdiv_eq_ediv_of_nonneg (by omega),wrap_i64 (by omega)]
  rw [e8,e51,wrap_i64 (show -9223372036854775808≤x+1∧x+1≤9223372036854775807 by omega)]
  refine dN hJ fun hJd=>?_
  refine ⟨by omega,⟨by omega,by simp only []; omega⟩,⟨by omega,⟨by omega,by omega⟩,?_⟩⟩
  refine ⟨by omega,by omega,?_⟩
  have hlt:(x / 8).toNat<l.length:=by omega
  refine ⟨_,fun w' hm=>rda (hbl.drew.no hm) (qG hlt),?_⟩
  refine gV hJd List.mem_cons_self (by omega) fun y=>?_
  refine ⟨Int.tmod_nonneg _ (by omega),Int.tmod_nonneg _ (by omega),⟨by omega,by simp only []; omega⟩,?_,trivial⟩
  refine iK (b:=q) (n:=(x / 8).toNat) (by kernel_rfl) (by kernel_rfl) rfl hbl.drew (by simpa [bys] using hlt) fun w6 ht hb6=>?_
  rw [fP] at hb6
  exact ⟨⟨by omega,hJd.other ht.mod (fun x e=>by subst e; exact hqs) (fun z hz e=>by simp at hz; subst hz; exact hpq e),_,by simp [hl],hb6⟩,by (try simp only []); omega⟩
 ·exact ⟨q,l,rfl,hl,hbl,hqs,hJ.m⟩
theorem qXJ:Calls prog 191 #[e5 a b c d e,e5 a' b' c' d' e'] w (Ret (RG w)):=by
 refine qKT _ _ _ _ _ _ _ _ _ _ ?_
 unfold qSK
 have hJ0:=J.start w
 repeat' (first | (refine fW (by assumption) fun p w' hJ hM=>?_) | (refine bU (by first | exact zi5 | exact zi2 | exact mI | exact kJ) (by assumption) fun p w' hJ hM=>?_) | (refine iQ (by assumption) (by (try simp only [aK,add0,Nat.zero_add]); rfl) (by (repeat first | exact List.mem_cons_self | assumption | apply List.mem_cons_of_mem); first | done | fail) (by first | omega | (simp only []; omega)) fun a b c d e=>?_) | (refine nE (by assumption) (by (try simp only [aK,add0,Nat.zero_add]); rfl) (by (repeat first | exact List.mem_cons_self | assumption | apply List.mem_cons_of_mem); first | done | fail) (by first | omega | (simp only []; omega)) fun a b c d e=>?_) | (refine iW (by assumption) (by (try simp only [aK,add0,Nat.zero_add]); rfl) (by (repeat first | exact List.mem_cons_self | assumption | apply List.mem_cons_of_mem); first | done | fail) (by kernel_rfl) (by kernel_rfl) (by omega) fun w' hJ hT=>?_) | (refine cG qV (by assumption) fun a b c d e w' hJ hM=>?_) | (refine cG nI (by assumption) fun a b c d e w' hJ hM=>?_) | (refine cG qFA (by assumption) fun a b c d e w' hJ hM=>?_) | (refine cG (qAV (by omega)) (by assumption) fun a b c d e w' hJ hM=>?_) | (refine qBF qWU (by assumption) fun t w' hJ hM=>?_) | (refine qBF qQB (by assumption) fun t w' hJ hM=>?_) | (refine zW 5 (by assumption) ?_) | exact ⟨_,_,_,_,_,_,rfl,J.m (by assumption)⟩ | (refine aE (fun hb=>?_) fun hb=>?_ <;> try simp at hb) | (refine And.intro ?_ trivial) | (refine And.intro (by first | omega | (simp only []; omega)) ?_) | (refine dN (by assumption) fun hJ=>?_) | (refine And.intro (by (repeat first | assumption | exact Mod.refl _ _ | refine Mod.tr ?_ (by assumption) | refine Mod.fresh ?_ (by assumption) (by rintro x rfl; assumption)); first | done | fail) ?_) | (refine qAT (by assumption) (fun w hJ hM=>?_) ?_) | (refine qKB (by assumption) fun p w hJ hN hM=>?_) | (refine fun (_:TS _ _ _ _ _)=>?_) | (refine fun (_:UInt64)=>?_) | exact TS.ptr (by assumption) | assumption | (refine Mod.tr ?_ (by assumption)) | (simp (disch:=omega) only [wrap_i64]) | (refine qEW (by assumption) ?_ ?_) | (refine fun (w:World) (hJ:J _ _ _ w)=>?_) | exact J.sub (by assumption) (by intro q hq; (repeat first | exact hq | apply List.mem_cons_of_mem); first | done | fail))
theorem qOB:Calls prog 130 #[] w (Ret (RP w)):=by
 refine qJK ?_
 unfold qRG
 have hJ0:=J.start w
 repeat' (first | (refine bU (by first | exact zi5 | exact zi2 | exact mI | exact kJ) (by assumption) fun p w' hJ hM=>?_) | (refine cG qIM (by assumption) fun a b c d e w' hJ hM=>?_) | (refine pD (by assumption) (by (try simp only [aK,add0,Nat.zero_add]); rfl) (by (repeat first | exact List.mem_cons_self | assumption | apply List.mem_cons_of_mem); first | done | fail) (by omega) fun x0 x1 x2 x3 x4 x5 x6 x7 x8 x9 x10 x11 x12 x13 x14 x15 x16 x17 x18 x19=>?_) | (refine nA (by assumption) (by (try simp only [aK,add0,Nat.zero_add]); rfl) (by (repeat first | exact List.mem_cons_self | assumption | apply List.mem_cons_of_mem); first | done | fail) (by kernel_rfl) (by kernel_rfl) (by omega) fun w' hJ hT=>?_) | exact ⟨_,_,_,_,_,_,_,_,_,_,_,_,_,_,_,_,_,_,_,_,rfl,J.m (by assumption)⟩)
theorem qGM {x0 x1 x2 x3 x4 x5 x6 x7 x8 x9 x10 x11 x12 x13 x14 x15 x16 x17 x18 x19:UInt64} : Calls prog 187 #[e5 x0 x1 x2 x3 x4,e5 x5 x6 x7 x8 x9,e5 x10 x11 x12 x13 x14,e5 x15 x16 x17 x18 x19] w (Ret (RP w)):=by
 refine qNL _ _ _ _ _ _ _ _ _ _ _ _ _ _ _ _ _ _ _ _ ?_
 unfold qQO
 have hJ0:=J.start w
 repeat' (first | (refine fW (by assumption) fun p w' hJ hM=>?_) | (refine bU (by first | exact zi5 | exact zi2 | exact mI | exact kJ) (by assumption) fun p w' hJ hM=>?_) | (refine nE (by assumption) (by (try simp only [aK,add0,Nat.zero_add]); rfl) (by (repeat first | exact List.mem_cons_self | assumption | apply List.mem_cons_of_mem); first | done | fail) (by first | omega | (simp only []; omega)) fun a b c d e=>?_) | (refine cG qV (by assumption) fun a b c d e w' hJ hM=>?_) | (refine pD (by assumption) (by (try simp only [aK,add0,Nat.zero_add]); rfl) (by (repeat first | exact List.mem_cons_self | assumption | apply List.mem_cons_of_mem); first | done | fail) (by omega) fun x0 x1 x2 x3 x4 x5 x6 x7 x8 x9 x10 x11 x12 x13 x14 x15 x16 x17 x18 x19=>?_) | (refine nA (by assumption) (by (try simp only [aK,add0,Nat.zero_add]); rfl) (by (repeat first | exact List.mem_cons_self | assumption | apply List.mem_cons_of_mem); first | done | fail) (by kernel_rfl) (by kernel_rfl) (by omega) fun w' hJ hT=>?_) | exact ⟨_,_,_,_,_,_,_,_,_,_,_,_,_,_,_,_,_,_,_,_,rfl,J.m (by assumption)⟩ | (refine And.intro ?_ trivial) | (refine And.intro (by first | omega | (simp only []; omega)) ?_) | (refine dN (by assumption) fun hJ=>?_) | (refine And.intro (by (repeat first | assumption | exact Mod.refl _ _ | refine Mod.tr ?_ (by assumption) | refine Mod.fresh ?_ (by assumption) (by rintro x rfl; assumption)); first | done | fail) ?_))
end
section
variable {w w0:World} {s:Nat}
theorem qGV (hT:TB w (s,20)):Calls prog 133 #[.pointer (some ⟨s,0,none⟩)] w (Ret (RU s 20 w)):=by
 refine qKO _ ?_
 unfold qRX
 have hJ:J (fun x=>x=s) w [(s,20,true)] w:=⟨Mod.refl _ _,fun q hq=>by simp at hq; subst hq; exact ⟨fun _=>⟨.inl rfl,hT⟩,hT.r⟩⟩
 repeat' (first | (refine bU (by first | exact zi5 | exact zi2 | exact mI | exact kJ) (by assumption) fun p w' hJ hM=>?_) | (refine iQ (by assumption) (by (try simp only [aK,add0,Nat.zero_add]); rfl) (by (repeat first | exact List.mem_cons_self | assumption | apply List.mem_cons_of_mem); first | done | fail) (by first | omega | (simp only []; omega)) fun a b c d e=>?_) | (refine nE (by assumption) (by (try simp only [aK,add0,Nat.zero_add]); rfl) (by (repeat first | exact List.mem_cons_self | assumption | apply List.mem_cons_of_mem); first | done | fail) (by first | omega | (simp only []; omega)) fun a b c d e=>?_) | (refine iW (by assumption) (by (try simp only [aK,add0,Nat.zero_add]); rfl) (by (repeat first | exact List.mem_cons_self | assumption | apply List.mem_cons_of_mem); first | done | fail) (by kernel_rfl) (by kernel_rfl) (by omega) fun w' hJ hT=>?_) | (refine cG nI (by assumption) fun a b c d e w' hJ hM=>?_) | (refine cG qEH (by assumption) fun a b c d e w' hJ hM=>?_) | (refine cG qAJ (by assumption) fun a b c d e w' hJ hM=>?_) | (refine cG qFA (by assumption) fun a b c d e w' hJ hM=>?_) | (refine nA (by assumption) (by (try simp only [aK,add0,Nat.zero_add]); rfl) (by (repeat first | exact List.mem_cons_self | assumption | apply List.mem_cons_of_mem); first | done | fail) (by kernel_rfl) (by kernel_rfl) (by omega) fun w' hJ hT=>?_) | exact ⟨rfl,J.m (by assumption),J.tb (by assumption) (by (repeat first | exact List.mem_cons_self | assumption | apply List.mem_cons_of_mem); first | done | fail)⟩ | (refine zW 5 (by assumption) ?_) | (refine qHO qGM (by assumption) fun x0 x1 x2 x3 x4 x5 x6 x7 x8 x9 x10 x11 x12 x13 x14 x15 x16 x17 x18 x19 w' hJ hM=>?_) | (refine And.intro ?_ trivial) | (refine And.intro (by first | omega | (simp only []; omega)) ?_) | (refine dN (by assumption) fun hJ=>?_) | (refine And.intro (by (repeat first | assumption | exact Mod.refl _ _ | refine Mod.tr ?_ (by assumption) | refine Mod.fresh ?_ (by assumption) (by rintro x rfl; assumption)); first | done | fail) ?_) | (refine qAT (by assumption) (fun w hJ hM=>?_) ?_) | (refine qKB (by assumption) fun p w hJ hN hM=>?_) | (refine fun (hts:TS _ _ _ (Value.pointer _) _)=>?_; obtain ⟨p,rfl,hN,hT⟩:=hts; have hJ:=TS.add hT hN (by assumption) (by assumption); clear hT) | (refine fun (_:Option Addr)=>?_) | (refine fun (_:TS _ _ _ _ _)=>?_) | (refine fun (_:UInt64)=>?_) | exact TS.ptr (by assumption) | assumption | (refine Mod.tr ?_ (by assumption)))
theorem qWE {x0 x1 x2 x3 x4 x5 x6 x7 x8 x9 x10 x11 x12 x13 x14 x15 x16 x17 x18 x19:UInt64} (hT:TB w (s,20)) (hg:TR w (1,5)):Calls prog 134 #[.pointer (some ⟨s,0,none⟩),e20 x0 x1 x2 x3 x4 x5 x6 x7 x8 x9 x10 x11 x12 x13 x14 x15 x16 x17 x18 x19] w (Ret (RU s 20 w)):=by
 refine qMR _ _ _ _ _ _ _ _ _ _ _ _ _ _ _ _ _ _ _ _ _ ?_
 unfold qPS
 have hJ:J (fun x=>x=s) w [(s,20,true),(1,5,false)] w:=⟨Mod.refl _ _,fun q hq=>by
  simp at hq
  rcases hq with rfl | rfl
  ·exact ⟨fun _=>⟨.inl rfl,hT⟩,hT.r⟩
  ·exact ⟨fun h=>(by cases h),hg⟩⟩
 repeat' (first | (refine bU (by first | exact zi5 | exact zi2 | exact mI | exact kJ) (by assumption) fun p w' hJ hM=>?_) | (refine iQ (by assumption) (by (try simp only [aK,add0,Nat.zero_add]); rfl) (by (repeat first | exact List.mem_cons_self | assumption | apply List.mem_cons_of_mem); first | done | fail) (by first | omega | (simp only []; omega)) fun a b c d e=>?_) | (refine nE (by assumption) (by (try simp only [aK,add0,Nat.zero_add]); rfl) (by (repeat first | exact List.mem_cons_self | assumption | apply List.mem_cons_of_mem); first | done | fail) (by first | omega | (simp only []; omega)) fun a b c d e=>?_) | (refine iW (by assumption) (by (try simp only [aK,add0,Nat.zero_add]); rfl) (by (repeat first | exact List.mem_cons_self | assumption | apply List.mem_cons_of_mem); first | done | fail) (by kernel_rfl) (by kernel_rfl) (by omega) fun w' hJ hT=>?_) | (refine cG qV (by assumption) fun a b c d e w' hJ hM=>?_) | (refine cG qEH (by assumption) fun a b c d e w' hJ hM=>?_) | (refine cG qAJ (by assumption) fun a b c d e w' hJ hM=>?_) | (refine yZ (by assumption) fun p w' hJ hM=>?_) | (refine nA (by assumption) (by (try simp only [aK,add0,Nat.zero_add]); rfl) (by (repeat first | exact List.mem_cons_self | assumption | apply List.mem_cons_of_mem); first | done | fail) (by kernel_rfl) (by kernel_rfl) (by omega) fun w' hJ hT=>?_) | exact ⟨rfl,J.m (by assumption),J.tb (by assumption) (by (repeat first | exact List.mem_cons_self | assumption | apply List.mem_cons_of_mem); first | done | fail)⟩ | (refine zW 5 (by assumption) ?_) | (refine qHO qGM (by assumption) fun x0 x1 x2 x3 x4 x5 x6 x7 x8 x9 x10 x11 x12 x13 x14 x15 x16 x17 x18 x19 w' hJ hM=>?_) | (refine And.intro ?_ trivial) | (refine And.intro (by first | omega | (simp only []; omega)) ?_) | (refine dN (by assumption) fun hJ=>?_) | (refine And.intro (by (repeat first | assumption | exact Mod.refl _ _ | refine Mod.tr ?_ (by assumption) | refine Mod.fresh ?_ (by assumption) (by rintro x rfl; assumption)); first | done | fail) ?_) | (refine qAT (by assumption) (fun w hJ hM=>?_) ?_) | (refine qKB (by assumption) fun p w hJ hN hM=>?_) | (refine fun (_:TS _ _ _ _ _)=>?_) | (refine fun (_:UInt64)=>?_) | exact TS.ptr (by assumption) | assumption | (refine Mod.tr ?_ (by assumption)) | (refine qWO (by assumption) ?_ fun b w' hJ=>?_) | exact ⟨_,rfl,J.sub (by assumption) (by intro q hq; first | ((repeat first | exact hq | apply List.mem_cons_of_mem); first | done | fail) | (rcases List.mem_cons.1 hq with rfl | hq; (first | exact List.mem_cons_self | (apply List.mem_cons_of_mem; exact List.mem_cons_self)); ((repeat first | exact hq | apply List.mem_cons_of_mem); first | done | fail)))⟩ | (refine And.intro ?_ ?_))
end
def jEV (a b:Slc) (w:World) (R:RW):Prop:=
 aH ((a.len:Int) != (b.len:Int)) (R (.returned (.bool false)) w) (∃ (inv:List TV→World→Prop) (mu:List TV→World→Nat),inv [.i .i64 (0:Int)] w∧(∀ i:Int,∀ w1:World,inv [.i .i64 i] w1→aH (decide (i<(a.len:Int))) (((0≤i∧i<(a.len:Nat))∧aA a.a fun a1=>((0≤i∧i<(b.len:Nat))∧aA b.a fun a2=>∃ x:UInt8,Rd w1.drew (a1.add (i.toNat*1)) [.int .u8 x.toNat]∧∃ x1:UInt8,Rd w1.drew (a2.add (i.toNat*1)) [.int .u8 x1.toNat]∧aH (x != x1) (R (.returned (.bool false)) w1.drew) ((inv [.i .i64 (IntKind.i64.wrap (i+(1:Int)))] w1.drew∧mu [.i .i64 (IntKind.i64.wrap (i+(1:Int)))] w1.drew<mu [.i .i64 i] w1))))) (R (.returned (.bool true)) w1)))
theorem qXL (a b:Slc) {w:World} {R:RW} (hden:jEV a b w R):Calls prog 40 #[zS a,zS b] w R:=
 aB (q0 .z (q0 (q0 .z (.cond (q0 .z .z) .z)) (q0 (q0 .z (.block none (.loop [(5,(.i .i64))] (q0 (q0 .z (.cond .z .z)) (q0 (.block none (q0 (.draw 2 (.take 0 (.take 1 (.take 2 (.take 4 (.take 5 (.take 6 (.take 3 (.take 7 (.take 8 .done)))))))))) (.cond (q0 .z .z) .z))) .z))))) (q0 .z .z)))) func40 (by kernel_rfl) [.sl a,.sl b] (by kernel_rfl) (by kernel_rfl) hden
def jCP (x n:Int) (w:World) (R:RW):Prop:=
 aH (decide (n<(1:Int))) (R (.returned (.int .i64 (0:Int))) w) ((n≠0∧aH (decide ((Int.tmod x n)<(0:Int))) (R (.returned (.int .i64 (IntKind.i64.wrap ((Int.tmod x n)+n)))) w) (R (.returned (.int .i64 (Int.tmod x n))) w)))
theorem qUT (x n:Int) {w:World} {R:RW} (hden:jCP x n w R):Calls prog 16 #[.int .i64 x,.int .i64 n] w R:=
 aB (q0 .z (q0 (q0 .z (.cond (q0 .z .z) .z)) (q0 .z (q0 (q0 .z (.cond .z .z)) (q0 .z .z))))) func16 (by kernel_rfl) [.i .i64 x,.i .i64 n] (by kernel_rfl) (by kernel_rfl) hden
theorem qFD {w:World} {a b:Slc} {l m:List UInt8} (ha:aL w a 1 (bys l)) (hb:aL w b 1 (bys m)) (hn:l.length≤9000000000000000000) :
 Calls prog 40 #[.slice a.a a.len a.cap,.slice b.a b.len b.cap] w (Ret fun v w'=>v = .bool (decide (l=m))∧Mod NoB w w'):=by
 refine qXL _ _ ?_
 unfold jEV
 have hla:=aW ha; have hlb:=aW hb
 refine aE (fun h=>⟨?_,Mod.refl _ _⟩) (fun h=>?_)
 ·have:l≠m:=by rintro rfl; simp at h; omega
  simp [this]
 ·have hlen:l.length=m.length:=by simp at h; omega
  refine ⟨fun l' w'=>match l' with | [.i _ x]=>∃ k:Nat,x=k∧k≤l.length∧l.take k=m.take k∧Mod NoB w w' | _=>False,fun l' _=>match l' with | [.i _ x]=>(l.length - x).toNat | _=>0,⟨0,rfl,by omega,rfl,Mod.refl _ _⟩,?_⟩
  rintro x w1 ⟨k,rfl,hk,hkk,hm1⟩
  refine aE (fun h=>?_) (fun h=>?_)
  ·have hk':k<l.length:=by simp at h; omega
   obtain ⟨a1,ea,hra⟩:=gU ha hk'
   obtain ⟨a2,eb,hrb⟩:=gU hb (i:=k) (by omega)
   rw [ea,eb]
   refine ⟨⟨by omega,by omega⟩,⟨by omega,by omega⟩,_,Rd.drew (hra.mod hm1 fun h=>h),_,Rd.drew (hrb.mod hm1 fun h=>h),aE (fun hne=>⟨?_,Mod.dr hm1⟩) (fun hne=>⟨⟨k+1,aS (by omega),by omega,?_,Mod.dr hm1⟩,?_⟩)⟩
   ·have:l≠m:=by rintro rfl; simp at hne
    simp [this]
   ·have:l[k]=m[k]'(by omega):=by simpa using hne
    rw [aV hk',aV (by omega),hkk,this]
   ·rw [aS (by omega)]; (try simp only []); omega
  ·have hk':k=l.length:=by simp at h; omega
   rw [hk',List.take_length,hlen,List.take_length] at hkk
   exact ⟨by simp [hkk],hm1⟩
theorem qVA {w:World} {x:Int} {n:Nat} (h1:1≤n) (h2:n≤1000000000000):Calls prog 16 #[.int .i64 x,.int .i64 n] w (Ret fun v w'=>∃ r:Nat,v = .int .i64 r∧r<n∧w'=w):=by
 refine qUT _ _ ?_
 unfold jCP
 refine aE (fun h=>by simp at h; omega) fun _=>⟨by omega,?_⟩
 have a1:=Int.tmod_lt_of_pos x (show (0:Int)<n by omega)
 have a2:=Int.lt_tmod_of_pos x (show (0:Int)<n by omega)
 refine aE (fun h=>?_) fun h=>?_
 ·have h':Int.tmod x n<0:=by simpa using h
  refine ⟨(Int.tmod x n+n).toNat,?_,by omega,rfl⟩
  rw [wrap_i64 (by omega)]
  congr 1; omega
 ·have h' : ¬ Int.tmod x n<0:=by simpa using h
  exact ⟨(Int.tmod x n).toNat,by congr 1; omega,by omega,rfl⟩
def qRL (parts:Slc) (w:World) (R:RW):Prop:=
 aD prog 169 [] w (aG R) fun v w1=>∃ x:Option Addr,v=(.pointer x)∧aD prog 170 [.pointer x,zS parts] w1 (aG R) fun v1 w2=>∃ x1:Int,v1=(.int .i64 x1)∧aD prog 171 [.pointer x] w2 (aG R) fun v2 w3=>∃ x2:Slc,v2=(zS x2)∧R (.returned (zS x2)) w3
theorem qOX (parts:Slc) {w:World} {R:RW} (hden:qRL parts w R):Calls prog 122 #[zS parts] w R:=
 aB (q0 .z (q0 .z (q0 .z (q0 .z .z)))) func122 (by kernel_rfl) [.sl parts] (by kernel_rfl) (by kernel_rfl) hden
def qRH (w:World) (R:RW):Prop:=
 ∃ xa xb xc xd xe xf xg xh:UInt64,Rd w (⟨3,0,none⟩:Addr) [.int .u64 xa.toNat,.int .u64 xb.toNat,.int .u64 xc.toNat,.int .u64 xd.toNat,.int .u64 xe.toNat,.int .u64 xf.toNat,.int .u64 xg.toNat,.int .u64 xh.toNat]∧aI prog (Instr.box 285 (.agg #[.int .u64 xa.toNat,.int .u64 xb.toNat,.int .u64 xc.toNat,.int .u64 xd.toNat,.int .u64 xe.toNat,.int .u64 xf.toNat,.int .u64 xg.toNat,.int .u64 xh.toNat,.slice none 0 0,.int .u64 ((0:UInt64)).toNat,.bool true])) w fun v w1=>∃ x:Option Addr,v=(.pointer x)∧R (.returned (.pointer x)) w1
theorem qNY {w:World} {R:RW} (hden:qRH w R):Calls prog 169 #[] w R:=
 aB (q0 .z (q0 .z .z)) func169 (by kernel_rfl) [] (by kernel_rfl) (by kernel_rfl) hden
def qPV (h:Option Addr) (parts:Slc) (w:World) (R:RW):Prop:=
 aD prog 222 [.pointer h] w (aG R) fun v w1=>∃ x:Bool,v=(.bool x)∧aH (!x) (R (.returned (.int .i64 (1:Int))) w1) (∃ (inv:List TV→World→Prop) (mu:List TV→World→Nat),inv [.i .i64 (0:Int)] w1∧(∀ x1:Int,∀ w2:World,inv [.i .i64 x1] w2→aH (decide (x1<(parts.len:Int))) (((0≤x1∧x1<(parts.len:Nat))∧aA parts.a fun a=>∃ x2:Slc,Rd w2 (a.add (x1.toNat*1)) [zS x2]∧aA h fun a1=>∃ x3:UInt64,Rd w2 (a1.add 9) [.int .u64 x3.toNat]∧aA h fun a2=>aJ prog (storeVar 119 (a2.add 9) (.int .u64 ((x3+(aN (x2.len:Int)))).toNat)) w2 fun w3=>∃ j:List TV→World→Prop,(aA h fun a3=>∃ x4:Slc,Rd w3 (a3.add 8) [zS x4]∧aA h fun a4=>∃ x5:Slc,Rd w3 (a4.add 8) [zS x5]∧aH (decide ((x5.len:Int) > (0:Int))) (∃ sx:World→Prop,sx w3.drew∧aA h fun a5=>((0≤(if (x2.len:Int)<(IntKind.i64.wrap ((128:Int) - (x4.len:Int))) then (x2.len:Int) else (IntKind.i64.wrap ((128:Int) - (x4.len:Int))))∧(if (x2.len:Int)<(IntKind.i64.wrap ((128:Int) - (x4.len:Int))) then (x2.len:Int) else (IntKind.i64.wrap ((128:Int) - (x4.len:Int))))≤(x2.cap:Nat))∧((0≤(if (x2.len:Int)<(IntKind.i64.wrap ((128:Int) - (x4.len:Int))) then (x2.len:Int) else (IntKind.i64.wrap ((128:Int) - (x4.len:Int))))∧(if (x2.len:Int)<(IntKind.i64.wrap ((128:Int) - (x4.len:Int))) then (x2.len:Int) else (IntKind.i64.wrap ((128:Int) - (x4.len:Int))))≤(x2.len:Nat))∧∃ x6:Slc,(∀ w',sx w'→Rd w' (a5.add 8) [zS x6])∧((aI prog (Builtin.append_ #[28,28] 28 #[zS x6,.slice (aF x2 1 0 (((if (x2.len:Int)<(IntKind.i64.wrap ((128:Int) - (x4.len:Int))) then (x2.len:Int) else (IntKind.i64.wrap ((128:Int) - (x4.len:Int))))).toNat) x2.cap).a (aF x2 1 0 (((if (x2.len:Int)<(IntKind.i64.wrap ((128:Int) - (x4.len:Int))) then (x2.len:Int) else (IntKind.i64.wrap ((128:Int) - (x4.len:Int))))).toNat) x2.cap).len (aF x2 1 0 (((if (x2.len:Int)<(IntKind.i64.wrap ((128:Int) - (x4.len:Int))) then (x2.len:Int) else (IntKind.i64.wrap ((128:Int) - (x4.len:Int))))).toNat) x2.cap).cap]) w3.drew fun v1 w4=>∃ x7:Slc,v1=(zS x7)∧aA h fun a6=>((aJ prog (storeVar 28 (a6.add 8) (zS x7)) w4 fun w5=>aA h fun a7=>∃ x8:Slc,Rd w5 (a7.add 8) [zS x8]∧aH (decide ((x8.len:Int)<(128:Int))) ((inv [.i .i64 (IntKind.i64.wrap (x1+(1:Int)))] w5∧mu [.i .i64 (IntKind.i64.wrap (x1+(1:Int)))] w5<mu [.i .i64 x1] w2)) (∃ sx1:World→Prop,sx1 w5.drew∧aA h fun a8=>aA h fun a9=>∃ x9:Slc,(∀ w',sx1 w'→Rd w' (a9.add 8) [zS x9])∧((aD prog 223 [.pointer (some (a8.add 0)),zS x9] w5.drew (aG R) fun v2 w6=>v2=(.tuple #[])∧aA h fun a10=>∃ x10:Slc,Rd w6 (a10.add 8) [zS x10]∧((0≤(0:Int)∧(0:Int)≤(x10.cap:Nat))∧aA h fun a11=>aJ prog (storeVar 28 (a11.add 8) (.slice (aF x10 1 0 (((0:Int)).toNat) x10.cap).a (aF x10 1 0 (((0:Int)).toNat) x10.cap).len (aF x10 1 0 (((0:Int)).toNat) x10.cap).cap)) w6 fun w7=>j [.sl (aF x2 1 (((if (x2.len:Int)<(IntKind.i64.wrap ((128:Int) - (x4.len:Int))) then (x2.len:Int) else (IntKind.i64.wrap ((128:Int) - (x4.len:Int))))).toNat) x2.len x2.cap)] w7))∧True)))∧True))∧True)))) (j [.sl x2] w3))∧(∀ p:Slc,∀ w8:World,j [.sl p] w8→∃ (inv1:List TV→World→Prop) (mu1:List TV→World→Nat),inv1 [.sl p] w8∧(∀ p1:Slc,∀ w9:World,inv1 [.sl p1] w9→aH (decide ((p1.len:Int)≥(128:Int))) (aA h fun a12=>((0≤(128:Int)∧(128:Int)≤(p1.cap:Nat))∧((aD prog 223 [.pointer (some (a12.add 0)),.slice (aF p1 1 0 (((128:Int)).toNat) p1.cap).a (aF p1 1 0 (((128:Int)).toNat) p1.cap).len (aF p1 1 0 (((128:Int)).toNat) p1.cap).cap] w9.drew (aG R) fun v3 w10=>v3=(.tuple #[])∧((0≤(128:Int)∧(128:Int)≤(p1.len:Nat))∧(inv1 [.sl (aF p1 1 (((128:Int)).toNat) p1.len p1.cap)] w10∧mu1 [.sl (aF p1 1 (((128:Int)).toNat) p1.len p1.cap)] w10<mu1 [.sl p1] w9)))∧True))) (aA h fun a13=>∃ x11:Slc,Rd w9 (a13.add 8) [zS x11]∧aI prog (Builtin.append_ #[28,28] 28 #[zS x11,zS p1]) w9 fun v4 w11=>∃ x12:Slc,v4=(zS x12)∧aA h fun a14=>aJ prog (storeVar 28 (a14.add 8) (zS x12)) w11 fun w12=>(inv [.i .i64 (IntKind.i64.wrap (x1+(1:Int)))] w12∧mu [.i .i64 (IntKind.i64.wrap (x1+(1:Int)))] w12<mu [.i .i64 x1] w2)))))) (R (.returned (.int .i64 (0:Int))) w2)))
theorem qKD (h:Option Addr) (parts:Slc) {w:World} {R:RW} (hden:qPV h parts w R):Calls prog 170 #[.pointer h,zS parts] w R:=
 aB (q0 .z (q0 (q0 .z (.cond (q0 .z .z) .z)) (q0 (q0 .z (.block none (.loop [(13,(.i .i64))] (q0 .z (q0 (.cond .z .z) (q0 (.block none (q0 .z (q0 .z (.seq (some [(6,.sl)]) (q0 .z (q0 .z (.cond (q0 (.draw 1 (.take 0 (.take 1 (.take 2 (.take 3 (.take 5 (.take 6 (.take 7 (.take 9 (.take 10 (.take 11 (.take 4 (.all [(8,(.take 12 (.take 13 (.all [(14,(.take 15 .done))]))))]))))))))))))) (q0 (q0 .z (.cond .z .z)) (q0 (.draw 1 (.take 0 (.take 1 (.take 2 (.take 3 (.take 4 (.take 5 (.take 6 (.all [(7,.done)]))))))))) .z))) .z))) (q0 (.block none (.loop [(6,.sl)] (q0 (q0 .z (.cond .z .z)) (q0 (.block none (.draw 0 (.take 0 (.take 1 (.take 2 (.take 3 (.take 4 (.all [(5,.done)])))))))) .z)))) .z))))) .z)))))) (q0 .z .z)))) func170 (by kernel_rfl) [.p h,.sl parts] (by kernel_rfl) (by kernel_rfl) hden
def qRJ (h:Option Addr) (w:World) (R:RW):Prop:=
 aD prog 224 [.pointer h] w (aG R) fun v w1=>∃ x:Option Addr,v=(.pointer x)∧aU prog (do eqGuard .eql 228 (.tmp 13) (.const (.pointer none)) (.pointer x) (.pointer none); binOp .eql 228 (.pointer x) (.pointer none)) fun v1=>∃ x1:Bool,v1=(.bool x1)∧aH x1 (R (.returned (.slice none 0 0)) w1) (aA x fun a=>∃ x2:UInt64,Rd w1 (a.add 9) [.int .u64 x2.toNat]∧aI prog (Instr.makeSlice 28 (.int .i64 (0:Int)) (.int .i64 (256:Int))) w1 fun v2 w2=>∃ x3:Slc,v2=(zS x3)∧aI prog (Instr.buildSlice 28 1 #[(0,(.int .u8 ((128:UInt8)).toNat))]) w2 fun v3 w3=>∃ x4:Slc,v3=(zS x4)∧aI prog (Builtin.append_ #[28,28] 28 #[zS x3,zS x4]) w3 fun v4 w4=>∃ x5:Slc,v4=(zS x5)∧∃ (inv:List TV→World→Prop) (mu:List TV→World→Nat),inv [.sl x5] w4∧(∀ end0:Slc,∀ w5:World,inv [.sl end0] w5→aA x fun a1=>∃ x6:Slc,Rd w5 (a1.add 8) [zS x6]∧((128:Int)≠0∧aH ((Int.tmod (IntKind.i64.wrap ((x6.len:Int)+(end0.len:Int))) (128:Int)) != (112:Int)) (aI prog (Instr.buildSlice 28 1 #[(0,(.int .u8 ((0:UInt8)).toNat))]) w5 fun v5 w6=>∃ x7:Slc,v5=(zS x7)∧aI prog (Builtin.append_ #[28,28] 28 #[zS end0,zS x7]) w6 fun v6 w7=>∃ x8:Slc,v6=(zS x8)∧(inv [.sl x8] w7∧mu [.sl x8] w7<mu [.sl end0] w5)) (aI prog (Builtin.append_ #[28,3] 28 #[zS end0,.int .i64 (8:Int)]) w5 fun v7 w8=>∃ x9:Slc,v7=(zS x9)∧∃ (inv1:List TV→World→Prop) (mu1:List TV→World→Nat),inv1 [.sl x9,.i .i64 (56:Int)] w8∧(∀ end1:Slc,∀ s:Int,∀ w9:World,inv1 [.sl end1,.i .i64 s] w9→aH (decide (s≥(0:Int))) ((0≤s∧aI prog (Instr.buildSlice 28 1 #[(0,(.int .u8 (((aM ((8:UInt64)*x2) s.toNat)).toUInt8).toNat))]) w9 fun v8 w10=>∃ x10:Slc,v8=(zS x10)∧aI prog (Builtin.append_ #[28,28] 28 #[zS end1,zS x10]) w10 fun v9 w11=>∃ x11:Slc,v9=(zS x11)∧(inv1 [.sl x11,.i .i64 (IntKind.i64.wrap (s - (8:Int)))] w11∧mu1 [.sl x11,.i .i64 (IntKind.i64.wrap (s - (8:Int)))] w11<mu1 [.sl end1,.i .i64 s] w9))) (aI prog (Instr.buildSlice 118 1 #[(0,(zS end1))]) w9 fun v10 w12=>∃ x12:Slc,v10=(zS x12)∧aD prog 170 [.pointer x,zS x12] w12 (aG R) fun v11 w13=>∃ x13:Int,v11=(.int .i64 x13)∧aA x fun a2=>∃ xa xb xc xd xe xf xg xh:UInt64,Rd w13 (a2.add 0) [.int .u64 xa.toNat,.int .u64 xb.toNat,.int .u64 xc.toNat,.int .u64 xd.toNat,.int .u64 xe.toNat,.int .u64 xf.toNat,.int .u64 xg.toNat,.int .u64 xh.toNat]∧∃ (inv2:List TV→World→Prop) (mu2:List TV→World→Nat),inv2 [.sl ⟨none,0,0⟩,.i .i64 (0:Int)] w13∧(∀ out:Slc,∀ x14:Int,∀ w14:World,inv2 [.sl out,.i .i64 x14] w14→aH (decide (x14<(8:Int))) (((0≤x14∧x14<(8:Nat))∧(∀ z∈([.u64 xa,.u64 xb,.u64 xc,.u64 xd,.u64 xe,.u64 xf,.u64 xg,.u64 xh]:List TV),z.cells.length=1)∧∃ x15:UInt64,([.u64 xa,.u64 xb,.u64 xc,.u64 xd,.u64 xe,.u64 xf,.u64 xg,.u64 xh]:List TV)[x14.toNat]? = some (.u64 x15)∧∃ (inv3:List TV→World→Prop) (mu3:List TV→World→Nat),inv3 [.sl out,.i .i64 (56:Int)] w14∧(∀ out1:Slc,∀ s1:Int,∀ w15:World,inv3 [.sl out1,.i .i64 s1] w15→aH (decide (s1≥(0:Int))) ((0≤s1∧aI prog (Instr.buildSlice 28 1 #[(0,(.int .u8 (((aM x15 s1.toNat)).toUInt8).toNat))]) w15 fun v12 w16=>∃ x16:Slc,v12=(zS x16)∧aI prog (Builtin.append_ #[28,28] 28 #[zS out1,zS x16]) w16 fun v13 w17=>∃ x17:Slc,v13=(zS x17)∧(inv3 [.sl x17,.i .i64 (IntKind.i64.wrap (s1 - (8:Int)))] w17∧mu3 [.sl x17,.i .i64 (IntKind.i64.wrap (s1 - (8:Int)))] w17<mu3 [.sl out1,.i .i64 s1] w15))) ((inv2 [.sl out1,.i .i64 (IntKind.i64.wrap (x14+(1:Int)))] w15∧mu2 [.sl out1,.i .i64 (IntKind.i64.wrap (x14+(1:Int)))] w15<mu2 [.sl out,.i .i64 x14] w14))))) (R (.returned (zS out)) w14))))))))
theorem qJN (h:Option Addr) {w:World} {R:RW} (hden:qRJ h w R):Calls prog 171 #[.pointer h] w R:=
 aB (q0 .z (q0 .z (q0 (q0 .z (.cond (q0 .z .z) .z)) (q0 .z (q0 .z (q0 (.block none (.loop [(5,.sl)] (q0 (q0 .z (.cond .z .z)) (.block none .z)))) (q0 .z (q0 (q0 .z (.block none (.loop [(5,.sl),(6,(.i .i64))] (q0 (q0 .z (.cond .z .z)) (q0 (.block none .z) .z))))) (q0 .z (q0 .z (q0 (q0 .z (.block none (.loop [(7,.sl),(57,(.i .i64))] (q0 .z (q0 (.cond .z .z) (q0 (.block none (q0 .z (q0 .z (.block none (.loop [(7,.sl),(10,(.i .i64))] (q0 (q0 .z (.cond .z .z)) (q0 (.block none .z) .z))))))) .z)))))) (q0 .z .z)))))))))))) func171 (by kernel_rfl) [.p h] (by kernel_rfl) (by kernel_rfl) hden
def qQZ (h:Option Addr) (w:World) (R:RW):Prop:=
 aU prog (do eqGuard .neq 228 (.tmp 3) (.const (.pointer none)) (.pointer h) (.pointer none); binOp .neq 228 (.pointer h) (.pointer none)) fun v=>∃ x:Bool,v=(.bool x)∧aH x (aA h fun a=>∃ x1:Bool,Rd w (a.add 10) [.bool x1]∧R (.returned (.bool x1)) w) (R (.returned (.bool false)) w)
theorem qNR (h:Option Addr) {w:World} {R:RW} (hden:qQZ h w R):Calls prog 222 #[.pointer h] w R:=
 aB (q0 .z (q0 .z .z)) func222 (by kernel_rfl) [.p h] (by kernel_rfl) (by kernel_rfl) hden
def qTK (wv:Option Addr) (b:Slc) (w:World) (R:RW):Prop:=
 aI prog (Instr.alloc 308 true (.tuple #[])) w fun v w1=>∃ m:Option Addr,v=(.pointer m)∧∃ (inv:List TV→World→Prop) (mu:List TV→World→Nat),inv [.i .i64 (0:Int)] w1∧(∀ x:Int,∀ w2:World,inv [.i .i64 x] w2→aH (decide (x<(80:Int))) (aH (decide (x<(16:Int))) (((0≤(IntKind.i64.wrap ((8:Int)*x))∧(IntKind.i64.wrap ((8:Int)*x))≤(IntKind.i64.wrap ((IntKind.i64.wrap ((8:Int)*x))+(8:Int)))∧(IntKind.i64.wrap ((IntKind.i64.wrap ((8:Int)*x))+(8:Int)))≤(b.cap:Nat))∧∃ (inv1:List TV→World→Prop) (mu1:List TV→World→Nat),inv1 [.i .i64 (0:Int)] w2∧(∀ x1:Int,∀ w3:World,inv1 [.i .i64 x1] w3→aH (decide (x1<((aF b 1 (((IntKind.i64.wrap ((8:Int)*x))).toNat) (((IntKind.i64.wrap ((IntKind.i64.wrap ((8:Int)*x))+(8:Int)))).toNat) b.cap).len:Int))) (((0≤x1∧x1<((aF b 1 (((IntKind.i64.wrap ((8:Int)*x))).toNat) (((IntKind.i64.wrap ((IntKind.i64.wrap ((8:Int)*x))+(8:Int)))).toNat) b.cap).len:Nat))∧aA (aF b 1 (((IntKind.i64.wrap ((8:Int)*x))).toNat) (((IntKind.i64.wrap ((IntKind.i64.wrap ((8:Int)*x))+(8:Int)))).toNat) b.cap).a fun a=>∃ x2:UInt8,Rd w3 (a.add (x1.toNat*1)) [.int .u8 x2.toNat]∧((0≤x∧x<(80:Nat))∧aA m fun a1=>∃ x3:UInt64,Rd w3 (a1.add (x.toNat*1)) [.int .u64 x3.toNat]∧(0≤(((8:UInt64)).toNat:Int)∧((0≤x∧x<(80:Nat))∧aA m fun a2=>aJ prog (storeVar 119 (a2.add (x.toNat*1)) (.int .u64 (((dO x3 ((((8:UInt64)).toNat:Int)).toNat) ||| (x2).toUInt64)).toNat)) w3 fun w4=>(inv1 [.i .i64 (IntKind.i64.wrap (x1+(1:Int)))] w4∧mu1 [.i .i64 (IntKind.i64.wrap (x1+(1:Int)))] w4<mu1 [.i .i64 x1] w3)))))) ((inv [.i .i64 (IntKind.i64.wrap (x+(1:Int)))] w3∧mu [.i .i64 (IntKind.i64.wrap (x+(1:Int)))] w3<mu [.i .i64 x] w2))))) (∃ sx:World→Prop,sx w2.drew∧((0≤(IntKind.i64.wrap (x - (2:Int)))∧(IntKind.i64.wrap (x - (2:Int)))<(80:Nat))∧aA m fun a3=>((0≤(IntKind.i64.wrap (x - (7:Int)))∧(IntKind.i64.wrap (x - (7:Int)))<(80:Nat))∧aA m fun a4=>((0≤(IntKind.i64.wrap (x - (15:Int)))∧(IntKind.i64.wrap (x - (15:Int)))<(80:Nat))∧aA m fun a5=>((0≤(IntKind.i64.wrap (x - (16:Int)))∧(IntKind.i64.wrap (x - (16:Int)))<(80:Nat))∧aA m fun a6=>∃ x4:UInt64,(∀ w',sx w'→Rd w' (a3.add (((IntKind.i64.wrap (x - (2:Int)))).toNat*1)) [.int .u64 x4.toNat])∧∃ x5:UInt64,(∀ w',sx w'→Rd w' (a4.add (((IntKind.i64.wrap (x - (7:Int)))).toNat*1)) [.int .u64 x5.toNat])∧∃ x6:UInt64,(∀ w',sx w'→Rd w' (a5.add (((IntKind.i64.wrap (x - (15:Int)))).toNat*1)) [.int .u64 x6.toNat])∧∃ x7:UInt64,(∀ w',sx w'→Rd w' (a6.add (((IntKind.i64.wrap (x - (16:Int)))).toNat*1)) [.int .u64 x7.toNat])∧((aD prog 245 [.int .u64 x4.toNat,.int .i64 (19:Int),.int .i64 (61:Int),.int .i64 (6:Int)] w2.drew (aG R) fun v1 w5=>∃ x8:UInt64,v1=(.int .u64 x8.toNat)∧(sx w5∧((aD prog 245 [.int .u64 x6.toNat,.int .i64 (1:Int),.int .i64 (8:Int),.int .i64 (7:Int)] w5 (aG R) fun v2 w6=>∃ x9:UInt64,v2=(.int .u64 x9.toNat)∧(sx w6∧((0≤x∧x<(80:Nat))∧aA m fun a7=>((aJ prog (storeVar 119 (a7.add (x.toNat*1)) (.int .u64 ((((x8+x5)+x9)+x7)).toNat)) w6 fun w7=>(inv [.i .i64 (IntKind.i64.wrap (x+(1:Int)))] w7∧mu [.i .i64 (IntKind.i64.wrap (x+(1:Int)))] w7<mu [.i .i64 x] w2))∧True))))∧True)))∧True))))))) (aA wv fun a8=>∃ xa xb xc xd xe xf xg xh:UInt64,Rd w2 a8 [.int .u64 xa.toNat,.int .u64 xb.toNat,.int .u64 xc.toNat,.int .u64 xd.toNat,.int .u64 xe.toNat,.int .u64 xf.toNat,.int .u64 xg.toNat,.int .u64 xh.toNat]∧aI prog (Instr.alloc 283 true (.tuple #[])) w2 fun v3 w8=>∃ v4:Option Addr,v3=(.pointer v4)∧aA v4 fun a9=>aJ prog (storeVar 283 a9 (.agg #[.int .u64 xa.toNat,.int .u64 xb.toNat,.int .u64 xc.toNat,.int .u64 xd.toNat,.int .u64 xe.toNat,.int .u64 xf.toNat,.int .u64 xg.toNat,.int .u64 xh.toNat])) w8 fun w9=>aA m fun a10=>∃ x10:List UInt64,x10.length=80∧Rd w9 a10 (bO ((x10).map TV.u64))∧∃ (inv2:List TV→World→Prop) (mu2:List TV→World→Nat),inv2 [.i .i64 (0:Int)] w9∧(∀ x11:Int,∀ w10:World,inv2 [.i .i64 x11] w10→aH (decide (x11<(80:Int))) (((0≤x11∧x11<(80:Nat))∧(∀ z∈(((x10).map TV.u64):List TV),z.cells.length=1)∧∃ x12:UInt64,(((x10).map TV.u64):List TV)[x11.toNat]? = some (.u64 x12)∧((0≤(0:Int)∧(0:Int)<(8:Nat))∧aA v4 fun a11=>((0≤(4:Int)∧(4:Int)<(8:Nat))∧aA v4 fun a12=>∃ x13:UInt64,Rd w10.drew (a11.add (((0:Int)).toNat*1)) [.int .u64 x13.toNat]∧∃ x14:UInt64,Rd w10.drew (a12.add (((4:Int)).toNat*1)) [.int .u64 x14.toNat]∧∃ sx1:World→Prop,sx1 w10.drew.drew∧((0≤(7:Int)∧(7:Int)<(8:Nat))∧aA v4 fun a13=>((0≤(5:Int)∧(5:Int)<(8:Nat))∧aA v4 fun a14=>((0≤(6:Int)∧(6:Int)<(8:Nat))∧aA v4 fun a15=>((0≤x11∧x11<(80:Nat))∧∃ x15:UInt64,(∀ w',sx1 w'→Rd w' (a13.add (((7:Int)).toNat*1)) [.int .u64 x15.toNat])∧∃ x16:UInt64,(∀ w',sx1 w'→Rd w' (a14.add (((5:Int)).toNat*1)) [.int .u64 x16.toNat])∧∃ x17:UInt64,(∀ w',sx1 w'→Rd w' (a15.add (((6:Int)).toNat*1)) [.int .u64 x17.toNat])∧∃ x18:UInt64,(∀ w',sx1 w'→Rd w' ((⟨4,0,none⟩:Addr).add (x11.toNat*1)) [.int .u64 x18.toNat])∧((aD prog 246 [.int .u64 x14.toNat,.int .i64 (14:Int),.int .i64 (18:Int),.int .i64 (41:Int)] w10.drew.drew (aG R) fun v5 w11=>∃ x19:UInt64,v5=(.int .u64 x19.toNat)∧(sx1 w11∧∃ sx2:World→Prop,sx2 w11.drew∧((0≤(1:Int)∧(1:Int)<(8:Nat))∧aA v4 fun a16=>((0≤(2:Int)∧(2:Int)<(8:Nat))∧aA v4 fun a17=>((0≤(1:Int)∧(1:Int)<(8:Nat))∧aA v4 fun a18=>((0≤(2:Int)∧(2:Int)<(8:Nat))∧aA v4 fun a19=>∃ x20:UInt64,(∀ w',sx2 w'→Rd w' (a16.add (((1:Int)).toNat*1)) [.int .u64 x20.toNat])∧∃ x21:UInt64,(∀ w',sx2 w'→Rd w' (a17.add (((2:Int)).toNat*1)) [.int .u64 x21.toNat])∧∃ x22:UInt64,(∀ w',sx2 w'→Rd w' (a18.add (((1:Int)).toNat*1)) [.int .u64 x22.toNat])∧∃ x23:UInt64,(∀ w',sx2 w'→Rd w' (a19.add (((2:Int)).toNat*1)) [.int .u64 x23.toNat])∧((aD prog 246 [.int .u64 x13.toNat,.int .i64 (28:Int),.int .i64 (34:Int),.int .i64 (39:Int)] w11.drew (aG R) fun v6 w12=>∃ x24:UInt64,v6=(.int .u64 x24.toNat)∧(sx2 w12∧aA v4 fun a20=>((0≤(1:Int)∧(1:Int)≤(8:Nat))∧aA v4 fun a21=>((0≤(7:Int)∧(7:Int)≤(8:Nat))∧((aI prog (Builtin.copy_ #[197,197] 3 #[.slice (aF ⟨some a20,8,8⟩ 1 (((1:Int)).toNat) 8 8).a (aF ⟨some a20,8,8⟩ 1 (((1:Int)).toNat) 8 8).len (aF ⟨some a20,8,8⟩ 1 (((1:Int)).toNat) 8 8).cap,.slice (aF ⟨some a21,8,8⟩ 1 0 (((7:Int)).toNat) 8).a (aF ⟨some a21,8,8⟩ 1 0 (((7:Int)).toNat) 8).len (aF ⟨some a21,8,8⟩ 1 0 (((7:Int)).toNat) 8).cap]) w12.drew fun v7 w13=>∃ x25:Int,v7=(.int .i64 x25)∧((0≤(4:Int)∧(4:Int)<(8:Nat))∧aA v4 fun a22=>∃ x26:UInt64,Rd w13 (a22.add (((4:Int)).toNat*1)) [.int .u64 x26.toNat]∧((0≤(0:Int)∧(0:Int)<(8:Nat))∧aA v4 fun a23=>aJ prog (storeVar 119 (a23.add (((0:Int)).toNat*1)) (.int .u64 ((((((x15+x19)+((x14 &&& x16) ^^^ ((~~~x14) &&& x17)))+x18)+x12)+(x24+(((x13 &&& x20) ^^^ (x13 &&& x21)) ^^^ (x22 &&& x23))))).toNat)) w13 fun w14=>((0≤(4:Int)∧(4:Int)<(8:Nat))∧aA v4 fun a24=>aJ prog (storeVar 119 (a24.add (((4:Int)).toNat*1)) (.int .u64 ((x26+((((x15+x19)+((x14 &&& x16) ^^^ ((~~~x14) &&& x17)))+x18)+x12))).toNat)) w14 fun w15=>(inv2 [.i .i64 (IntKind.i64.wrap (x11+(1:Int)))] w15∧mu2 [.i .i64 (IntKind.i64.wrap (x11+(1:Int)))] w15<mu2 [.i .i64 x11] w10)))))∧True)))))∧True)))))))∧True))))))))) (∃ (inv3:List TV→World→Prop) (mu3:List TV→World→Nat),inv3 [.i .i64 (0:Int)] w10∧(∀ x27:Int,∀ w16:World,inv3 [.i .i64 x27] w16→aH (decide (x27<(8:Int))) (∃ sx3:World→Prop,sx3 w16.drew∧aA wv fun a25=>((0≤x27∧x27<(8:Nat))∧((0≤x27∧x27<(8:Nat))∧aA v4 fun a26=>aA wv fun a27=>∃ x28:UInt64,(∀ w',sx3 w'→Rd w' (a25.add (x27.toNat*1)) [.int .u64 x28.toNat])∧∃ x29:UInt64,(∀ w',sx3 w'→Rd w' (a26.add (x27.toNat*1)) [.int .u64 x29.toNat])∧((0≤x27∧x27<(8:Nat))∧((aJ prog (storeVar 119 (a27.add (x27.toNat*1)) (.int .u64 ((x28+x29)).toNat)) w16.drew fun w17=>(inv3 [.i .i64 (IntKind.i64.wrap (x27+(1:Int)))] w17∧mu3 [.i .i64 (IntKind.i64.wrap (x27+(1:Int)))] w17<mu3 [.i .i64 x27] w16))∧True))))) (R (.returned (.tuple #[])) w16))))))
theorem qPG (wv:Option Addr) (b:Slc) {w:World} {R:RW} (hden:qTK wv b w R):Calls prog 223 #[.pointer wv,zS b] w R:=
 aB (q0 .z (q0 (q0 .z (.block none (.loop [(16,(.i .i64))] (q0 .z (q0 (.cond .z .z) (q0 (.block none (q0 .z (q0 (q0 .z (.cond (q0 (q0 .z (.block none (.loop [(29,(.i .i64))] (q0 .z (q0 (.cond .z .z) (q0 (.block none (q0 .z .z)) .z)))))) .z) .z)) (.draw 1 (.take 0 (.take 1 (.take 2 (.take 3 (.take 6 (.take 7 (.take 8 (.take 11 (.take 12 (.take 13 (.take 17 (.take 18 (.take 19 (.take 4 (.take 9 (.take 14 (.take 20 (.all [(5,(.take 10 (.all [(15,(.take 16 (.take 21 (.take 22 (.all [(23,.done)])))))])))])))))))))))))))))))))) .z)))))) (q0 .z (q0 (q0 .z (.block none (.loop [(71,(.i .i64))] (q0 .z (q0 (.cond .z .z) (q0 (.block none (q0 .z (q0 (.draw 2 (.take 0 (.take 2 (.take 1 (.take 4 (.take 3 (.take 5 .done))))))) (q0 (.draw 1 (.take 0 (.take 2 (.take 5 (.take 6 (.take 9 (.take 10 (.take 11 (.take 16 (.take 17 (.take 20 (.take 1 (.take 7 (.take 8 (.take 12 (.take 13 (.take 14 (.take 18 (.all [(3,(.take 4 (.take 15 (.take 19 (.take 21 (.take 22 .done))))))]))))))))))))))))))) (q0 (.draw 1 (.take 0 (.take 2 (.take 3 (.take 6 (.take 7 (.take 11 (.take 13 (.take 4 (.take 5 (.take 8 (.take 9 (.take 10 (.take 12 (.take 14 (.take 15 (.take 16 (.all [(1,(.take 17 (.take 18 .done)))])))))))))))))))))) (q0 (.draw 0 (.take 0 (.take 1 (.all [(2,.done)])))) .z)))))) .z)))))) (q0 .z (.block none (.loop [(132,(.i .i64))] (q0 .z (q0 (.cond .z .z) (q0 (.block none (q0 .z (.draw 1 (.take 0 (.take 1 (.take 2 (.take 3 (.take 5 (.take 6 (.take 9 (.take 4 (.take 7 (.take 8 (.take 10 (.all [(11,.done)]))))))))))))))) .z)))))))))) func223 (by kernel_rfl) [.p wv,.sl b] (by kernel_rfl) (by kernel_rfl) hden
def qRS (h:Option Addr) (w:World) (R:RW):Prop:=
 aD prog 222 [.pointer h] w (aG R) fun v w1=>∃ x:Bool,v=(.bool x)∧aH (!x) (R (.returned (.pointer none)) w1) (aA h fun a=>∃ xaa xab xac xad xae xaf xag xah:UInt64,∃ xb:Slc,∃ xc:UInt64,∃ xd:Bool,Rd w1 a [.int .u64 xaa.toNat,.int .u64 xab.toNat,.int .u64 xac.toNat,.int .u64 xad.toNat,.int .u64 xae.toNat,.int .u64 xaf.toNat,.int .u64 xag.toNat,.int .u64 xah.toNat,zS xb,.int .u64 xc.toNat,.bool xd]∧aI prog (Instr.alloc 285 true (.tuple #[])) w1 fun v1 w2=>∃ c:Option Addr,v1=(.pointer c)∧aA c fun a1=>aJ prog (storeVar 285 a1 (.agg #[.int .u64 xaa.toNat,.int .u64 xab.toNat,.int .u64 xac.toNat,.int .u64 xad.toNat,.int .u64 xae.toNat,.int .u64 xaf.toNat,.int .u64 xag.toNat,.int .u64 xah.toNat,zS xb,.int .u64 xc.toNat,.bool xd])) w2 fun w3=>aA h fun a2=>∃ x1:Slc,Rd w3 (a2.add 8) [zS x1]∧aD prog 73 [zS x1] w3 (aG R) fun v2 w4=>∃ x2:Slc,v2=(zS x2)∧aA c fun a3=>aJ prog (storeVar 28 (a3.add 8) (zS x2)) w4 fun w5=>R (.returned (.pointer c)) w5)
theorem qND (h:Option Addr) {w:World} {R:RW} (hden:qRS h w R):Calls prog 224 #[.pointer h] w R:=
 aB (q0 .z (q0 (q0 .z (.cond (q0 .z .z) .z)) (q0 .z (q0 .z (q0 .z .z))))) func224 (by kernel_rfl) [.p h] (by kernel_rfl) (by kernel_rfl) hden
def jBO (s:Slc) (w:World) (R:RW):Prop:=
 aU prog (do eqGuard .eql 28 (.tmp 3) (.const (.slice none 0 0)) (zS s) (.slice none 0 0); binOp .eql 28 (zS s) (.slice none 0 0)) fun v=>∃ x:Bool,v=(.bool x)∧aH x (R (.returned (.slice none 0 0)) w) (aI prog (Instr.buildSlice 28 0 #[]) w fun v1 w1=>∃ x1:Slc,v1=(zS x1)∧aI prog (Builtin.append_ #[28,28] 28 #[zS x1,zS s]) w1 fun v2 w2=>∃ x2:Slc,v2=(zS x2)∧R (.returned (zS x2)) w2)
theorem qXI (s:Slc) {w:World} {R:RW} (hden:jBO s w R):Calls prog 73 #[zS s] w R:=
 aB (q0 .z (q0 (q0 .z (.cond (q0 .z .z) .z)) (q0 .z .z))) func73 (by kernel_rfl) [.sl s] (by kernel_rfl) (by kernel_rfl) hden
def qSO (x:UInt64) (a b shift:Int) (w:World) (R:RW):Prop:=
 (0≤shift∧((aD prog 253 [.int .u64 x.toNat,.int .i64 (IntKind.i64.wrap (0 - a))] w.drew (aG R) fun v w1=>∃ x1:UInt64,v=(.int .u64 x1.toNat)∧((aD prog 253 [.int .u64 x.toNat,.int .i64 (IntKind.i64.wrap (0 - b))] w1 (aG R) fun v1 w2=>∃ x2:UInt64,v1=(.int .u64 x2.toNat)∧R (.returned (.int .u64 (((x1 ^^^ x2) ^^^ (aM x shift.toNat))).toNat)) w2)∧True))∧True))
theorem qLH (x:UInt64) (a b shift:Int) {w:World} {R:RW} (hden:qSO x a b shift w R):Calls prog 245 #[.int .u64 x.toNat,.int .i64 a,.int .i64 b,.int .i64 shift] w R:=
 aB (q0 .z (q0 (.draw 0 (.take 0 (.take 1 (.take 2 (.take 4 (.take 5 (.take 6 (.take 9 (.take 10 (.take 11 (.all [(3,(.all [(7,(.take 8 (.take 12 (.take 13 .done))))]))]))))))))))) .z)) func245 (by kernel_rfl) [.u64 x,.i .i64 a,.i .i64 b,.i .i64 shift] (by kernel_rfl) (by kernel_rfl) hden
def qQT (x:UInt64) (a b c:Int) (w:World) (R:RW):Prop:=
 aD prog 253 [.int .u64 x.toNat,.int .i64 (IntKind.i64.wrap (0 - a))] w (aG R) fun v w1=>∃ x1:UInt64,v=(.int .u64 x1.toNat)∧aD prog 253 [.int .u64 x.toNat,.int .i64 (IntKind.i64.wrap (0 - b))] w1 (aG R) fun v1 w2=>∃ x2:UInt64,v1=(.int .u64 x2.toNat)∧aD prog 253 [.int .u64 x.toNat,.int .i64 (IntKind.i64.wrap (0 - c))] w2 (aG R) fun v2 w3=>∃ x3:UInt64,v2=(.int .u64 x3.toNat)∧R (.returned (.int .u64 (((x1 ^^^ x2) ^^^ x3)).toNat)) w3
theorem qKH (x:UInt64) (a b c:Int) {w:World} {R:RW} (hden:qQT x a b c w R):Calls prog 246 #[.int .u64 x.toNat,.int .i64 a,.int .i64 b,.int .i64 c] w R:=
 aB (q0 .z (q0 .z .z)) func246 (by kernel_rfl) [.u64 x,.i .i64 a,.i .i64 b,.i .i64 c] (by kernel_rfl) (by kernel_rfl) hden
def qQE (x:UInt64) (k:Int) (w:World) (R:RW):Prop:=
 (0≤((((aN k) &&& (63:UInt64))).toNat:Int)∧(0≤((((64:UInt64) - ((aN k) &&& (63:UInt64)))).toNat:Int)∧R (.returned (.int .u64 (((dO x (((((aN k) &&& (63:UInt64))).toNat:Int)).toNat) ||| (aM x (((((64:UInt64) - ((aN k) &&& (63:UInt64)))).toNat:Int)).toNat))).toNat)) w))
theorem qNE (x:UInt64) (k:Int) {w:World} {R:RW} (hden:qQE x k w R):Calls prog 253 #[.int .u64 x.toNat,.int .i64 k] w R:=
 aB (q0 .z (q0 .z (q0 .z .z))) func253 (by kernel_rfl) [.u64 x,.i .i64 k] (by kernel_rfl) (by kernel_rfl) hden
end Go.Proofs.YtahjmeegfkfokaaGreatDoor
end
section
namespace Go.Sh
open Go
def rr (x:UInt64) (n:Nat):UInt64:=aM x n ||| dO x (64 - n)
def bsg1 (e:UInt64):UInt64:=(rr e 14 ^^^ rr e 18) ^^^ rr e 41
def bsg0 (a:UInt64):UInt64:=(rr a 28 ^^^ rr a 34) ^^^ rr a 39
def ssg1 (x:UInt64):UInt64:=(rr x 19 ^^^ rr x 61) ^^^ aM x 6
def ssg0 (x:UInt64):UInt64:=(rr x 1 ^^^ rr x 8) ^^^ aM x 7
def tX (l:List UInt8):UInt64:=l.foldl (fun x c=>dO x 8 ||| c.toUInt64) 0
def word (b:List UInt8) (t:Nat):UInt64:=tX ((b.drop (8*t)).take 8)
def wJ (b:List UInt8) (l:List UInt64) (t:Nat):UInt64:=
 if t<16 then word b t else ((ssg1 (l.getD (t - 2) 0)+l.getD (t - 7) 0)+ssg0 (l.getD (t - 15) 0))+l.getD (t - 16) 0
def cJ (b:List UInt8):Nat→List UInt64
 | 0=>[]
 | t+1=>let l:=cJ b t; l++[wJ b l t]
def rnd (v:List UInt64) (k x:UInt64):List UInt64:=
 match v with
 | [a,b,c,d,e,f,g,h]=>
   let t1:=(((h+bsg1 e)+((e &&& f) ^^^ ((~~~e) &&& g)))+k)+x
   let t2:=bsg0 a+(((a &&& b) ^^^ (a &&& c)) ^^^ (b &&& c))
   [t1+t2,a,b,c,d+t1,e,f,g]
 | v=>v
def rounds (ks ws v:List UInt64):Nat→List UInt64
 | 0=>v
 | t+1=>rnd (rounds ks ws v t) (ks.getD t 0) (ws.getD t 0)
def pE (ks h:List UInt64) (b:List UInt8):List UInt64:=List.zipWith (fun x y=>x+y) h (rounds ks (cJ b 80) h 80)
def dC (ks h:List UInt64) (b:List UInt8):Nat→List UInt64
 | 0=>h
 | n+1=>pE ks (dC ks h b n) ((b.drop (128*n)).take 128)
def be8 (x:UInt64):List UInt8:=[(aM x 56).toUInt8,(aM x 48).toUInt8,(aM x 40).toUInt8,(aM x 32).toUInt8,(aM x 24).toUInt8,(aM x 16).toUInt8,(aM x 8).toUInt8,(aM x 0).toUInt8]
def gL (h:List UInt64):List UInt8:=h.flatMap be8
def rY (n:Nat):Nat:=(239 - n % 128) % 128
def mR (n:Nat):List UInt8:=[128]++List.replicate (rY n) 0++List.replicate 8 0++be8 (8*UInt64.ofNat n)
def pad (b:List UInt8):List UInt8:=b++mR b.length
def qSF (h ks:List UInt64) (b:List UInt8):List UInt8:=gL (dC ks h (pad b) ((pad b).length / 128))
theorem gH (b:List UInt8) : ∀ t,(cJ b t).length=t
 | 0=>rfl
 | t+1=>by simp [cJ,gH b t]
theorem qJW {v:List UInt64} {k x:UInt64} (h:v.length=8):(rnd v k x).length=8:=by
 unfold rnd
 split
 ·rfl
 ·exact h
theorem jL {ks ws v:List UInt64} (h:v.length=8) : ∀ t,(rounds ks ws v t).length=8
 | 0=>h
 | t+1=>qJW (jL h t)
theorem vQ {ks h:List UInt64} {b:List UInt8} (hh:h.length=8):(pE ks h b).length=8:=by simp [pE,hh,jL hh]
theorem mE {ks h:List UInt64} {b:List UInt8} (hh:h.length=8) : ∀ n,(dC ks h b n).length=8
 | 0=>hh
 | n+1=>vQ (mE hh n)
@[simp] theorem qLX (x:UInt64):(be8 x).length=8:=rfl
theorem yJ {h:List UInt64} (hh:h.length=8):(gL h).length=64:=by
 match h,hh with
 | [a,b,c,d,e,f,g,k],_=>rfl
theorem lJ {ks h:List UInt64} {a b:List UInt8} : ∀ n,128*n≤a.length→dC ks h (a++b) n=dC ks h a n
 | 0,_=>rfl
 | n+1,hn=>by
   simp only [dC]
   rw [lJ n (by omega),List.drop_append_of_le_length (by omega),List.take_append_of_le_length (by rw [List.length_drop]; omega)]
theorem mQ {ks h:List UInt64} {a b:List UInt8} {m:Nat} (ha:a.length=128*m) : ∀ n,dC ks h (a++b) (m+n)=dC ks (dC ks h a m) b n
 | 0=>lJ m (by omega)
 | n+1=>by
   rw [show m+(n+1)=(m+n)+1 from rfl]
   simp only [dC]
   rw [mQ ha n,List.drop_append,List.drop_eq_nil_of_le (by omega),List.nil_append]
   congr 3
   omega
def rest (b:List UInt8):List UInt8:=b.drop (128*(b.length / 128))
def state (ks h:List UInt64) (b:List UInt8):List UInt64:=dC ks h b (b.length / 128)
theorem kU (b:List UInt8):(rest b).length=b.length % 128:=by simp [rest]; omega
theorem qCQ {ks h:List UInt64} {b:List UInt8} (hh:h.length=8):(state ks h b).length=8:=mE hh _
theorem sL {ks h:List UInt64} {b c:List UInt8} : state ks h (b++c)=dC ks (state ks h b) (rest b++c) ((rest b++c).length / 128):=by
 have e:b++c=b.take (128*(b.length / 128))++(rest b++c):=by
  rw [← List.append_assoc]; simp [rest]
 have hl:(b.take (128*(b.length / 128))).length=128*(b.length / 128):=by rw [List.length_take]; omega
 have hn:(b++c).length / 128=b.length / 128+(rest b++c).length / 128:=by
  rw [List.length_append,List.length_append,kU]; omega
 unfold state
 rw [hn]
 conv=>lhs; rw [e]
 rw [mQ hl]
 congr 1
 have:=lJ (ks:=ks) (h:=h) (a:=b.take (128*(b.length / 128))) (b:=b.drop (128*(b.length / 128))) (b.length / 128) (by omega)
 rw [List.take_append_drop] at this
 exact this.symm
theorem xJ {b c:List UInt8} : rest (b++c)=(rest b++c).drop (128*((rest b++c).length / 128)):=by
 have e:b++c=b.take (128*(b.length / 128))++(rest b++c):=by
  rw [← List.append_assoc]; simp [rest]
 have hl:(b.take (128*(b.length / 128))).length=128*(b.length / 128):=by rw [List.length_take]; omega
 have hn:(b++c).length / 128=b.length / 128+(rest b++c).length / 128:=by
  rw [List.length_append,List.length_append,kU]; omega
 show (b++c).drop (128*((b++c).length / 128))=_
 rw [hn]
 conv=>lhs; rw [e]
 rw [List.drop_append,List.drop_eq_nil_of_le (by omega),List.nil_append]
 congr 1
 omega
theorem qJI (b:List UInt8):(pad b).length % 128=0∧(mR b.length).length≤256:=by
 simp [pad,mR,rY]; omega
theorem xC (h ks:List UInt64) (b:List UInt8):qSF h ks b=gL (state ks h (pad b)):=rfl
end Go.Sh
end
section
namespace Go.Proofs.YtahjmeegfkfokaaGreatDoor
open Go Go.Sh
open Go.Proofs.Tryz
theorem yC : ∀ a:Fin 64,a.val≠0→(aN (IntKind.i64.wrap (0 - (a.val:Int)))) &&& 63=UInt64.ofNat (64 - a.val):=by decide
theorem wK {w:World} {x:UInt64} {a:Nat} (h0:0<a) (h1:a<64) {k:Int} (hk:k=IntKind.i64.wrap (0 - (a:Int))) :
 Calls prog 253 #[.int .u64 x.toNat,.int .i64 k] w (Ret fun v w'=>v = .int .u64 (rr x a).toNat∧w'=w):=by
 subst hk
 refine qNE _ _ ?_
 unfold qQE
 rw [yC ⟨a,h1⟩ (by simp only; omega)]
 have e1:(UInt64.ofNat (64 - a)).toNat=64 - a:=by simp [UInt64.toNat_ofNat']; omega
 have e2:((64:UInt64) - UInt64.ofNat (64 - a)).toNat=a:=by
  rw [UInt64.toNat_sub,e1]
  simp; omega
 simp only [e1,e2,Int.toNat_natCast]
 refine ⟨by omega,by omega,?_,rfl⟩
 show Value.int .u64 _=Value.int .u64 _
 rw [UInt64.or_comm]
 rfl
theorem qTB {w:World} {x:UInt64} {a b c:Nat} (ha:0<a∧a<64) (hb:0<b∧b<64) (hc:0<c∧c<64) :
 Calls prog 246 #[.int .u64 x.toNat,.int .i64 a,.int .i64 b,.int .i64 c] w (Ret fun v w'=>v = .int .u64 ((rr x a ^^^ rr x b) ^^^ rr x c).toNat∧w'=w):=by
 refine qKH _ _ _ _ ?_
 unfold qQT
 refine aC (wK ha.1 ha.2 rfl) ?_
 rintro v w1 ⟨rfl,rfl⟩
 refine ⟨_,rfl,aC (wK hb.1 hb.2 rfl) ?_⟩
 rintro v w1 ⟨rfl,rfl⟩
 refine ⟨_,rfl,aC (wK hc.1 hc.2 rfl) ?_⟩
 rintro v w1 ⟨rfl,rfl⟩
 exact ⟨_,rfl,rfl,rfl⟩
theorem qBH {w:World} {x:UInt64} {a b c:Nat} (ha:0<a∧a<64) (hb:0<b∧b<64) :
 Calls prog 245 #[.int .u64 x.toNat,.int .i64 a,.int .i64 b,.int .i64 c] w (Ret fun v w'=>v = .int .u64 ((rr x a ^^^ rr x b) ^^^ aM x c).toNat∧w'=w.drew):=by
 refine qLH _ _ _ _ ?_
 unfold qSO
 refine ⟨by omega,aC (wK ha.1 ha.2 rfl) ?_,trivial⟩
 rintro v w1 ⟨rfl,rfl⟩
 refine ⟨_,rfl,aC (wK hb.1 hb.2 rfl) ?_,trivial⟩
 rintro v w1 ⟨rfl,rfl⟩
 exact ⟨_,rfl,rfl,rfl⟩
def H0:List UInt64:=[0x6a09e667f3bcc908,0xbb67ae8584caa73b,0x3c6ef372fe94f82b,0xa54ff53a5f1d36f1,0x510e527fade682d1,0x9b05688c2b3e6c1f,0x1f83d9abfb41bd6b,0x5be0cd19137e2179]
def KS:List UInt64:=[
 0x428a2f98d728ae22,0x7137449123ef65cd,0xb5c0fbcfec4d3b2f,0xe9b5dba58189dbbc,
 0x3956c25bf348b538,0x59f111f1b605d019,0x923f82a4af194f9b,0xab1c5ed5da6d8118,
 0xd807aa98a3030242,0x12835b0145706fbe,0x243185be4ee4b28c,0x550c7dc3d5ffb4e2,
 0x72be5d74f27b896f,0x80deb1fe3b1696b1,0x9bdc06a725c71235,0xc19bf174cf692694,
 0xe49b69c19ef14ad2,0xefbe4786384f25e3,0x0fc19dc68b8cd5b5,0x240ca1cc77ac9c65,
 0x2de92c6f592b0275,0x4a7484aa6ea6e483,0x5cb0a9dcbd41fbd4,0x76f988da831153b5,
 0x983e5152ee66dfab,0xa831c66d2db43210,0xb00327c898fb213f,0xbf597fc7beef0ee4,
 0xc6e00bf33da88fc2,0xd5a79147930aa725,0x06ca6351e003826f,0x142929670a0e6e70,
 0x27b70a8546d22ffc,0x2e1b21385c26c926,0x4d2c6dfc5ac42aed,0x53380d139d95b3df,
 0x650a73548baf63de,0x766a0abb3c77b2a8,0x81c2c92e47edaee6,0x92722c851482353b,
 0xa2bfe8a14cf10364,0xa81a664bbc423001,0xc24b8b70d0f89791,0xc76c51a30654be30,
 0xd192e819d6ef5218,0xd69906245565a910,0xf40e35855771202a,0x106aa07032bbd1b8,
 0x19a4c116b8d2d0c8,0x1e376c085141ab53,0x2748774cdf8eeb99,0x34b0bcb5e19b48a8,
 0x391c0cb3c5c95a63,0x4ed8aa4ae3418acb,0x5b9cca4f7763e373,0x682e6ff3d6b2b8a3,
 0x748f82ee5defb2fc,0x78a5636f43172f60,0x84c87814a1f0ab72,0x8cc702081a6439ec,
 0x90befffa23631e28,0xa4506cebde82bde9,0xbef9a3f7b2c67915,0xc67178f2e372532b,
 0xca273eceea26619c,0xd186b8c721c0c207,0xeada7dd6cde0eb1e,0xf57d4f7fee6ed178,
 0x06f067aa72176fba,0x0a637dc5a2c898a6,0x113f9804bef90dae,0x1b710b35131c471b,
 0x28db77f523047d84,0x32caab7b40c72493,0x3c9ebe0a15c9bebc,0x431d67c49c100d4c,
 0x4cc5d4becb3e42b6,0x597f299cfc657e2a,0x5fcb6fab3ad6faec,0x6c44198c4a475817]
def sha (b:List UInt8):List UInt8:=qSF H0 KS b
theorem qGI:H0.length=8:=rfl
theorem qER:KS.length=80:=rfl
def isG (x:Nat):Prop:=x=3∨x=4
structure dM (w:World):Prop where
 begin0:Rd w ⟨3,0,none⟩ (us H0)
 rest0:Rd w ⟨4,0,none⟩ (us KS)
theorem dM.lt {w:World} (h:dM w) {x:Nat} (hx:isG x):x<w.heap.size:=by
 rcases hx with rfl | rfl
 ·exact qIR h.begin0 (by simp [qGI])
 ·exact qIR h.rest0 (by simp [qER])
theorem dM.mod {w w':World} {S:Nat→Prop} (h:dM w) (hm:Mod S w w') (hs : ∀ x,isG x→¬ S x):dM w':=
 ⟨h.begin0.mod hm (hs _ (.inl rfl)),h.rest0.mod hm (hs _ (.inr rfl))⟩
theorem dM.no {w w':World} (h:dM w) (hm:Mod NoB w w'):dM w':=h.mod hm fun _ _ h=>h
theorem dM.drew {w:World} (h:dM w):dM w.drew:=⟨h.begin0,h.rest0⟩
theorem dM.fresh {w:World} (h:dM w) {x:Nat} (hx:w.heap.size≤x) : ¬ isG x:=fun e=>by have:=h.lt e; omega
theorem i640 : ∃ i,prog.info? 308=some i∧i.zero=some (.agg (List.replicate 80 z64).toArray)∧i.size=80∧i.bytes=640:=bM (by kernel_rfl) (by kernel_rfl) (by kernel_rfl)
theorem qWC : ∃ i,prog.info? 283=some i∧i.zero=some (.agg (List.replicate 8 z64).toArray)∧i.size=8∧i.bytes=64:=bM (by kernel_rfl) (by kernel_rfl) (by kernel_rfl)
theorem qDN (l:List UInt8) (c:UInt8):tX (l++[c])=dO (tX l) 8 ||| c.toUInt64:=by simp [tX]
def fill (ws:List UInt64):List Value:=us ws++List.replicate (80 - ws.length) z64
theorem pQ {ws:List UInt64} {i:Nat} (h:i<ws.length):(fill ws)[i]? = some (.int .u64 (ws.getD i 0).toNat):=by
 unfold fill
 rw [List.getElem?_append_left (by simpa using h),lU h]
theorem sV {ws:List UInt64} {x:UInt64} (h:ws.length<80):(fill ws).set ws.length (.int .u64 x.toNat)=fill (ws++[x]):=by
 unfold fill
 rw [vU (by omega),set_mid (by simp),rR]
 simp only [List.length_append,List.length_cons,List.length_nil,List.append_assoc]
 congr 1
@[simp] theorem nC {ws:List UInt64} (h:ws.length≤80):(fill ws).length=80:=by unfold fill; simp; omega
theorem qID {w:World} {b:Slc} {bs:List UInt8} (hb:aL w b 1 (bys bs)) (hl:bs.length=128) {m t:Nat} (ht:t<16) {w2:World} (hm:Mod NoB w w2) (hbm : ∀ x,b.blk=some x→x≠m) (hmw:w.heap.size≤m) (hM:Blk w2 m (fill (cJ bs t)) 308) {R:Prop}
 {K:World→Prop} (hk : ∀ w3,Mod NoB w w3→Blk w3 m (fill (cJ bs (t+1))) 308→K w3) :
 ∃ (inv1:List TV→World→Prop) (mu1:List TV→World→Nat),inv1 [.i .i64 (0:Int)] w2∧(∀ x1:Int,∀ w3:World,inv1 [.i .i64 x1] w3→aH (decide (x1<((aF b 1 (8*t) (8*t+8) b.cap).len:Int))) (((0≤x1∧x1<((aF b 1 (8*t) (8*t+8) b.cap).len:Nat))∧aA (aF b 1 (8*t) (8*t+8) b.cap).a fun a=>∃ x2:UInt8,Rd w3 (a.add ((x1).toNat*1)) [(.int .u8 (x2).toNat)]∧((0≤(t:Int)∧(t:Int)<(80:Nat))∧∃ x3:UInt64,Rd w3 ((⟨m,0,none⟩:Addr).add (t*1)) [(.int .u64 (x3).toNat)]∧(0≤(((8:UInt64)).toNat:Int)∧((0≤(t:Int)∧(t:Int)<(80:Nat))∧aJ prog (storeVar 119 ((⟨m,0,none⟩:Addr).add (t*1)) (.int .u64 (((dO x3 ((((8:UInt64)).toNat:Int)).toNat) ||| (x2).toUInt64)).toNat)) w3 fun w4=>(inv1 [.i .i64 (IntKind.i64.wrap (x1+(1:Int)))] w4∧mu1 [.i .i64 (IntKind.i64.wrap (x1+(1:Int)))] w4<mu1 [.i .i64 x1] w3)))))) (K w3)):=by
 have hbl:=aW hb
 have hcut:=hb.cut (l:=8*t) (n:=8*t+8) (m:=b.cap) (by omega) (by omega) (by have:=hb.2.1; omega) (Nat.le_refl _)
 have hwl:((bs.drop (8*t)).take 8).length=8:=by rw [List.length_take,List.length_drop]; omega
 rw [show 8*t+8 - 8*t=8 by omega,fO] at hcut
 have hcl:(aF b 1 (8*t) (8*t+8) b.cap).len=8:=by simp [aF]
 have hsl:=gH bs t
 refine ⟨fun l w'=>match l with | [.i _ x]=>∃ j:Nat,x=j∧j≤8∧Blk w' m ((fill (cJ bs t)).set t (.int .u64 (tX (((bs.drop (8*t)).take 8).take j)).toNat)) 308∧Mod NoB w w' | _=>False,fun l _=>match l with | [.i _ x]=>(8 - x).toNat | _=>0,⟨0,rfl,by omega,?_,hm⟩,?_⟩
 ·have:(fill (cJ bs t)).set t (.int .u64 (tX (((bs.drop (8*t)).take 8).take 0)).toNat)=fill (cJ bs t):=by
   apply List.ext_getElem?
   intro i
   rw [List.getElem?_set]
   split
   ·next h=>
    subst h
    rw [if_pos (by rw [nC (by omega)]; omega)]
    unfold fill
    rw [List.getElem?_append_right (by simp [hsl]),yS,hsl,Nat.sub_self,vU (by omega)]
    rfl
   ·rfl
  rw [this]; exact hM
 rintro x1 w3 ⟨j,rfl,hj,hB,hm3⟩
 rw [hcl]
 have hfl:((fill (cJ bs t)).set t (Value.int .u64 (tX (((bs.drop (8*t)).take 8).take j)).toNat)).length=80:=by rw [List.length_set,nC (by omega)]
 refine aE (fun h=>?_) (fun h=>?_)
 ·have hj8:j<8:=by simp at h; omega
  obtain ⟨a,ha,hrd⟩:=gU hcut (i:=j) (by omega)
  rw [ha]
  refine ⟨⟨by omega,by omega⟩,_,(hrd.mod hm3 fun h=>h),⟨by omega,by omega⟩,tX (((bs.drop (8*t)).take 8).take j),?_,by decide,⟨by omega,by omega⟩,?_⟩
  ·rw [aK]
   exact hB.rd1 (by rw [Nat.zero_add,Nat.mul_one,List.getElem?_set_self (by rw [nC (by omega)]; omega)])
  ·rw [aK]
   refine aP (by kernel_rfl) (by kernel_rfl) rfl hB (by rw [hfl]; omega) fun w4 ht4 hB4=>⟨?_,?_⟩
   ·rw [aS (by omega)]
    refine ⟨j+1,rfl,by omega,?_,hm3.fresh ht4.mod fun x e=>by omega⟩
    rw [Nat.zero_add,Nat.mul_one,List.set_set] at hB4
    rw [aV (by omega),qDN]
    exact hB4
   ·rw [aS (by omega)]
    simp only []
    omega
 ·have hj8:j=8:=by simp at h; omega
  subst hj8
  refine hk w3 hm3 ?_
  rw [List.take_of_length_le (by omega)] at hB
  have e:cJ bs (t+1)=cJ bs t++[tX ((bs.drop (8*t)).take 8)]:=by
   show (let l:=cJ bs t; l++[wJ bs l t])=_
   simp only [wJ,if_pos ht,word]
  rw [e,← sV (by omega),hsl]
  exact hB
theorem dM.k {w:World} (h:dM w) {t:Nat} (ht:t<80):Rd w ((⟨4,0,none⟩:Addr).add (t*1)) [.int .u64 (KS.getD t 0).toNat]:=by
 intro j v hj
 cases j with
 | zero=>
   simp only [List.length_cons,List.length_nil,Nat.zero_add,Nat.lt_add_one,List.getElem?_cons_zero,Option.some.injEq] at hj
   subst hj
   have:=h.rest0 t _ (lU (l:=KS) (i:=t) (by rw [qER]; exact ht))
   simpa using this
 | succ j=>simp at hj
theorem qEO {h v:List UInt64} {i:Nat} (hh:h.length=8) (hv:v.length=8) (hi:i<8) :
 (us (List.zipWith (fun x y=>x+y) (h.take i) (v.take i)++h.drop i)).set i (.int .u64 (h[i]+v[i]).toNat)=us (List.zipWith (fun x y=>x+y) (h.take (i+1)) (v.take (i+1))++h.drop (i+1)):=by
 have e1:h.drop i=h[i] :: h.drop (i+1):=List.drop_eq_getElem_cons (by omega)
 have hl:(List.zipWith (fun x y=>x+y) (h.take i) (v.take i)).length=i:=by simp; omega
 have e2:List.zipWith (fun x y=>x+y) (h.take (i+1)) (v.take (i+1))=List.zipWith (fun x y=>x+y) (h.take i) (v.take i)++[h[i]+v[i]]:=by
  rw [aV (by omega),aV (by omega),List.zipWith_append (by simp; omega)]
  rfl
 rw [e1,e2,rR,rR,rR]
 have:us (h[i] :: h.drop (i+1)) = .int .u64 h[i].toNat :: us (h.drop (i+1)):=rfl
 rw [this,set_mid (by simpa using hl.symm),List.append_assoc]
 rfl
theorem qAU {w:World} {p:Nat} {h:List UInt64} {r:List Value} {T:TypeId} {b:Slc} {bs:List UInt8} (hp:Blk w p (us h++r) T) (hh:h.length=8) (hb:aL w b 1 (bys bs)) (hl:bs.length=128)
 (hg:dM w) (hpg : ¬ isG p) :
 Calls prog 223 #[.pointer (some ⟨p,0,none⟩),.slice b.a b.len b.cap] w (Ret fun v w'=>v = .tuple #[]∧Blk w' p (us (pE KS h bs)++r) T∧Mod (fun x=>x=p) w w'):=by
 refine qPG _ _ ?_
 unfold qTK
 obtain ⟨i0,hi1,hi2,-,-⟩:=i640
 obtain ⟨i1,hj1,hj2,-,-⟩:=qWC
 have hbl:=aW hb
 have hpl:=hp.lt
 refine aO (l:=List.replicate 80 z64) hi1 hi2 rfl fun m w1 hN hM0=>⟨_,rfl,?_⟩
 have hmat:=hN.at_
 have hbm : ∀ x,b.blk=some x→x≠m:=fun x hx=>by
  rcases hb.2.2 with h0 | ⟨bb,e1,e2⟩
  ·have:=congrArg List.length h0; simp [hl] at this
  ·have h1:=qIR e2 (by simp [hl])
   unfold Slc.blk at hx
   split at hx
   ·cases hx
   ·simp [e1] at hx; subst hx; omega
 refine ⟨fun l w'=>match l with | [.i _ x]=>∃ t:Nat,x=t∧t≤80∧Blk w' m (fill (cJ bs t)) 308∧Mod NoB w w' | _=>False,fun l _=>match l with | [.i _ x]=>(80 - x).toNat | _=>0,⟨0,rfl,by omega,hM0,hN.mod⟩,?_⟩
 rintro x w2 ⟨t,rfl,ht,hM,hm2⟩
 refine aE (fun h80=>?_) (fun h80=>?_)
 ·have ht80:t<80:=by simp at h80; omega
  refine aE (fun h16=>?_) (fun h16=>?_)
  ·have ht16:t<16:=by simp at h16; omega
   have e1:IntKind.i64.wrap ((8:Int)*(t:Int))=((8*t:Nat):Int):=by rw [wrap_i64 (by omega)]; omega
   have e2:IntKind.i64.wrap (((8*t:Nat):Int)+(8:Int))=((8*t+8:Nat):Int):=by rw [wrap_i64 (by omega)]; omega
   simp only [e1,e2,Int.toNat_natCast]
   refine ⟨⟨by omega,by omega,by have:=hb.2.1; omega⟩,?_⟩
   refine qID (R:=True) hb hl ht16 hm2 hbm (by omega) hM fun w3 hm3 hM3=>⟨?_,?_⟩
   ·rw [aS (by omega)]
    exact ⟨t+1,rfl,by omega,hM3,hm3⟩
   ·rw [aS (by omega)]
    (try simp only []); omega
  ·have ht16:16≤t:=by simp at h16; omega
   have hsl:=gH bs t
   have f2:IntKind.i64.wrap ((t:Int) - (2:Int))=((t - 2:Nat):Int):=by rw [wrap_i64 (by omega)]; omega
   have f7:IntKind.i64.wrap ((t:Int) - (7:Int))=((t - 7:Nat):Int):=by rw [wrap_i64 (by omega)]; omega
   have f15:IntKind.i64.wrap ((t:Int) - (15:Int))=((t - 15:Nat):Int):=by rw [wrap_i64 (by omega)]; omega
   have f16:IntKind.i64.wrap ((t:Int) - (16:Int))=((t - 16:Nat):Int):=by rw [wrap_i64 (by omega)]; omega
   simp only [f2,f7,f15,f16,Int.toNat_natCast]
   refine ⟨fun w'=>Blk w' m (fill (cJ bs t)) 308,hM,⟨by omega,by omega⟩,⟨by omega,by omega⟩,⟨by omega,by omega⟩,⟨by omega,by omega⟩,
    (cJ bs t).getD (t - 2) 0,fun w' h=>rda h (pQ (by omega)),(cJ bs t).getD (t - 7) 0,fun w' h=>rda h (pQ (by omega)),(cJ bs t).getD (t - 15) 0,fun w' h=>rda h (pQ (by omega)),(cJ bs t).getD (t - 16) 0,fun w' h=>rda h (pQ (by omega)),?_,trivial⟩
   refine aC (qBH (a:=19) (b:=61) (c:=6) (by omega) (by omega)) ?_
   rintro v w5 ⟨rfl,rfl⟩
   refine ⟨_,rfl,hM,?_,trivial⟩
   refine aC (qBH (a:=1) (b:=8) (c:=7) (by omega) (by omega)) ?_
   rintro v w5 ⟨rfl,rfl⟩
   refine ⟨_,rfl,hM,⟨by omega,by omega⟩,?_,trivial⟩
   rw [aK]
   refine aP (l:=fill (cJ bs t)) (by kernel_rfl) (by kernel_rfl) rfl (w:=w2.drew.drew.drew) (E:=308) hM (by rw [nC (by omega)]; omega) fun w7 ht7 hM7=>⟨?_,?_⟩
   ·rw [aS (by omega)]
    refine ⟨t+1,rfl,by omega,?_,(Mod.dr (Mod.dr (Mod.dr hm2))).fresh ht7.mod fun x e=>by omega⟩
    rw [Nat.zero_add,Nat.mul_one] at hM7
    have e:cJ bs (t+1)=cJ bs t++[wJ bs (cJ bs t) t]:=rfl
    rw [e,← sV (by omega),hsl]
    unfold wJ
    rw [if_neg (by omega)]
    exact hM7
   ·rw [aS (by omega)]
    (try simp only []); omega
 ·have ht80:t=80:=by simp at h80; omega
  subst ht80
  obtain ⟨k0,k1,k2,k3,k4,k5,k6,k7,rfl⟩:=qBC hh
  have hp2:=hp.no hm2
  have hMf:fill (cJ bs 80)=us (cJ bs 80):=by unfold fill; rw [gH]; simp
  rw [hMf] at hM
  refine ⟨k0,k1,k2,k3,k4,k5,k6,k7,(hp2.rd (o:=0) (vs:=us [k0,k1,k2,k3,k4,k5,k6,k7]) fun j v hj=>by
   rw [Nat.zero_add,List.getElem?_append_left (List.getElem?_eq_some_iff.1 hj).1,hj]),?_⟩
  refine aO (l:=List.replicate 8 z64) hj1 hj2 rfl fun vB w8 hN8 hV8=>⟨_,rfl,?_⟩
  have hvat:=hN8.at_
  refine bS (vs:=us [k0,k1,k2,k3,k4,k5,k6,k7]) (by kernel_rfl) (by kernel_rfl) rfl hV8 (by simp) (uE _) fun w9 ht9 hV9=>?_
  have hM9:Blk w9 m (us (cJ bs 80)) 308:=(hM.no hN8.mod).mod ht9.mod (by have:=hM.lt; omega)
  have hm9:Mod NoB w w9:=(hm2.tr hN8.mod).fresh ht9.mod fun x e=>by have:=hm2.size; omega
  refine ⟨cJ bs 80,gH bs 80,by rw [sS]; exact hM9.rd (o:=0) fun j v hj=>by rw [Nat.zero_add]; exact hj,?_⟩
  have hvg:w.heap.size≤vB:=by have:=hm2.size; omega
  refine ⟨fun l w'=>match l with | [.i _ x]=>∃ t:Nat,x=t∧t≤80∧Blk w' vB (us (rounds KS (cJ bs 80) [k0,k1,k2,k3,k4,k5,k6,k7] t)) 283∧Mod NoB w w' | _=>False,fun l _=>match l with | [.i _ x]=>(80 - x).toNat | _=>0,⟨0,rfl,by omega,hV9,hm9⟩,?_⟩
  rintro x w10 ⟨t,rfl,ht,hV,hm10⟩
  have hg10:=hg.no hm10
  refine aE (fun h8=>?_) (fun h8=>?_)
  ·have ht80:t<80:=by simp at h8; omega
   obtain ⟨a,b',c,d,e,f,g,k,hr⟩:=qBC (jL (ks:=KS) (ws:=cJ bs 80) (v:=[k0,k1,k2,k3,k4,k5,k6,k7]) rfl t)
   have hnext:rounds KS (cJ bs 80) [k0,k1,k2,k3,k4,k5,k6,k7] (t+1)=rnd [a,b',c,d,e,f,g,k] (KS.getD t 0) ((cJ bs 80).getD t 0):=by
    show rnd (rounds KS (cJ bs 80) _ t) _ _=_
    rw [hr]
   rw [hr] at hV
   refine ⟨⟨by omega,by omega⟩,?_,(cJ bs 80).getD t 0,?_,⟨by omega,by omega⟩,⟨by omega,by omega⟩,a,rda (w:=w10.drew) hV rfl,e,rda (w:=w10.drew) hV rfl,?_⟩
   ·intro z hz
    obtain ⟨y,_,rfl⟩:=List.mem_map.1 hz
    rfl
   ·rw [Int.toNat_natCast]
    have hlt:t<(cJ bs 80).length:=by rw [gH]; omega
    rw [List.getElem?_map,List.getElem?_eq_getElem hlt,List.getD_eq_getElem?_getD,List.getElem?_eq_getElem hlt]
    rfl
   refine ⟨fun w'=>Blk w' vB (us [a,b',c,d,e,f,g,k]) 283∧dM w',⟨hV,hg10.drew.drew⟩,⟨by omega,by omega⟩,⟨by omega,by omega⟩,⟨by omega,by omega⟩,⟨by omega,by omega⟩,
    k,fun w' h=>rda h.1 rfl,f,fun w' h=>rda h.1 rfl,g,fun w' h=>rda h.1 rfl,KS.getD t 0,fun w' h=>dM.k h.2 ht80,?_,trivial⟩
   refine aC (qTB (a:=14) (b:=18) (c:=41) (by omega) (by omega) (by omega)) ?_
   rintro v w5 ⟨rfl,rfl⟩
   refine ⟨_,rfl,⟨hV,hg10.drew.drew⟩,fun w'=>Blk w' vB (us [a,b',c,d,e,f,g,k]) 283,hV,⟨by omega,by omega⟩,⟨by omega,by omega⟩,⟨by omega,by omega⟩,⟨by omega,by omega⟩,
    b',fun w' h=>rda h rfl,c,fun w' h=>rda h rfl,b',fun w' h=>rda h rfl,c,fun w' h=>rda h rfl,?_,trivial⟩
   refine aC (qTB (a:=28) (b:=34) (c:=39) (by omega) (by omega) (by omega)) ?_
   rintro v w5 ⟨rfl,rfl⟩
   refine ⟨_,rfl,hV,⟨by omega,by omega⟩,⟨by omega,by omega⟩,?_,trivial⟩
   obtain ⟨i4,h41,h42,h43,h44⟩:=i44
   have hVo:Sh.Own w10.drew.drew.drew.drew ⟨some ⟨vB,0,none⟩,8,8⟩ 1 (us [a,b',c,d,e,f,g,k]):=aX (n:=8) (k:=1) (T:=283) hV rfl
   have hsrc:aL w10.drew.drew.drew.drew (aF ⟨some ⟨vB,0,none⟩,8,8⟩ 1 0 7 8) 1 (us [a,b',c,d,e,f,g]):=hVo.rd.cut (l:=0) (n:=7) (m:=8) (by omega) (by simp only []; omega) (by omega) (by simp only []; omega)
   refine nJ (d:=aF ⟨some ⟨vB,0,none⟩,8,8⟩ 1 1 8 8) (x:=aF ⟨some ⟨vB,0,none⟩,8,8⟩ 1 0 7 8) (b:=vB) (o:=1) (T:=283) (l:=us [a,b',c,d,e,f,g,k]) u40 h41 h43 rfl hV (by simp [aF]) hsrc (uE _) fun w13 hV13 hm13 hs13=>⟨_,rfl,?_⟩
   have hV13':Blk w13 vB (us [a,a,b',c,d,e,f,g]) 283:=hV13
   refine ⟨⟨by omega,by omega⟩,d,rda hV13' rfl,⟨by omega,by omega⟩,?_⟩
   refine aP (b:=vB) (o:=0) (by kernel_rfl) (by kernel_rfl) rfl hV13' (by simp) fun w14 ht14 hV14=>⟨⟨by omega,by omega⟩,?_⟩
   refine aP (b:=vB) (o:=4) (by kernel_rfl) (by kernel_rfl) rfl hV14 (by simp) fun w15 ht15 hV15=>⟨?_,?_⟩
   ·rw [aS (by omega)]
    refine ⟨t+1,rfl,by omega,?_,?_⟩
    ·rw [hnext]
     exact hV15
    ·exact (((Mod.dr (Mod.dr (Mod.dr (Mod.dr hm10)))).fresh hm13 fun x e=>by omega).fresh ht14.mod fun x e=>by omega).fresh ht15.mod fun x e=>by omega
   ·rw [aS (by omega)]
    (try simp only []); omega
  ·have ht80:t=80:=by simp at h8; omega
   subst ht80
   obtain ⟨hv,hvl⟩ : ∃ hv,hv=rounds KS (cJ bs 80) [k0,k1,k2,k3,k4,k5,k6,k7] 80:=⟨_,rfl⟩
   have hvlen:hv.length=8:=by rw [hvl]; exact jL rfl 80
   rw [← hvl] at hV
   have hcomp:pE KS [k0,k1,k2,k3,k4,k5,k6,k7] bs=List.zipWith (fun x y=>x+y) [k0,k1,k2,k3,k4,k5,k6,k7] hv:=by rw [hvl]; rfl
   rw [hcomp]
   clear hcomp hvl
   obtain ⟨hk,hkl⟩ : ∃ hk,hk=[k0,k1,k2,k3,k4,k5,k6,k7]:=⟨_,rfl⟩
   rw [← hkl] at hp ⊢
   have hkn:hk.length=8:=by rw [hkl]; rfl
   clear hkl
   have hpv:p≠vB:=by omega
   refine ⟨fun l w'=>match l with | [.i _ x]=>∃ i:Nat,x=i∧i≤8∧Blk w' p (us (List.zipWith (fun x y=>x+y) (hk.take i) (hv.take i)++hk.drop i)++r) T∧Blk w' vB (us hv) 283∧Mod (fun x=>x=p) w w' | _=>False,fun l _=>match l with | [.i _ x]=>(8 - x).toNat | _=>0,
    ⟨0,rfl,by omega,by simpa using hp.no hm10,hV,hm10.mono fun _ _ e=>e.elim⟩,?_⟩
   rintro x w16 ⟨i,rfl,hi,hP,hV,hm16⟩
   refine aE (fun h8=>?_) (fun h8=>?_)
   ·have hi8:i<8:=by simp at h8; omega
    have hzl:(List.zipWith (fun x y=>x+y) (hk.take i) (hv.take i)).length=i:=by simp; omega
    have hget:(us (List.zipWith (fun x y=>x+y) (hk.take i) (hv.take i)++hk.drop i)++r)[i]? = some (.int .u64 hk[i].toNat):=by
     rw [List.getElem?_append_left (by simp; omega),rR,List.getElem?_append_right (by simp; omega)]
     simp only [yS,hzl,Nat.sub_self]
     rw [pC (by simp; omega)]
     simp
    refine ⟨fun w'=>Blk w' p (us (List.zipWith (fun x y=>x+y) (hk.take i) (hv.take i)++hk.drop i)++r) T∧Blk w' vB (us hv) 283,⟨hP,hV⟩,⟨by omega,by omega⟩,⟨by omega,by omega⟩,
     hk[i],fun w' h=>rda h.1 hget,hv[i],fun w' h=>rda h.2 (pC (by omega)),⟨by omega,by omega⟩,?_,trivial⟩
    rw [aK]
    refine aP (l:=us (List.zipWith (fun x y=>x+y) (hk.take i) (hv.take i)++hk.drop i)++r) (w:=w16.drew) (E:=T) (by kernel_rfl) (by kernel_rfl) rfl hP (by simp; omega) fun w17 ht17 hP17=>⟨?_,?_⟩
    ·rw [aS (by omega)]
     refine ⟨i+1,rfl,by omega,?_,Blk.mod (w:=w16.drew) hV ht17.mod (fun e=>hpv e.symm),(Mod.dr hm16).tr ht17.mod⟩
     rw [Nat.zero_add,Int.toNat_natCast,Nat.mul_one,List.set_append_left _ _ (by simp; omega),qEO hkn hvlen hi8] at hP17
     exact hP17
    ·rw [aS (by omega)]
     (try simp only []); omega
   ·have hi8:i=8:=by simp at h8; omega
    subst hi8
    refine ⟨rfl,?_,hm16⟩
    rw [List.take_of_length_le (by omega),List.take_of_length_le (by omega),List.drop_eq_nil_of_le (by omega),List.append_nil] at hP
    exact hP
def HW (st:List UInt64) (s:Slc) (n:UInt64):List Value:=us st++[s.val,.int .u64 n.toNat,.bool true]
section
variable {st:List UInt64} {s:Slc} {n:UInt64}
theorem hw8 (h:st.length=8):(HW st s n)[8]? = some s.val:=by unfold HW; rw [List.getElem?_append_right (by simp [h])]; simp [h]
theorem hw9 (h:st.length=8):(HW st s n)[9]? = some (.int .u64 n.toNat):=by unfold HW; rw [List.getElem?_append_right (by simp [h])]; simp [h]
theorem qZH (h:st.length=8):(HW st s n)[10]? = some (.bool true):=by unfold HW; rw [List.getElem?_append_right (by simp [h])]; simp [h]
theorem uS (h:st.length=8):(HW st s n).length=11:=by simp [HW,h]
theorem tP (h:st.length=8) (s':Slc):(HW st s n).set 8 s'.val=HW st s' n:=by
 unfold HW; rw [List.set_append_right _ _ (by simp [h])]; simp [h]
theorem qMC (h:st.length=8) (n':UInt64):(HW st s n).set 9 (.int .u64 n'.toNat)=HW st s n':=by
 unfold HW; rw [List.set_append_right _ _ (by simp [h])]; simp [h]
end
abbrev iD:TypeId:=285
structure eG (w:World) (p:Nat) (s:Slc) (b:List UInt8):Prop where
 blk:Blk w p (HW (state KS H0 b) s (UInt64.ofNat b.length)) iD
 own:Sh.Own w s 1 (bys (rest b))
 ne:s.blk≠some p
 pg : ¬ isG p
 sg : ∀ x,s.blk=some x→¬ isG x
theorem eG.mod {w w':World} {p:Nat} {s:Slc} {b:List UInt8} {S:Nat→Prop} (h:eG w p s b) (hm:Mod S w w') (hp : ¬ S p) (hs : ∀ x,s.blk=some x→¬ S x):eG w' p s b:=
 ⟨h.blk.mod hm hp,h.own.mod hm hs,h.ne,h.pg,h.sg⟩
theorem eG.no {w w':World} {p:Nat} {s:Slc} {b:List UInt8} (h:eG w p s b) (hm:Mod NoB w w'):eG w' p s b:=h.mod hm (fun h=>h) fun _ _ h=>h
theorem jM (b:List UInt8):(state KS H0 b).length=8:=qCQ qGI
theorem qBU {w:World} {p:Nat} {st:List UInt64} {s:Slc} {n:UInt64} (h:Blk w p (HW st s n) iD) (hst:st.length=8) :
 Calls prog 222 #[.pointer (some ⟨p,0,none⟩)] w (Ret fun v w'=>v = .bool true∧w'=w):=by
 refine qNR _ ?_
 unfold qQZ
 refine jX (e:=iD) (by kernel_rfl) ⟨_,rfl,true,?_,rfl,rfl⟩
 exact h.rd1 (o:=10) (qZH hst)
structure Mid (w0 w':World) (p:Nat) (s0:Slc) (X:Nat→Prop) (b' c:List UInt8) (n':UInt64) (q:Slc):Prop where
 ex : ∃ (s3:Slc) (c1 c2:List UInt8),c=c1++c2∧(rest b'++c1).length % 128=0∧aL w' q 1 (bys c2)∧(∀ x,q.blk=some x→X x)∧
  Blk w' p (HW (dC KS (state KS H0 b') (rest b'++c1) ((rest b'++c1).length / 128)) s3 n') iD∧Sh.Own w' s3 1 (bys [])∧BO w0 s0 s3
 mod:Mod (fun x=>x=p∨s0.blk=some x) w0 w'
set_option maxRecDepth 10000 in
theorem qAG {w:World} {p:Nat} {s:Slc} {b:List UInt8} {parts:Slc} {pl:List (List UInt8)} {X:Nat→Prop} (h:eG w p s b) (hg:dM w) (hp:PartsAt w parts pl X)
 (hXp : ¬ X p) (hXs : ∀ x,s.blk=some x→¬ X x) (hXl : ∀ x,X x→x<w.heap.size) (hn:b.length+(pl.flatten).length≤1000000000) (hm:pl.length≤1000000000) :
 Calls prog 170 #[.pointer (some ⟨p,0,none⟩),.slice parts.a parts.len parts.cap] w (Ret fun v w'=>v = .int .i64 0∧∃ s',eG w' p s' (b++pl.flatten)∧BO w s s'∧Mod (fun x=>x=p∨s.blk=some x) w w'):=by
 refine qKD _ _ ?_
 unfold qPV
 refine aC (qBU h.blk (jM b)) ?_
 rintro v w1 ⟨rfl,rfl⟩
 refine ⟨true,rfl,?_⟩
 show aH false _ _
 refine aE (fun e=>by cases e) fun _=>?_
 obtain ⟨i5',h51,h52,h53,h54⟩:=i5
 have hpl:=h.blk.lt
 have hY : ∀ x,s.blk=some x→¬ (x=p∨isG x∨X x):=fun x hx e=>e.elim (fun e=>h.ne (by rw [hx,e])) fun e=>e.elim (h.sg x hx) (hXs x hx)
 have hYl : ∀ x,(x=p∨isG x∨X x)→x<w1.heap.size:=fun x e=>e.elim (fun e=>by omega) fun e=>e.elim hg.lt (hXl x)
 have hBs : ∀ x,s.blk=some x→(x=p∨s.blk=some x):=fun x hx=>.inr hx
 have hXn : ∀ x,X x→¬ (x=p∨s.blk=some x):=fun x hx e=>e.elim (fun e=>hXp (by rw [← e]; exact hx)) fun e=>hXs x e hx
 have hGn : ∀ x,isG x→¬ (x=p∨s.blk=some x):=fun x hx e=>e.elim (fun e=>h.pg (by rw [← e]; exact hx)) fun e=>h.sg x e hx
 obtain ⟨ss,hr10,hr2,hr3,hr4⟩:=hp
 refine ⟨fun l w'=>match l with | [.i _ x]=>∃ i:Nat,x=i∧i≤pl.length∧(∃ s',eG w' p s' (b++(pl.take i).flatten)∧BO w1 s s')∧Mod (fun x=>x=p∨s.blk=some x) w1 w' | _=>False,
  fun l _=>match l with | [.i _ x]=>(pl.length - x).toNat | _=>0,⟨0,rfl,by omega,⟨s,by simpa using h,BO.refl _ _⟩,Mod.refl _ _⟩,?_⟩
 rintro x w2 ⟨i,rfl,hi,⟨s2,h2,hb2⟩,hm2⟩
 have hr1:=hr10.mod hm2 fun x hx=>hXn x (hr2 x hx)
 have hpn:parts.len=pl.length:=by have:=hr1.1; simp at this; omega
 refine aE (fun hc=>?_) (fun hc=>?_)
 ·have hi':i<pl.length:=by simp at hc; omega
  obtain ⟨a,ha,hrd⟩:=uH hr1 (i:=i) (by omega)
  obtain ⟨hrs0,hrx⟩:=hr4 i (by omega) hi'
  have hrs:=hrs0.mod hm2 fun x hx=>hXn x (hrx x hx)
  obtain ⟨q,hq⟩ : ∃ q,q=ss[i]'(by omega):=⟨_,rfl⟩
  rw [← hq] at hrd hrs hrx hrs0
  obtain ⟨c,hcd⟩ : ∃ c,c=pl[i]:=⟨_,rfl⟩
  rw [← hcd] at hrs hrs0
  obtain ⟨b',hbd⟩ : ∃ b',b'=b++(pl.take i).flatten:=⟨_,rfl⟩
  rw [← hbd] at h2
  have hb'n:b'.length+c.length≤1000000000:=by
   have e1:pl.flatten=(pl.take i).flatten++c++(pl.drop (i+1)).flatten:=by
    conv=>lhs; rw [← List.take_append_drop (i+1) pl]
    rw [List.flatten_append,aV hi',List.flatten_append,hcd]
    simp
   have:=congrArg List.length e1
   simp only [List.length_append] at this
   rw [hbd,List.length_append]; omega
  have hnx:b++(pl.take (i+1)).flatten=b'++c:=by rw [aV hi',List.flatten_append,hbd,hcd]; simp
  have hcl:=aW hrs
  have hqc:=hrs.2.1
  rw [ha]
  have hst:=jM b'
  have hrl:=kU b'
  refine ⟨⟨by omega,by omega⟩,q,hrd,UInt64.ofNat b'.length,h2.blk.rd1 (o:=9) (hw9 hst),?_⟩
  have hmany:UInt64.ofNat b'.length+aN (q.len:Int)=UInt64.ofNat (b'++c).length:=by
   rw [List.length_append,hcl]
   apply UInt64.toNat_inj.1
   have hu:(aN (q.len:Int)).toNat=q.len:=by unfold aN; simp [UInt64.toNat_ofNat']; omega
   rw [UInt64.toNat_add,hu]
   simp [UInt64.toNat_ofNat']
  rw [hmany]
  refine aP (b:=p) (o:=9) (by kernel_rfl) (by kernel_rfl) rfl h2.blk (by rw [uS hst]; omega) fun w3 ht3 hB3=>?_
  rw [qMC hst] at hB3
  have hm3:Mod (fun x=>x=p∨s.blk=some x) w1 w3:=hm2.tr (ht3.mod.mono fun _ _ e=>.inl e)
  have ho3:Sh.Own w3 s2 1 (bys (rest b')):=h2.own.mod ht3.mod fun x hx e=>h2.ne (by rw [hx,e])
  have hrs3:aL w3 q 1 (bys c):=hrs.mod ht3.mod fun x hx e=>hXp (by rw [← e]; exact hrx x hx)
  have hol:(rest b').length=s2.len:=by have:=ho3.1; simpa using this
  have hend : ∀ (w':World) (s':Slc),eG w' p s' (b'++c)→BO w1 s s'→Mod (fun x=>x=p∨s.blk=some x) w1 w'→
   ∃ i':Nat,IntKind.i64.wrap ((i:Int)+(1:Int))=i'∧i'≤pl.length∧(∃ s',eG w' p s' (b++(pl.take i').flatten)∧BO w1 s s')∧Mod (fun x=>x=p∨s.blk=some x) w1 w':=fun w' s' ha hb hm=>
   ⟨i+1,aS (by omega),by omega,⟨s',by rw [hnx]; exact ha,hb⟩,hm⟩
  have hmu:(pl.length - IntKind.i64.wrap ((i:Int)+(1:Int))).toNat<((pl.length:Int) - i).toNat:=by rw [aS (by omega)]; omega
  refine ⟨fun l w'=>match l with | [.sl q']=>Mid w1 w' p s X b' c (UInt64.ofNat (b'++c).length) q' | _=>False,⟨s2,hB3.rd1 (o:=8) (hw8 hst),s2,hB3.rd1 (o:=8) (hw8 hst),?_⟩,?_⟩
  ·refine aE (fun hl=>?_) (fun hl=>?_)
   ·have hs2:0<s2.len:=by simpa using hl
    have e1:IntKind.i64.wrap ((128:Int) - (s2.len:Int))=((128 - s2.len:Nat):Int):=by rw [wrap_i64 (by omega)]; omega
    rw [e1]
    obtain ⟨n0,hn0⟩ : ∃ n0,n0=min (128 - s2.len) q.len:=⟨_,rfl⟩
    have e2:(if (q.len:Int)<((128 - s2.len:Nat):Int) then (q.len:Int) else ((128 - s2.len:Nat):Int))=(n0:Int):=by split <;> omega
    rw [e2]
    simp only [Int.toNat_natCast]
    have hcut:=aL.cut (aL.drew hrs3) (l:=0) (n:=n0) (m:=q.cap) (by omega) (by omega) (by omega) (Nat.le_refl _)
    rw [Nat.sub_zero,fO,List.drop_zero] at hcut
    refine ⟨fun w'=>Blk w' p (HW (state KS H0 b') s2 (UInt64.ofNat (b'++c).length)) iD,hB3,⟨by omega,by omega⟩,⟨by omega,by omega⟩,s2,fun w' h=>h.rd1 (o:=8) (hw8 hst),?_,trivial⟩
    refine bG u26 h51 h52 h53 rfl h54 (w:=w3.drew) ho3 hcut (fM _) (by simp only [aF]; omega) (by simp only [aF]; omega) fun s4 w4 ho4 hlen4 hblk4 hm4=>⟨s4,rfl,?_⟩
    rw [← lK] at ho4
    have hlen4':s4.len=s2.len+n0:=by simpa [aF] using hlen4
    have hm3d:Mod (fun x=>x=p∨s.blk=some x) w1 w3.drew:=Mod.dr hm3
    have hm4':=hb2.mod hm3d hBs hm4
    have hb4:BO w1 s s4:=hb2.step hm3d.size hblk4
    have hB4:Blk w4 p (HW (state KS H0 b') s2 (UInt64.ofNat (b'++c).length)) iD:=Blk.mod (w:=w3.drew) hB3 hm4 h2.ne
    have hno4:=hb4.not hY hYl
    refine ⟨aP (b:=p) (o:=8) (by kernel_rfl) (by kernel_rfl) rfl hB4 (by rw [uS hst]; omega) fun w5 ht5 hB5=>?_,trivial⟩
    have hB5:Blk w5 p (HW (state KS H0 b') s4 (UInt64.ofNat (b'++c).length)) iD:=by rw [← tP hst s4]; exact hB5
    have ho5:Sh.Own w5 s4 1 (bys (rest b'++c.take n0)):=ho4.mod ht5.mod fun x hx e=>hno4 x hx (.inl e)
    have hm5:=hm4'.tr (ht5.mod.mono fun _ _ e=>.inl e)
    refine ⟨s4,hB5.rd1 (o:=8) (hw8 hst),aE (fun h128=>?_) (fun h128=>?_)⟩
    ·have h128':s4.len<128:=by simp at h128; omega
     have hn0c:n0=c.length:=by omega
     rw [hn0c,List.take_length] at ho5
     have hdiv:(rest b'++c).length / 128=0:=by rw [List.length_append]; omega
     have hs5:state KS H0 (b'++c)=state KS H0 b':=by rw [sL,hdiv]; rfl
     have hr5:rest (b'++c)=rest b'++c:=by rw [xJ,hdiv]; simp
     exact ⟨hend w5 s4 ⟨by rw [hs5]; exact hB5,by rw [hr5]; exact ho5,fun e=>hno4 p e (.inl rfl),h.pg,fun x hx e=>hno4 x hx (.inr (.inl e))⟩ hb4 hm5,hmu⟩
    ·have h128':s4.len=128:=by simp at h128; omega
     have hlb:(rest b'++c.take n0).length=128:=by have:=ho5.1; simp at this ⊢; omega
     have hg5:dM w5:=hg.mod hm5 hGn
     refine ⟨fun w'=>Blk w' p (HW (state KS H0 b') s4 (UInt64.ofNat (b'++c).length)) iD,hB5,s4,fun w' h=>h.rd1 (o:=8) (hw8 hst),?_,trivial⟩
     have hcb:=qAU (w:=w5.drew) (p:=p) (h:=state KS H0 b') (T:=iD) (r:=[s4.val,.int .u64 (UInt64.ofNat (b'++c).length).toNat,.bool true]) hB5 hst (aL.drew ho5.rd) hlb hg5.drew h.pg
     refine aC hcb ?_
     rintro v w6 ⟨rfl,hB6,hm6⟩
     have hB6:Blk w6 p (HW (pE KS (state KS H0 b') (rest b'++c.take n0)) s4 (UInt64.ofNat (b'++c).length)) iD:=hB6
     have hcl8:(pE KS (state KS H0 b') (rest b'++c.take n0)).length=8:=vQ hst
     refine ⟨rfl,s4,hB6.rd1 (o:=8) (hw8 hcl8),⟨by omega,by omega⟩,?_⟩
     have ho6:Sh.Own w6 s4 1 (bys (rest b'++c.take n0)):=Own.mod (w:=w5.drew) ho5 hm6 fun x hx e=>hno4 x hx (.inl e)
     have ho6c:=ho6.cut (l:=0) (n:=0) (m:=s4.cap) (by omega) (by omega) (by omega) (Nat.le_refl _)
     refine aP (b:=p) (o:=8) (by kernel_rfl) (by kernel_rfl) rfl hB6 (by rw [uS hcl8]; omega) fun w7 ht7 hB7=>?_
     have hB7:Blk w7 p (HW (pE KS (state KS H0 b') (rest b'++c.take n0)) (aF s4 1 0 0 s4.cap) (UInt64.ofNat (b'++c).length)) iD:=by rw [← tP hcl8 (aF s4 1 0 0 s4.cap)]; exact hB7
     have hno5:=(hb4.cut (k:=1) (l:=0) (n:=0) (m:=s4.cap) (Nat.le_refl _)).not hY hYl
     have hm7:=((Mod.dr hm5).tr (hm6.mono fun _ _ e=>.inl e)).tr (ht7.mod.mono fun _ _ e=>.inl e)
     have hrs5:aL w7 q 1 (bys c):=hrs0.mod hm7 fun x hx=>hXn x (hrx x hx)
     ·have hcut7:=hrs5.cut (l:=n0) (n:=q.len) (m:=q.cap) (by omega) (Nat.le_refl _) (by omega) (Nat.le_refl _)
      rw [fO] at hcut7
      refine ⟨⟨aF s4 1 0 0 s4.cap,c.take n0,c.drop n0,(List.take_append_drop n0 c).symm,by omega,?_,fun x hx=>hrx x (nF hx (Nat.le_refl _)),?_,?_,hb4.cut (Nat.le_refl _)⟩,hm7⟩
      ·rw [List.take_of_length_le (by rw [List.length_drop]; omega)] at hcut7
       exact hcut7
      ·have:(rest b'++c.take n0).length / 128=1:=by omega
       rw [this]
       have ha1:dC KS (state KS H0 b') (rest b'++c.take n0) 1=pE KS (state KS H0 b') (rest b'++c.take n0):=by
        show pE KS (dC KS (state KS H0 b') (rest b'++c.take n0) 0) _=_
        simp only [dC,Nat.mul_zero,List.drop_zero]
        rw [List.take_of_length_le (by omega)]
       rw [ha1]
       exact hB7
      ·have:=ho6c.mod ht7.mod fun x hx e=>hno5 x hx (.inl e)
       simpa [bys] using this
   ·have hs2:s2.len=0:=by simp at hl; omega
    have hr0:rest b'=[]:=List.eq_nil_of_length_eq_zero (by omega)
    rw [hr0] at ho3
    refine ⟨⟨s2,[],c,rfl,by rw [hr0]; rfl,hrs3,hrx,?_,ho3,hb2⟩,hm3⟩
    rw [hr0]
    exact hB3
  ·rintro q1 w8 hmid
   refine ⟨fun l w'=>match l with | [.sl q']=>Mid w1 w' p s X b' c (UInt64.ofNat (b'++c).length) q' | _=>False,fun l _=>match l with | [.sl q']=>q'.len | _=>0,hmid,?_⟩
   rintro q2 w9 ⟨⟨s3,c1,c2,hcc,hmod,hrq,hqx,hB9,ho9,hb9⟩,hm9⟩
   have hal:(dC KS (state KS H0 b') (rest b'++c1) ((rest b'++c1).length / 128)).length=8:=mE hst _
   have hc2:=aW hrq
   have hno9:=hb9.not hY hYl
   refine aE (fun hl=>?_) (fun hl=>?_)
   ·have hq128:128≤q2.len:=by simp at hl; omega
    have hqc2:=hrq.2.1
    have hcut:=aL.cut (aL.drew hrq) (l:=0) (n:=128) (m:=q2.cap) (by omega) (by omega) (by omega) (Nat.le_refl _)
    rw [Nat.sub_zero,fO,List.drop_zero] at hcut
    have hg9:dM w9:=hg.mod hm9 hGn
    refine ⟨⟨by omega,by omega⟩,?_,trivial⟩
    refine aC (qAU (w:=w9.drew) (p:=p) (h:=dC KS (state KS H0 b') (rest b'++c1) ((rest b'++c1).length / 128)) (T:=iD) (r:=[s3.val,.int .u64 (UInt64.ofNat (b'++c).length).toNat,.bool true]) hB9 hal hcut (by rw [List.length_take]; omega) hg9.drew h.pg) ?_
    rintro v w10 ⟨rfl,hB10,hm10⟩
    have hrq10:aL w10 q2 1 (bys c2):=aL.mod (w:=w9.drew) hrq hm10 fun x hx e=>hXp (by rw [← e]; exact hqx x hx)
    have hcut2:=hrq10.cut (l:=128) (n:=q2.len) (m:=q2.cap) (by omega) (Nat.le_refl _) (by omega) (Nat.le_refl _)
    rw [fO,List.take_of_length_le (by rw [List.length_drop]; omega)] at hcut2
    refine ⟨rfl,⟨by omega,by omega⟩,⟨⟨s3,c1++c2.take 128,c2.drop 128,by rw [hcc,List.append_assoc,List.take_append_drop],?_,hcut2,fun x hx=>hqx x (nF hx (Nat.le_refl _)),?_,Own.mod (w:=w9.drew) ho9 hm10 fun x hx e=>hno9 x hx (.inl e),hb9⟩,(Mod.dr hm9).tr (hm10.mono fun _ _ e=>.inl e)⟩,by simp only [aF]; omega⟩
    ·rw [← List.append_assoc,List.length_append,List.length_take]; omega
    ·have hl2:(rest b'++(c1++c2.take 128)).length / 128=(rest b'++c1).length / 128+1:=by rw [← List.append_assoc,List.length_append,List.length_take]; omega
     rw [hl2,← List.append_assoc]
     have e3:=mQ (ks:=KS) (h:=state KS H0 b') (a:=rest b'++c1) (b:=c2.take 128) (m:=(rest b'++c1).length / 128) (by omega) 1
     rw [e3]
     have ha1 : ∀ st,dC KS st (c2.take 128) 1=pE KS st (c2.take 128):=fun st=>by
      show pE KS (dC KS st (c2.take 128) 0) _=_
      simp only [dC,Nat.mul_zero,List.drop_zero,List.take_take,Nat.min_self]
     rw [ha1]
     exact hB10
   ·have hq128:q2.len<128:=by simp at hl; omega
    refine ⟨s3,hB9.rd1 (o:=8) (hw8 hal),?_⟩
    have hs3:s3.len=0:=by have:=ho9.1; simp [bys] at this; omega
    refine bG u26 h51 h52 h53 rfl h54 ho9 hrq (fM _) (by omega) (by omega) fun s4 w10 ho10 hlen10 hblk10 hm10=>⟨s4,rfl,?_⟩
    rw [← lK,List.nil_append] at ho10
    have hm10':=hb9.mod hm9 hBs hm10
    have hb10:BO w1 s s4:=hb9.step hm9.size hblk10
    have hno10:=hb10.not hY hYl
    have hB10:=hB9.mod hm10 fun e=>hno9 p e (.inl rfl)
    refine aP (b:=p) (o:=8) (by kernel_rfl) (by kernel_rfl) rfl hB10 (by rw [uS hal]; omega) fun w11 ht11 hB11=>⟨hend w11 s4 ⟨?_,?_,fun e=>hno10 p e (.inl rfl),h.pg,fun x hx e=>hno10 x hx (.inr (.inl e))⟩ hb10 (hm10'.tr (ht11.mod.mono fun _ _ e=>.inl e)),hmu⟩
    ·have hdiv:(rest b'++c).length / 128=(rest b'++c1).length / 128:=by rw [hcc,← List.append_assoc,List.length_append]; omega
     have:state KS H0 (b'++c)=dC KS (state KS H0 b') (rest b'++c1) ((rest b'++c1).length / 128):=by
      rw [sL,hdiv]
      conv=>lhs; rw [hcc,← List.append_assoc]
      exact lJ _ (by omega)
     rw [this,← tP hal s4]
     exact hB11
    ·have hdiv:(rest b'++c).length / 128=(rest b'++c1).length / 128:=by rw [hcc,← List.append_assoc,List.length_append]; omega
     have:rest (b'++c)=c2:=by
      rw [xJ,hdiv,hcc,← List.append_assoc,List.drop_append,List.drop_eq_nil_of_le (by omega),List.nil_append]
      have:128*((rest b'++c1).length / 128) - (rest b'++c1).length=0:=by omega
      rw [this,List.drop_zero]
     rw [this]
     exact ho10.mod ht11.mod fun x hx e=>hno10 x hx (.inl e)
 ·have hi':i=pl.length:=by simp at hc; omega
  subst hi'
  rw [List.take_length] at h2
  exact ⟨rfl,s2,h2,hb2,hm2⟩
theorem jAF {w:World} (hg:dM w):Calls prog 169 #[] w (Ret fun v w'=>∃ p,v = .pointer (some ⟨p,0,none⟩)∧eG w' p ⟨none,0,0⟩ []∧p=w.heap.size∧w'.heap.size=p+1∧Mod NoB w w'):=by
 refine qNY ?_
 unfold qRH
 refine ⟨_,_,_,_,_,_,_,_,hg.begin0,?_⟩
 refine aT (l:=HW H0 ⟨none,0,0⟩ 0) rfl fun p w1 hN hb=>⟨_,rfl,p,rfl,⟨hb,bW _ _,by simp,hg.fresh (by rw [hN.at_]; exact Nat.le_refl _),by simp⟩,hN.at_,hN.size,hN.mod⟩
theorem tQ {w:World} {s:Slc} {l:List UInt8} (hs:aL w s 1 (bys l)) (hn:l.length≤1000000000) :
 Calls prog 73 #[.slice s.a s.len s.cap] w (Ret fun v w'=>∃ s',v=s'.val∧Sh.Own w' s' 1 (bys l)∧(s'.blk=none∨∃ x,s'.blk=some x∧w.heap.size≤x)∧Mod NoB w w'):=by
 obtain ⟨i5',h51,h52,h53,h54⟩:=i5
 have hl:=aW hs
 refine qXI _ ?_
 unfold jBO
 refine gQ (e:=5) u26 ⟨_,rfl,aE (fun h=>?_) (fun h=>?_)⟩
 ·have:l=[]:=by
   rcases hs.2.2 with h0 | ⟨b,e1,_⟩
   ·exact pP (b:=[]) h0
   ·rw [e1] at h; simp at h
  subst this
  exact ⟨⟨none,0,0⟩,rfl,bW _ _,.inl rfl,Mod.refl _ _⟩
 ·refine kT u26 h51 fun b w1 hN=>⟨⟨some ⟨b,0,none⟩,0,0⟩,rfl,?_⟩
  refine bG (s:=⟨some ⟨b,0,none⟩,0,0⟩) u26 h51 h52 h53 rfl h54 (kM _ _ _) (hs.no hN.mod) (fM _) (by simp only []; omega) (by simp only []; omega) fun s' w2 ho hlen hblk hm=>⟨s',rfl,s',rfl,by simpa using ho,?_,?_⟩
  ·rcases hblk with h | h
   ·exact .inl (by rw [h]; simp)
   ·exact .inr ⟨_,h,hN.mod.size⟩
  ·exact hN.mod.fresh hm fun x e=>by simp at e
theorem qZK {w:World} {p:Nat} {s:Slc} {b:List UInt8} (h:eG w p s b) (hg:dM w) (hn:b.length≤1000000000) :
 Calls prog 224 #[.pointer (some ⟨p,0,none⟩)] w (Ret fun v w'=>∃ p' s',v = .pointer (some ⟨p',0,none⟩)∧eG w' p' s' b∧w.heap.size≤p'∧(s'.blk=none∨∃ x,s'.blk=some x∧w.heap.size≤x)∧Mod NoB w w'):=by
 refine qND _ ?_
 unfold qRS
 refine aC (qBU h.blk (jM b)) ?_
 rintro v w1 ⟨rfl,rfl⟩
 refine ⟨true,rfl,?_⟩
 show aH false _ _
 refine aE (fun e=>by cases e) fun _=>?_
 obtain ⟨ih,hi1,hi2,-,-⟩:=(bM (by kernel_rfl) (by kernel_rfl) (by kernel_rfl) : ∃ i,prog.info? 285=some i∧i.zero=some (.agg (List.replicate 8 z64++[.slice none 0 0,z64,.bool false]).toArray)∧i.size=11∧i.bytes=104)
 obtain ⟨k0,k1,k2,k3,k4,k5,k6,k7,hk⟩:=qBC (jM b)
 have hB:=h.blk
 rw [hk] at hB
 have hpl:=h.blk.lt
 refine ⟨k0,k1,k2,k3,k4,k5,k6,k7,s,UInt64.ofNat b.length,true,hB.rd (o:=0) (vs:=HW [k0,k1,k2,k3,k4,k5,k6,k7] s (UInt64.ofNat b.length)) (fun j v hj=>by rw [Nat.zero_add]; exact hj),?_⟩
 refine aO (l:=List.replicate 8 z64++[.slice none 0 0,z64,.bool false]) hi1 hi2 rfl fun p' w2 hN hb2=>⟨_,rfl,?_⟩
 have hat:=hN.at_; have hsz:=hN.size
 refine bS (b:=p') (o:=0) (vs:=HW [k0,k1,k2,k3,k4,k5,k6,k7] s (UInt64.ofNat b.length)) (by kernel_rfl) (by kernel_rfl) rfl hb2 (by simp [HW]) (by
  intro u hu
  rcases List.mem_append.1 hu with hu | hu
  ·exact uE _ u hu
  ·simp at hu; rcases hu with rfl | rfl | rfl <;> rfl) fun w3 ht3 hb3=>?_
 have hb3:Blk w3 p' (HW [k0,k1,k2,k3,k4,k5,k6,k7] s (UInt64.ofNat b.length)) iD:=hb3
 have hm3:Mod NoB w1 w3:=hN.mod.fresh ht3.mod fun x e=>by omega
 have hB3:=h.blk.no hm3
 refine ⟨s,hB3.rd1 (o:=8) (hw8 (jM b)),?_⟩
 have ho3:=h.own.no hm3
 refine aC (tQ ho3.rd (by rw [kU]; omega)) ?_
 rintro v w4 ⟨s',rfl,ho4,hblk4,hm4⟩
 refine ⟨s',rfl,?_⟩
 have hb4:=hb3.no hm4
 have hsz3:=ht3.size
 have hno : ∀ x,s'.blk=some x→w3.heap.size≤x:=fun x hx=>by
  rcases hblk4 with e | ⟨y,e,hy⟩
  ·rw [e] at hx; cases hx
  ·rw [e] at hx; cases hx; exact hy
 refine aP (b:=p') (o:=8) (by kernel_rfl) (by kernel_rfl) rfl hb4 (by simp [HW]) fun w5 ht5 hb5=>⟨p',s',rfl,⟨?_,?_,?_,hg.fresh (by omega),fun x hx=>hg.fresh (by have:=hno x hx; omega)⟩,by omega,?_,?_⟩
 ·have:(HW [k0,k1,k2,k3,k4,k5,k6,k7] s (UInt64.ofNat b.length)).set 8 s'.val=HW [k0,k1,k2,k3,k4,k5,k6,k7] s' (UInt64.ofNat b.length):=rfl
  rw [hk,← this]; exact hb5
 ·exact ho4.mod ht5.mod fun x hx e=>by have:=hno x hx; omega
 ·intro e; have:=hno p' e; omega
 ·rcases hblk4 with e | ⟨y,e,hy⟩
  ·exact .inl e
  ·exact .inr ⟨y,e,by omega⟩
 ·exact (hm3.tr hm4).fresh ht5.mod fun x e=>by omega
theorem qWX (x:UInt64) : ∀ k,k<8→(be8 x)[k]? = some (aM x (56 - 8*k)).toUInt8
 | 0,_=>rfl | 1,_=>rfl | 2,_=>rfl | 3,_=>rfl | 4,_=>rfl | 5,_=>rfl | 6,_=>rfl | 7,_=>rfl
 | n+8,h=>by omega
theorem wZ {x:UInt64} {k:Nat} (h:k<8):(be8 x).take (k+1)=(be8 x).take k++[(aM x (56 - 8*k)).toUInt8]:=by
 have:=qWX x k h
 rw [aV (by simpa using h)]
 rw [List.getElem?_eq_getElem (by simpa using h)] at this
 rw [Option.some.inj this]
theorem qWF {w:World} {p:Nat} {s:Slc} {b:List UInt8} (h:eG w p s b) (hg:dM w) (hn:b.length≤900000000) :
 Calls prog 171 #[.pointer (some ⟨p,0,none⟩)] w (Ret fun v w'=>∃ x:Slc,v=x.val∧Sh.Own w' x 1 (bys (sha b))∧FB w x∧Mod NoB w w'):=by
 refine qJN _ ?_
 unfold qRJ
 obtain ⟨i5',h51,h52,h53,h54⟩:=i5
 obtain ⟨i26',h261,h262,h263,h264⟩:=i26
 refine aC (qZK h hg (by omega)) ?_
 rintro v w1 ⟨p',s1,rfl,hh1,hp1,hs1,hm1⟩
 refine ⟨_,rfl,gK (e:=iD) (by kernel_rfl) ⟨_,rfl,aE (fun e=>by cases e) fun _=>?_⟩⟩
 have hFs:FB w s1:=FB.of hs1
 have hp1l:=hh1.blk.lt
 have hrl:=kU b
 have hleft:(rest b).length=s1.len:=aW hh1.own.rd
 refine ⟨UInt64.ofNat b.length,hh1.blk.rd1 (o:=9) (hw9 (jM b)),?_⟩
 refine cH (l:=0) (c:=256) u26 h51 h52 h53 rfl h54 rfl rfl (by omega) (by omega) (by omega) fun e0 w2 hN2 hb2 ho2=>⟨⟨_,_,_⟩,rfl,?_⟩
 have hm2:Mod NoB w w2:=hm1.tr hN2.mod
 have hf2:FB w ⟨some ⟨e0,0,none⟩,0,256⟩:=FB.new (by rw [hN2.at_]; exact hm1.size)
 have hsep : ∀ (w':World),Mod NoB w1 w'→eG w' p' s1 b:=fun w' hm=>hh1.no hm
 have hf2':FB w1 ⟨some ⟨e0,0,none⟩,0,256⟩:=FB.new (by rw [hN2.at_]; exact Nat.le_refl _)
 refine nG (w0:=w1) (l:=[]) (c:=128) (s:=⟨some ⟨e0,0,none⟩,0,256⟩) ho2 hf2' hN2.mod (by simp) fun s3 w3 ho3 hf3 hm3 hl3=>?_
 refine ⟨fun l w'=>match l with | [.sl q]=>∃ j:Nat,j≤rY b.length∧Sh.Own w' q 1 (bys ([128]++List.replicate j 0))∧FB w1 q∧Mod NoB w1 w' | _=>False,fun l _=>match l with | [.sl q]=>1+rY b.length - q.len | _=>0,⟨0,by omega,ho3,hf3,hm3⟩,?_⟩
 rintro q w4 ⟨j,hj,hoq,hfq,hm4⟩
 have hql:q.len=1+j:=by have:=aW hoq.rd; simp at this; omega
 have hh4:=hsep w4 hm4
 have hpz:rY b.length<128:=Nat.mod_lt _ (by decide)
 have hpz2:rY b.length=(239 - b.length % 128) % 128:=rfl
 have hw:IntKind.i64.wrap ((s1.len:Int)+(q.len:Int))=((s1.len+q.len:Nat):Int):=by rw [wrap_i64 (by omega)]; omega
 refine ⟨s1,hh4.blk.rd1 (o:=8) (hw8 (jM b)),by decide,?_⟩
 rw [hw]
 have htm:Int.tmod ((s1.len+q.len:Nat):Int) (128:Int)=((s1.len+q.len) % 128:Nat):=rfl
 rw [htm]
 refine aE (fun hc=>?_) (fun hc=>?_)
 ·have hne:(s1.len+q.len) % 128≠112:=by simp at hc; omega
  have hjlt:j<rY b.length:=by omega
  refine nG (w0:=w1) (c:=0) hoq hfq hm4 (by simp; omega) fun s5 w5 ho5 hf5 hm5 hl5=>⟨⟨j+1,by omega,?_,hf5,hm5⟩,by (try simp only []); omega⟩
  rw [List.append_assoc,← List.replicate_succ'] at ho5
  exact ho5
 ·have heq:(s1.len+q.len) % 128=112:=by simp at hc; omega
  have hjeq:j=rY b.length:=by omega
  subst hjeq
  refine jC (t2:=3) (k2:=.i64) (z:=.int .u8 0) (n:=8) (s:=q) u26 (by kernel_rfl) h51 h52 h53 rfl rfl h54 rfl hoq (by omega) (by omega) fun s5 w5 ho5 hl5 hblk5 hm5=>⟨s5,rfl,?_⟩
  rw [jW,← lK] at ho5
  have hf5:=hfq.step hm4.size hblk5
  have hm5:=hfq.mod hm4 hm5
  refine ⟨fun l w'=>match l with | [.sl q,.i _ s]=>∃ k:Nat,s=56 - 8*(k:Int)∧k≤8∧Sh.Own w' q 1 (bys ([128]++List.replicate (rY b.length) 0++List.replicate 8 0++(be8 (8*UInt64.ofNat b.length)).take k))∧FB w1 q∧Mod NoB w1 w' | _=>False,
   fun l _=>match l with | [.sl q,.i _ s]=>(s+8).toNat | _=>0,⟨0,by omega,by omega,by simpa using ho5,hf5,hm5⟩,?_⟩
  rintro q6 t w6 ⟨k,rfl,hk,ho6,hf6,hm6⟩
  refine aE (fun hc=>?_) (fun hc=>?_)
  ·have hk8:k<8:=by simp at hc; omega
   have hsN:(56 - 8*(k:Int)).toNat=56 - 8*k:=by omega
   rw [hsN]
   refine ⟨by omega,nG (w0:=w1) ho6 hf6 hm6 (by simp; omega) fun s7 w7 ho7 hf7 hm7 hl7=>⟨⟨k+1,?_,by omega,?_,hf7,hm7⟩,?_⟩⟩
   ·rw [wrap_i64 (by omega)]; omega
   ·rw [wZ hk8,← List.append_assoc]; exact ho7
   ·rw [wrap_i64 (by omega)]; (try simp only []); omega
  ·have hk8:k=8:=by simp at hc; omega
   subst hk8
   rw [List.take_of_length_le (by simp)] at ho6
   have hpe:[128]++List.replicate (rY b.length) 0++List.replicate 8 0++be8 (8*UInt64.ofNat b.length)=mR b.length:=rfl
   rw [hpe] at ho6
   have hq6:=aW ho6.rd
   have hpel:(mR b.length).length≤256:=(qJI b).2
   refine bZ (l:=[q6.val]) [q6.val] u22 h261 h262 h263 (by decide) rfl (by decide) (by decide) rfl (by simp [Slc.val,Value.cells]) rfl fun e7 w7 hN7 hb7=>⟨⟨_,_,_⟩,rfl,?_⟩
   have hm7:=hm6.tr hN7.mod
   have hh7:=hsep w7 hm7
   have ho7:=ho6.no hN7.mod
   have he7:=hN7.at_
   have hq6l : ∀ x,q6.blk=some x→w1.heap.size≤x∧x<w6.heap.size:=fun x hx=>⟨hf6 x hx,ho6.lt hx⟩
   have hs1l : ∀ x,s1.blk=some x→x<w1.heap.size:=fun x hx=>hh1.own.lt hx
   have hm6s:=hm6.size
   have hsz7:=hN7.size
   have hparts:PartsAt w7 ⟨some ⟨e7,0,none⟩,1,1⟩ [mR b.length] (fun x=>x=e7∨q6.blk=some x):=by
    refine ⟨[q6],(aX (n:=1) (k:=1) hb7 rfl).rd,fun x hx=>.inl ?_,rfl,fun i hi hi'=>?_⟩
    ·simp at hx; omega
    ·have:i=0:=by simp at hi; omega
     subst this
     exact ⟨ho7.rd,fun x hx=>.inr hx⟩
   refine aC (qAG hh7 (hg.no (hm1.tr hm7)) hparts (fun e=>e.elim (fun e=>by omega) fun e=>by have:=hq6l _ e; omega) (fun x hx e=>e.elim (fun e=>by have:=hs1l x hx; omega) fun e=>by have:=hq6l _ e; have:=hs1l x hx; omega)
    (fun x e=>e.elim (fun e=>by omega) fun e=>by have:=hq6l _ e; omega) (by simp; omega) (by simp)) ?_
   rintro v w8 ⟨rfl,s8,hh8,hb8,hm8⟩
   have hm8':Mod NoB w w8:=(hm1.tr hm7).fresh hm8 fun x e=>e.elim (fun e=>by omega) fun e=>hFs x e
   have hpad:b++[mR b.length].flatten=pad b:=by simp [pad]
   rw [hpad] at hh8
   obtain ⟨k0,k1,k2,k3,k4,k5,k6,k7,hst⟩:=qBC (jM (pad b))
   have hB8:=hh8.blk
   rw [hst] at hB8
   have hsha:sha b=gL [k0,k1,k2,k3,k4,k5,k6,k7]:=by unfold sha; rw [xC,hst]
   refine ⟨_,rfl,k0,k1,k2,k3,k4,k5,k6,k7,hB8.rd (o:=0) (vs:=us [k0,k1,k2,k3,k4,k5,k6,k7]) (fun j v hj=>by
    rw [Nat.zero_add]; unfold HW; rw [List.getElem?_append_left (List.getElem?_eq_some_iff.1 hj).1,hj]),?_⟩
   rw [hsha]
   obtain ⟨st,hstd⟩ : ∃ st,st=[k0,k1,k2,k3,k4,k5,k6,k7]:=⟨_,rfl⟩
   have hstl:st.length=8:=by rw [hstd]; rfl
   have htv:([.u64 k0,.u64 k1,.u64 k2,.u64 k3,.u64 k4,.u64 k5,.u64 k6,.u64 k7]:List TV)=st.map TV.u64:=by rw [hstd]; rfl
   rw [htv,← hstd]
   refine ⟨fun l w'=>match l with | [.sl q,.i _ x]=>∃ i:Nat,x=i∧i≤8∧Sh.Own w' q 1 (bys (gL (st.take i)))∧FB w q∧Mod NoB w w' | _=>False,fun l _=>match l with | [.sl q,.i _ x]=>(8 - x).toNat | _=>0,
    ⟨0,rfl,by omega,bW _ _,FB.nil _,hm8'⟩,?_⟩
   rintro out x w9 ⟨i,rfl,hi,ho9,hf9,hm9⟩
   have hdl : ∀ (l:List UInt64),(gL l).length=8*l.length:=fun l=>by
    induction l with
    | nil=>rfl
    | cons a l ih=>simp [gL] at ih ⊢; omega
   refine aE (fun hc=>?_) (fun hc=>?_)
   ·have hi8:i<8:=by simp at hc; omega
    refine ⟨⟨by omega,by omega⟩,?_,st[i],?_,?_⟩
    ·intro z hz
     obtain ⟨y,_,rfl⟩:=List.mem_map.1 hz
     rfl
    ·rw [Int.toNat_natCast,List.getElem?_map,List.getElem?_eq_getElem (by omega)]; rfl
    refine ⟨fun l w'=>match l with | [.sl q,.i _ s]=>∃ k:Nat,s=56 - 8*(k:Int)∧k≤8∧Sh.Own w' q 1 (bys (gL (st.take i)++(be8 st[i]).take k))∧FB w q∧Mod NoB w w' | _=>False,
     fun l _=>match l with | [.sl q,.i _ s]=>(s+8).toNat | _=>0,⟨0,by omega,by omega,by simpa using ho9,hf9,hm9⟩,?_⟩
    rintro q10 t w10 ⟨k,rfl,hk,ho10,hf10,hm10⟩
    refine aE (fun hc=>?_) (fun hc=>?_)
    ·have hk8:k<8:=by simp at hc; omega
     have hsN:(56 - 8*(k:Int)).toNat=56 - 8*k:=by omega
     rw [hsN]
     refine ⟨by omega,nG (w0:=w) ho10 hf10 hm10 (by simp [hdl]; omega) fun s7 w7 ho7 hf7 hm7 hl7=>⟨⟨k+1,?_,by omega,?_,hf7,hm7⟩,?_⟩⟩
     ·rw [wrap_i64 (by omega)]; omega
     ·rw [wZ hk8,← List.append_assoc]; exact ho7
     ·rw [wrap_i64 (by omega)]; (try simp only []); omega
    ·have hk8:k=8:=by simp at hc; omega
     subst hk8
     rw [List.take_of_length_le (l:=be8 (st[i]'(by omega))) (by rw [qLX]; omega)] at ho10
     refine ⟨⟨i+1,aS (by omega),by omega,?_,hf10,hm10⟩,?_⟩
     ·rw [aV (by omega)]
      have:gL (st.take i++[st[i]])=gL (st.take i)++be8 st[i]:=by simp only [gL,List.flatMap_append,List.flatMap_cons,List.flatMap_nil,List.append_nil]
      rw [this]; exact ho10
     ·rw [aS (by omega)]; (try simp only []); omega
   ·have hi8:i=8:=by simp at hc; omega
    subst hi8
    rw [List.take_of_length_le (by omega)] at ho9
    exact ⟨out,rfl,ho9,hf9,hm9⟩
theorem qFK {w:World} {parts:Slc} {pl:List (List UInt8)} {X:Nat→Prop} (hg:dM w) (hp:PartsAt w parts pl X) (hXl : ∀ x,X x→x<w.heap.size) (hn:(pl.flatten).length≤900000000) (hm:pl.length≤1000000000) :
 Calls prog 122 #[.slice parts.a parts.len parts.cap] w (Ret fun v w'=>∃ x:Slc,v=x.val∧Sh.Own w' x 1 (bys (sha pl.flatten))∧FB w x∧Mod NoB w w'):=by
 refine qOX _ ?_
 unfold qRL
 refine aC (jAF hg) ?_
 rintro v w1 ⟨p,rfl,hh1,hp1,hs1,hm1⟩
 refine ⟨_,rfl,?_⟩
 refine aC (qAG hh1 (hg.no hm1) (hp.mod hm1 fun _ _ h=>h) (fun e=>by have:=hXl _ e; omega) (fun x hx=>by simp at hx) (fun x e=>by have:=hXl _ e; omega) (by rw [List.length_nil,Nat.zero_add]; omega) hm) ?_
 rintro v w2 ⟨rfl,s2,hh2,hb2,hm2⟩
 have hm2':Mod NoB w w2:=hm1.fresh hm2 fun x e=>e.elim (fun e=>by omega) fun e=>by simp at e
 refine ⟨_,rfl,aC (qWF hh2 (hg.no hm2') (by simpa using hn)) ?_⟩
 rintro v w3 ⟨x,rfl,ho,hf,hm3⟩
 rw [List.nil_append] at ho
 exact ⟨x,rfl,x,rfl,ho,hf.le hm2'.size,hm2'.tr hm3⟩
end Go.Proofs.YtahjmeegfkfokaaGreatDoor
end
