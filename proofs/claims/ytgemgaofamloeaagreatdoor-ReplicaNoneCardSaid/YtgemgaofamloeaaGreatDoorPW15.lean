/- The forms of the translated functions, their contracts and the plain laws behind them, put together by a program. -/
import Derived.Test.YtgemgaofamloeaaGreatDoorPW14
import Derived.RecoverIn
import Derived.Test.YtgemgaofamloeaaGreatDoorProg
set_option linter.unusedSimpArgs false
set_option linter.unusedVariables false
set_option maxRecDepth 1000000
set_option maxHeartbeats 8000000
section
namespace Go.Sh
open Go
section
variable {P : Program} {N : Nat}
theorem recoverD_of {c0 : Frame} {cs : List Frame} {u : FrameMode} : recoverD ({ c0 with mode := u } :: cs) = (recU u).map fun p => (p.1, { c0 with mode := p.2 } :: cs) := by
  cases u with
  | run => rfl
  | returning => rfl
  | panicking c =>
    match c with
    | [] => rfl
    | { v, recovered := true, goexit } :: r => rfl
    | { v, recovered := false, goexit := true } :: r => rfl
    | { v, recovered := false, goexit := false } :: r => rfl
theorem okS_run {o : Oper} {env : Env} {a : Act} {w : World} {pan : List PanicEntry → World → Prop} {next : TV → World → Prop} (hsim : Sim N env a.tmps) (ho : okS o.op = true) (h : stateK P o env w pan next) :
    (∃ t v w', (execOp a.eval o).run P w = .ok (.value v) w' ∧ (t.isBad = false → v = t.enc) ∧ next t w') ∨ (∃ w', (execOp a.eval o).run P w = .ok .skip w' ∧ next .bad w') ∨ ∃ v, (execOp a.eval o).run P w = .halt (.panic v) w ∧ pan [{ v := v, recovered := false }] w := by
  obtain ⟨dst, op, type, pos, after, guard⟩ := o
  unfold stateK at h
  cases op <;> simp [okS] at ho <;> simp only at h
  case store T x y =>
    split at h
    · rename_i q hx
      obtain ⟨ad, rfl, h⟩ := onSome_out h
      cases hg : (!(ev env y).isBad) with
      | false => simp [hg, onSome] at h
      | true =>
        simp only [hg, cond_true] at h
        obtain ⟨w', hr, h⟩ := h
        refine .inr (.inl ⟨w', ?_, h⟩)
        have he : execOp a.eval { dst, op := .store T x y, type, pos, after, guard } = (do storeVar T ad (ev env y).enc; pure Next.skip) := by
          simp only [execOp, hsim.is hx rfl, good_is hsim hg, TV.enc]
          rfl
        rw [he]; simp [hr]
    · exact h.elim
  case load T x =>
    split at h
    · rename_i q hx
      obtain ⟨ad, rfl, h⟩ := onSome_out h
      cases hf : kdFit P T with
      | false => simp [hf, onSome] at h
      | true =>
        simp only [hf, cond_true] at h
        obtain ⟨t, t1, t2, t3, hr, h⟩ := exK_out _ _ h
        refine .inl ⟨t, t.enc, w, ?_, fun _ => rfl, h⟩
        simp [execOp, hsim.is hx rfl, TV.enc, Instr.loadAt, Instr.sureAddr, run_loadVar hf t1 t2 t3 hr]
    · exact h.elim
  case alloc T =>
    obtain ⟨v, w', hr, h1⟩ := h
    have h2 : exK .p fun t => v = t.enc ∧ next t w' := h1
    obtain ⟨t, _, _, _, hv, h3⟩ := exK_out _ _ h2
    refine .inl ⟨t, v, w', ?_, fun _ => hv, h3⟩
    simp only [execOp]
    simp [hr]
  case typeAssert x T b ok =>
    cases hg : (!(ev env x).isBad) with
    | false => simp [hg] at h
    | true =>
      simp only [hg, cond_true] at h
      obtain ⟨v, w', hr, h1⟩ := h
      have h2 : exK (kindOf P 20 type) fun t => v = t.enc ∧ next t w' := h1
      obtain ⟨t, _, _, _, hv, h3⟩ := exK_out _ _ h2
      refine .inl ⟨t, v, w', ?_, fun _ => hv, h3⟩
      simp only [execOp, good_is hsim hg]
      simp [hr]
  case panic x =>
    split at h
    · rename_i z hx
      unfold panV at h
      split at h
      · rename_i T y
        refine .inr (.inr ⟨.iface T y, ?_, h⟩)
        simp [execOp, hsim.is hx rfl, TV.enc, Instr.panic]
      · exact h.elim
    · exact h.elim
def QS (N : Nat) (k : KtS) (c0 : Frame) (cs : List Frame) : Exit → Act → List Frame → World → Prop
  | .normal, a, cs', w => a.defers = [] ∧ ∃ u, cs' = { c0 with mode := u } :: cs ∧ ∃ env, Sim N env a.tmps ∧ k.nrm u env w
  | .ret, a, cs', w => a.defers = [] ∧ ∃ u, cs' = { c0 with mode := u } :: cs ∧ ∃ env, Sim N env a.tmps ∧ k.ret u env w
  | .panic c, a, cs', w => a.defers = [] ∧ ∃ u, cs' = { c0 with mode := u } :: cs ∧ k.pan u c w
  | _, _, _, _ => False
theorem opsS_wp {ops : List Oper} {k : KtS} {c0 : Frame} {cs : List Frame} : ∀ (suf pre : List Oper) (nrm : FrameMode → Env → World → Prop) (u : FrameMode) (env : Env) (a : Act) (w : World), ops = pre ++ suf → Sim N env a.tmps → a.defers = [] →
    opsS P N k.pan suf nrm u env w → wpOpsSIn Fence.wide 0 P ops.toArray (QS N { k with nrm := nrm } c0 cs) (List.range' pre.length suf.length) a ({ c0 with mode := u } :: cs) w
  | [], pre, nrm, u, env, a, w, _, hs, hd, h => ⟨hd, u, rfl, env, hs, h⟩
  | o :: q, pre, nrm, u, env, a, w, e, hs, hd, h => by
    have ho : ops.toArray[pre.length]? = some o := by simp [e]
    have ih : ∀ u env a w, Sim N env a.tmps → a.defers = [] → opsS P N k.pan q nrm u env w → wpOpsSIn Fence.wide 0 P ops.toArray (QS N { k with nrm := nrm } c0 cs) (List.range' (pre.length + 1) q.length) a ({ c0 with mode := u } :: cs) w := fun u env a w h1 h2 h3 => by
      have := opsS_wp (ops := ops) (k := k) (c0 := c0) (cs := cs) q (pre ++ [o]) nrm u env a w (by simp [e]) h1 h2 h3
      simpa using this
    unfold opsS at h
    cases hc : (inRange N o.dst && o.guard.isNone) with
    | false => simp only [hc, cond_false] at h
    | true =>
      simp only [hc, cond_true] at h
      simp only [Bool.and_eq_true, Option.isNone_iff_eq_none] at hc
      have hw : Region.wanted o (yielded ops.toArray a.tmps) = true := by unfold Region.wanted; rw [hc.2]
      simp only [List.length_cons, List.range'_succ, wpOpsSIn, ho, hw, if_true]
      refine ⟨fun _ _ => trivial, ?_⟩
      cases hr : isRec o.op with
      | true =>
        simp only [hr, cond_true] at h
        have hrun : (execOp a.eval o).run P w = .ok .recover w := by
          obtain ⟨dst, op, type, pos, after, guard⟩ := o
          have hr' : isRec op = true := hr
          unfold isRec at hr'
          split at hr'
          · rename_i args at_
            simp [execOp, resolve, invoke, builtin]
          · cases hr'
        rw [hrun]
        simp only [recoverD_of]
        unfold recK at h
        cases hu : recU u with
        | none =>
          simp only [hu] at h
          simp only [Option.map_none]
          exact ih _ _ _ _ (hs.putD' hc.1 fun _ => rfl) (by rw [put_defers]; exact hd) h
        | some p =>
          simp only [hu] at h
          simp only [Option.map_some]
          exact ih _ _ _ _ (hs.putD' hc.1 fun _ => rfl) (by rw [put_defers]; exact hd) h
      | false =>
        simp only [hr, cond_false] at h
        cases hp : isPure P o with
        | true =>
          simp only [hp, cond_true] at h
          obtain ⟨t, v, hrun, hv, h⟩ := pureK_run hs h
          rw [hrun w]
          exact ih _ _ _ _ (hs.putD' hc.1 hv) (by rw [put_defers]; exact hd) h
        | false =>
          simp only [hp, cond_false] at h
          cases hk : okS o.op with
          | false => simp [hk] at h
          | true =>
            simp only [hk, cond_true] at h
            rcases okS_run hs hk h with ⟨t, v, w', hrun, hv, h⟩ | ⟨w', hrun, h⟩ | ⟨v, hrun, h⟩
            · rw [hrun]
              exact ih _ _ _ _ (hs.putD' hc.1 hv) (by rw [put_defers]; exact hd) h
            · rw [hrun]
              exact ih _ _ _ _ (hs.putD' hc.1 fun e => by simp [TV.isBad] at e) (by rw [put_defers]; exact hd) h
            · rw [hrun]
              exact ⟨hd, u, rfl, h⟩
theorem wpSIn_mono {c : Code} {F : Fence} {n : Nat} {Q Q' : Exit → Act → List Frame → World → Prop} {a : Act} {cs : List Frame} {w : World} (h : c.wpSIn F n P Q a cs w) (hq : ∀ e a cs w, Q e a cs w → Q' e a cs w) : c.wpSIn F n P Q' a cs w :=
  fun b k h1 h2 h3 h4 => let ⟨e, a', cs', w', l, q, r⟩ := h b k h1 h2 h3 h4; ⟨e, a', cs', w', l, hq _ _ _ _ q, r⟩
theorem denS_wp {c0 : Frame} {cs : List Frame} : ∀ (c : Code) (k : KtS) (u : FrameMode) (env : Env) (a : Act) (w : World), Sim N env a.tmps → a.defers = [] → denS P N c k u env w → c.wpSIn Fence.wide 0 P (QS N k c0 cs) a ({ c0 with mode := u } :: cs) w
  | .skip, k, u, env, a, w, hs, hd, h => wpSIn_of_wpIn rfl (wpIn_skip (show QS N k c0 cs .normal a ({ c0 with mode := u } :: cs) w from ⟨hd, u, rfl, env, hs, by simpa [denS] using h⟩))
  | .ret, k, u, env, a, w, hs, hd, h => wpSIn_of_wpIn rfl (wpIn_ret (show QS N k c0 cs .ret a ({ c0 with mode := u } :: cs) w from ⟨hd, u, rfl, env, hs, by simpa [denS] using h⟩))
  | .seq x y, k, u, env, a, w, hs, hd, h => by
    unfold denS at h
    refine wpSIn_seq (wpSIn_mono (denS_wp x _ u env a w hs hd h) ?_)
    intro e a' cs' w' hq
    cases e with
    | normal =>
      obtain ⟨hd', u', rfl, env', hs', hk⟩ := hq
      exact denS_wp y k u' env' a' w' hs' hd' hk
    | ret => exact hq
    | panic c => exact hq
    | exit i => exact hq.elim
    | goto l => exact hq.elim
    | outgrown => exact hq.elim
  | .cond c x y, k, u, env, a, w, hs, hd, h => by
    unfold denS at h
    split at h
    · rename_i t hc
      have he := hs.is (a := a) hc rfl
      refine wpSIn_cond (t := t) he ?_
      cases t with
      | true => exact denS_wp x k u _ a w (subB_sim hs hc) hd h
      | false => exact denS_wp y k u _ a w (subB_sim hs hc) hd h
    · exact h.elim
  | .region id ops false, k, u, env, a, w, hs, hd, h => by
    unfold denS at h
    refine wpSIn_region ?_
    have := opsS_wp (ops := ops.toList) (k := k) (c0 := c0) (cs := cs) ops.toList [] k.nrm u env a w rfl hs hd h
    simpa [List.range_eq_range'] using this
  | .region id ops true, k, u, env, a, w, hs, hd, h => by simp [denS] at h
  | .block _ _, k, u, env, a, w, hs, hd, h => by simp [denS] at h
  | .loop _, k, u, env, a, w, hs, hd, h => by simp [denS] at h
  | .exit _, k, u, env, a, w, hs, hd, h => by simp [denS] at h
  | .rangeFunc _ _ _ _, k, u, env, a, w, hs, hd, h => by simp [denS] at h
  | .scope _, k, u, env, a, w, hs, hd, h => by simp [denS] at h
  | .label _, k, u, env, a, w, hs, hd, h => by simp [denS] at h
  | .goto _, k, u, env, a, w, hs, hd, h => by simp [denS] at h
  | .refuse _, k, u, env, a, w, hs, hd, h => by simp [denS] at h
end
end Go.Sh
end
section
namespace Go.Proofs.YtgemgaofamloeaaGreatDoor
open Go Go.Sh
theorem zi5 : ZI Tryz.prog 325 5 := by
  obtain ⟨i, h1, h2, _, _⟩ := info_of (P := Tryz.prog) (T := 325) (z := .agg #[.int .u64 0, .int .u64 0, .int .u64 0, .int .u64 0, .int .u64 0]) (n := 5) (m := 40) (by kernel_rfl) (by kernel_rfl) (by kernel_rfl)
  exact ⟨i, _, h1, h2, rfl⟩
theorem lst20 {l : List UInt64} (h : l.length = 20) : ∃ x0 : UInt64, ∃ x1 : UInt64, ∃ x2 : UInt64, ∃ x3 : UInt64, ∃ x4 : UInt64, ∃ x5 : UInt64, ∃ x6 : UInt64, ∃ x7 : UInt64, ∃ x8 : UInt64, ∃ x9 : UInt64, ∃ x10 : UInt64, ∃ x11 : UInt64, ∃ x12 : UInt64, ∃ x13 : UInt64, ∃ x14 : UInt64, ∃ x15 : UInt64, ∃ x16 : UInt64, ∃ x17 : UInt64, ∃ x18 : UInt64, ∃ x19 : UInt64, l = [x0, x1, x2, x3, x4, x5, x6, x7, x8, x9, x10, x11, x12, x13, x14, x15, x16, x17, x18, x19] := by
  match l, h with
  | [x0, x1, x2, x3, x4, x5, x6, x7, x8, x9, x10, x11, x12, x13, x14, x15, x16, x17, x18, x19], _ => exact ⟨x0, x1, x2, x3, x4, x5, x6, x7, x8, x9, x10, x11, x12, x13, x14, x15, x16, x17, x18, x19, rfl⟩
theorem zi20 : ZI Tryz.prog 327 20 := by
  obtain ⟨i, h1, h2, _, _⟩ := info_of (P := Tryz.prog) (T := 327) (z := .agg #[.int .u64 0, .int .u64 0, .int .u64 0, .int .u64 0, .int .u64 0, .int .u64 0, .int .u64 0, .int .u64 0, .int .u64 0, .int .u64 0, .int .u64 0, .int .u64 0, .int .u64 0, .int .u64 0, .int .u64 0, .int .u64 0, .int .u64 0, .int .u64 0, .int .u64 0, .int .u64 0]) (n := 20) (m := 160) (by kernel_rfl) (by kernel_rfl) (by kernel_rfl)
  exact ⟨i, _, h1, h2, rfl⟩
theorem zi20' : ZI Tryz.prog 421 20 := by
  obtain ⟨i, h1, h2, _, _⟩ := info_of (P := Tryz.prog) (T := 421) (z := .agg #[.int .u64 0, .int .u64 0, .int .u64 0, .int .u64 0, .int .u64 0, .int .u64 0, .int .u64 0, .int .u64 0, .int .u64 0, .int .u64 0, .int .u64 0, .int .u64 0, .int .u64 0, .int .u64 0, .int .u64 0, .int .u64 0, .int .u64 0, .int .u64 0, .int .u64 0, .int .u64 0]) (n := 20) (m := 160) (by kernel_rfl) (by kernel_rfl) (by kernel_rfl)
  exact ⟨i, _, h1, h2, rfl⟩
def insF (K : Nat) (T : TypeId) (f g : FuncId) (s : Slc) (i : Int) (v : Slc) (w : World) (R : Ending → World → Prop) : Prop :=
  ((0 ≤ i ∧ i ≤ (s.len : Nat)) ∧ condK ((v.len : Int) == (0 : Int)) (R (.returned (.slice s.a s.len s.cap)) w) (condK (i == (s.len : Int)) (semK Tryz.prog (Builtin.append_ #[T, T] T #[.slice s.a s.len s.cap, .slice v.a v.len v.cap]) w fun v1 w1 => ∃ x : Slc, v1 = (.slice x.a x.len x.cap) ∧ R (.returned (.slice x.a x.len x.cap)) w1) (condK (decide ((IntKind.i64.wrap ((s.len : Int) + (v.len : Int))) > (s.cap : Int))) (((0 ≤ i ∧ i ≤ (s.cap : Nat)) ∧ semK Tryz.prog (Builtin.append_ #[T, 3] T #[.slice (cutSl s K 0 (i.toNat) s.cap).a (cutSl s K 0 (i.toNat) s.cap).len (cutSl s K 0 (i.toNat) s.cap).cap, .int .i64 (IntKind.i64.wrap ((IntKind.i64.wrap ((s.len : Int) + (v.len : Int))) - i))]) w fun v2 w2 => ∃ x1 : Slc, v2 = (.slice x1.a x1.len x1.cap) ∧ ((0 ≤ i ∧ i ≤ (x1.len : Nat)) ∧ semK Tryz.prog (Builtin.copy_ #[T, T] 3 #[.slice (cutSl x1 K (i.toNat) x1.len x1.cap).a (cutSl x1 K (i.toNat) x1.len x1.cap).len (cutSl x1 K (i.toNat) x1.len x1.cap).cap, .slice v.a v.len v.cap]) w2 fun v3 w3 => ∃ x2 : Int, v3 = (.int .i64 x2) ∧ ((0 ≤ (IntKind.i64.wrap (i + (v.len : Int))) ∧ (IntKind.i64.wrap (i + (v.len : Int))) ≤ (x1.len : Nat)) ∧ ((0 ≤ i ∧ i ≤ (s.len : Nat)) ∧ ((semK Tryz.prog (Builtin.copy_ #[T, T] 3 #[.slice (cutSl x1 K (((IntKind.i64.wrap (i + (v.len : Int)))).toNat) x1.len x1.cap).a (cutSl x1 K (((IntKind.i64.wrap (i + (v.len : Int)))).toNat) x1.len x1.cap).len (cutSl x1 K (((IntKind.i64.wrap (i + (v.len : Int)))).toNat) x1.len x1.cap).cap, .slice (cutSl s K (i.toNat) s.len s.cap).a (cutSl s K (i.toNat) s.len s.cap).len (cutSl s K (i.toNat) s.len s.cap).cap]) w3.drew fun v4 w4 => ∃ x3 : Int, v4 = (.int .i64 x3) ∧ R (.returned (.slice x1.a x1.len x1.cap)) w4) ∧ True)))))) (((0 ≤ (IntKind.i64.wrap ((s.len : Int) + (v.len : Int))) ∧ (IntKind.i64.wrap ((s.len : Int) + (v.len : Int))) ≤ (s.cap : Nat)) ∧ ((0 ≤ (IntKind.i64.wrap (i + (v.len : Int))) ∧ (IntKind.i64.wrap (i + (v.len : Int))) ≤ ((cutSl s K 0 (((IntKind.i64.wrap ((s.len : Int) + (v.len : Int)))).toNat) s.cap).len : Nat)) ∧ ∃ v5 w5, (callFunc f #[.slice v.a v.len v.cap, .slice (cutSl (cutSl s K 0 (((IntKind.i64.wrap ((s.len : Int) + (v.len : Int)))).toNat) s.cap) K (((IntKind.i64.wrap (i + (v.len : Int)))).toNat) ((cutSl s K 0 (((IntKind.i64.wrap ((s.len : Int) + (v.len : Int)))).toNat) s.cap).len) ((cutSl s K 0 (((IntKind.i64.wrap ((s.len : Int) + (v.len : Int)))).toNat) s.cap).cap)).a (cutSl (cutSl s K 0 (((IntKind.i64.wrap ((s.len : Int) + (v.len : Int)))).toNat) s.cap) K (((IntKind.i64.wrap (i + (v.len : Int)))).toNat) ((cutSl s K 0 (((IntKind.i64.wrap ((s.len : Int) + (v.len : Int)))).toNat) s.cap).len) ((cutSl s K 0 (((IntKind.i64.wrap ((s.len : Int) + (v.len : Int)))).toNat) s.cap).cap)).len (cutSl (cutSl s K 0 (((IntKind.i64.wrap ((s.len : Int) + (v.len : Int)))).toNat) s.cap) K (((IntKind.i64.wrap (i + (v.len : Int)))).toNat) ((cutSl s K 0 (((IntKind.i64.wrap ((s.len : Int) + (v.len : Int)))).toNat) s.cap).len) ((cutSl s K 0 (((IntKind.i64.wrap ((s.len : Int) + (v.len : Int)))).toNat) s.cap).cap)).cap]).run Tryz.prog w = .ok (.value v5) w5 ∧ ∃ x4 : Bool, v5 = (.bool x4) ∧ condK (!x4) (((0 ≤ (IntKind.i64.wrap (i + (v.len : Int))) ∧ (IntKind.i64.wrap (i + (v.len : Int))) ≤ ((cutSl s K 0 (((IntKind.i64.wrap ((s.len : Int) + (v.len : Int)))).toNat) s.cap).len : Nat)) ∧ ((0 ≤ i ∧ i ≤ ((cutSl s K 0 (((IntKind.i64.wrap ((s.len : Int) + (v.len : Int)))).toNat) s.cap).len : Nat)) ∧ ((semK Tryz.prog (Builtin.copy_ #[T, T] 3 #[.slice (cutSl (cutSl s K 0 (((IntKind.i64.wrap ((s.len : Int) + (v.len : Int)))).toNat) s.cap) K (((IntKind.i64.wrap (i + (v.len : Int)))).toNat) ((cutSl s K 0 (((IntKind.i64.wrap ((s.len : Int) + (v.len : Int)))).toNat) s.cap).len) ((cutSl s K 0 (((IntKind.i64.wrap ((s.len : Int) + (v.len : Int)))).toNat) s.cap).cap)).a (cutSl (cutSl s K 0 (((IntKind.i64.wrap ((s.len : Int) + (v.len : Int)))).toNat) s.cap) K (((IntKind.i64.wrap (i + (v.len : Int)))).toNat) ((cutSl s K 0 (((IntKind.i64.wrap ((s.len : Int) + (v.len : Int)))).toNat) s.cap).len) ((cutSl s K 0 (((IntKind.i64.wrap ((s.len : Int) + (v.len : Int)))).toNat) s.cap).cap)).len (cutSl (cutSl s K 0 (((IntKind.i64.wrap ((s.len : Int) + (v.len : Int)))).toNat) s.cap) K (((IntKind.i64.wrap (i + (v.len : Int)))).toNat) ((cutSl s K 0 (((IntKind.i64.wrap ((s.len : Int) + (v.len : Int)))).toNat) s.cap).len) ((cutSl s K 0 (((IntKind.i64.wrap ((s.len : Int) + (v.len : Int)))).toNat) s.cap).cap)).cap, .slice (cutSl (cutSl s K 0 (((IntKind.i64.wrap ((s.len : Int) + (v.len : Int)))).toNat) s.cap) K (i.toNat) ((cutSl s K 0 (((IntKind.i64.wrap ((s.len : Int) + (v.len : Int)))).toNat) s.cap).len) ((cutSl s K 0 (((IntKind.i64.wrap ((s.len : Int) + (v.len : Int)))).toNat) s.cap).cap)).a (cutSl (cutSl s K 0 (((IntKind.i64.wrap ((s.len : Int) + (v.len : Int)))).toNat) s.cap) K (i.toNat) ((cutSl s K 0 (((IntKind.i64.wrap ((s.len : Int) + (v.len : Int)))).toNat) s.cap).len) ((cutSl s K 0 (((IntKind.i64.wrap ((s.len : Int) + (v.len : Int)))).toNat) s.cap).cap)).len (cutSl (cutSl s K 0 (((IntKind.i64.wrap ((s.len : Int) + (v.len : Int)))).toNat) s.cap) K (i.toNat) ((cutSl s K 0 (((IntKind.i64.wrap ((s.len : Int) + (v.len : Int)))).toNat) s.cap).len) ((cutSl s K 0 (((IntKind.i64.wrap ((s.len : Int) + (v.len : Int)))).toNat) s.cap).cap)).cap]) w5.drew fun v6 w6 => ∃ x5 : Int, v6 = (.int .i64 x5) ∧ ((0 ≤ i ∧ i ≤ ((cutSl s K 0 (((IntKind.i64.wrap ((s.len : Int) + (v.len : Int)))).toNat) s.cap).len : Nat)) ∧ semK Tryz.prog (Builtin.copy_ #[T, T] 3 #[.slice (cutSl (cutSl s K 0 (((IntKind.i64.wrap ((s.len : Int) + (v.len : Int)))).toNat) s.cap) K (i.toNat) ((cutSl s K 0 (((IntKind.i64.wrap ((s.len : Int) + (v.len : Int)))).toNat) s.cap).len) ((cutSl s K 0 (((IntKind.i64.wrap ((s.len : Int) + (v.len : Int)))).toNat) s.cap).cap)).a (cutSl (cutSl s K 0 (((IntKind.i64.wrap ((s.len : Int) + (v.len : Int)))).toNat) s.cap) K (i.toNat) ((cutSl s K 0 (((IntKind.i64.wrap ((s.len : Int) + (v.len : Int)))).toNat) s.cap).len) ((cutSl s K 0 (((IntKind.i64.wrap ((s.len : Int) + (v.len : Int)))).toNat) s.cap).cap)).len (cutSl (cutSl s K 0 (((IntKind.i64.wrap ((s.len : Int) + (v.len : Int)))).toNat) s.cap) K (i.toNat) ((cutSl s K 0 (((IntKind.i64.wrap ((s.len : Int) + (v.len : Int)))).toNat) s.cap).len) ((cutSl s K 0 (((IntKind.i64.wrap ((s.len : Int) + (v.len : Int)))).toNat) s.cap).cap)).cap, .slice v.a v.len v.cap]) w6 fun v7 w7 => ∃ x6 : Int, v7 = (.int .i64 x6) ∧ R (.returned (.slice (cutSl s K 0 (((IntKind.i64.wrap ((s.len : Int) + (v.len : Int)))).toNat) s.cap).a (cutSl s K 0 (((IntKind.i64.wrap ((s.len : Int) + (v.len : Int)))).toNat) s.cap).len (cutSl s K 0 (((IntKind.i64.wrap ((s.len : Int) + (v.len : Int)))).toNat) s.cap).cap)) w7)) ∧ True)))) (((0 ≤ (s.len : Int) ∧ (s.len : Int) ≤ ((cutSl s K 0 (((IntKind.i64.wrap ((s.len : Int) + (v.len : Int)))).toNat) s.cap).len : Nat)) ∧ semK Tryz.prog (Builtin.copy_ #[T, T] 3 #[.slice (cutSl (cutSl s K 0 (((IntKind.i64.wrap ((s.len : Int) + (v.len : Int)))).toNat) s.cap) K (((s.len : Int)).toNat) ((cutSl s K 0 (((IntKind.i64.wrap ((s.len : Int) + (v.len : Int)))).toNat) s.cap).len) ((cutSl s K 0 (((IntKind.i64.wrap ((s.len : Int) + (v.len : Int)))).toNat) s.cap).cap)).a (cutSl (cutSl s K 0 (((IntKind.i64.wrap ((s.len : Int) + (v.len : Int)))).toNat) s.cap) K (((s.len : Int)).toNat) ((cutSl s K 0 (((IntKind.i64.wrap ((s.len : Int) + (v.len : Int)))).toNat) s.cap).len) ((cutSl s K 0 (((IntKind.i64.wrap ((s.len : Int) + (v.len : Int)))).toNat) s.cap).cap)).len (cutSl (cutSl s K 0 (((IntKind.i64.wrap ((s.len : Int) + (v.len : Int)))).toNat) s.cap) K (((s.len : Int)).toNat) ((cutSl s K 0 (((IntKind.i64.wrap ((s.len : Int) + (v.len : Int)))).toNat) s.cap).len) ((cutSl s K 0 (((IntKind.i64.wrap ((s.len : Int) + (v.len : Int)))).toNat) s.cap).cap)).cap, .slice v.a v.len v.cap]) w5 fun v8 w8 => ∃ x7 : Int, v8 = (.int .i64 x7) ∧ ((0 ≤ i ∧ i ≤ ((cutSl s K 0 (((IntKind.i64.wrap ((s.len : Int) + (v.len : Int)))).toNat) s.cap).len : Nat)) ∧ callK Tryz.prog g [.slice (cutSl (cutSl s K 0 (((IntKind.i64.wrap ((s.len : Int) + (v.len : Int)))).toNat) s.cap) K (i.toNat) ((cutSl s K 0 (((IntKind.i64.wrap ((s.len : Int) + (v.len : Int)))).toNat) s.cap).len) ((cutSl s K 0 (((IntKind.i64.wrap ((s.len : Int) + (v.len : Int)))).toNat) s.cap).cap)).a (cutSl (cutSl s K 0 (((IntKind.i64.wrap ((s.len : Int) + (v.len : Int)))).toNat) s.cap) K (i.toNat) ((cutSl s K 0 (((IntKind.i64.wrap ((s.len : Int) + (v.len : Int)))).toNat) s.cap).len) ((cutSl s K 0 (((IntKind.i64.wrap ((s.len : Int) + (v.len : Int)))).toNat) s.cap).cap)).len (cutSl (cutSl s K 0 (((IntKind.i64.wrap ((s.len : Int) + (v.len : Int)))).toNat) s.cap) K (i.toNat) ((cutSl s K 0 (((IntKind.i64.wrap ((s.len : Int) + (v.len : Int)))).toNat) s.cap).len) ((cutSl s K 0 (((IntKind.i64.wrap ((s.len : Int) + (v.len : Int)))).toNat) s.cap).cap)).cap, .int .i64 (v.len : Int)] w8 (panR R) fun v9 w9 => v9 = (.tuple #[]) ∧ R (.returned (.slice (cutSl s K 0 (((IntKind.i64.wrap ((s.len : Int) + (v.len : Int)))).toNat) s.cap).a (cutSl s K 0 (((IntKind.i64.wrap ((s.len : Int) + (v.len : Int)))).toNat) s.cap).len (cutSl s K 0 (((IntKind.i64.wrap ((s.len : Int) + (v.len : Int)))).toNat) s.cap).cap)) w9)))))))))
def sh331 (s : Slc) (w : World) (R : Ending → World → Prop) : Prop :=
  semK Tryz.prog (Instr.box 425 (.slice s.a s.len s.cap)) w fun v w1 => ∃ s1 : Option Addr, v = (.pointer s1) ∧ R (.returned (.func (.func 435) #[] #[.pointer s1])) w1
theorem call331 (s : Slc) {w : World} {R : Ending → World → Prop} (hden : sh331 s w R) : Calls Tryz.prog 331 #[.slice s.a s.len s.cap] w R :=
  calls_of_form (.seq none .z (.seq none .z .z)) Tryz.func331 (by kernel_rfl) [.sl s] (by kernel_rfl) (by kernel_rfl) hden
def sh435 (yield : Value) (c : Option Addr) (w : World) (R : Ending → World → Prop) : Prop :=
  onSome c fun a => ∃ x : Slc, Rd w a [.slice x.a x.len x.cap] ∧ ∃ (inv : List TV → World → Prop) (mu : List TV → World → Nat), inv [.i .i64 (IntKind.i64.wrap ((x.len : Int) - (1 : Int)))] w ∧ (∀ i : Int, ∀ w1 : World, inv [.i .i64 i] w1 → condK (decide (i ≥ (0 : Int))) (onSome c fun a1 => ∃ x1 : Slc, Rd w1 a1 [.slice x1.a x1.len x1.cap] ∧ ((0 ≤ i ∧ i < (x1.len : Nat)) ∧ onSome x1.a fun a2 => ∃ x2 : Bool, Rd w1 (a2.add (i.toNat * 1)) [.bool x2] ∧ callFV Tryz.prog yield [.int .i64 i, .bool x2] w1 (panR R) fun v w2 => ∃ x3 : Bool, v = (.bool x3) ∧ condK (!x3) (R (.returned (.tuple #[])) w2) ((inv [.i .i64 (IntKind.i64.wrap (i - (1 : Int)))] w2 ∧ mu [.i .i64 (IntKind.i64.wrap (i - (1 : Int)))] w2 < mu [.i .i64 i] w1)))) (R (.returned (.tuple #[])) w1))
theorem call435 (yield : Value) (c : Option Addr) {w : World} {R : Ending → World → Prop} (hden : sh435 yield c w R) : Calls Tryz.prog 435 #[yield, .pointer c] w R :=
  calls_of_form (.seq none .z (.block none (.loop [(3, (.i .i64))] (.seq none (.seq none .z (.cond .z .z)) (.seq none (.block none (.seq none .z (.cond .z .z))) .z))))) Tryz.func435 (by kernel_rfl) [.v yield, .p c] (by kernel_rfl) (by kernel_rfl) hden
def sh206 (paa pab pac pad pae pba pbb pbc pbd pbe pca pcb pcc pcd pce pda pdb pdc pdd pde : UInt64) (w : World) (R : Ending → World → Prop) : Prop :=
  semK Tryz.prog (Instr.box 327 (e20 paa pab pac pad pae pba pbb pbc pbd pbe pca pcb pcc pcd pce pda pdb pdc pdd pde)) w fun v w1 => ∃ p : Option Addr, v = (.pointer p) ∧ onSome p fun a => ∃ xa xb xc xd xe : UInt64, Rd w1 (a.add 10) (l5 xa xb xc xd xe) ∧ callK Tryz.prog 336 [e5 xa xb xc xd xe] w1 (panR R) fun v1 w2 => ∃ xa1 xb1 xc1 xd1 xe1 : UInt64, v1 = (e5 xa1 xb1 xc1 xd1 xe1) ∧ semK Tryz.prog (Instr.alloc 325 true (.tuple #[])) w2 fun v2 w3 => ∃ z : Option Addr, v2 = (.pointer z) ∧ onSome z fun a1 => semU Tryz.prog (storeVar 325 a1 (e5 xa1 xb1 xc1 xd1 xe1)) w3 fun w4 => onSome p fun a2 => ∃ xa2 xb2 xc2 xd2 xe2 : UInt64, Rd w4 (a2.add 5) (l5 xa2 xb2 xc2 xd2 xe2) ∧ onSome z fun a3 => ∃ xa3 xb3 xc3 xd3 xe3 : UInt64, Rd w4 a3 (l5 xa3 xb3 xc3 xd3 xe3) ∧ callK Tryz.prog 338 [e5 xa2 xb2 xc2 xd2 xe2, e5 xa3 xb3 xc3 xd3 xe3] w4 (panR R) fun v3 w5 => ∃ xa4 xb4 xc4 xd4 xe4 : UInt64, v3 = (e5 xa4 xb4 xc4 xd4 xe4) ∧ callK Tryz.prog 337 [e5 xa4 xb4 xc4 xd4 xe4] w5 (panR R) fun v4 w6 => ∃ x : Slc, v4 = (.slice x.a x.len x.cap) ∧ onSome p fun a4 => ∃ xa5 xb5 xc5 xd5 xe5 : UInt64, Rd w6 (a4.add 0) (l5 xa5 xb5 xc5 xd5 xe5) ∧ onSome z fun a5 => ∃ xa6 xb6 xc6 xd6 xe6 : UInt64, Rd w6 a5 (l5 xa6 xb6 xc6 xd6 xe6) ∧ callK Tryz.prog 338 [e5 xa5 xb5 xc5 xd5 xe5, e5 xa6 xb6 xc6 xd6 xe6] w6 (panR R) fun v5 w7 => ∃ xa7 xb7 xc7 xd7 xe7 : UInt64, v5 = (e5 xa7 xb7 xc7 xd7 xe7) ∧ callK Tryz.prog 339 [e5 xa7 xb7 xc7 xd7 xe7] w7 (panR R) fun v6 w8 => ∃ x1 : Bool, v6 = (.bool x1) ∧ condK x1 (((0 ≤ (31 : Int) ∧ (31 : Int) < (x.len : Nat)) ∧ onSome x.a fun a6 => ∃ x2 : UInt8, Rd w8 (a6.add (((31 : Int)).toNat * 1)) [.int .u8 x2.toNat] ∧ ((0 ≤ (31 : Int) ∧ (31 : Int) < (x.len : Nat)) ∧ onSome x.a fun a7 => semU Tryz.prog (storeVar 5 (a7.add (((31 : Int)).toNat * 1)) (.int .u8 ((x2 ||| (128 : UInt8))).toNat)) w8 fun w9 => R (.returned (.slice x.a x.len x.cap)) w9))) (R (.returned (.slice x.a x.len x.cap)) w8)
theorem call206 (paa pab pac pad pae pba pbb pbc pbd pbe pca pcb pcc pcd pce pda pdb pdc pdd pde : UInt64) {w : World} {R : Ending → World → Prop} (hden : sh206 paa pab pac pad pae pba pbb pbc pbd pbe pca pcb pcc pcd pce pda pdb pdc pdd pde w R) : Calls Tryz.prog 206 #[e20 paa pab pac pad pae pba pbb pbc pbd pbe pca pcb pcc pcd pce pda pdb pdc pdd pde] w R :=
  calls_of_form (.seq none .z (.seq none .z (.seq none .z (.seq none (.seq none .z (.cond .z .z)) (.seq none .z .z))))) Tryz.func206 (by kernel_rfl) [.agg [.agg [.u64 paa, .u64 pab, .u64 pac, .u64 pad, .u64 pae], .agg [.u64 pba, .u64 pbb, .u64 pbc, .u64 pbd, .u64 pbe], .agg [.u64 pca, .u64 pcb, .u64 pcc, .u64 pcd, .u64 pce], .agg [.u64 pda, .u64 pdb, .u64 pdc, .u64 pdd, .u64 pde]]] (by kernel_rfl) (by kernel_rfl) hden
def sh204 (a : Slc) (paa pab pac pad pae pba pbb pbc pbd pbe pca pcb pcc pcd pce pda pdb pdc pdd pde : UInt64) (w : World) (R : Ending → World → Prop) : Prop :=
  semK Tryz.prog (Instr.box 327 (e20 paa pab pac pad pae pba pbb pbc pbd pbe pca pcb pcc pcd pce pda pdb pdc pdd pde)) w fun v w1 => ∃ p : Option Addr, v = (.pointer p) ∧ semK Tryz.prog (Instr.alloc 327 true (.tuple #[])) w1 fun v1 w2 => ∃ x : Option Addr, v1 = (.pointer x) ∧ callK Tryz.prog 330 [] w2 (panR R) fun v2 w3 => ∃ xaa xab xac xad xae xba xbb xbc xbd xbe xca xcb xcc xcd xce xda xdb xdc xdd xde : UInt64, v2 = (e20 xaa xab xac xad xae xba xbb xbc xbd xbe xca xcb xcc xcd xce xda xdb xdc xdd xde) ∧ semK Tryz.prog (Instr.alloc 421 true (.tuple #[])) w3 fun v3 w4 => ∃ s : Option Addr, v3 = (.pointer s) ∧ onSome s fun a1 => semU Tryz.prog (storeVar 421 a1 (e20 xaa xab xac xad xae xba xbb xbc xbd xbe xca xcb xcc xcd xce xda xdb xdc xdd xde)) w4 fun w5 => callK Tryz.prog 332 [.slice a.a a.len a.cap] w5 (panR R) fun v4 w6 => ∃ x1 : Slc, v4 = (.slice x1.a x1.len x1.cap) ∧ callK Tryz.prog 331 [.slice x1.a x1.len x1.cap] w6 (panR R) fun v5 w7 => ∃ x2 : Value, v5 = x2 ∧ ∃ (fn : FuncId) (first cap : Array Value), x2 = .func (.func fn) first cap ∧ enters Tryz.prog fn = true ∧ ∀ (rec : LoopState → Option Code → Obj) (dd ll : Nat) (w8 : World), dd = w7.heap.size → ll = dd + 1 → w8 = (w7.alloc (.deferred (some []))).alloc (rec .ready none) → (∀ x3 : Int, ∀ x4 : Bool, ∀ (w9 : World) (kk : Value → World → Prop), w9.heap[ll]? = some (rec .ready none) → ((w9.heap[ll]? = some (rec .ready none) ∧ callK Tryz.prog 333 [.pointer s] (w9.putObj ll (rec .busy none)) (fun _ _ => False) fun v6 w10 => v6 = (.tuple #[]) ∧ condK x4 (onSome p fun a2 => ∃ xaa1 xab1 xac1 xad1 xae1 xba1 xbb1 xbc1 xbd1 xbe1 xca1 xcb1 xcc1 xcd1 xce1 xda1 xdb1 xdc1 xdd1 xde1 : UInt64, Rd w10 a2 (l20 xaa1 xab1 xac1 xad1 xae1 xba1 xbb1 xbc1 xbd1 xbe1 xca1 xcb1 xcc1 xcd1 xce1 xda1 xdb1 xdc1 xdd1 xde1) ∧ callK Tryz.prog 334 [.pointer s, e20 xaa1 xab1 xac1 xad1 xae1 xba1 xbb1 xbc1 xbd1 xbe1 xca1 xcb1 xcc1 xcd1 xce1 xda1 xdb1 xdc1 xdd1 xde1] w10 (fun _ _ => False) fun v7 w11 => v7 = (.tuple #[]) ∧ (w11.heap[ll]? = some (rec .busy none) ∧ kk (.bool true) (w11.putObj ll (rec .ready none)))) ((w10.heap[ll]? = some (rec .busy none) ∧ kk (.bool true) (w10.putObj ll (rec .ready none)))))) → yieldK Tryz.prog ll [.int .i64 x3, .bool x4] w9 kk) → callK Tryz.prog fn (first.toList ++ [.func (.yield ll) #[] #[]] ++ cap.toList) w8 (panRK R [(mkD dd)]) fun _ w12 => (w12.heap[ll]? = some (rec .ready none) ∧ onSome s fun a3 => ∃ xaa2 xab2 xac2 xad2 xae2 xba2 xbb2 xbc2 xbd2 xbe2 xca2 xcb2 xcc2 xcd2 xce2 xda2 xdb2 xdc2 xdd2 xde2 : UInt64, Rd (w12.putObj ll (rec .exhausted none)) (a3.add 0) (l20 xaa2 xab2 xac2 xad2 xae2 xba2 xbb2 xbc2 xbd2 xbe2 xca2 xcb2 xcc2 xcd2 xce2 xda2 xdb2 xdc2 xdd2 xde2) ∧ onSome x fun a4 => semU Tryz.prog (storeVar 327 a4 (e20 xaa2 xab2 xac2 xad2 xae2 xba2 xbb2 xbc2 xbd2 xbe2 xca2 xcb2 xcc2 xcd2 xce2 xda2 xdb2 xdc2 xdd2 xde2)) (w12.putObj ll (rec .exhausted none)) fun w13 => (w13.heap[dd]? = some (.deferred (some [])) ∧ onSome x fun a5 => ∃ xaa3 xab3 xac3 xad3 xae3 xba3 xbb3 xbc3 xbd3 xbe3 xca3 xcb3 xcc3 xcd3 xce3 xda3 xdb3 xdc3 xdd3 xde3 : UInt64, Rd (w13.putObj dd (.deferred none)) a5 (l20 xaa3 xab3 xac3 xad3 xae3 xba3 xbb3 xbc3 xbd3 xbe3 xca3 xcb3 xcc3 xcd3 xce3 xda3 xdb3 xdc3 xdd3 xde3) ∧ R (.returned (e20 xaa3 xab3 xac3 xad3 xae3 xba3 xbb3 xbc3 xbd3 xbe3 xca3 xcb3 xcc3 xcd3 xce3 xda3 xdb3 xdc3 xdd3 xde3)) (w13.putObj dd (.deferred none)))) ∨ False ∨ False
theorem call204 (a : Slc) (paa pab pac pad pae pba pbb pbc pbd pbe pca pcb pcc pcd pce pda pdb pdc pdd pde : UInt64) {w : World} {R : Ending → World → Prop} (hden : sh204 a paa pab pac pad pae pba pbb pbc pbd pbe pca pcb pcc pcd pce pda pdb pdc pdd pde w R) : Calls Tryz.prog 204 #[.slice a.a a.len a.cap, e20 paa pab pac pad pae pba pbb pbc pbd pbe pca pcb pcc pcd pce pda pdb pdc pdd pde] w R :=
  calls_of_form (.seq none .z (.seq none .z (.seq none (.seq none .z (.block none (.rf false [] [(.i .i64), .b] .z (.block none (.seq none .z (.seq none .z (.cond .z .z))))))) (.seq none .z .z)))) Tryz.func204 (by kernel_rfl) [.sl a, .agg [.agg [.u64 paa, .u64 pab, .u64 pac, .u64 pad, .u64 pae], .agg [.u64 pba, .u64 pbb, .u64 pbc, .u64 pbd, .u64 pbe], .agg [.u64 pca, .u64 pcb, .u64 pcc, .u64 pcd, .u64 pce], .agg [.u64 pda, .u64 pdb, .u64 pdc, .u64 pdd, .u64 pde]]] (by kernel_rfl) (by kernel_rfl) hden
def sh105 (seed : Slc) (w : World) (R : Ending → World → Prop) : Prop :=
  condK ((seed.len : Int) != (32 : Int)) (R (.returned (.tuple #[.pointer none, .bool false])) w) (semK Tryz.prog (Instr.buildSlice 37 1 #[(0, (.slice seed.a seed.len seed.cap))]) w fun v w1 => ∃ x : Slc, v = (.slice x.a x.len x.cap) ∧ callK Tryz.prog 203 [.slice x.a x.len x.cap] w1 (panR R) fun v1 w2 => ∃ x1 : Slc, v1 = (.slice x1.a x1.len x1.cap) ∧ ((0 ≤ (32 : Int) ∧ (32 : Int) ≤ (32 : Int) ∧ (32 : Int) ≤ (x1.cap : Nat)) ∧ ((0 ≤ (0 : Int) ∧ (0 : Int) < ((cutSl x1 1 0 (((32 : Int)).toNat) (((32 : Int)).toNat)).len : Nat)) ∧ onSome (cutSl x1 1 0 (((32 : Int)).toNat) (((32 : Int)).toNat)).a fun a => ∃ x2 : UInt8, Rd w2 (a.add (((0 : Int)).toNat * 1)) [.int .u8 x2.toNat] ∧ ((0 ≤ (0 : Int) ∧ (0 : Int) < ((cutSl x1 1 0 (((32 : Int)).toNat) (((32 : Int)).toNat)).len : Nat)) ∧ onSome (cutSl x1 1 0 (((32 : Int)).toNat) (((32 : Int)).toNat)).a fun a1 => semU Tryz.prog (storeVar 5 (a1.add (((0 : Int)).toNat * 1)) (.int .u8 ((x2 &&& ~~~(7 : UInt8))).toNat)) w2 fun w3 => ((0 ≤ (31 : Int) ∧ (31 : Int) < ((cutSl x1 1 0 (((32 : Int)).toNat) (((32 : Int)).toNat)).len : Nat)) ∧ onSome (cutSl x1 1 0 (((32 : Int)).toNat) (((32 : Int)).toNat)).a fun a2 => ∃ x3 : UInt8, Rd w3 (a2.add (((31 : Int)).toNat * 1)) [.int .u8 x3.toNat] ∧ ((0 ≤ (31 : Int) ∧ (31 : Int) < ((cutSl x1 1 0 (((32 : Int)).toNat) (((32 : Int)).toNat)).len : Nat)) ∧ onSome (cutSl x1 1 0 (((32 : Int)).toNat) (((32 : Int)).toNat)).a fun a3 => semU Tryz.prog (storeVar 5 (a3.add (((31 : Int)).toNat * 1)) (.int .u8 (((x3 &&& (63 : UInt8)) ||| (64 : UInt8))).toNat)) w3 fun w4 => ((0 ≤ (32 : Int) ∧ (32 : Int) ≤ (x1.len : Nat)) ∧ ((callK Tryz.prog 205 [] w4.drew (panR R) fun v2 w5 => ∃ xaa xab xac xad xae xba xbb xbc xbd xbe xca xcb xcc xcd xce xda xdb xdc xdd xde : UInt64, v2 = (e20 xaa xab xac xad xae xba xbb xbc xbd xbe xca xcb xcc xcd xce xda xdb xdc xdd xde) ∧ ((callK Tryz.prog 204 [.slice (cutSl x1 1 0 (((32 : Int)).toNat) (((32 : Int)).toNat)).a (cutSl x1 1 0 (((32 : Int)).toNat) (((32 : Int)).toNat)).len (cutSl x1 1 0 (((32 : Int)).toNat) (((32 : Int)).toNat)).cap, e20 xaa xab xac xad xae xba xbb xbc xbd xbe xca xcb xcc xcd xce xda xdb xdc xdd xde] w5 (panR R) fun v3 w6 => ∃ xaa1 xab1 xac1 xad1 xae1 xba1 xbb1 xbc1 xbd1 xbe1 xca1 xcb1 xcc1 xcd1 xce1 xda1 xdb1 xdc1 xdd1 xde1 : UInt64, v3 = (e20 xaa1 xab1 xac1 xad1 xae1 xba1 xbb1 xbc1 xbd1 xbe1 xca1 xcb1 xcc1 xcd1 xce1 xda1 xdb1 xdc1 xdd1 xde1) ∧ ((semK Tryz.prog (Instr.box 331 (.agg #[.int .u64 xaa1.toNat, .int .u64 xab1.toNat, .int .u64 xac1.toNat, .int .u64 xad1.toNat, .int .u64 xae1.toNat, .int .u64 xba1.toNat, .int .u64 xbb1.toNat, .int .u64 xbc1.toNat, .int .u64 xbd1.toNat, .int .u64 xbe1.toNat, .int .u64 xca1.toNat, .int .u64 xcb1.toNat, .int .u64 xcc1.toNat, .int .u64 xcd1.toNat, .int .u64 xce1.toNat, .int .u64 xda1.toNat, .int .u64 xdb1.toNat, .int .u64 xdc1.toNat, .int .u64 xdd1.toNat, .int .u64 xde1.toNat, .slice (cutSl x1 1 0 (((32 : Int)).toNat) (((32 : Int)).toNat)).a (cutSl x1 1 0 (((32 : Int)).toNat) (((32 : Int)).toNat)).len (cutSl x1 1 0 (((32 : Int)).toNat) (((32 : Int)).toNat)).cap, .slice (cutSl x1 1 (((32 : Int)).toNat) x1.len x1.cap).a (cutSl x1 1 (((32 : Int)).toNat) x1.len x1.cap).len (cutSl x1 1 (((32 : Int)).toNat) x1.len x1.cap).cap])) w6 fun v4 w7 => ∃ x4 : Option Addr, v4 = (.pointer x4) ∧ R (.returned (.tuple #[.pointer x4, .bool true])) w7) ∧ True)) ∧ True)) ∧ True))))))))
theorem call105 (seed : Slc) {w : World} {R : Ending → World → Prop} (hden : sh105 seed w R) : Calls Tryz.prog 105 #[.slice seed.a seed.len seed.cap] w R :=
  calls_of_form (.seq none .z (.seq none (.seq none .z (.cond (.seq none .z .z) .z)) (.seq none .z (.seq none .z (.seq none .z (.seq none .z (.seq none (.draw 0 (.take 0 (.take 3 (.take 4 (.take 5 (.all [(1, (.all [(2, (.take 6 (.all [(7, (.take 8 (.take 9 .done)))])))]))])))))) .z))))))) Tryz.func105 (by kernel_rfl) [.sl seed] (by kernel_rfl) (by kernel_rfl) hden
def sh106 (o : Option Addr) (w : World) (R : Ending → World → Prop) : Prop :=
  onSome o fun a => ∃ xaa xab xac xad xae xba xbb xbc xbd xbe xca xcb xcc xcd xce xda xdb xdc xdd xde : UInt64, Rd w (a.add 0) (l20 xaa xab xac xad xae xba xbb xbc xbd xbe xca xcb xcc xcd xce xda xdb xdc xdd xde) ∧ callK Tryz.prog 206 [e20 xaa xab xac xad xae xba xbb xbc xbd xbe xca xcb xcc xcd xce xda xdb xdc xdd xde] w (panR R) fun v w1 => ∃ x : Slc, v = (.slice x.a x.len x.cap) ∧ R (.returned (.slice x.a x.len x.cap)) w1
theorem call106 (o : Option Addr) {w : World} {R : Ending → World → Prop} (hden : sh106 o w R) : Calls Tryz.prog 106 #[.pointer o] w R :=
  calls_of_form (.seq none .z (.seq none .z .z)) Tryz.func106 (by kernel_rfl) [.p o] (by kernel_rfl) (by kernel_rfl) hden
def sh341 (first parts : Slc) (w : World) (R : Ending → World → Prop) : Prop :=
  callK Tryz.prog 103 [.slice parts.a parts.len parts.cap] w (panR R) fun v w1 => ∃ x : Slc, v = (.slice x.a x.len x.cap) ∧ semK Tryz.prog (Instr.buildSlice 37 1 #[(0, (.slice first.a first.len first.cap))]) w1 fun v1 w2 => ∃ x1 : Slc, v1 = (.slice x1.a x1.len x1.cap) ∧ callK Tryz.prog 367 [.slice x.a x.len x.cap, .int .i64 (0 : Int), .slice x1.a x1.len x1.cap] w2 (panR R) fun v2 w3 => ∃ x2 : Slc, v2 = (.slice x2.a x2.len x2.cap) ∧ callK Tryz.prog 203 [.slice x2.a x2.len x2.cap] w3 (panR R) fun v3 w4 => ∃ x3 : Slc, v3 = (.slice x3.a x3.len x3.cap) ∧ callK Tryz.prog 446 [.slice x3.a x3.len x3.cap] w4 (panR R) fun v4 w5 => ∃ x4 : Slc, v4 = (.slice x4.a x4.len x4.cap) ∧ R (.returned (.slice x4.a x4.len x4.cap)) w5
theorem call341 (first parts : Slc) {w : World} {R : Ending → World → Prop} (hden : sh341 first parts w R) : Calls Tryz.prog 341 #[.slice first.a first.len first.cap, .slice parts.a parts.len parts.cap] w R :=
  calls_of_form (.seq none .z (.seq none .z .z)) Tryz.func341 (by kernel_rfl) [.sl first, .sl parts] (by kernel_rfl) (by kernel_rfl) hden
def sh226 (point public0 text : Slc) (w : World) (R : Ending → World → Prop) : Prop :=
  callK Tryz.prog 103 [.slice text.a text.len text.cap] w (panR R) fun v w1 => ∃ x : Slc, v = (.slice x.a x.len x.cap) ∧ semK Tryz.prog (Instr.buildSlice 37 1 #[(0, (.slice public0.a public0.len public0.cap))]) w1 fun v1 w2 => ∃ x1 : Slc, v1 = (.slice x1.a x1.len x1.cap) ∧ callK Tryz.prog 367 [.slice x.a x.len x.cap, .int .i64 (0 : Int), .slice x1.a x1.len x1.cap] w2 (panR R) fun v2 w3 => ∃ x2 : Slc, v2 = (.slice x2.a x2.len x2.cap) ∧ callK Tryz.prog 341 [.slice point.a point.len point.cap, .slice x2.a x2.len x2.cap] w3 (panR R) fun v3 w4 => ∃ x3 : Slc, v3 = (.slice x3.a x3.len x3.cap) ∧ R (.returned (.slice x3.a x3.len x3.cap)) w4
theorem call226 (point public0 text : Slc) {w : World} {R : Ending → World → Prop} (hden : sh226 point public0 text w R) : Calls Tryz.prog 226 #[.slice point.a point.len point.cap, .slice public0.a public0.len public0.cap, .slice text.a text.len text.cap] w R :=
  calls_of_form (.seq none .z (.seq none .z .z)) Tryz.func226 (by kernel_rfl) [.sl point, .sl public0, .sl text] (by kernel_rfl) (by kernel_rfl) hden
def sh45 (seed : Slc) (w : World) (R : Ending → World → Prop) : Prop :=
  callK Tryz.prog 105 [.slice seed.a seed.len seed.cap] w (panR R) fun v w1 => ∃ xa : Option Addr, ∃ xb : Bool, v = (.tuple #[.pointer xa, .bool xb]) ∧ condK (!xb) (R (.returned (.slice none 0 0)) w1) (callK Tryz.prog 106 [.pointer xa] w1 (panR R) fun v1 w2 => ∃ x : Slc, v1 = (.slice x.a x.len x.cap) ∧ R (.returned (.slice x.a x.len x.cap)) w2)
theorem call45 (seed : Slc) {w : World} {R : Ending → World → Prop} (hden : sh45 seed w R) : Calls Tryz.prog 45 #[.slice seed.a seed.len seed.cap] w R :=
  calls_of_form (.seq none .z (.seq none .z (.seq none (.seq none .z (.cond (.seq none .z .z) .z)) (.seq none .z .z)))) Tryz.func45 (by kernel_rfl) [.sl seed] (by kernel_rfl) (by kernel_rfl) hden
def sh210 (seed text : Slc) (w : World) (R : Ending → World → Prop) : Prop :=
  callK Tryz.prog 105 [.slice seed.a seed.len seed.cap] w (panR R) fun v w1 => ∃ xa : Option Addr, ∃ xb : Bool, v = (.tuple #[.pointer xa, .bool xb]) ∧ condK (!xb) (R (.returned (.slice none 0 0)) w1) (onSome xa fun a => ∃ x : Slc, Rd w1 (a.add 21) [.slice x.a x.len x.cap] ∧ callK Tryz.prog 341 [.slice x.a x.len x.cap, .slice text.a text.len text.cap] w1 (panR R) fun v1 w2 => ∃ x1 : Slc, v1 = (.slice x1.a x1.len x1.cap) ∧ callK Tryz.prog 205 [] w2 (panR R) fun v2 w3 => ∃ xaa xab xac xad xae xba xbb xbc xbd xbe xca xcb xcc xcd xce xda xdb xdc xdd xde : UInt64, v2 = (e20 xaa xab xac xad xae xba xbb xbc xbd xbe xca xcb xcc xcd xce xda xdb xdc xdd xde) ∧ callK Tryz.prog 204 [.slice x1.a x1.len x1.cap, e20 xaa xab xac xad xae xba xbb xbc xbd xbe xca xcb xcc xcd xce xda xdb xdc xdd xde] w3 (panR R) fun v3 w4 => ∃ xaa1 xab1 xac1 xad1 xae1 xba1 xbb1 xbc1 xbd1 xbe1 xca1 xcb1 xcc1 xcd1 xce1 xda1 xdb1 xdc1 xdd1 xde1 : UInt64, v3 = (e20 xaa1 xab1 xac1 xad1 xae1 xba1 xbb1 xbc1 xbd1 xbe1 xca1 xcb1 xcc1 xcd1 xce1 xda1 xdb1 xdc1 xdd1 xde1) ∧ callK Tryz.prog 206 [e20 xaa1 xab1 xac1 xad1 xae1 xba1 xbb1 xbc1 xbd1 xbe1 xca1 xcb1 xcc1 xcd1 xce1 xda1 xdb1 xdc1 xdd1 xde1] w4 (panR R) fun v4 w5 => ∃ x2 : Slc, v4 = (.slice x2.a x2.len x2.cap) ∧ ∃ sx : World → Prop, sx w5.drew ∧ onSome xa fun a1 => ∃ x3 : Slc, (∀ w', sx w' → Rd w' (a1.add 20) [.slice x3.a x3.len x3.cap]) ∧ ((callK Tryz.prog 106 [.pointer xa] w5.drew (panR R) fun v5 w6 => ∃ x4 : Slc, v5 = (.slice x4.a x4.len x4.cap) ∧ (sx w6 ∧ ((callK Tryz.prog 226 [.slice x2.a x2.len x2.cap, .slice x4.a x4.len x4.cap, .slice text.a text.len text.cap] w6 (panR R) fun v6 w7 => ∃ x5 : Slc, v6 = (.slice x5.a x5.len x5.cap) ∧ (sx w7 ∧ ((callK Tryz.prog 342 [.slice x5.a x5.len x5.cap, .slice x3.a x3.len x3.cap, .slice x1.a x1.len x1.cap] w7 (panR R) fun v7 w8 => ∃ x6 : Slc, v7 = (.slice x6.a x6.len x6.cap) ∧ ((semK Tryz.prog (Instr.buildSlice 37 2 #[(0, (.slice x2.a x2.len x2.cap)), (1, (.slice x6.a x6.len x6.cap))]) w8 fun v8 w9 => ∃ x7 : Slc, v8 = (.slice x7.a x7.len x7.cap) ∧ (sx w9 ∧ ((callK Tryz.prog 287 [.slice x7.a x7.len x7.cap] w9 (panR R) fun v9 w10 => ∃ x8 : Slc, v9 = (.slice x8.a x8.len x8.cap) ∧ (sx w10 ∧ R (.returned (.slice x8.a x8.len x8.cap)) w10)) ∧ True))) ∧ True)) ∧ True))) ∧ True))) ∧ True))
theorem call210 (seed text : Slc) {w : World} {R : Ending → World → Prop} (hden : sh210 seed text w R) : Calls Tryz.prog 210 #[.slice seed.a seed.len seed.cap, .slice text.a text.len text.cap] w R :=
  calls_of_form (.seq none .z (.seq none .z (.seq none (.seq none .z (.cond (.seq none .z .z) .z)) (.seq none .z (.seq none .z (.seq none (.draw 1 (.take 0 (.take 1 (.take 2 (.take 4 (.take 6 (.take 7 (.take 8 (.take 10 (.take 9 (.all [(3, (.all [(5, (.all [(11, (.all [(12, (.all [(13, (.take 14 .done))]))]))]))]))]))))))))))) .z)))))) Tryz.func210 (by kernel_rfl) [.sl seed, .sl text] (by kernel_rfl) (by kernel_rfl) hden
def sh103 (s : Slc) (w : World) (R : Ending → World → Prop) : Prop :=
  pureSem Tryz.prog (do eqGuard .eql 37 (.tmp 3) (.const (.slice none 0 0)) (.slice s.a s.len s.cap) (.slice none 0 0); binOp .eql 37 (.slice s.a s.len s.cap) (.slice none 0 0)) fun v => ∃ x : Bool, v = (.bool x) ∧ condK x (R (.returned (.slice none 0 0)) w) (semK Tryz.prog (Instr.buildSlice 37 0 #[]) w fun v1 w1 => ∃ x1 : Slc, v1 = (.slice x1.a x1.len x1.cap) ∧ semK Tryz.prog (Builtin.append_ #[37, 37] 37 #[.slice x1.a x1.len x1.cap, .slice s.a s.len s.cap]) w1 fun v2 w2 => ∃ x2 : Slc, v2 = (.slice x2.a x2.len x2.cap) ∧ R (.returned (.slice x2.a x2.len x2.cap)) w2)
theorem call103 (s : Slc) {w : World} {R : Ending → World → Prop} (hden : sh103 s w R) : Calls Tryz.prog 103 #[.slice s.a s.len s.cap] w R :=
  calls_of_form (.seq none .z (.seq none (.seq none .z (.cond (.seq none .z .z) .z)) (.seq none .z .z))) Tryz.func103 (by kernel_rfl) [.sl s] (by kernel_rfl) (by kernel_rfl) hden
def sh367 (s : Slc) (i : Int) (v : Slc) (w : World) (R : Ending → World → Prop) : Prop :=
  insF 1 37 457 458 s i v w R
theorem call367 (s : Slc) (i : Int) (v : Slc) {w : World} {R : Ending → World → Prop} (hden : sh367 s i v w R) : Calls Tryz.prog 367 #[.slice s.a s.len s.cap, .int .i64 i, .slice v.a v.len v.cap] w R :=
  calls_of_form (.seq none .z (.seq none .z (.seq none .z (.seq none (.seq none .z (.cond (.seq none .z .z) .z)) (.seq none .z (.seq none (.seq none .z (.cond (.seq none .z .z) .z)) (.seq none (.seq none .z (.cond (.seq none .z (.seq none .z (.seq none (.draw 0 (.take 0 (.take 1 (.take 2 (.take 3 (.take 4 (.take 5 (.take 6 (.take 7 (.all [(8, .done)])))))))))) (.seq none .z .z)))) .z)) (.seq none .z (.seq none (.seq none .z (.cond (.seq none (.draw 0 (.take 0 (.take 1 (.take 2 (.take 3 (.take 4 (.take 5 (.take 6 (.take 7 (.all [(8, .done)])))))))))) (.seq none .z (.seq none .z .z))) .z)) (.seq none .z (.seq none .z (.seq none .z .z)))))))))))) Tryz.func367 (by kernel_rfl) [.sl s, .i .i64 i, .sl v] (by kernel_rfl) (by kernel_rfl) hden
def sh287 (slices : Slc) (w : World) (R : Ending → World → Prop) : Prop :=
  ∃ (inv : List TV → World → Prop) (mu : List TV → World → Nat), inv [.i .i64 (0 : Int), .i .i64 (0 : Int)] w ∧ (∀ size x : Int, ∀ w1 : World, inv [.i .i64 size, .i .i64 x] w1 → condK (decide (x < (slices.len : Int))) (((0 ≤ x ∧ x < (slices.len : Nat)) ∧ onSome slices.a fun a => ∃ x1 : Slc, Rd w1 (a.add (x.toNat * 1)) [.slice x1.a x1.len x1.cap] ∧ condK (decide ((IntKind.i64.wrap (size + (x1.len : Int))) < (0 : Int))) ((panR R) [{ v := (.iface 9 (.string ⟨([108, 101, 110, 32, 111, 117, 116, 32, 111, 102, 32, 114, 97, 110, 103, 101]).toArray⟩)), recovered := false }] w1) ((inv [.i .i64 (IntKind.i64.wrap (size + (x1.len : Int))), .i .i64 (IntKind.i64.wrap (x + (1 : Int)))] w1 ∧ mu [.i .i64 (IntKind.i64.wrap (size + (x1.len : Int))), .i .i64 (IntKind.i64.wrap (x + (1 : Int)))] w1 < mu [.i .i64 size, .i .i64 x] w1)))) (callK Tryz.prog 395 [.slice none 0 0, .int .i64 size] w1 (panR R) fun v w2 => ∃ x2 : Slc, v = (.slice x2.a x2.len x2.cap) ∧ ∃ (inv1 : List TV → World → Prop) (mu1 : List TV → World → Nat), inv1 [.sl x2, .i .i64 (0 : Int)] w2 ∧ (∀ newslice : Slc, ∀ x3 : Int, ∀ w3 : World, inv1 [.sl newslice, .i .i64 x3] w3 → condK (decide (x3 < (slices.len : Int))) (((0 ≤ x3 ∧ x3 < (slices.len : Nat)) ∧ onSome slices.a fun a1 => ∃ x4 : Slc, Rd w3 (a1.add (x3.toNat * 1)) [.slice x4.a x4.len x4.cap] ∧ semK Tryz.prog (Builtin.append_ #[22, 22] 22 #[.slice newslice.a newslice.len newslice.cap, .slice x4.a x4.len x4.cap]) w3 fun v1 w4 => ∃ x5 : Slc, v1 = (.slice x5.a x5.len x5.cap) ∧ (inv1 [.sl x5, .i .i64 (IntKind.i64.wrap (x3 + (1 : Int)))] w4 ∧ mu1 [.sl x5, .i .i64 (IntKind.i64.wrap (x3 + (1 : Int)))] w4 < mu1 [.sl newslice, .i .i64 x3] w3))) (R (.returned (.slice newslice.a newslice.len newslice.cap)) w3))))
theorem call287 (slices : Slc) {w : World} {R : Ending → World → Prop} (hden : sh287 slices w R) : Calls Tryz.prog 287 #[.slice slices.a slices.len slices.cap] w R :=
  calls_of_form (.seq none .z (.seq none .z (.seq none (.seq none .z (.block none (.loop [(3, (.i .i64)), (11, (.i .i64))] (.seq none .z (.seq none (.cond .z .z) (.seq none (.block none (.seq none .z (.seq none .z (.seq none .z (.cond .z .z))))) .z)))))) (.seq none .z (.seq none (.seq none .z (.block none (.loop [(6, .sl), (27, (.i .i64))] (.seq none .z (.seq none (.cond .z .z) (.seq none (.block none (.seq none .z .z)) .z)))))) (.seq none .z .z)))))) Tryz.func287 (by kernel_rfl) [.sl slices] (by kernel_rfl) (by kernel_rfl) hden
def sh395 (s : Slc) (n : Int) (w : World) (R : Ending → World → Prop) : Prop :=
  ∃ j : List TV → World → Prop, (condK (decide (n < (0 : Int))) ((panR R) [{ v := (.iface 9 (.string ⟨([99, 97, 110, 110, 111, 116, 32, 98, 101, 32, 110, 101, 103, 97, 116, 105, 118, 101]).toArray⟩)), recovered := false }] w) (j [] w)) ∧ (∀ w1 : World, j [] w1 → condK (decide ((IntKind.i64.wrap (n - (IntKind.i64.wrap ((s.cap : Int) - (s.len : Int))))) > (0 : Int))) (((0 ≤ (s.cap : Int) ∧ (s.cap : Int) ≤ (s.cap : Nat)) ∧ semK Tryz.prog (Builtin.append_ #[22, 3] 22 #[.slice (cutSl s 1 0 (((s.cap : Int)).toNat) s.cap).a (cutSl s 1 0 (((s.cap : Int)).toNat) s.cap).len (cutSl s 1 0 (((s.cap : Int)).toNat) s.cap).cap, .int .i64 (IntKind.i64.wrap (n - (IntKind.i64.wrap ((s.cap : Int) - (s.len : Int)))))]) w1 fun v w2 => ∃ x : Slc, v = (.slice x.a x.len x.cap) ∧ ((0 ≤ (s.len : Int) ∧ (s.len : Int) ≤ (x.cap : Nat)) ∧ R (.returned (.slice (cutSl x 1 0 (((s.len : Int)).toNat) x.cap).a (cutSl x 1 0 (((s.len : Int)).toNat) x.cap).len (cutSl x 1 0 (((s.len : Int)).toNat) x.cap).cap)) w2))) (R (.returned (.slice s.a s.len s.cap)) w1))
theorem call395 (s : Slc) (n : Int) {w : World} {R : Ending → World → Prop} (hden : sh395 s n w R) : Calls Tryz.prog 395 #[.slice s.a s.len s.cap, .int .i64 n] w R :=
  calls_of_form (.seq none .z (.seq (some []) (.seq none .z (.cond .z .z)) (.seq none (.seq none .z (.seq none .z (.cond .z .z))) (.seq none .z .z)))) Tryz.func395 (by kernel_rfl) [.sl s, .i .i64 n] (by kernel_rfl) (by kernel_rfl) hden
end Go.Proofs.YtgemgaofamloeaaGreatDoor
end
section
namespace Go.Proofs.YtgemgaofamloeaaGreatDoor
open Go Go.Sh Go.X
noncomputable def zeroP : P4 := ⟨⟨0, 0, 0, 0, 0⟩, ⟨1, 0, 0, 0, 0⟩, ⟨1, 0, 0, 0, 0⟩, ⟨0, 0, 0, 0, 0⟩⟩
noncomputable def mulB (p : P4) (l : List Bool) : P4 := List.rec (motive := fun _ => P4) zeroP (fun b _ t => X.br b (padd (pdbl t) p) (pdbl t)) l
theorem q_Zero {G : World → Prop} (hG : ∀ w, G w → GE w) (h : Hp) : QuietOk Tryz.prog G 330 [] h (.agg zeroP.w) := by
  obtain ⟨h', e1⟩ := resV_ex x_Zero
  exact quiet_dry ((xcalls_ok mixed noD_ok (nE_ok hG) 10).c _ _ _ _ _ e1) (fun _ => rfl) (fun _ => rfl) h
def RPt (p : P4) (w : World) (v : Value) (w' : World) : Prop := ∃ l : List UInt64, l.length = 20 ∧ P4.of l p ∧ v = .agg (us l).toArray ∧ Mod NoB w w'
theorem pt_of {p : P4} (h : p.ok) {v : Value} (hv : XR (fun _ => none) (.agg p.w) v) : ∃ l : List UInt64, l.length = 20 ∧ P4.of l p ∧ v = .agg (us l).toArray := by
  obtain ⟨l, h1, h2⟩ := P4.ex h
  simp only [XR] at hv
  obtain ⟨vs, h3, rfl⟩ := hv
  rw [h2] at h3
  exact ⟨l, h1, h2, by rw [XRs_us h3]⟩
theorem zeroP_ok : zeroP.ok := by refine ⟨⟨?_, ?_, ?_, ?_, ?_⟩, ⟨?_, ?_, ?_, ?_, ?_⟩, ⟨?_, ?_, ?_, ?_, ?_⟩, ⟨?_, ?_, ?_, ?_, ?_⟩⟩ <;> (simp only [zeroP]; decide)
theorem baseP_ok : baseP.ok := by refine ⟨⟨?_, ?_, ?_, ?_, ?_⟩, ⟨?_, ?_, ?_, ?_, ?_⟩, ⟨?_, ?_, ?_, ?_, ?_⟩, ⟨?_, ?_, ?_, ?_, ?_⟩⟩ <;> (simp only [baseP]; decide)
theorem c_ZeroF {w : World} (hw : GE w) : Calls Tryz.prog 330 #[] w (Ret (RPt zeroP w)) :=
  Calls.mono (c_q (q_Zero (G := GE) (fun _ h => h) _) (fun w' hm => ⟨hw.twice.mod hm fun h => h, hw.curve.mod hm fun h => h⟩) (vs := []) rfl) fun e w' ⟨v, h1, h2, h3⟩ => by
    obtain ⟨l, g1, g2, g3⟩ := pt_of zeroP_ok h2
    subst h1
    exact ⟨l, g1, g2, g3, h3⟩
theorem c_BaseF {w : World} (hw : GE w) : Calls Tryz.prog 205 #[] w (Ret (RPt baseP w)) :=
  Calls.mono (c_q (q_Base (G := GE) (fun _ h => h) _) (fun w' hm => ⟨hw.twice.mod hm fun h => h, hw.curve.mod hm fun h => h⟩) (vs := []) rfl) fun e w' ⟨v, h1, h2, h3⟩ => by
    obtain ⟨l, g1, g2, g3⟩ := pt_of baseP_ok h2
    subst h1
    exact ⟨l, g1, g2, g3, h3⟩
theorem c_backFB {w : World} {s : Slc} : Calls Tryz.prog 331 #[.slice s.a s.len s.cap] w (Ret fun v w' => ∃ p, v = .func (.func 435) #[] #[.pointer (some ⟨p, 0, none⟩)] ∧ (∃ T, Blk w' p [s.val] T) ∧ w.heap.size ≤ p ∧ Mod NoB w w') := by
  refine call331 _ ?_
  unfold sh331
  refine sem_box (l := [s.val]) rfl fun p w1 hN1 hb1 => ⟨_, rfl, ?_⟩
  have h1 := hN1.at_
  exact ⟨p, rfl, ⟨_, hb1⟩, by omega, hN1.mod⟩
theorem c_backB {w : World} {ll p : Nat} {s : Slc} {l : List Bool} {I : Nat → World → Prop} (hl : l.length = s.len) (hn : l.length ≤ 1000000000000000) (hp : ∃ T, Blk w p [s.val] T) (h0 : I l.length w)
    (hI : ∀ k w1, k < l.length → I (k + 1) w1 → Rd w1 ⟨p, 0, none⟩ [s.val] ∧ SlRd w1 s 1 (bls l) ∧ ∀ h : k < l.length, yieldK Tryz.prog ll [.int .i64 k, .bool l[k]] w1 fun v w2 => v = .bool true ∧ I k w2) :
    Calls Tryz.prog 435 #[.func (.yield ll) #[] #[], .pointer (some ⟨p, 0, none⟩)] w (Ret fun v w' => v = .tuple #[] ∧ I 0 w') := by
  refine call435 _ _ ?_
  unfold sh435
  obtain ⟨T, hp⟩ := hp
  refine ⟨s, hp.rd1 rfl, ?_⟩
  refine ⟨fun l' w' => match l' with | [.i _ x] => ∃ k : Nat, x = (k : Int) - 1 ∧ k ≤ l.length ∧ I k w' | _ => False, fun l' _ => match l' with | [.i _ x] => (x + 1).toNat | _ => 0, ⟨l.length, by rw [wrap_i64 (by omega), hl], by omega, h0⟩, ?_⟩
  rintro i w1 ⟨k, rfl, hk, hI1⟩
  refine condK_i (fun hge => ?_) fun hlt => ?_
  · have hk0 : 0 < k := by simp at hge; omega
    obtain ⟨hr1, hr2, hy⟩ := hI (k - 1) w1 (by omega) (by rw [Nat.sub_add_cancel hk0]; exact hI1)
    obtain ⟨a, ea, hra⟩ := rd_bool hr2 (i := k - 1) (by omega)
    have e1 : ((k : Int) - 1) = ((k - 1 : Nat) : Int) := by omega
    rw [e1]
    refine ⟨s, hr1, ⟨by omega, by omega⟩, ?_⟩
    rw [ea]
    refine ⟨_, hra, ?_⟩
    show yieldK _ _ _ _ _
    obtain ⟨f, tmps, assign, body, g1, g2⟩ := hy (by omega)
    refine ⟨f, tmps, assign, body, g1, RoundIn.mono g2 fun e w2 he => ?_⟩
    obtain ⟨v, rfl, rfl, hI2⟩ := he
    refine ⟨_, rfl, true, rfl, ?_⟩
    refine condK_i (fun e => by cases e) fun _ => ⟨⟨k - 1, by rw [wrap_i64 (by omega)], by omega, hI2⟩, ?_⟩
    rw [wrap_i64 (by omega)]; (try simp only []); omega
  · have : k = 0 := by simp at hlt; omega
    subst this
    exact ⟨rfl, hI1⟩
theorem mulB_cons (p : P4) (b : Bool) (l : List Bool) : mulB p (b :: l) = X.br b (padd (pdbl (mulB p l)) p) (pdbl (mulB p l)) := rfl
theorem c_eMulF {w : World} {a : Slc} {l : List UInt8} {q : P4} {x0 x1 x2 x3 x4 x5 x6 x7 x8 x9 x10 x11 x12 x13 x14 x15 x16 x17 x18 x19 : UInt64} (hw : GE w) (ha : SlRd w a 1 (bys l)) (hal : ∀ x, a.blk = some x → x < w.heap.size)
    (hq : P4.of [x0, x1, x2, x3, x4, x5, x6, x7, x8, x9, x10, x11, x12, x13, x14, x15, x16, x17, x18, x19] q) :
    Calls Tryz.prog 204 #[.slice a.a a.len a.cap, e20 x0 x1 x2 x3 x4 x5 x6 x7 x8 x9 x10 x11 x12 x13 x14 x15 x16 x17 x18 x19] w (Ret (RPt (mulB q (bitsT l)) w)) := by
  have hgl : 2 < w.heap.size ∧ 0 < w.heap.size := ⟨rd_lt hw.twice (by simp), rd_lt hw.curve (by simp)⟩
  have keep : ∀ {w' : World} {S : Nat → Prop}, Mod S w w' → (∀ x, S x → w.heap.size ≤ x) → GE w' := fun hm hS => ⟨hw.twice.mod hm (fun e => by have := hS _ e; have := hgl.1; simp only [] at *; omega), hw.curve.mod hm (fun e => by have := hS _ e; have := hgl.2; simp only [] at *; omega)⟩
  refine call204 _ _ _ _ _ _ _ _ _ _ _ _ _ _ _ _ _ _ _ _ _ ?_
  unfold sh204
  refine sem_box (l := us [x0, x1, x2, x3, x4, x5, x6, x7, x8, x9, x10, x11, x12, x13, x14, x15, x16, x17, x18, x19]) rfl fun p w1 hN1 hb1 => ⟨_, rfl, ?_⟩
  obtain ⟨iz, zz, z1, z2, z3⟩ := zi20
  refine sem_alloc (l := us (List.replicate 20 0)) z1 z2 z3 fun x w2 hN2 hb2 => ⟨_, rfl, ?_⟩
  have hM2 := hN1.mod.tr hN2.mod
  refine callK_ret (c_ZeroF (keep hM2 fun _ h => h.elim)) ?_
  rintro v w3 ⟨zl, hz1, hz2, rfl, hm3⟩
  obtain ⟨y0, y1, y2, y3, y4, y5, y6, y7, y8, y9, y10, y11, y12, y13, y14, y15, y16, y17, y18, y19, rfl⟩ := lst20 hz1
  refine ⟨y0, y1, y2, y3, y4, y5, y6, y7, y8, y9, y10, y11, y12, y13, y14, y15, y16, y17, y18, y19, rfl, ?_⟩
  obtain ⟨iz', zz', z1', z2', z3'⟩ := zi20'
  refine sem_alloc (l := us (List.replicate 20 0)) z1' z2' z3' fun s w4 hN4 hb4 => ⟨_, rfl, ?_⟩
  have hM3 := hM2.tr hm3
  have hM4 := hM3.tr hN4.mod
  refine semU_store (o := 0) (vs := us [y0, y1, y2, y3, y4, y5, y6, y7, y8, y9, y10, y11, y12, y13, y14, y15, y16, y17, y18, y19]) (by kernel_rfl) (by kernel_rfl) rfl hb4 (by simp [us]) (us_one _) fun w5 ht5 hb5 => ?_
  obtain ⟨E5, hb5⟩ : ∃ E, Blk w5 s (us [y0, y1, y2, y3, y4, y5, y6, y7, y8, y9, y10, y11, y12, y13, y14, y15, y16, y17, y18, y19]) E := ⟨_, by simpa [putAt, us] using hb5⟩
  have hs4 := hN4.at_
  have hp1 := hN1.at_
  have hx2 := hN2.at_
  have hsz1 := hb1.lt
  have hsz2 := hb2.lt
  have hM5 : Mod NoB w w5 := hM4.fresh ht5.mod fun z e => by have := hM3.size; have : z = s := e; omega
  have hbp5 : Blk w5 p (us [x0, x1, x2, x3, x4, x5, x6, x7, x8, x9, x10, x11, x12, x13, x14, x15, x16, x17, x18, x19]) _ := ((((hb1.mod hN2.mod (fun h => h)).mod hm3 (fun h => h)).mod hN4.mod (fun h => h)).mod ht5.mod (fun e => by have := hN2.mod.size; have := hm3.size; have : p = s := e; omega))
  have hbx5 : Blk w5 x (us (List.replicate 20 0)) _ := (((hb2.mod hm3 (fun h => h)).mod hN4.mod (fun h => h)).mod ht5.mod (fun e => by have := hm3.size; have : x = s := e; omega))
  refine callK_ret (c_bitsS (ha.mod hM5 fun _ _ h => h) fun z hz => Nat.lt_of_lt_of_le (hal z hz) hM5.size) ?_
  rintro v w6 ⟨y, rfl, hoy, hfy, hm6⟩
  refine ⟨y, rfl, ?_⟩
  refine callK_ret c_backFB ?_
  rintro v w7 ⟨pb, rfl, ⟨T, hpb⟩, hps, hm7⟩
  refine ⟨_, rfl, 435, #[], #[.pointer (some ⟨pb, 0, none⟩)], rfl, by kernel_rfl, ?_⟩
  rintro rec dd ll w8 hdd hll hw8 hY
  have hM8 : Mod NoB w7 w8 := by rw [hw8]; exact (alloc_mod _ _).tr (alloc_mod _ _)
  have hsz8 : w8.heap.size = ll + 1 := by rw [hw8]; simp; omega
  have hld8 : w8.heap[ll]? = some (rec .ready none) := by
    rw [hw8, hll, hdd]
    have := heap_alloc_new (w7.alloc (.deferred (some []))) (rec .ready none)
    simpa using this
  have hdd8 : w8.heap[dd]? = some (.deferred (some [])) := by
    rw [hw8, hdd, heap_alloc_old _ _ (by simp)]
    exact heap_alloc_new _ _
  have h58 : Mod NoB w5 w8 := (hm6.tr hm7).tr hM8
  have hbs8 := hb5.mod h58 (fun h => h)
  have hbp8 := hbp5.mod h58 (fun h => h)
  have hbx8 := hbx5.mod h58 (fun h => h)
  have hs5 := hb5.lt
  have hp5 := hbp5.lt
  have hx5 := hbx5.lt
  have h57 : w5.heap.size ≤ w7.heap.size := Nat.le_trans hm6.size hm7.size
  have hls : s ≠ ll ∧ s ≠ dd ∧ p ≠ ll ∧ p ≠ dd ∧ x ≠ ll ∧ x ≠ dd ∧ p ≠ s ∧ x ≠ s := by
    have := hN2.mod.size; have := hm3.size
    omega
  have hyl := rd_lenB hoy.rd
  have hy7 : SlRd w7 y 1 (bls (bitsT l)) := (hoy.no hm7).rd
  have hsb : ∀ z, y.blk = some z → w5.heap.size ≤ z ∧ z < w7.heap.size := fun z hz => ⟨hfy z hz, Nat.lt_of_lt_of_le (hoy.lt hz) hm7.size⟩
  have hpbl := hpb.lt
  have hpbs : s < pb := by have := hm6.size; omega
  have hW8 : Mod NoB w w8 := hM5.tr h58
  have hw5s := hM5.size
  have hws : w.heap.size ≤ s := by have := hM3.size; omega
  let I : Nat → World → Prop := fun k w' => w'.heap[ll]? = some (rec .ready none) ∧ (∃ ls E, ls.length = 20 ∧ P4.of ls (mulB q ((bitsT l).drop k)) ∧ Blk w' s (us ls) E) ∧ Mod (fun z => z = s ∨ z = ll) w8 w'
  have hGE : ∀ {w' : World} {S : Nat → Prop}, Mod S w8 w' → (∀ z, S z → z = s ∨ z = ll) → GE w' := fun hm hS => keep (S := fun z => z = s ∨ z = ll) (hW8.trans hm (fun _ _ h => h.elim) fun z _ e => hS z e) fun z e => by rcases e with e | e <;> omega
  have hseq := c_backB (w := w8) (ll := ll) (p := pb) (s := y) (l := bitsT l) (I := I) hyl (by rw [bitsT]; split <;> simp) ⟨T, hpb.no hM8⟩ ⟨hld8, ⟨_, _, rfl, by rw [List.drop_length]; exact hz2, hbs8⟩, Mod.refl _ _⟩ (by
    rintro k w9 hk ⟨hl9, ⟨ls, E, hls1, hls2, hls3⟩, hm9⟩
    refine ⟨((hpb.no hM8).mod hm9 (by omega)).rd1 rfl, (hy7.mod hM8 fun _ _ h => h).mod hm9 (fun z hz e => by have := hsb z hz; omega), fun hk' => ?_⟩
    refine hY _ _ w9 _ hl9 ⟨hl9, ?_⟩
    have hll9 := lt_of_get hl9
    obtain ⟨hmp, hgp, hsp⟩ := put_mod (o := rec .busy none) hll9
    have hmb : Mod (fun z => z = s ∨ z = ll) w8 (w9.putObj ll (rec .busy none)) := hm9.tr (hmp.mono fun x _ e => .inr e)
    have hbs9 := hls3.mod hmp (fun e => hls.1 e)
    have hd := c_dblF (hGE hmb fun _ h => h) (fun w' hm => hGE (hmb.tr (hm.mono fun x _ e => .inl e)) fun _ h => h) hbs9 hls2
    refine callK_ret (Q := fun v w' => v = .tuple #[] ∧ ∃ l' T', l'.length = 20 ∧ P4.of l' (pdbl (mulB q ((bitsT l).drop (k + 1)))) ∧ Blk w' s (us l') T' ∧ Mod (fun x => x = s) (w9.putObj ll (rec .busy none)) w') (Calls.mono hd fun e w' h => by obtain ⟨rfl, h⟩ := h; exact ⟨rfl, h⟩) ?_
    rintro v w10 ⟨rfl, l10, E10, e1, e2, e3, hT10⟩
    refine ⟨rfl, ?_⟩
    have hl10 : w10.heap[ll]? = some (rec .busy none) := by rw [hT10.block ll (by omega) (by omega)]; exact hgp
    have hm10 : Mod (fun z => z = s ∨ z = ll) w8 w10 := hmb.tr (hT10.mono fun x _ e => .inl e)
    have hdk : (bitsT l).drop k = (bitsT l)[k] :: (bitsT l).drop (k + 1) := List.drop_eq_getElem_cons hk
    refine condK_i (fun hbit => ?_) fun hbit => ?_
    · have hbp10 := hbp8.mod hm10 (by omega)
      refine ⟨x0, x1, x2, x3, x4, x5, x6, x7, x8, x9, x10, x11, x12, x13, x14, x15, x16, x17, x18, x19, hbp10.rd fun j v hj => by simpa [us] using hj, ?_⟩
      have hd := c_addF (m := [x0, x1, x2, x3, x4, x5, x6, x7, x8, x9, x10, x11, x12, x13, x14, x15, x16, x17, x18, x19]) (hGE hm10 fun _ h => h) (fun w' hm => hGE (hm10.tr (hm.mono fun x _ e => .inl e)) fun _ h => h) e3 e2 hq
      refine callK_ret (Q := fun v w' => v = .tuple #[] ∧ ∃ l' T', l'.length = 20 ∧ P4.of l' (padd (pdbl (mulB q ((bitsT l).drop (k + 1)))) q) ∧ Blk w' s (us l') T' ∧ Mod (fun x => x = s) w10 w') (Calls.mono hd fun e w' h => by obtain ⟨rfl, h⟩ := h; exact ⟨rfl, h⟩) ?_
      rintro v w11 ⟨rfl, l11, E11, f1, f2, f3, hT11⟩
      refine ⟨rfl, ?_⟩
      have hl11 : w11.heap[ll]? = some (rec .busy none) := by rw [hT11.block ll (lt_of_get hl10) (by omega)]; exact hl10
      have hll11 := lt_of_get hl11
      obtain ⟨hmq, hgq, hsq⟩ := put_mod (o := rec .ready none) hll11
      exact ⟨hl11, rfl, hgq, ⟨l11, E11, f1, by rw [hdk, mulB_cons, hbit]; exact f2, f3.mod hmq (fun e => hls.1 e)⟩, (hm10.tr (hT11.mono fun x _ e => .inl e)).tr (hmq.mono fun x _ e => .inr e)⟩
    · have hll10 := lt_of_get hl10
      obtain ⟨hmq, hgq, hsq⟩ := put_mod (o := rec .ready none) hll10
      have hbf : (bitsT l)[k] = false := by simpa using hbit
      exact ⟨hl10, rfl, hgq, ⟨l10, E10, e1, by rw [hdk, mulB_cons, hbf]; exact e2, e3.mod hmq (fun e => hls.1 e)⟩, hm10.tr (hmq.mono fun x _ e => .inr e)⟩)
  refine callK_of hseq ?_ (fun _ _ h => h.elim) (fun _ h => h)
  rintro v w9 ⟨rfl, hl9, ⟨ls, E, hls1, hls2, hls3⟩, hm9⟩
  left
  refine ⟨hl9, ?_⟩
  have hll9 := lt_of_get hl9
  obtain ⟨hmp, hgp, hsp⟩ := put_mod (o := rec .exhausted none) hll9
  rw [List.drop_zero] at hls2
  obtain ⟨u0, u1, u2, u3, u4, u5, u6, u7, u8, u9, u10, u11, u12, u13, u14, u15, u16, u17, u18, u19, rfl⟩ := lst20 hls1
  have hbs10 := hls3.mod hmp (fun e => hls.1 e)
  have hbx10 := (hbx8.mod hm9 (by omega)).mod hmp (fun e => by have : x = ll := e; omega)
  refine ⟨u0, u1, u2, u3, u4, u5, u6, u7, u8, u9, u10, u11, u12, u13, u14, u15, u16, u17, u18, u19, hbs10.rd fun j v hj => by simpa [us] using hj, ?_⟩
  refine semU_store (o := 0) (vs := us [u0, u1, u2, u3, u4, u5, u6, u7, u8, u9, u10, u11, u12, u13, u14, u15, u16, u17, u18, u19]) (by kernel_rfl) (by kernel_rfl) rfl hbx10 (by simp [us]) (us_one _) fun w11 ht11 hb11 => ?_
  obtain ⟨E11, hb11⟩ : ∃ E, Blk w11 x (us [u0, u1, u2, u3, u4, u5, u6, u7, u8, u9, u10, u11, u12, u13, u14, u15, u16, u17, u18, u19]) E := ⟨_, by simpa [putAt, us] using hb11⟩
  have hd9 : w9.heap[dd]? = some (.deferred (some [])) := by rw [hm9.block dd (by omega) (by omega)]; exact hdd8
  have hd10 : (w9.putObj ll (rec .exhausted none)).heap[dd]? = some (.deferred (some [])) := by rw [hmp.block dd (lt_of_get hd9) (by omega)]; exact hd9
  have hd11 : w11.heap[dd]? = some (.deferred (some [])) := by rw [ht11.mod.block dd (lt_of_get hd10) (fun e => hls.2.2.2.2.2.1 (Eq.symm e))]; exact hd10
  refine ⟨hd11, ?_⟩
  obtain ⟨hmd, hgd, hsd⟩ := put_mod (o := .deferred none) (lt_of_get hd11)
  have hb12 := hb11.mod hmd (fun e => hls.2.2.2.2.2.1 e)
  refine ⟨u0, u1, u2, u3, u4, u5, u6, u7, u8, u9, u10, u11, u12, u13, u14, u15, u16, u17, u18, u19, hb12.rd fun j v hj => by simpa [us] using hj, ?_⟩
  have hwx : w.heap.size ≤ x := by have := hN1.mod.size; omega
  exact ⟨[u0, u1, u2, u3, u4, u5, u6, u7, u8, u9, u10, u11, u12, u13, u14, u15, u16, u17, u18, u19], rfl, hls2, rfl, (((hW8.fresh hm9 fun z e => by rcases e with e | e <;> omega).fresh hmp fun z e => by have : z = ll := e; omega).fresh ht11.mod fun z e => by have : z = x := e; omega).fresh hmd fun z e => by have : z = dd := e; omega⟩
theorem br_ok {b : Bool} {x y : F5} (hx : x.ok) (hy : y.ok) : (X.br b x y).ok := by cases b <;> assumption
theorem fpow_ok (a : F5) (less : Nat) : ∀ (n : Nat) (o : F5), o.ok → (fpow a less n o).ok
  | 0, o, h => h
  | n + 1, o, h => fpow_ok a less n _ (br_ok (fmul_ok _ _) (fmul_ok _ _))
theorem finv_ok (a : F5) : (finv a).ok := fpow_ok a 21 255 _ ⟨by decide, by decide, by decide, by decide, by decide⟩
theorem GE_no {w : World} (hw : GE w) : ∀ w', Mod NoB w w' → GE w' := fun w' hm => ⟨hw.twice.mod hm fun h => h, hw.curve.mod hm fun h => h⟩
theorem c_un {w : World} {f : FuncId} {x z : F5} {a b c d e : UInt64} (hx : x = F5.of a b c d e) (hw : GE w) (hq : QuietOk Tryz.prog GE f [x.v] ⟨.lf, 0⟩ z.v) (hz : z.ok) : Calls Tryz.prog f #[e5 a b c d e] w (Ret (RF z w)) := by
  subst hx
  refine Calls.mono (c_q hq (GE_no hw) (vs := [e5 a b c d e]) ⟨_, _, rfl, F5.xr _ _ _ _ _, rfl⟩) fun e' w' ⟨v, h1, h2, h3⟩ => ?_
  obtain ⟨p, q, r, s, t, h4, h5⟩ := F5.rx hz h2
  subst h1
  exact ⟨p, q, r, s, t, h4, h5, h3⟩
theorem c_InvertF {w : World} {a b c d e : UInt64} (hw : GE w) : Calls Tryz.prog 336 #[e5 a b c d e] w (Ret (RF (finv (F5.of a b c d e)) w)) :=
  c_un rfl hw (q_un2 (fun _ h => h) (x_Invert _) (dry_F5 (finv _)) _) (finv_ok _)
theorem x_Odd (a : F5) : resV (runG 339 [a.v] ⟨.lf, 0⟩) = some (.bool (Nat.beq (fodd a) 1)) := by kernel_rfl
theorem c_OddF {w : World} {a b c d e : UInt64} (hw : GE w) : Calls Tryz.prog 339 #[e5 a b c d e] w (Ret fun v w' => v = .bool (Nat.beq (fodd (F5.of a b c d e)) 1) ∧ Mod NoB w w') := by
  obtain ⟨h', e1⟩ := resV_ex (x_Odd (F5.of a b c d e))
  have hq := quiet_dry ((xcalls_ok mixed noD_ok (nG_ok (G := GE) fun _ h => h) 10).c _ _ _ _ _ e1) (dry_A1 _) (fun _ => rfl) ⟨.lf, 0⟩
  refine Calls.mono (c_q hq (GE_no hw) (vs := [e5 a b c d e]) ⟨_, _, rfl, F5.xr _ _ _ _ _, rfl⟩) fun e' w' ⟨v, h1, h2, h3⟩ => ?_
  simp only [XR] at h2
  subst h1
  exact ⟨h2, h3⟩
theorem orB_lt (x y : Nat) : orB x y < 256 := Nat.mod_lt _ (by decide)
theorem byteB_lt (x : F5) : ∀ (m k acc : Nat), acc < 256 → byteB x m k acc < 256
  | 0, k, acc, h => h
  | m + 1, k, acc, h => byteB_lt x m (k + 1) _ (orB_lt _ _)
theorem rowB_lt (x : F5) : ∀ (n k : Nat), ∀ b ∈ rowB x n k, b < 256
  | 0, k, b, h => by
    have h : b ∈ [byteB x 7 k 0] := h
    simp only [List.mem_singleton] at h
    rw [h]; exact byteB_lt x 7 k 0 (by decide)
  | n + 1, k, b, h => by
    have h : b ∈ byteB x 8 k 0 :: rowB x n (k + 8) := h
    rcases List.mem_cons.1 h with rfl | h
    · exact byteB_lt x 8 k 0 (by decide)
    · exact rowB_lt x n (k + 8) b h
theorem rowB_len (x : F5) : ∀ (n k : Nat), (rowB x n k).length = n + 1
  | 0, k => rfl
  | n + 1, k => by
    show (byteB x 8 k 0 :: rowB x n (k + 8)).length = _
    rw [List.length_cons, rowB_len x n (k + 8)]
theorem putB_lt (x : F5) : ∀ b ∈ putB x, b < 256 := rowB_lt _ _ _
theorem putB_len (x : F5) : (putB x).length = 32 := rowB_len _ _ _
def toB (l : List Nat) : List UInt8 := l.map UInt8.ofNat
theorem XRs_bys {ρ : Lab} : ∀ {l : List Nat} {vs : List Value}, (∀ b ∈ l, b < 256) → XRs ρ (mapB l) vs → vs = bys (toB l)
  | [], vs, _, h => by
    have h : XRs ρ [] vs := h
    simp only [XRs] at h; exact h
  | a :: l, vs, hl, h => by
    have h : XRs ρ (u8 a :: mapB l) vs := h
    simp only [XRs] at h
    obtain ⟨v, vs', rfl, h1, h2⟩ := h
    simp only [XR] at h1
    rw [XRs_bys (fun b hb => hl b (List.mem_cons_of_mem _ hb)) h2, h1]
    have : (UInt8.ofNat a).toNat = a := by
      rw [UInt8.toNat_ofNat']
      have := hl a List.mem_cons_self
      omega
    simp [bys, toB, this]
def RBy (l : List UInt8) (w : World) (v : Value) (w' : World) : Prop := ∃ b T, v = .slice (some ⟨b, 0, none⟩) l.length l.length ∧ Blk w' b (bys l) T ∧ w.heap.size ≤ b ∧ Mod NoB w w'
theorem c_fPutF {w : World} {a b c d e : UInt64} (hw : GE w) : Calls Tryz.prog 337 #[e5 a b c d e] w (Ret (RBy (toB (putB (F5.of a b c d e))) w)) := by
  obtain ⟨h', e1⟩ := resV_ex (x_PutV (F5.of a b c d e))
  have hT := x_PutT (F5.of a b c d e)
  rw [e1] at hT
  have hc := (xcalls_ok mixed noD_ok (nG_ok (G := GE) fun _ h => h) 10).c _ _ _ _ _ e1
  refine Calls.mono (hc NoB w (fun _ => none) w [e5 a b c d e] (GE_no hw) (inv_none _ _) ⟨_, _, rfl, F5.xr _ _ _ _ _, rfl⟩) fun e' w' ⟨v, ρ', h1, h2, h3, h4⟩ => ?_
  subst h1
  simp only [XR] at h3
  obtain ⟨bb, s, g1, rfl⟩ := h3
  obtain ⟨b2, s2, g2, ⟨vs, T, g3, g4⟩, g5⟩ := h4.dom 1 _ hT
  rw [g1] at g2; cases g2
  rw [XRs_bys (putB_lt _) g3] at g4
  refine ⟨bb, T, ?_, g4, ?_, h4.mod⟩
  · simp [toB, putB_len]
  · rcases g5 with g5 | g5
    · exact g5.elim
    · exact g5
noncomputable def topB (b : Bool) (l : List UInt8) : List UInt8 := if b = true then l.set 31 (l.getD 31 0 ||| 128) else l
noncomputable def putP (p : P4) : List UInt8 := topB (Nat.beq (fodd (fmul p.X (finv p.Z))) 1) (toB (putB (fmul p.Y (finv p.Z))))
theorem putP_len (p : P4) : (putP p).length = 32 := by unfold putP topB; split <;> simp [toB, putB_len]
theorem P4.parts {l : List UInt64} {p : P4} {x0 x1 x2 x3 x4 x5 x6 x7 x8 x9 x10 x11 x12 x13 x14 x15 x16 x17 x18 x19 : UInt64} (h : P4.of [x0, x1, x2, x3, x4, x5, x6, x7, x8, x9, x10, x11, x12, x13, x14, x15, x16, x17, x18, x19] p) :
    p = ⟨F5.of x0 x1 x2 x3 x4, F5.of x5 x6 x7 x8 x9, F5.of x10 x11 x12 x13 x14, F5.of x15 x16 x17 x18 x19⟩ := by
  obtain ⟨⟨a0, a1, a2, a3, a4⟩, ⟨b0, b1, b2, b3, b4⟩, ⟨c0, c1, c2, c3, c4⟩, ⟨d0, d1, d2, d3, d4⟩⟩ := p
  unfold P4.of P4.w at h
  simp only [List.map_cons, List.map_nil, List.cons.injEq, XV.int.injEq, true_and, and_true, Int.ofNat.injEq, Int.ofNat_eq_natCast, Int.natCast_inj] at h
  obtain ⟨h0, h1, h2, h3, h4, h5, h6, h7, h8, h9, h10, h11, h12, h13, h14, h15, h16, h17, h18, h19⟩ := h
  subst h0 h1 h2 h3 h4 h5 h6 h7 h8 h9 h10 h11 h12 h13 h14 h15 h16 h17 h18 h19
  rfl
theorem putAt1X {l : List Value} {o : Nat} {x : Value} (h : o < l.length) : putAt l o [x] = l.set o x := by
  unfold putAt
  rw [List.set_eq_take_append_cons_drop, if_pos h]
  simp
theorem rd5 {w : World} {q o : Nat} {l y : List UInt64} {T : TypeId} (hb : Blk w q (us l) T) (e : (l.drop o).take 5 = y) : Rd w ⟨q, o, none⟩ (us y) := hb.rd fun j v hj => by
  subst e
  simp only [us, List.getElem?_map, List.getElem?_take, List.getElem?_drop] at hj ⊢
  split at hj
  · exact hj
  · simp at hj
theorem c_ePutF {w : World} {p : P4} {x0 x1 x2 x3 x4 x5 x6 x7 x8 x9 x10 x11 x12 x13 x14 x15 x16 x17 x18 x19 : UInt64} (hw : GE w)
    (hp : P4.of [x0, x1, x2, x3, x4, x5, x6, x7, x8, x9, x10, x11, x12, x13, x14, x15, x16, x17, x18, x19] p) :
    Calls Tryz.prog 206 #[e20 x0 x1 x2 x3 x4 x5 x6 x7 x8 x9 x10 x11 x12 x13 x14 x15 x16 x17 x18 x19] w (Ret (RBy (putP p) w)) := by
  have hpp := P4.parts (l := []) hp
  subst hpp
  refine call206 _ _ _ _ _ _ _ _ _ _ _ _ _ _ _ _ _ _ _ _ ?_
  unfold sh206
  refine sem_box (l := us [x0, x1, x2, x3, x4, x5, x6, x7, x8, x9, x10, x11, x12, x13, x14, x15, x16, x17, x18, x19]) rfl fun q w1 hN1 hb1 => ⟨_, rfl, ?_⟩
  obtain ⟨E1, hb1⟩ : ∃ E, Blk w1 q (us [x0, x1, x2, x3, x4, x5, x6, x7, x8, x9, x10, x11, x12, x13, x14, x15, x16, x17, x18, x19]) E := ⟨_, hb1⟩
  refine ⟨x10, x11, x12, x13, x14, rd5 (o := 10) hb1 rfl, ?_⟩
  have hw1 := GE_no hw _ hN1.mod
  refine callK_ret (c_InvertF hw1) ?_
  rintro v w2 ⟨z0, z1, z2, z3, z4, rfl, hz, hm2⟩
  refine ⟨z0, z1, z2, z3, z4, rfl, ?_⟩
  obtain ⟨iz, zz, k1, k2, k3⟩ := zi5
  refine sem_alloc (l := us (List.replicate 5 0)) k1 k2 k3 fun z w3 hN3 hb3 => ⟨_, rfl, ?_⟩
  refine semU_store (o := 0) (vs := us [z0, z1, z2, z3, z4]) (by kernel_rfl) (by kernel_rfl) rfl hb3 (by simp [us]) (us_one _) fun w4 ht4 hb4 => ?_
  obtain ⟨E4, hb4⟩ : ∃ E, Blk w4 z (us [z0, z1, z2, z3, z4]) E := ⟨_, by simpa [putAt, us] using hb4⟩
  have hz3 := hN3.at_
  have hq1 := hb1.lt
  have hqz : q ≠ z := by have := hm2.size; omega
  have hM2 : Mod NoB w w2 := hN1.mod.tr hm2
  have hM3 : Mod NoB w w3 := hM2.tr hN3.mod
  have hwz : w.heap.size ≤ z := by have := hM2.size; omega
  have hM4 : Mod NoB w w4 := hM3.fresh ht4.mod fun y e => by have : y = z := e; omega
  have hq4 : Blk w4 q (us [x0, x1, x2, x3, x4, x5, x6, x7, x8, x9, x10, x11, x12, x13, x14, x15, x16, x17, x18, x19]) E1 := ((hb1.mod hm2 fun h => h).mod hN3.mod fun h => h).mod ht4.mod hqz
  refine ⟨x5, x6, x7, x8, x9, rd5 (o := 5) hq4 rfl, ?_⟩
  refine ⟨z0, z1, z2, z3, z4, rd5 (o := 0) hb4 rfl, ?_⟩
  refine callK_ret c_MulF ?_
  rintro v w5 ⟨m0, m1, m2, m3, m4, rfl, hm, hm5⟩
  refine ⟨m0, m1, m2, m3, m4, rfl, ?_⟩
  have hM5 := hM4.tr hm5
  refine callK_ret (c_fPutF (GE_no hw _ hM5)) ?_
  rintro v w6 ⟨bb, T6, rfl, hb6, hs6, hm6⟩
  refine ⟨⟨some ⟨bb, 0, none⟩, 32, 32⟩, by rw [show (toB (putB (F5.of m0 m1 m2 m3 m4))).length = 32 by simp [toB, putB_len]], ?_⟩
  have hM6 := hM5.tr hm6
  have hq6 := (hq4.mod hm5 fun h => h).mod hm6 fun h => h
  have hz6 := (hb4.mod hm5 fun h => h).mod hm6 fun h => h
  refine ⟨x0, x1, x2, x3, x4, rd5 (o := 0) hq6 rfl, ?_⟩
  refine ⟨z0, z1, z2, z3, z4, rd5 (o := 0) hz6 rfl, ?_⟩
  refine callK_ret c_MulF ?_
  rintro v w7 ⟨n0, n1, n2, n3, n4, rfl, hn, hm7⟩
  refine ⟨n0, n1, n2, n3, n4, rfl, ?_⟩
  have hM7 := hM6.tr hm7
  refine callK_ret (c_OddF (GE_no hw _ hM7)) ?_
  rintro v w8 ⟨rfl, hm8⟩
  refine ⟨_, rfl, ?_⟩
  have hM8 := hM7.tr hm8
  have hb8 := (hb6.mod hm7 fun h => h).mod hm8 fun h => h
  have hwb : w.heap.size ≤ bb := by have := hM5.size; omega
  have hlen : (toB (putB (fmul (F5.of x5 x6 x7 x8 x9) (finv (F5.of x10 x11 x12 x13 x14))))).length = 32 := by simp [toB, putB_len]
  rw [← hm, ← hz] at hb8
  rw [← hn, ← hz]
  have hlp := putP_len ⟨F5.of x0 x1 x2 x3 x4, F5.of x5 x6 x7 x8 x9, F5.of x10 x11 x12 x13 x14, F5.of x15 x16 x17 x18 x19⟩
  refine condK_i (fun ho => ?_) fun ho => ?_
  · have ep : putP ⟨F5.of x0 x1 x2 x3 x4, F5.of x5 x6 x7 x8 x9, F5.of x10 x11 x12 x13 x14, F5.of x15 x16 x17 x18 x19⟩ = (toB (putB (fmul (F5.of x5 x6 x7 x8 x9) (finv (F5.of x10 x11 x12 x13 x14))))).set 31 ((toB (putB (fmul (F5.of x5 x6 x7 x8 x9) (finv (F5.of x10 x11 x12 x13 x14))))).getD 31 0 ||| 128) := by
      unfold putP topB
      simp only [ho, if_true]
    have h31 : (31 : Int) < ((32 : Nat) : Int) := by decide
    refine ⟨⟨by omega, h31⟩, ?_⟩
    refine ⟨(toB (putB (fmul (F5.of x5 x6 x7 x8 x9) (finv (F5.of x10 x11 x12 x13 x14))))).getD 31 0, hb8.rd fun j v hj => ?_, ⟨by omega, h31⟩, ?_⟩
    · cases j with
      | zero =>
        simp only [List.getElem?_cons_zero, Option.some.injEq] at hj
        subst hj
        simp only [bys, List.getElem?_map]
        rw [List.getElem?_eq_getElem (by rw [hlen]; decide)]
        simp [List.getD, hlen]
      | succ j => simp at hj
    · refine semU_store (o := 31) (vs := [.int .u8 _]) (by kernel_rfl) (by kernel_rfl) rfl hb8 (by simp [bys, hlen]) (by intro u hu; simp at hu; subst hu; rfl) fun w9 ht9 hb9 => ?_
      refine ⟨bb, T6, by rw [hlp], ?_, hwb, hM8.fresh ht9.mod fun y e => by have : y = bb := e; omega⟩
      rw [ep]
      rw [← bys_set, ← putAt1X (by simp [bys, hlen])]
      exact hb9
  · have ep : putP ⟨F5.of x0 x1 x2 x3 x4, F5.of x5 x6 x7 x8 x9, F5.of x10 x11 x12 x13 x14, F5.of x15 x16 x17 x18 x19⟩ = toB (putB (fmul (F5.of x5 x6 x7 x8 x9) (finv (F5.of x10 x11 x12 x13 x14)))) := by
      unfold putP topB
      have ho : Nat.beq (fodd (fmul (F5.of x0 x1 x2 x3 x4) (finv (F5.of x10 x11 x12 x13 x14)))) 1 = false := by simpa using ho
      simp only [ho]; rfl
    refine ⟨bb, T6, by rw [hlp], ?_, hwb, hM8⟩
    rw [ep]; exact hb8
end Go.Proofs.YtgemgaofamloeaaGreatDoor
end
section
namespace Go.Proofs.YtgemgaofamloeaaGreatDoor
open Go Go.Sh
def sh203 (parts : Slc) (w : World) (R : Ending → World → Prop) : Prop :=
  callK Tryz.prog 327 [] w (panR R) fun v w1 => ∃ x : Option Addr, v = (.pointer x) ∧ callK Tryz.prog 328 [.pointer x, .slice parts.a parts.len parts.cap] w1 (panR R) fun v1 w2 => ∃ x1 : Int, v1 = (.int .i64 x1) ∧ callK Tryz.prog 329 [.pointer x] w2 (panR R) fun v2 w3 => ∃ x2 : Slc, v2 = (.slice x2.a x2.len x2.cap) ∧ R (.returned (.slice x2.a x2.len x2.cap)) w3
theorem call203 (parts : Slc) {w : World} {R : Ending → World → Prop} (hden : sh203 parts w R) : Calls Tryz.prog 203 #[.slice parts.a parts.len parts.cap] w R :=
  calls_of_form (.seq none .z (.seq none .z (.seq none .z (.seq none .z .z)))) Tryz.func203 (by kernel_rfl) [.sl parts] (by kernel_rfl) (by kernel_rfl) hden
def sh327 (w : World) (R : Ending → World → Prop) : Prop :=
  ∃ xa xb xc xd xe xf xg xh : UInt64, Rd w (⟨1, 0, none⟩ : Addr) [.int .u64 xa.toNat, .int .u64 xb.toNat, .int .u64 xc.toNat, .int .u64 xd.toNat, .int .u64 xe.toNat, .int .u64 xf.toNat, .int .u64 xg.toNat, .int .u64 xh.toNat] ∧ semK Tryz.prog (Instr.box 514 (.agg #[.int .u64 xa.toNat, .int .u64 xb.toNat, .int .u64 xc.toNat, .int .u64 xd.toNat, .int .u64 xe.toNat, .int .u64 xf.toNat, .int .u64 xg.toNat, .int .u64 xh.toNat, .slice none 0 0, .int .u64 ((0 : UInt64)).toNat, .bool true])) w fun v w1 => ∃ x : Option Addr, v = (.pointer x) ∧ R (.returned (.pointer x)) w1
theorem call327 {w : World} {R : Ending → World → Prop} (hden : sh327 w R) : Calls Tryz.prog 327 #[] w R :=
  calls_of_form (.seq none .z (.seq none .z .z)) Tryz.func327 (by kernel_rfl) [] (by kernel_rfl) (by kernel_rfl) hden
def sh328 (h : Option Addr) (parts : Slc) (w : World) (R : Ending → World → Prop) : Prop :=
  callK Tryz.prog 432 [.pointer h] w (panR R) fun v w1 => ∃ x : Bool, v = (.bool x) ∧ condK (!x) (R (.returned (.int .i64 (1 : Int))) w1) (∃ (inv : List TV → World → Prop) (mu : List TV → World → Nat), inv [.i .i64 (0 : Int)] w1 ∧ (∀ x1 : Int, ∀ w2 : World, inv [.i .i64 x1] w2 → condK (decide (x1 < (parts.len : Int))) (((0 ≤ x1 ∧ x1 < (parts.len : Nat)) ∧ onSome parts.a fun a => ∃ x2 : Slc, Rd w2 (a.add (x1.toNat * 1)) [.slice x2.a x2.len x2.cap] ∧ onSome h fun a1 => ∃ x3 : UInt64, Rd w2 (a1.add 9) [.int .u64 x3.toNat] ∧ onSome h fun a2 => semU Tryz.prog (storeVar 323 (a2.add 9) (.int .u64 ((x3 + (u64OfInt (x2.len : Int)))).toNat)) w2 fun w3 => ∃ j : List TV → World → Prop, (onSome h fun a3 => ∃ x4 : Slc, Rd w3 (a3.add 8) [.slice x4.a x4.len x4.cap] ∧ onSome h fun a4 => ∃ x5 : Slc, Rd w3 (a4.add 8) [.slice x5.a x5.len x5.cap] ∧ condK (decide ((x5.len : Int) > (0 : Int))) (∃ sx : World → Prop, sx w3.drew ∧ onSome h fun a5 => ((0 ≤ (if (x2.len : Int) < (IntKind.i64.wrap ((128 : Int) - (x4.len : Int))) then (x2.len : Int) else (IntKind.i64.wrap ((128 : Int) - (x4.len : Int)))) ∧ (if (x2.len : Int) < (IntKind.i64.wrap ((128 : Int) - (x4.len : Int))) then (x2.len : Int) else (IntKind.i64.wrap ((128 : Int) - (x4.len : Int)))) ≤ (x2.cap : Nat)) ∧ ((0 ≤ (if (x2.len : Int) < (IntKind.i64.wrap ((128 : Int) - (x4.len : Int))) then (x2.len : Int) else (IntKind.i64.wrap ((128 : Int) - (x4.len : Int)))) ∧ (if (x2.len : Int) < (IntKind.i64.wrap ((128 : Int) - (x4.len : Int))) then (x2.len : Int) else (IntKind.i64.wrap ((128 : Int) - (x4.len : Int)))) ≤ (x2.len : Nat)) ∧ ∃ x6 : Slc, (∀ w', sx w' → Rd w' (a5.add 8) [.slice x6.a x6.len x6.cap]) ∧ ((semK Tryz.prog (Builtin.append_ #[22, 22] 22 #[.slice x6.a x6.len x6.cap, .slice (cutSl x2 1 0 (((if (x2.len : Int) < (IntKind.i64.wrap ((128 : Int) - (x4.len : Int))) then (x2.len : Int) else (IntKind.i64.wrap ((128 : Int) - (x4.len : Int))))).toNat) x2.cap).a (cutSl x2 1 0 (((if (x2.len : Int) < (IntKind.i64.wrap ((128 : Int) - (x4.len : Int))) then (x2.len : Int) else (IntKind.i64.wrap ((128 : Int) - (x4.len : Int))))).toNat) x2.cap).len (cutSl x2 1 0 (((if (x2.len : Int) < (IntKind.i64.wrap ((128 : Int) - (x4.len : Int))) then (x2.len : Int) else (IntKind.i64.wrap ((128 : Int) - (x4.len : Int))))).toNat) x2.cap).cap]) w3.drew fun v1 w4 => ∃ x7 : Slc, v1 = (.slice x7.a x7.len x7.cap) ∧ onSome h fun a6 => ((semU Tryz.prog (storeVar 22 (a6.add 8) (.slice x7.a x7.len x7.cap)) w4 fun w5 => onSome h fun a7 => ∃ x8 : Slc, Rd w5 (a7.add 8) [.slice x8.a x8.len x8.cap] ∧ condK (decide ((x8.len : Int) < (128 : Int))) ((inv [.i .i64 (IntKind.i64.wrap (x1 + (1 : Int)))] w5 ∧ mu [.i .i64 (IntKind.i64.wrap (x1 + (1 : Int)))] w5 < mu [.i .i64 x1] w2)) (∃ sx1 : World → Prop, sx1 w5.drew ∧ onSome h fun a8 => onSome h fun a9 => ∃ x9 : Slc, (∀ w', sx1 w' → Rd w' (a9.add 8) [.slice x9.a x9.len x9.cap]) ∧ ((callK Tryz.prog 433 [.pointer (some (a8.add 0)), .slice x9.a x9.len x9.cap] w5.drew (panR R) fun v2 w6 => v2 = (.tuple #[]) ∧ onSome h fun a10 => ∃ x10 : Slc, Rd w6 (a10.add 8) [.slice x10.a x10.len x10.cap] ∧ ((0 ≤ (0 : Int) ∧ (0 : Int) ≤ (x10.cap : Nat)) ∧ onSome h fun a11 => semU Tryz.prog (storeVar 22 (a11.add 8) (.slice (cutSl x10 1 0 (((0 : Int)).toNat) x10.cap).a (cutSl x10 1 0 (((0 : Int)).toNat) x10.cap).len (cutSl x10 1 0 (((0 : Int)).toNat) x10.cap).cap)) w6 fun w7 => j [.sl (cutSl x2 1 (((if (x2.len : Int) < (IntKind.i64.wrap ((128 : Int) - (x4.len : Int))) then (x2.len : Int) else (IntKind.i64.wrap ((128 : Int) - (x4.len : Int))))).toNat) x2.len x2.cap)] w7)) ∧ True))) ∧ True)) ∧ True)))) (j [.sl x2] w3)) ∧ (∀ p : Slc, ∀ w8 : World, j [.sl p] w8 → ∃ (inv1 : List TV → World → Prop) (mu1 : List TV → World → Nat), inv1 [.sl p] w8 ∧ (∀ p1 : Slc, ∀ w9 : World, inv1 [.sl p1] w9 → condK (decide ((p1.len : Int) ≥ (128 : Int))) (onSome h fun a12 => ((0 ≤ (128 : Int) ∧ (128 : Int) ≤ (p1.cap : Nat)) ∧ ((callK Tryz.prog 433 [.pointer (some (a12.add 0)), .slice (cutSl p1 1 0 (((128 : Int)).toNat) p1.cap).a (cutSl p1 1 0 (((128 : Int)).toNat) p1.cap).len (cutSl p1 1 0 (((128 : Int)).toNat) p1.cap).cap] w9.drew (panR R) fun v3 w10 => v3 = (.tuple #[]) ∧ ((0 ≤ (128 : Int) ∧ (128 : Int) ≤ (p1.len : Nat)) ∧ (inv1 [.sl (cutSl p1 1 (((128 : Int)).toNat) p1.len p1.cap)] w10 ∧ mu1 [.sl (cutSl p1 1 (((128 : Int)).toNat) p1.len p1.cap)] w10 < mu1 [.sl p1] w9))) ∧ True))) (onSome h fun a13 => ∃ x11 : Slc, Rd w9 (a13.add 8) [.slice x11.a x11.len x11.cap] ∧ semK Tryz.prog (Builtin.append_ #[22, 22] 22 #[.slice x11.a x11.len x11.cap, .slice p1.a p1.len p1.cap]) w9 fun v4 w11 => ∃ x12 : Slc, v4 = (.slice x12.a x12.len x12.cap) ∧ onSome h fun a14 => semU Tryz.prog (storeVar 22 (a14.add 8) (.slice x12.a x12.len x12.cap)) w11 fun w12 => (inv [.i .i64 (IntKind.i64.wrap (x1 + (1 : Int)))] w12 ∧ mu [.i .i64 (IntKind.i64.wrap (x1 + (1 : Int)))] w12 < mu [.i .i64 x1] w2)))))) (R (.returned (.int .i64 (0 : Int))) w2)))
theorem call328 (h : Option Addr) (parts : Slc) {w : World} {R : Ending → World → Prop} (hden : sh328 h parts w R) : Calls Tryz.prog 328 #[.pointer h, .slice parts.a parts.len parts.cap] w R :=
  calls_of_form (.seq none .z (.seq none (.seq none .z (.cond (.seq none .z .z) .z)) (.seq none (.seq none .z (.block none (.loop [(13, (.i .i64))] (.seq none .z (.seq none (.cond .z .z) (.seq none (.block none (.seq none .z (.seq none .z (.seq (some [(6, .sl)]) (.seq none .z (.seq none .z (.cond (.seq none (.draw 1 (.take 0 (.take 1 (.take 2 (.take 3 (.take 5 (.take 6 (.take 7 (.take 9 (.take 10 (.take 11 (.take 4 (.all [(8, (.take 12 (.take 13 (.all [(14, (.take 15 .done))]))))]))))))))))))) (.seq none (.seq none .z (.cond .z .z)) (.seq none (.draw 1 (.take 0 (.take 1 (.take 2 (.take 3 (.take 4 (.take 5 (.take 6 (.all [(7, .done)]))))))))) .z))) .z))) (.seq none (.block none (.loop [(6, .sl)] (.seq none (.seq none .z (.cond .z .z)) (.seq none (.block none (.draw 0 (.take 0 (.take 1 (.take 2 (.take 3 (.take 4 (.all [(5, .done)])))))))) .z)))) .z))))) .z)))))) (.seq none .z .z)))) Tryz.func328 (by kernel_rfl) [.p h, .sl parts] (by kernel_rfl) (by kernel_rfl) hden
def sh329 (h : Option Addr) (w : World) (R : Ending → World → Prop) : Prop :=
  callK Tryz.prog 434 [.pointer h] w (panR R) fun v w1 => ∃ x : Option Addr, v = (.pointer x) ∧ pureSem Tryz.prog (do eqGuard .eql 417 (.tmp 13) (.const (.pointer none)) (.pointer x) (.pointer none); binOp .eql 417 (.pointer x) (.pointer none)) fun v1 => ∃ x1 : Bool, v1 = (.bool x1) ∧ condK x1 (R (.returned (.slice none 0 0)) w1) (onSome x fun a => ∃ x2 : UInt64, Rd w1 (a.add 9) [.int .u64 x2.toNat] ∧ semK Tryz.prog (Instr.makeSlice 22 (.int .i64 (0 : Int)) (.int .i64 (256 : Int))) w1 fun v2 w2 => ∃ x3 : Slc, v2 = (.slice x3.a x3.len x3.cap) ∧ semK Tryz.prog (Instr.buildSlice 22 1 #[(0, (.int .u8 ((128 : UInt8)).toNat))]) w2 fun v3 w3 => ∃ x4 : Slc, v3 = (.slice x4.a x4.len x4.cap) ∧ semK Tryz.prog (Builtin.append_ #[22, 22] 22 #[.slice x3.a x3.len x3.cap, .slice x4.a x4.len x4.cap]) w3 fun v4 w4 => ∃ x5 : Slc, v4 = (.slice x5.a x5.len x5.cap) ∧ ∃ (inv : List TV → World → Prop) (mu : List TV → World → Nat), inv [.sl x5] w4 ∧ (∀ end0 : Slc, ∀ w5 : World, inv [.sl end0] w5 → onSome x fun a1 => ∃ x6 : Slc, Rd w5 (a1.add 8) [.slice x6.a x6.len x6.cap] ∧ ((128 : Int) ≠ 0 ∧ condK ((Int.tmod (IntKind.i64.wrap ((x6.len : Int) + (end0.len : Int))) (128 : Int)) != (112 : Int)) (semK Tryz.prog (Instr.buildSlice 22 1 #[(0, (.int .u8 ((0 : UInt8)).toNat))]) w5 fun v5 w6 => ∃ x7 : Slc, v5 = (.slice x7.a x7.len x7.cap) ∧ semK Tryz.prog (Builtin.append_ #[22, 22] 22 #[.slice end0.a end0.len end0.cap, .slice x7.a x7.len x7.cap]) w6 fun v6 w7 => ∃ x8 : Slc, v6 = (.slice x8.a x8.len x8.cap) ∧ (inv [.sl x8] w7 ∧ mu [.sl x8] w7 < mu [.sl end0] w5)) (semK Tryz.prog (Builtin.append_ #[22, 3] 22 #[.slice end0.a end0.len end0.cap, .int .i64 (8 : Int)]) w5 fun v7 w8 => ∃ x9 : Slc, v7 = (.slice x9.a x9.len x9.cap) ∧ ∃ (inv1 : List TV → World → Prop) (mu1 : List TV → World → Nat), inv1 [.sl x9, .i .i64 (56 : Int)] w8 ∧ (∀ end1 : Slc, ∀ s : Int, ∀ w9 : World, inv1 [.sl end1, .i .i64 s] w9 → condK (decide (s ≥ (0 : Int))) ((0 ≤ s ∧ semK Tryz.prog (Instr.buildSlice 22 1 #[(0, (.int .u8 (((shrU64 ((8 : UInt64) * x2) s.toNat)).toUInt8).toNat))]) w9 fun v8 w10 => ∃ x10 : Slc, v8 = (.slice x10.a x10.len x10.cap) ∧ semK Tryz.prog (Builtin.append_ #[22, 22] 22 #[.slice end1.a end1.len end1.cap, .slice x10.a x10.len x10.cap]) w10 fun v9 w11 => ∃ x11 : Slc, v9 = (.slice x11.a x11.len x11.cap) ∧ (inv1 [.sl x11, .i .i64 (IntKind.i64.wrap (s - (8 : Int)))] w11 ∧ mu1 [.sl x11, .i .i64 (IntKind.i64.wrap (s - (8 : Int)))] w11 < mu1 [.sl end1, .i .i64 s] w9))) (semK Tryz.prog (Instr.buildSlice 37 1 #[(0, (.slice end1.a end1.len end1.cap))]) w9 fun v10 w12 => ∃ x12 : Slc, v10 = (.slice x12.a x12.len x12.cap) ∧ callK Tryz.prog 328 [.pointer x, .slice x12.a x12.len x12.cap] w12 (panR R) fun v11 w13 => ∃ x13 : Int, v11 = (.int .i64 x13) ∧ onSome x fun a2 => ∃ xa xb xc xd xe xf xg xh : UInt64, Rd w13 (a2.add 0) [.int .u64 xa.toNat, .int .u64 xb.toNat, .int .u64 xc.toNat, .int .u64 xd.toNat, .int .u64 xe.toNat, .int .u64 xf.toNat, .int .u64 xg.toNat, .int .u64 xh.toNat] ∧ ∃ (inv2 : List TV → World → Prop) (mu2 : List TV → World → Nat), inv2 [.sl ⟨none, 0, 0⟩, .i .i64 (0 : Int)] w13 ∧ (∀ out : Slc, ∀ x14 : Int, ∀ w14 : World, inv2 [.sl out, .i .i64 x14] w14 → condK (decide (x14 < (8 : Int))) (((0 ≤ x14 ∧ x14 < (8 : Nat)) ∧ (∀ z ∈ ([.u64 xa, .u64 xb, .u64 xc, .u64 xd, .u64 xe, .u64 xf, .u64 xg, .u64 xh] : List TV), z.cells.length = 1) ∧ ∃ x15 : UInt64, ([.u64 xa, .u64 xb, .u64 xc, .u64 xd, .u64 xe, .u64 xf, .u64 xg, .u64 xh] : List TV)[x14.toNat]? = some (.u64 x15) ∧ ∃ (inv3 : List TV → World → Prop) (mu3 : List TV → World → Nat), inv3 [.sl out, .i .i64 (56 : Int)] w14 ∧ (∀ out1 : Slc, ∀ s1 : Int, ∀ w15 : World, inv3 [.sl out1, .i .i64 s1] w15 → condK (decide (s1 ≥ (0 : Int))) ((0 ≤ s1 ∧ semK Tryz.prog (Instr.buildSlice 22 1 #[(0, (.int .u8 (((shrU64 x15 s1.toNat)).toUInt8).toNat))]) w15 fun v12 w16 => ∃ x16 : Slc, v12 = (.slice x16.a x16.len x16.cap) ∧ semK Tryz.prog (Builtin.append_ #[22, 22] 22 #[.slice out1.a out1.len out1.cap, .slice x16.a x16.len x16.cap]) w16 fun v13 w17 => ∃ x17 : Slc, v13 = (.slice x17.a x17.len x17.cap) ∧ (inv3 [.sl x17, .i .i64 (IntKind.i64.wrap (s1 - (8 : Int)))] w17 ∧ mu3 [.sl x17, .i .i64 (IntKind.i64.wrap (s1 - (8 : Int)))] w17 < mu3 [.sl out1, .i .i64 s1] w15))) ((inv2 [.sl out1, .i .i64 (IntKind.i64.wrap (x14 + (1 : Int)))] w15 ∧ mu2 [.sl out1, .i .i64 (IntKind.i64.wrap (x14 + (1 : Int)))] w15 < mu2 [.sl out, .i .i64 x14] w14))))) (R (.returned (.slice out.a out.len out.cap)) w14))))))))
theorem call329 (h : Option Addr) {w : World} {R : Ending → World → Prop} (hden : sh329 h w R) : Calls Tryz.prog 329 #[.pointer h] w R :=
  calls_of_form (.seq none .z (.seq none .z (.seq none (.seq none .z (.cond (.seq none .z .z) .z)) (.seq none .z (.seq none .z (.seq none (.block none (.loop [(5, .sl)] (.seq none (.seq none .z (.cond .z .z)) (.block none .z)))) (.seq none .z (.seq none (.seq none .z (.block none (.loop [(5, .sl), (6, (.i .i64))] (.seq none (.seq none .z (.cond .z .z)) (.seq none (.block none .z) .z))))) (.seq none .z (.seq none .z (.seq none (.seq none .z (.block none (.loop [(7, .sl), (57, (.i .i64))] (.seq none .z (.seq none (.cond .z .z) (.seq none (.block none (.seq none .z (.seq none .z (.block none (.loop [(7, .sl), (10, (.i .i64))] (.seq none (.seq none .z (.cond .z .z)) (.seq none (.block none .z) .z))))))) .z)))))) (.seq none .z .z)))))))))))) Tryz.func329 (by kernel_rfl) [.p h] (by kernel_rfl) (by kernel_rfl) hden
def sh432 (h : Option Addr) (w : World) (R : Ending → World → Prop) : Prop :=
  pureSem Tryz.prog (do eqGuard .neq 417 (.tmp 3) (.const (.pointer none)) (.pointer h) (.pointer none); binOp .neq 417 (.pointer h) (.pointer none)) fun v => ∃ x : Bool, v = (.bool x) ∧ condK x (onSome h fun a => ∃ x1 : Bool, Rd w (a.add 10) [.bool x1] ∧ R (.returned (.bool x1)) w) (R (.returned (.bool false)) w)
theorem call432 (h : Option Addr) {w : World} {R : Ending → World → Prop} (hden : sh432 h w R) : Calls Tryz.prog 432 #[.pointer h] w R :=
  calls_of_form (.seq none .z (.seq none .z .z)) Tryz.func432 (by kernel_rfl) [.p h] (by kernel_rfl) (by kernel_rfl) hden
def sh433 (wv : Option Addr) (b : Slc) (w : World) (R : Ending → World → Prop) : Prop :=
  semK Tryz.prog (Instr.alloc 589 true (.tuple #[])) w fun v w1 => ∃ m : Option Addr, v = (.pointer m) ∧ ∃ (inv : List TV → World → Prop) (mu : List TV → World → Nat), inv [.i .i64 (0 : Int)] w1 ∧ (∀ x : Int, ∀ w2 : World, inv [.i .i64 x] w2 → condK (decide (x < (80 : Int))) (condK (decide (x < (16 : Int))) (((0 ≤ (IntKind.i64.wrap ((8 : Int) * x)) ∧ (IntKind.i64.wrap ((8 : Int) * x)) ≤ (IntKind.i64.wrap ((IntKind.i64.wrap ((8 : Int) * x)) + (8 : Int))) ∧ (IntKind.i64.wrap ((IntKind.i64.wrap ((8 : Int) * x)) + (8 : Int))) ≤ (b.cap : Nat)) ∧ ∃ (inv1 : List TV → World → Prop) (mu1 : List TV → World → Nat), inv1 [.i .i64 (0 : Int)] w2 ∧ (∀ x1 : Int, ∀ w3 : World, inv1 [.i .i64 x1] w3 → condK (decide (x1 < ((cutSl b 1 (((IntKind.i64.wrap ((8 : Int) * x))).toNat) (((IntKind.i64.wrap ((IntKind.i64.wrap ((8 : Int) * x)) + (8 : Int)))).toNat) b.cap).len : Int))) (((0 ≤ x1 ∧ x1 < ((cutSl b 1 (((IntKind.i64.wrap ((8 : Int) * x))).toNat) (((IntKind.i64.wrap ((IntKind.i64.wrap ((8 : Int) * x)) + (8 : Int)))).toNat) b.cap).len : Nat)) ∧ onSome (cutSl b 1 (((IntKind.i64.wrap ((8 : Int) * x))).toNat) (((IntKind.i64.wrap ((IntKind.i64.wrap ((8 : Int) * x)) + (8 : Int)))).toNat) b.cap).a fun a => ∃ x2 : UInt8, Rd w3 (a.add (x1.toNat * 1)) [.int .u8 x2.toNat] ∧ ((0 ≤ x ∧ x < (80 : Nat)) ∧ onSome m fun a1 => ∃ x3 : UInt64, Rd w3 (a1.add (x.toNat * 1)) [.int .u64 x3.toNat] ∧ (0 ≤ (((8 : UInt64)).toNat : Int) ∧ ((0 ≤ x ∧ x < (80 : Nat)) ∧ onSome m fun a2 => semU Tryz.prog (storeVar 323 (a2.add (x.toNat * 1)) (.int .u64 (((shlU64 x3 ((((8 : UInt64)).toNat : Int)).toNat) ||| (x2).toUInt64)).toNat)) w3 fun w4 => (inv1 [.i .i64 (IntKind.i64.wrap (x1 + (1 : Int)))] w4 ∧ mu1 [.i .i64 (IntKind.i64.wrap (x1 + (1 : Int)))] w4 < mu1 [.i .i64 x1] w3)))))) ((inv [.i .i64 (IntKind.i64.wrap (x + (1 : Int)))] w3 ∧ mu [.i .i64 (IntKind.i64.wrap (x + (1 : Int)))] w3 < mu [.i .i64 x] w2))))) (∃ sx : World → Prop, sx w2.drew ∧ ((0 ≤ (IntKind.i64.wrap (x - (2 : Int))) ∧ (IntKind.i64.wrap (x - (2 : Int))) < (80 : Nat)) ∧ onSome m fun a3 => ((0 ≤ (IntKind.i64.wrap (x - (7 : Int))) ∧ (IntKind.i64.wrap (x - (7 : Int))) < (80 : Nat)) ∧ onSome m fun a4 => ((0 ≤ (IntKind.i64.wrap (x - (15 : Int))) ∧ (IntKind.i64.wrap (x - (15 : Int))) < (80 : Nat)) ∧ onSome m fun a5 => ((0 ≤ (IntKind.i64.wrap (x - (16 : Int))) ∧ (IntKind.i64.wrap (x - (16 : Int))) < (80 : Nat)) ∧ onSome m fun a6 => ∃ x4 : UInt64, (∀ w', sx w' → Rd w' (a3.add (((IntKind.i64.wrap (x - (2 : Int)))).toNat * 1)) [.int .u64 x4.toNat]) ∧ ∃ x5 : UInt64, (∀ w', sx w' → Rd w' (a4.add (((IntKind.i64.wrap (x - (7 : Int)))).toNat * 1)) [.int .u64 x5.toNat]) ∧ ∃ x6 : UInt64, (∀ w', sx w' → Rd w' (a5.add (((IntKind.i64.wrap (x - (15 : Int)))).toNat * 1)) [.int .u64 x6.toNat]) ∧ ∃ x7 : UInt64, (∀ w', sx w' → Rd w' (a6.add (((IntKind.i64.wrap (x - (16 : Int)))).toNat * 1)) [.int .u64 x7.toNat]) ∧ ((callK Tryz.prog 509 [.int .u64 x4.toNat, .int .i64 (19 : Int), .int .i64 (61 : Int), .int .i64 (6 : Int)] w2.drew (panR R) fun v1 w5 => ∃ x8 : UInt64, v1 = (.int .u64 x8.toNat) ∧ (sx w5 ∧ ((callK Tryz.prog 509 [.int .u64 x6.toNat, .int .i64 (1 : Int), .int .i64 (8 : Int), .int .i64 (7 : Int)] w5 (panR R) fun v2 w6 => ∃ x9 : UInt64, v2 = (.int .u64 x9.toNat) ∧ (sx w6 ∧ ((0 ≤ x ∧ x < (80 : Nat)) ∧ onSome m fun a7 => ((semU Tryz.prog (storeVar 323 (a7.add (x.toNat * 1)) (.int .u64 ((((x8 + x5) + x9) + x7)).toNat)) w6 fun w7 => (inv [.i .i64 (IntKind.i64.wrap (x + (1 : Int)))] w7 ∧ mu [.i .i64 (IntKind.i64.wrap (x + (1 : Int)))] w7 < mu [.i .i64 x] w2)) ∧ True)))) ∧ True))) ∧ True))))))) (onSome wv fun a8 => ∃ xa xb xc xd xe xf xg xh : UInt64, Rd w2 a8 [.int .u64 xa.toNat, .int .u64 xb.toNat, .int .u64 xc.toNat, .int .u64 xd.toNat, .int .u64 xe.toNat, .int .u64 xf.toNat, .int .u64 xg.toNat, .int .u64 xh.toNat] ∧ semK Tryz.prog (Instr.alloc 512 true (.tuple #[])) w2 fun v3 w8 => ∃ v4 : Option Addr, v3 = (.pointer v4) ∧ onSome v4 fun a9 => semU Tryz.prog (storeVar 512 a9 (.agg #[.int .u64 xa.toNat, .int .u64 xb.toNat, .int .u64 xc.toNat, .int .u64 xd.toNat, .int .u64 xe.toNat, .int .u64 xf.toNat, .int .u64 xg.toNat, .int .u64 xh.toNat])) w8 fun w9 => onSome m fun a10 => ∃ x10 : List UInt64, x10.length = 80 ∧ Rd w9 a10 (cellsL ((x10).map TV.u64)) ∧ ∃ (inv2 : List TV → World → Prop) (mu2 : List TV → World → Nat), inv2 [.i .i64 (0 : Int)] w9 ∧ (∀ x11 : Int, ∀ w10 : World, inv2 [.i .i64 x11] w10 → condK (decide (x11 < (80 : Int))) (((0 ≤ x11 ∧ x11 < (80 : Nat)) ∧ (∀ z ∈ (((x10).map TV.u64) : List TV), z.cells.length = 1) ∧ ∃ x12 : UInt64, (((x10).map TV.u64) : List TV)[x11.toNat]? = some (.u64 x12) ∧ ((0 ≤ (0 : Int) ∧ (0 : Int) < (8 : Nat)) ∧ onSome v4 fun a11 => ((0 ≤ (4 : Int) ∧ (4 : Int) < (8 : Nat)) ∧ onSome v4 fun a12 => ∃ x13 : UInt64, Rd w10.drew (a11.add (((0 : Int)).toNat * 1)) [.int .u64 x13.toNat] ∧ ∃ x14 : UInt64, Rd w10.drew (a12.add (((4 : Int)).toNat * 1)) [.int .u64 x14.toNat] ∧ ∃ sx1 : World → Prop, sx1 w10.drew.drew ∧ ((0 ≤ (7 : Int) ∧ (7 : Int) < (8 : Nat)) ∧ onSome v4 fun a13 => ((0 ≤ (5 : Int) ∧ (5 : Int) < (8 : Nat)) ∧ onSome v4 fun a14 => ((0 ≤ (6 : Int) ∧ (6 : Int) < (8 : Nat)) ∧ onSome v4 fun a15 => ((0 ≤ x11 ∧ x11 < (80 : Nat)) ∧ ∃ x15 : UInt64, (∀ w', sx1 w' → Rd w' (a13.add (((7 : Int)).toNat * 1)) [.int .u64 x15.toNat]) ∧ ∃ x16 : UInt64, (∀ w', sx1 w' → Rd w' (a14.add (((5 : Int)).toNat * 1)) [.int .u64 x16.toNat]) ∧ ∃ x17 : UInt64, (∀ w', sx1 w' → Rd w' (a15.add (((6 : Int)).toNat * 1)) [.int .u64 x17.toNat]) ∧ ∃ x18 : UInt64, (∀ w', sx1 w' → Rd w' ((⟨4, 0, none⟩ : Addr).add (x11.toNat * 1)) [.int .u64 x18.toNat]) ∧ ((callK Tryz.prog 510 [.int .u64 x14.toNat, .int .i64 (14 : Int), .int .i64 (18 : Int), .int .i64 (41 : Int)] w10.drew.drew (panR R) fun v5 w11 => ∃ x19 : UInt64, v5 = (.int .u64 x19.toNat) ∧ (sx1 w11 ∧ ∃ sx2 : World → Prop, sx2 w11.drew ∧ ((0 ≤ (1 : Int) ∧ (1 : Int) < (8 : Nat)) ∧ onSome v4 fun a16 => ((0 ≤ (2 : Int) ∧ (2 : Int) < (8 : Nat)) ∧ onSome v4 fun a17 => ((0 ≤ (1 : Int) ∧ (1 : Int) < (8 : Nat)) ∧ onSome v4 fun a18 => ((0 ≤ (2 : Int) ∧ (2 : Int) < (8 : Nat)) ∧ onSome v4 fun a19 => ∃ x20 : UInt64, (∀ w', sx2 w' → Rd w' (a16.add (((1 : Int)).toNat * 1)) [.int .u64 x20.toNat]) ∧ ∃ x21 : UInt64, (∀ w', sx2 w' → Rd w' (a17.add (((2 : Int)).toNat * 1)) [.int .u64 x21.toNat]) ∧ ∃ x22 : UInt64, (∀ w', sx2 w' → Rd w' (a18.add (((1 : Int)).toNat * 1)) [.int .u64 x22.toNat]) ∧ ∃ x23 : UInt64, (∀ w', sx2 w' → Rd w' (a19.add (((2 : Int)).toNat * 1)) [.int .u64 x23.toNat]) ∧ ((callK Tryz.prog 510 [.int .u64 x13.toNat, .int .i64 (28 : Int), .int .i64 (34 : Int), .int .i64 (39 : Int)] w11.drew (panR R) fun v6 w12 => ∃ x24 : UInt64, v6 = (.int .u64 x24.toNat) ∧ (sx2 w12 ∧ onSome v4 fun a20 => ((0 ≤ (1 : Int) ∧ (1 : Int) ≤ (8 : Nat)) ∧ onSome v4 fun a21 => ((0 ≤ (7 : Int) ∧ (7 : Int) ≤ (8 : Nat)) ∧ ((semK Tryz.prog (Builtin.copy_ #[536, 536] 3 #[.slice (cutSl ⟨some a20, 8, 8⟩ 1 (((1 : Int)).toNat) 8 8).a (cutSl ⟨some a20, 8, 8⟩ 1 (((1 : Int)).toNat) 8 8).len (cutSl ⟨some a20, 8, 8⟩ 1 (((1 : Int)).toNat) 8 8).cap, .slice (cutSl ⟨some a21, 8, 8⟩ 1 0 (((7 : Int)).toNat) 8).a (cutSl ⟨some a21, 8, 8⟩ 1 0 (((7 : Int)).toNat) 8).len (cutSl ⟨some a21, 8, 8⟩ 1 0 (((7 : Int)).toNat) 8).cap]) w12.drew fun v7 w13 => ∃ x25 : Int, v7 = (.int .i64 x25) ∧ ((0 ≤ (4 : Int) ∧ (4 : Int) < (8 : Nat)) ∧ onSome v4 fun a22 => ∃ x26 : UInt64, Rd w13 (a22.add (((4 : Int)).toNat * 1)) [.int .u64 x26.toNat] ∧ ((0 ≤ (0 : Int) ∧ (0 : Int) < (8 : Nat)) ∧ onSome v4 fun a23 => semU Tryz.prog (storeVar 323 (a23.add (((0 : Int)).toNat * 1)) (.int .u64 ((((((x15 + x19) + ((x14 &&& x16) ^^^ ((~~~x14) &&& x17))) + x18) + x12) + (x24 + (((x13 &&& x20) ^^^ (x13 &&& x21)) ^^^ (x22 &&& x23))))).toNat)) w13 fun w14 => ((0 ≤ (4 : Int) ∧ (4 : Int) < (8 : Nat)) ∧ onSome v4 fun a24 => semU Tryz.prog (storeVar 323 (a24.add (((4 : Int)).toNat * 1)) (.int .u64 ((x26 + ((((x15 + x19) + ((x14 &&& x16) ^^^ ((~~~x14) &&& x17))) + x18) + x12))).toNat)) w14 fun w15 => (inv2 [.i .i64 (IntKind.i64.wrap (x11 + (1 : Int)))] w15 ∧ mu2 [.i .i64 (IntKind.i64.wrap (x11 + (1 : Int)))] w15 < mu2 [.i .i64 x11] w10))))) ∧ True))))) ∧ True))))))) ∧ True))))))))) (∃ (inv3 : List TV → World → Prop) (mu3 : List TV → World → Nat), inv3 [.i .i64 (0 : Int)] w10 ∧ (∀ x27 : Int, ∀ w16 : World, inv3 [.i .i64 x27] w16 → condK (decide (x27 < (8 : Int))) (∃ sx3 : World → Prop, sx3 w16.drew ∧ onSome wv fun a25 => ((0 ≤ x27 ∧ x27 < (8 : Nat)) ∧ ((0 ≤ x27 ∧ x27 < (8 : Nat)) ∧ onSome v4 fun a26 => onSome wv fun a27 => ∃ x28 : UInt64, (∀ w', sx3 w' → Rd w' (a25.add (x27.toNat * 1)) [.int .u64 x28.toNat]) ∧ ∃ x29 : UInt64, (∀ w', sx3 w' → Rd w' (a26.add (x27.toNat * 1)) [.int .u64 x29.toNat]) ∧ ((0 ≤ x27 ∧ x27 < (8 : Nat)) ∧ ((semU Tryz.prog (storeVar 323 (a27.add (x27.toNat * 1)) (.int .u64 ((x28 + x29)).toNat)) w16.drew fun w17 => (inv3 [.i .i64 (IntKind.i64.wrap (x27 + (1 : Int)))] w17 ∧ mu3 [.i .i64 (IntKind.i64.wrap (x27 + (1 : Int)))] w17 < mu3 [.i .i64 x27] w16)) ∧ True))))) (R (.returned (.tuple #[])) w16))))))
theorem call433 (wv : Option Addr) (b : Slc) {w : World} {R : Ending → World → Prop} (hden : sh433 wv b w R) : Calls Tryz.prog 433 #[.pointer wv, .slice b.a b.len b.cap] w R :=
  calls_of_form (.seq none .z (.seq none (.seq none .z (.block none (.loop [(16, (.i .i64))] (.seq none .z (.seq none (.cond .z .z) (.seq none (.block none (.seq none .z (.seq none (.seq none .z (.cond (.seq none (.seq none .z (.block none (.loop [(29, (.i .i64))] (.seq none .z (.seq none (.cond .z .z) (.seq none (.block none (.seq none .z .z)) .z)))))) .z) .z)) (.draw 1 (.take 0 (.take 1 (.take 2 (.take 3 (.take 6 (.take 7 (.take 8 (.take 11 (.take 12 (.take 13 (.take 17 (.take 18 (.take 19 (.take 4 (.take 9 (.take 14 (.take 20 (.all [(5, (.take 10 (.all [(15, (.take 16 (.take 21 (.take 22 (.all [(23, .done)])))))])))])))))))))))))))))))))) .z)))))) (.seq none .z (.seq none (.seq none .z (.block none (.loop [(71, (.i .i64))] (.seq none .z (.seq none (.cond .z .z) (.seq none (.block none (.seq none .z (.seq none (.draw 2 (.take 0 (.take 2 (.take 1 (.take 4 (.take 3 (.take 5 .done))))))) (.seq none (.draw 1 (.take 0 (.take 2 (.take 5 (.take 6 (.take 9 (.take 10 (.take 11 (.take 16 (.take 17 (.take 20 (.take 1 (.take 7 (.take 8 (.take 12 (.take 13 (.take 14 (.take 18 (.all [(3, (.take 4 (.take 15 (.take 19 (.take 21 (.take 22 .done))))))]))))))))))))))))))) (.seq none (.draw 1 (.take 0 (.take 2 (.take 3 (.take 6 (.take 7 (.take 11 (.take 13 (.take 4 (.take 5 (.take 8 (.take 9 (.take 10 (.take 12 (.take 14 (.take 15 (.take 16 (.all [(1, (.take 17 (.take 18 .done)))])))))))))))))))))) (.seq none (.draw 0 (.take 0 (.take 1 (.all [(2, .done)])))) .z)))))) .z)))))) (.seq none .z (.block none (.loop [(132, (.i .i64))] (.seq none .z (.seq none (.cond .z .z) (.seq none (.block none (.seq none .z (.draw 1 (.take 0 (.take 1 (.take 2 (.take 3 (.take 5 (.take 6 (.take 9 (.take 4 (.take 7 (.take 8 (.take 10 (.all [(11, .done)]))))))))))))))) .z)))))))))) Tryz.func433 (by kernel_rfl) [.p wv, .sl b] (by kernel_rfl) (by kernel_rfl) hden
def sh434 (h : Option Addr) (w : World) (R : Ending → World → Prop) : Prop :=
  callK Tryz.prog 432 [.pointer h] w (panR R) fun v w1 => ∃ x : Bool, v = (.bool x) ∧ condK (!x) (R (.returned (.pointer none)) w1) (onSome h fun a => ∃ xaa xab xac xad xae xaf xag xah : UInt64, ∃ xb : Slc, ∃ xc : UInt64, ∃ xd : Bool, Rd w1 a [.int .u64 xaa.toNat, .int .u64 xab.toNat, .int .u64 xac.toNat, .int .u64 xad.toNat, .int .u64 xae.toNat, .int .u64 xaf.toNat, .int .u64 xag.toNat, .int .u64 xah.toNat, .slice xb.a xb.len xb.cap, .int .u64 xc.toNat, .bool xd] ∧ semK Tryz.prog (Instr.alloc 514 true (.tuple #[])) w1 fun v1 w2 => ∃ c : Option Addr, v1 = (.pointer c) ∧ onSome c fun a1 => semU Tryz.prog (storeVar 514 a1 (.agg #[.int .u64 xaa.toNat, .int .u64 xab.toNat, .int .u64 xac.toNat, .int .u64 xad.toNat, .int .u64 xae.toNat, .int .u64 xaf.toNat, .int .u64 xag.toNat, .int .u64 xah.toNat, .slice xb.a xb.len xb.cap, .int .u64 xc.toNat, .bool xd])) w2 fun w3 => onSome h fun a2 => ∃ x1 : Slc, Rd w3 (a2.add 8) [.slice x1.a x1.len x1.cap] ∧ callK Tryz.prog 93 [.slice x1.a x1.len x1.cap] w3 (panR R) fun v2 w4 => ∃ x2 : Slc, v2 = (.slice x2.a x2.len x2.cap) ∧ onSome c fun a3 => semU Tryz.prog (storeVar 22 (a3.add 8) (.slice x2.a x2.len x2.cap)) w4 fun w5 => R (.returned (.pointer c)) w5)
theorem call434 (h : Option Addr) {w : World} {R : Ending → World → Prop} (hden : sh434 h w R) : Calls Tryz.prog 434 #[.pointer h] w R :=
  calls_of_form (.seq none .z (.seq none (.seq none .z (.cond (.seq none .z .z) .z)) (.seq none .z (.seq none .z (.seq none .z .z))))) Tryz.func434 (by kernel_rfl) [.p h] (by kernel_rfl) (by kernel_rfl) hden
def sh93 (s : Slc) (w : World) (R : Ending → World → Prop) : Prop :=
  pureSem Tryz.prog (do eqGuard .eql 22 (.tmp 3) (.const (.slice none 0 0)) (.slice s.a s.len s.cap) (.slice none 0 0); binOp .eql 22 (.slice s.a s.len s.cap) (.slice none 0 0)) fun v => ∃ x : Bool, v = (.bool x) ∧ condK x (R (.returned (.slice none 0 0)) w) (semK Tryz.prog (Instr.buildSlice 22 0 #[]) w fun v1 w1 => ∃ x1 : Slc, v1 = (.slice x1.a x1.len x1.cap) ∧ semK Tryz.prog (Builtin.append_ #[22, 22] 22 #[.slice x1.a x1.len x1.cap, .slice s.a s.len s.cap]) w1 fun v2 w2 => ∃ x2 : Slc, v2 = (.slice x2.a x2.len x2.cap) ∧ R (.returned (.slice x2.a x2.len x2.cap)) w2)
theorem call93 (s : Slc) {w : World} {R : Ending → World → Prop} (hden : sh93 s w R) : Calls Tryz.prog 93 #[.slice s.a s.len s.cap] w R :=
  calls_of_form (.seq none .z (.seq none (.seq none .z (.cond (.seq none .z .z) .z)) (.seq none .z .z))) Tryz.func93 (by kernel_rfl) [.sl s] (by kernel_rfl) (by kernel_rfl) hden
def sh509 (x : UInt64) (a b shift : Int) (w : World) (R : Ending → World → Prop) : Prop :=
  (0 ≤ shift ∧ ((callK Tryz.prog 568 [.int .u64 x.toNat, .int .i64 (IntKind.i64.wrap (0 - a))] w.drew (panR R) fun v w1 => ∃ x1 : UInt64, v = (.int .u64 x1.toNat) ∧ ((callK Tryz.prog 568 [.int .u64 x.toNat, .int .i64 (IntKind.i64.wrap (0 - b))] w1 (panR R) fun v1 w2 => ∃ x2 : UInt64, v1 = (.int .u64 x2.toNat) ∧ R (.returned (.int .u64 (((x1 ^^^ x2) ^^^ (shrU64 x shift.toNat))).toNat)) w2) ∧ True)) ∧ True))
theorem call509 (x : UInt64) (a b shift : Int) {w : World} {R : Ending → World → Prop} (hden : sh509 x a b shift w R) : Calls Tryz.prog 509 #[.int .u64 x.toNat, .int .i64 a, .int .i64 b, .int .i64 shift] w R :=
  calls_of_form (.seq none .z (.seq none (.draw 0 (.take 0 (.take 1 (.take 2 (.take 4 (.take 5 (.take 6 (.take 9 (.take 10 (.take 11 (.all [(3, (.all [(7, (.take 8 (.take 12 (.take 13 .done))))]))]))))))))))) .z)) Tryz.func509 (by kernel_rfl) [.u64 x, .i .i64 a, .i .i64 b, .i .i64 shift] (by kernel_rfl) (by kernel_rfl) hden
def sh510 (x : UInt64) (a b c : Int) (w : World) (R : Ending → World → Prop) : Prop :=
  callK Tryz.prog 568 [.int .u64 x.toNat, .int .i64 (IntKind.i64.wrap (0 - a))] w (panR R) fun v w1 => ∃ x1 : UInt64, v = (.int .u64 x1.toNat) ∧ callK Tryz.prog 568 [.int .u64 x.toNat, .int .i64 (IntKind.i64.wrap (0 - b))] w1 (panR R) fun v1 w2 => ∃ x2 : UInt64, v1 = (.int .u64 x2.toNat) ∧ callK Tryz.prog 568 [.int .u64 x.toNat, .int .i64 (IntKind.i64.wrap (0 - c))] w2 (panR R) fun v2 w3 => ∃ x3 : UInt64, v2 = (.int .u64 x3.toNat) ∧ R (.returned (.int .u64 (((x1 ^^^ x2) ^^^ x3)).toNat)) w3
theorem call510 (x : UInt64) (a b c : Int) {w : World} {R : Ending → World → Prop} (hden : sh510 x a b c w R) : Calls Tryz.prog 510 #[.int .u64 x.toNat, .int .i64 a, .int .i64 b, .int .i64 c] w R :=
  calls_of_form (.seq none .z (.seq none .z .z)) Tryz.func510 (by kernel_rfl) [.u64 x, .i .i64 a, .i .i64 b, .i .i64 c] (by kernel_rfl) (by kernel_rfl) hden
def sh568 (x : UInt64) (k : Int) (w : World) (R : Ending → World → Prop) : Prop :=
  (0 ≤ ((((u64OfInt k) &&& (63 : UInt64))).toNat : Int) ∧ (0 ≤ ((((64 : UInt64) - ((u64OfInt k) &&& (63 : UInt64)))).toNat : Int) ∧ R (.returned (.int .u64 (((shlU64 x (((((u64OfInt k) &&& (63 : UInt64))).toNat : Int)).toNat) ||| (shrU64 x (((((64 : UInt64) - ((u64OfInt k) &&& (63 : UInt64)))).toNat : Int)).toNat))).toNat)) w))
theorem call568 (x : UInt64) (k : Int) {w : World} {R : Ending → World → Prop} (hden : sh568 x k w R) : Calls Tryz.prog 568 #[.int .u64 x.toNat, .int .i64 k] w R :=
  calls_of_form (.seq none .z (.seq none .z (.seq none .z .z))) Tryz.func568 (by kernel_rfl) [.u64 x, .i .i64 k] (by kernel_rfl) (by kernel_rfl) hden
end Go.Proofs.YtgemgaofamloeaaGreatDoor
end
section
namespace Go.Sh
open Go
def rr (x : UInt64) (n : Nat) : UInt64 := shrU64 x n ||| shlU64 x (64 - n)
def bsg1 (e : UInt64) : UInt64 := (rr e 14 ^^^ rr e 18) ^^^ rr e 41
def bsg0 (a : UInt64) : UInt64 := (rr a 28 ^^^ rr a 34) ^^^ rr a 39
def ssg1 (x : UInt64) : UInt64 := (rr x 19 ^^^ rr x 61) ^^^ shrU64 x 6
def ssg0 (x : UInt64) : UInt64 := (rr x 1 ^^^ rr x 8) ^^^ shrU64 x 7
def be64 (l : List UInt8) : UInt64 := l.foldl (fun x c => shlU64 x 8 ||| c.toUInt64) 0
def word (b : List UInt8) (t : Nat) : UInt64 := be64 ((b.drop (8 * t)).take 8)
def wnext (b : List UInt8) (l : List UInt64) (t : Nat) : UInt64 :=
  if t < 16 then word b t else ((ssg1 (l.getD (t - 2) 0) + l.getD (t - 7) 0) + ssg0 (l.getD (t - 15) 0)) + l.getD (t - 16) 0
def sched (b : List UInt8) : Nat → List UInt64
  | 0 => []
  | t + 1 => let l := sched b t; l ++ [wnext b l t]
def rnd (v : List UInt64) (k x : UInt64) : List UInt64 :=
  match v with
  | [a, b, c, d, e, f, g, h] =>
    let t1 := (((h + bsg1 e) + ((e &&& f) ^^^ ((~~~e) &&& g))) + k) + x
    let t2 := bsg0 a + (((a &&& b) ^^^ (a &&& c)) ^^^ (b &&& c))
    [t1 + t2, a, b, c, d + t1, e, f, g]
  | v => v
def rounds (ks ws v : List UInt64) : Nat → List UInt64
  | 0 => v
  | t + 1 => rnd (rounds ks ws v t) (ks.getD t 0) (ws.getD t 0)
def comp (ks h : List UInt64) (b : List UInt8) : List UInt64 := List.zipWith (fun x y => x + y) h (rounds ks (sched b 80) h 80)
def absorb (ks h : List UInt64) (b : List UInt8) : Nat → List UInt64
  | 0 => h
  | n + 1 => comp ks (absorb ks h b n) ((b.drop (128 * n)).take 128)
def be8 (x : UInt64) : List UInt8 := [(shrU64 x 56).toUInt8, (shrU64 x 48).toUInt8, (shrU64 x 40).toUInt8, (shrU64 x 32).toUInt8, (shrU64 x 24).toUInt8, (shrU64 x 16).toUInt8, (shrU64 x 8).toUInt8, (shrU64 x 0).toUInt8]
def digest (h : List UInt64) : List UInt8 := h.flatMap be8
def padZ (n : Nat) : Nat := (239 - n % 128) % 128
def padEnd (n : Nat) : List UInt8 := [128] ++ List.replicate (padZ n) 0 ++ List.replicate 8 0 ++ be8 (8 * UInt64.ofNat n)
def pad (b : List UInt8) : List UInt8 := b ++ padEnd b.length
def shaBy (h ks : List UInt64) (b : List UInt8) : List UInt8 := digest (absorb ks h (pad b) ((pad b).length / 128))
theorem sched_len (b : List UInt8) : ∀ t, (sched b t).length = t
  | 0 => rfl
  | t + 1 => by simp [sched, sched_len b t]
theorem rnd_len {v : List UInt64} {k x : UInt64} (h : v.length = 8) : (rnd v k x).length = 8 := by
  unfold rnd
  split
  · rfl
  · exact h
theorem rounds_len {ks ws v : List UInt64} (h : v.length = 8) : ∀ t, (rounds ks ws v t).length = 8
  | 0 => h
  | t + 1 => rnd_len (rounds_len h t)
theorem comp_len {ks h : List UInt64} {b : List UInt8} (hh : h.length = 8) : (comp ks h b).length = 8 := by simp [comp, hh, rounds_len hh]
theorem absorb_len {ks h : List UInt64} {b : List UInt8} (hh : h.length = 8) : ∀ n, (absorb ks h b n).length = 8
  | 0 => hh
  | n + 1 => comp_len (absorb_len hh n)
@[simp] theorem be8_len (x : UInt64) : (be8 x).length = 8 := rfl
theorem digest_len {h : List UInt64} (hh : h.length = 8) : (digest h).length = 64 := by
  match h, hh with
  | [a, b, c, d, e, f, g, k], _ => rfl
theorem absorb_eq {ks h : List UInt64} {a b : List UInt8} : ∀ n, 128 * n ≤ a.length → absorb ks h (a ++ b) n = absorb ks h a n
  | 0, _ => rfl
  | n + 1, hn => by
    simp only [absorb]
    rw [absorb_eq n (by omega), List.drop_append_of_le_length (by omega), List.take_append_of_le_length (by rw [List.length_drop]; omega)]
theorem absorb_add {ks h : List UInt64} {a b : List UInt8} {m : Nat} (ha : a.length = 128 * m) : ∀ n, absorb ks h (a ++ b) (m + n) = absorb ks (absorb ks h a m) b n
  | 0 => absorb_eq m (by omega)
  | n + 1 => by
    rw [show m + (n + 1) = (m + n) + 1 from rfl]
    simp only [absorb]
    rw [absorb_add ha n, List.drop_append, List.drop_eq_nil_of_le (by omega), List.nil_append]
    congr 3
    omega
def rest (b : List UInt8) : List UInt8 := b.drop (128 * (b.length / 128))
def state (ks h : List UInt64) (b : List UInt8) : List UInt64 := absorb ks h b (b.length / 128)
theorem rest_len (b : List UInt8) : (rest b).length = b.length % 128 := by simp [rest]; omega
theorem state_len {ks h : List UInt64} {b : List UInt8} (hh : h.length = 8) : (state ks h b).length = 8 := absorb_len hh _
theorem state_app {ks h : List UInt64} {b c : List UInt8} : state ks h (b ++ c) = absorb ks (state ks h b) (rest b ++ c) ((rest b ++ c).length / 128) := by
  have e : b ++ c = b.take (128 * (b.length / 128)) ++ (rest b ++ c) := by
    rw [← List.append_assoc]; simp [rest]
  have hl : (b.take (128 * (b.length / 128))).length = 128 * (b.length / 128) := by rw [List.length_take]; omega
  have hn : (b ++ c).length / 128 = b.length / 128 + (rest b ++ c).length / 128 := by
    rw [List.length_append, List.length_append, rest_len]; omega
  unfold state
  rw [hn]
  conv => lhs; rw [e]
  rw [absorb_add hl]
  congr 1
  have := absorb_eq (ks := ks) (h := h) (a := b.take (128 * (b.length / 128))) (b := b.drop (128 * (b.length / 128))) (b.length / 128) (by omega)
  rw [List.take_append_drop] at this
  exact this.symm
theorem rest_app {b c : List UInt8} : rest (b ++ c) = (rest b ++ c).drop (128 * ((rest b ++ c).length / 128)) := by
  have e : b ++ c = b.take (128 * (b.length / 128)) ++ (rest b ++ c) := by
    rw [← List.append_assoc]; simp [rest]
  have hl : (b.take (128 * (b.length / 128))).length = 128 * (b.length / 128) := by rw [List.length_take]; omega
  have hn : (b ++ c).length / 128 = b.length / 128 + (rest b ++ c).length / 128 := by
    rw [List.length_append, List.length_append, rest_len]; omega
  show (b ++ c).drop (128 * ((b ++ c).length / 128)) = _
  rw [hn]
  conv => lhs; rw [e]
  rw [List.drop_append, List.drop_eq_nil_of_le (by omega), List.nil_append]
  congr 1
  omega
theorem pad_len (b : List UInt8) : (pad b).length % 128 = 0 ∧ (padEnd b.length).length ≤ 256 := by
  simp [pad, padEnd, padZ]; omega
theorem shaBy_eq (h ks : List UInt64) (b : List UInt8) : shaBy h ks b = digest (state ks h (pad b)) := rfl
end Go.Sh
end
section
namespace Go.Proofs.YtgemgaofamloeaaGreatDoor
open Go Go.Sh
theorem turn_count : ∀ a : Fin 64, a.val ≠ 0 → (u64OfInt (IntKind.i64.wrap (0 - (a.val : Int)))) &&& 63 = UInt64.ofNat (64 - a.val) := by decide
theorem c_rot {w : World} {x : UInt64} {a : Nat} (h0 : 0 < a) (h1 : a < 64) {k : Int} (hk : k = IntKind.i64.wrap (0 - (a : Int))) :
    Calls Tryz.prog 568 #[.int .u64 x.toNat, .int .i64 k] w (Ret fun v w' => v = .int .u64 (rr x a).toNat ∧ w' = w) := by
  subst hk
  refine call568 _ _ ?_
  unfold sh568
  rw [turn_count ⟨a, h1⟩ (by simp only; omega)]
  have e1 : (UInt64.ofNat (64 - a)).toNat = 64 - a := by simp [UInt64.toNat_ofNat']; omega
  have e2 : ((64 : UInt64) - UInt64.ofNat (64 - a)).toNat = a := by
    rw [UInt64.toNat_sub, e1]
    simp; omega
  simp only [e1, e2, Int.toNat_natCast]
  refine ⟨by omega, by omega, ?_, rfl⟩
  show Value.int .u64 _ = Value.int .u64 _
  rw [UInt64.or_comm]
  rfl
theorem c_mix {w : World} {x : UInt64} {a b c : Nat} (ha : 0 < a ∧ a < 64) (hb : 0 < b ∧ b < 64) (hc : 0 < c ∧ c < 64) :
    Calls Tryz.prog 510 #[.int .u64 x.toNat, .int .i64 a, .int .i64 b, .int .i64 c] w (Ret fun v w' => v = .int .u64 ((rr x a ^^^ rr x b) ^^^ rr x c).toNat ∧ w' = w) := by
  refine call510 _ _ _ _ ?_
  unfold sh510
  refine callK_ret (c_rot ha.1 ha.2 rfl) ?_
  rintro v w1 ⟨rfl, rfl⟩
  refine ⟨_, rfl, callK_ret (c_rot hb.1 hb.2 rfl) ?_⟩
  rintro v w1 ⟨rfl, rfl⟩
  refine ⟨_, rfl, callK_ret (c_rot hc.1 hc.2 rfl) ?_⟩
  rintro v w1 ⟨rfl, rfl⟩
  exact ⟨_, rfl, rfl, rfl⟩
theorem c_small {w : World} {x : UInt64} {a b c : Nat} (ha : 0 < a ∧ a < 64) (hb : 0 < b ∧ b < 64) :
    Calls Tryz.prog 509 #[.int .u64 x.toNat, .int .i64 a, .int .i64 b, .int .i64 c] w (Ret fun v w' => v = .int .u64 ((rr x a ^^^ rr x b) ^^^ shrU64 x c).toNat ∧ w' = w.drew) := by
  refine call509 _ _ _ _ ?_
  unfold sh509
  refine ⟨by omega, callK_ret (c_rot ha.1 ha.2 rfl) ?_, trivial⟩
  rintro v w1 ⟨rfl, rfl⟩
  refine ⟨_, rfl, callK_ret (c_rot hb.1 hb.2 rfl) ?_, trivial⟩
  rintro v w1 ⟨rfl, rfl⟩
  exact ⟨_, rfl, rfl, rfl⟩
def H0 : List UInt64 := [0x6a09e667f3bcc908, 0xbb67ae8584caa73b, 0x3c6ef372fe94f82b, 0xa54ff53a5f1d36f1, 0x510e527fade682d1, 0x9b05688c2b3e6c1f, 0x1f83d9abfb41bd6b, 0x5be0cd19137e2179]
def KS : List UInt64 := [
  0x428a2f98d728ae22, 0x7137449123ef65cd, 0xb5c0fbcfec4d3b2f, 0xe9b5dba58189dbbc,
  0x3956c25bf348b538, 0x59f111f1b605d019, 0x923f82a4af194f9b, 0xab1c5ed5da6d8118,
  0xd807aa98a3030242, 0x12835b0145706fbe, 0x243185be4ee4b28c, 0x550c7dc3d5ffb4e2,
  0x72be5d74f27b896f, 0x80deb1fe3b1696b1, 0x9bdc06a725c71235, 0xc19bf174cf692694,
  0xe49b69c19ef14ad2, 0xefbe4786384f25e3, 0x0fc19dc68b8cd5b5, 0x240ca1cc77ac9c65,
  0x2de92c6f592b0275, 0x4a7484aa6ea6e483, 0x5cb0a9dcbd41fbd4, 0x76f988da831153b5,
  0x983e5152ee66dfab, 0xa831c66d2db43210, 0xb00327c898fb213f, 0xbf597fc7beef0ee4,
  0xc6e00bf33da88fc2, 0xd5a79147930aa725, 0x06ca6351e003826f, 0x142929670a0e6e70,
  0x27b70a8546d22ffc, 0x2e1b21385c26c926, 0x4d2c6dfc5ac42aed, 0x53380d139d95b3df,
  0x650a73548baf63de, 0x766a0abb3c77b2a8, 0x81c2c92e47edaee6, 0x92722c851482353b,
  0xa2bfe8a14cf10364, 0xa81a664bbc423001, 0xc24b8b70d0f89791, 0xc76c51a30654be30,
  0xd192e819d6ef5218, 0xd69906245565a910, 0xf40e35855771202a, 0x106aa07032bbd1b8,
  0x19a4c116b8d2d0c8, 0x1e376c085141ab53, 0x2748774cdf8eeb99, 0x34b0bcb5e19b48a8,
  0x391c0cb3c5c95a63, 0x4ed8aa4ae3418acb, 0x5b9cca4f7763e373, 0x682e6ff3d6b2b8a3,
  0x748f82ee5defb2fc, 0x78a5636f43172f60, 0x84c87814a1f0ab72, 0x8cc702081a6439ec,
  0x90befffa23631e28, 0xa4506cebde82bde9, 0xbef9a3f7b2c67915, 0xc67178f2e372532b,
  0xca273eceea26619c, 0xd186b8c721c0c207, 0xeada7dd6cde0eb1e, 0xf57d4f7fee6ed178,
  0x06f067aa72176fba, 0x0a637dc5a2c898a6, 0x113f9804bef90dae, 0x1b710b35131c471b,
  0x28db77f523047d84, 0x32caab7b40c72493, 0x3c9ebe0a15c9bebc, 0x431d67c49c100d4c,
  0x4cc5d4becb3e42b6, 0x597f299cfc657e2a, 0x5fcb6fab3ad6faec, 0x6c44198c4a475817]
def sha (b : List UInt8) : List UInt8 := shaBy H0 KS b
theorem H0_len : H0.length = 8 := rfl
theorem KS_len : KS.length = 80 := rfl
def isG (x : Nat) : Prop := x = 1 ∨ x = 4
structure Glob (w : World) : Prop where
  begin0 : Rd w ⟨1, 0, none⟩ (us H0)
  rest0 : Rd w ⟨4, 0, none⟩ (us KS)
theorem Glob.lt {w : World} (h : Glob w) {x : Nat} (hx : isG x) : x < w.heap.size := by
  rcases hx with rfl | rfl
  · exact rd_lt h.begin0 (by simp [H0_len])
  · exact rd_lt h.rest0 (by simp [KS_len])
theorem Glob.mod {w w' : World} {S : Nat → Prop} (h : Glob w) (hm : Mod S w w') (hs : ∀ x, isG x → ¬ S x) : Glob w' :=
  ⟨h.begin0.mod hm (hs _ (.inl rfl)), h.rest0.mod hm (hs _ (.inr rfl))⟩
theorem Glob.no {w w' : World} (h : Glob w) (hm : Mod NoB w w') : Glob w' := h.mod hm fun _ _ h => h
theorem Glob.drew {w : World} (h : Glob w) : Glob w.drew := ⟨h.begin0, h.rest0⟩
theorem Glob.fresh {w : World} (h : Glob w) {x : Nat} (hx : w.heap.size ≤ x) : ¬ isG x := fun e => by have := h.lt e; omega
theorem i640 : ∃ i, Tryz.prog.info? 589 = some i ∧ i.zero = some (.agg (List.replicate 80 z64).toArray) ∧ i.size = 80 ∧ i.bytes = 640 := info_of (by kernel_rfl) (by kernel_rfl) (by kernel_rfl)
theorem iwords : ∃ i, Tryz.prog.info? 512 = some i ∧ i.zero = some (.agg (List.replicate 8 z64).toArray) ∧ i.size = 8 ∧ i.bytes = 64 := info_of (by kernel_rfl) (by kernel_rfl) (by kernel_rfl)
theorem be64_snoc (l : List UInt8) (c : UInt8) : be64 (l ++ [c]) = shlU64 (be64 l) 8 ||| c.toUInt64 := by simp [be64]
def fill (ws : List UInt64) : List Value := us ws ++ List.replicate (80 - ws.length) z64
theorem fill_at {ws : List UInt64} {i : Nat} (h : i < ws.length) : (fill ws)[i]? = some (.int .u64 (ws.getD i 0).toNat) := by
  unfold fill
  rw [List.getElem?_append_left (by simpa using h), us_getD h]
theorem fill_next {ws : List UInt64} {x : UInt64} (h : ws.length < 80) : (fill ws).set ws.length (.int .u64 x.toNat) = fill (ws ++ [x]) := by
  unfold fill
  rw [rep_succ (by omega), set_mid (by simp), us_app]
  simp only [List.length_append, List.length_cons, List.length_nil, List.append_assoc]
  congr 1
@[simp] theorem fill_len {ws : List UInt64} (h : ws.length ≤ 80) : (fill ws).length = 80 := by unfold fill; simp; omega
theorem c_block1 {w : World} {b : Slc} {bs : List UInt8} (hb : SlRd w b 1 (bys bs)) (hl : bs.length = 128) {m t : Nat} (ht : t < 16) {w2 : World} (hm : Mod NoB w w2) (hbm : ∀ x, b.blk = some x → x ≠ m) (hmw : w.heap.size ≤ m) (hM : Blk w2 m (fill (sched bs t)) 589) {R : Prop}
    {K : World → Prop} (hk : ∀ w3, Mod NoB w w3 → Blk w3 m (fill (sched bs (t + 1))) 589 → K w3) :
    ∃ (inv1 : List TV → World → Prop) (mu1 : List TV → World → Nat), inv1 [.i .i64 (0 : Int)] w2 ∧ (∀ x1 : Int, ∀ w3 : World, inv1 [.i .i64 x1] w3 → condK (decide (x1 < ((cutSl b 1 (8 * t) (8 * t + 8) b.cap).len : Int))) (((0 ≤ x1 ∧ x1 < ((cutSl b 1 (8 * t) (8 * t + 8) b.cap).len : Nat)) ∧ onSome (cutSl b 1 (8 * t) (8 * t + 8) b.cap).a fun a => ∃ x2 : UInt8, Rd w3 (a.add ((x1).toNat * 1)) [(.int .u8 (x2).toNat)] ∧ ((0 ≤ (t : Int) ∧ (t : Int) < (80 : Nat)) ∧ ∃ x3 : UInt64, Rd w3 ((⟨m, 0, none⟩ : Addr).add (t * 1)) [(.int .u64 (x3).toNat)] ∧ (0 ≤ (((8 : UInt64)).toNat : Int) ∧ ((0 ≤ (t : Int) ∧ (t : Int) < (80 : Nat)) ∧ semU Tryz.prog (storeVar 323 ((⟨m, 0, none⟩ : Addr).add (t * 1)) (.int .u64 (((shlU64 x3 ((((8 : UInt64)).toNat : Int)).toNat) ||| (x2).toUInt64)).toNat)) w3 fun w4 => (inv1 [.i .i64 (IntKind.i64.wrap (x1 + (1 : Int)))] w4 ∧ mu1 [.i .i64 (IntKind.i64.wrap (x1 + (1 : Int)))] w4 < mu1 [.i .i64 x1] w3)))))) (K w3)) := by
  have hbl := rd_len8 hb
  have hcut := hb.cut (l := 8 * t) (n := 8 * t + 8) (m := b.cap) (by omega) (by omega) (by have := hb.2.1; omega) (Nat.le_refl _)
  have hwl : ((bs.drop (8 * t)).take 8).length = 8 := by rw [List.length_take, List.length_drop]; omega
  rw [show 8 * t + 8 - 8 * t = 8 by omega, bys_cut] at hcut
  have hcl : (cutSl b 1 (8 * t) (8 * t + 8) b.cap).len = 8 := by simp [cutSl]
  have hsl := sched_len bs t
  refine ⟨fun l w' => match l with | [.i _ x] => ∃ j : Nat, x = j ∧ j ≤ 8 ∧ Blk w' m ((fill (sched bs t)).set t (.int .u64 (be64 (((bs.drop (8 * t)).take 8).take j)).toNat)) 589 ∧ Mod NoB w w' | _ => False, fun l _ => match l with | [.i _ x] => (8 - x).toNat | _ => 0, ⟨0, rfl, by omega, ?_, hm⟩, ?_⟩
  · have : (fill (sched bs t)).set t (.int .u64 (be64 (((bs.drop (8 * t)).take 8).take 0)).toNat) = fill (sched bs t) := by
      apply List.ext_getElem?
      intro i
      rw [List.getElem?_set]
      split
      · next h =>
        subst h
        rw [if_pos (by rw [fill_len (by omega)]; omega)]
        unfold fill
        rw [List.getElem?_append_right (by simp [hsl]), us_len, hsl, Nat.sub_self, rep_succ (by omega)]
        rfl
      · rfl
    rw [this]; exact hM
  rintro x1 w3 ⟨j, rfl, hj, hB, hm3⟩
  rw [hcl]
  have hfl : ((fill (sched bs t)).set t (Value.int .u64 (be64 (((bs.drop (8 * t)).take 8).take j)).toNat)).length = 80 := by rw [List.length_set, fill_len (by omega)]
  refine condK_i (fun h => ?_) (fun h => ?_)
  · have hj8 : j < 8 := by simp at h; omega
    obtain ⟨a, ha, hrd⟩ := rd_u8 hcut (i := j) (by omega)
    rw [ha]
    refine ⟨⟨by omega, by omega⟩, _, (hrd.mod hm3 fun h => h), ⟨by omega, by omega⟩, be64 (((bs.drop (8 * t)).take 8).take j), ?_, by decide, ⟨by omega, by omega⟩, ?_⟩
    · rw [addl]
      exact hB.rd1 (by rw [Nat.zero_add, Nat.mul_one, List.getElem?_set_self (by rw [fill_len (by omega)]; omega)])
    · rw [addl]
      refine semU_store1 (by kernel_rfl) (by kernel_rfl) rfl hB (by rw [hfl]; omega) fun w4 ht4 hB4 => ⟨?_, ?_⟩
      · rw [wrap_nat (by omega)]
        refine ⟨j + 1, rfl, by omega, ?_, hm3.fresh ht4.mod fun x e => by omega⟩
        rw [Nat.zero_add, Nat.mul_one, List.set_set] at hB4
        rw [take_snoc (by omega), be64_snoc]
        exact hB4
      · rw [wrap_nat (by omega)]
        simp only []
        omega
  · have hj8 : j = 8 := by simp at h; omega
    subst hj8
    refine hk w3 hm3 ?_
    rw [List.take_of_length_le (by omega)] at hB
    have e : sched bs (t + 1) = sched bs t ++ [be64 ((bs.drop (8 * t)).take 8)] := by
      show (let l := sched bs t; l ++ [wnext bs l t]) = _
      simp only [wnext, if_pos ht, word]
    rw [e, ← fill_next (by omega), hsl]
    exact hB
theorem Glob.k {w : World} (h : Glob w) {t : Nat} (ht : t < 80) : Rd w ((⟨4, 0, none⟩ : Addr).add (t * 1)) [.int .u64 (KS.getD t 0).toNat] := by
  intro j v hj
  cases j with
  | zero =>
    simp only [List.length_cons, List.length_nil, Nat.zero_add, Nat.lt_add_one, List.getElem?_cons_zero, Option.some.injEq] at hj
    subst hj
    have := h.rest0 t _ (us_getD (l := KS) (i := t) (by rw [KS_len]; exact ht))
    simpa using this
  | succ j => simp at hj
theorem zip_step {h v : List UInt64} {i : Nat} (hh : h.length = 8) (hv : v.length = 8) (hi : i < 8) :
    (us (List.zipWith (fun x y => x + y) (h.take i) (v.take i) ++ h.drop i)).set i (.int .u64 (h[i] + v[i]).toNat) = us (List.zipWith (fun x y => x + y) (h.take (i + 1)) (v.take (i + 1)) ++ h.drop (i + 1)) := by
  have e1 : h.drop i = h[i] :: h.drop (i + 1) := List.drop_eq_getElem_cons (by omega)
  have hl : (List.zipWith (fun x y => x + y) (h.take i) (v.take i)).length = i := by simp; omega
  have e2 : List.zipWith (fun x y => x + y) (h.take (i + 1)) (v.take (i + 1)) = List.zipWith (fun x y => x + y) (h.take i) (v.take i) ++ [h[i] + v[i]] := by
    rw [take_snoc (by omega), take_snoc (by omega), List.zipWith_append (by simp; omega)]
    rfl
  rw [e1, e2, us_app, us_app, us_app]
  have : us (h[i] :: h.drop (i + 1)) = .int .u64 h[i].toNat :: us (h.drop (i + 1)) := rfl
  rw [this, set_mid (by simpa using hl.symm), List.append_assoc]
  rfl
theorem c_block {w : World} {p : Nat} {h : List UInt64} {r : List Value} {T : TypeId} {b : Slc} {bs : List UInt8} (hp : Blk w p (us h ++ r) T) (hh : h.length = 8) (hb : SlRd w b 1 (bys bs)) (hl : bs.length = 128)
    (hg : Glob w) (hpg : ¬ isG p) :
    Calls Tryz.prog 433 #[.pointer (some ⟨p, 0, none⟩), .slice b.a b.len b.cap] w (Ret fun v w' => v = .tuple #[] ∧ Blk w' p (us (comp KS h bs) ++ r) T ∧ Mod (fun x => x = p) w w') := by
  refine call433 _ _ ?_
  unfold sh433
  obtain ⟨i0, hi1, hi2, -, -⟩ := i640
  obtain ⟨i1, hj1, hj2, -, -⟩ := iwords
  have hbl := rd_len8 hb
  have hpl := hp.lt
  refine sem_alloc (l := List.replicate 80 z64) hi1 hi2 rfl fun m w1 hN hM0 => ⟨_, rfl, ?_⟩
  have hmat := hN.at_
  have hbm : ∀ x, b.blk = some x → x ≠ m := fun x hx => by
    rcases hb.2.2 with h0 | ⟨bb, e1, e2⟩
    · have := congrArg List.length h0; simp [hl] at this
    · have h1 := rd_lt e2 (by simp [hl])
      unfold Slc.blk at hx
      split at hx
      · cases hx
      · simp [e1] at hx; subst hx; omega
  refine ⟨fun l w' => match l with | [.i _ x] => ∃ t : Nat, x = t ∧ t ≤ 80 ∧ Blk w' m (fill (sched bs t)) 589 ∧ Mod NoB w w' | _ => False, fun l _ => match l with | [.i _ x] => (80 - x).toNat | _ => 0, ⟨0, rfl, by omega, hM0, hN.mod⟩, ?_⟩
  rintro x w2 ⟨t, rfl, ht, hM, hm2⟩
  refine condK_i (fun h80 => ?_) (fun h80 => ?_)
  · have ht80 : t < 80 := by simp at h80; omega
    refine condK_i (fun h16 => ?_) (fun h16 => ?_)
    · have ht16 : t < 16 := by simp at h16; omega
      have e1 : IntKind.i64.wrap ((8 : Int) * (t : Int)) = ((8 * t : Nat) : Int) := by rw [wrap_i64 (by omega)]; omega
      have e2 : IntKind.i64.wrap (((8 * t : Nat) : Int) + (8 : Int)) = ((8 * t + 8 : Nat) : Int) := by rw [wrap_i64 (by omega)]; omega
      simp only [e1, e2, Int.toNat_natCast]
      refine ⟨⟨by omega, by omega, by have := hb.2.1; omega⟩, ?_⟩
      refine c_block1 (R := True) hb hl ht16 hm2 hbm (by omega) hM fun w3 hm3 hM3 => ⟨?_, ?_⟩
      · rw [wrap_nat (by omega)]
        exact ⟨t + 1, rfl, by omega, hM3, hm3⟩
      · rw [wrap_nat (by omega)]
        (try simp only []); omega
    · have ht16 : 16 ≤ t := by simp at h16; omega
      have hsl := sched_len bs t
      have f2 : IntKind.i64.wrap ((t : Int) - (2 : Int)) = ((t - 2 : Nat) : Int) := by rw [wrap_i64 (by omega)]; omega
      have f7 : IntKind.i64.wrap ((t : Int) - (7 : Int)) = ((t - 7 : Nat) : Int) := by rw [wrap_i64 (by omega)]; omega
      have f15 : IntKind.i64.wrap ((t : Int) - (15 : Int)) = ((t - 15 : Nat) : Int) := by rw [wrap_i64 (by omega)]; omega
      have f16 : IntKind.i64.wrap ((t : Int) - (16 : Int)) = ((t - 16 : Nat) : Int) := by rw [wrap_i64 (by omega)]; omega
      simp only [f2, f7, f15, f16, Int.toNat_natCast]
      refine ⟨fun w' => Blk w' m (fill (sched bs t)) 589, hM, ⟨by omega, by omega⟩, ⟨by omega, by omega⟩, ⟨by omega, by omega⟩, ⟨by omega, by omega⟩,
        (sched bs t).getD (t - 2) 0, fun w' h => rda h (fill_at (by omega)), (sched bs t).getD (t - 7) 0, fun w' h => rda h (fill_at (by omega)), (sched bs t).getD (t - 15) 0, fun w' h => rda h (fill_at (by omega)), (sched bs t).getD (t - 16) 0, fun w' h => rda h (fill_at (by omega)), ?_, trivial⟩
      refine callK_ret (c_small (a := 19) (b := 61) (c := 6) (by omega) (by omega)) ?_
      rintro v w5 ⟨rfl, rfl⟩
      refine ⟨_, rfl, hM, ?_, trivial⟩
      refine callK_ret (c_small (a := 1) (b := 8) (c := 7) (by omega) (by omega)) ?_
      rintro v w5 ⟨rfl, rfl⟩
      refine ⟨_, rfl, hM, ⟨by omega, by omega⟩, ?_, trivial⟩
      rw [addl]
      refine semU_store1 (l := fill (sched bs t)) (by kernel_rfl) (by kernel_rfl) rfl (w := w2.drew.drew.drew) (E := 589) hM (by rw [fill_len (by omega)]; omega) fun w7 ht7 hM7 => ⟨?_, ?_⟩
      · rw [wrap_nat (by omega)]
        refine ⟨t + 1, rfl, by omega, ?_, (Mod.dr (Mod.dr (Mod.dr hm2))).fresh ht7.mod fun x e => by omega⟩
        rw [Nat.zero_add, Nat.mul_one] at hM7
        have e : sched bs (t + 1) = sched bs t ++ [wnext bs (sched bs t) t] := rfl
        rw [e, ← fill_next (by omega), hsl]
        unfold wnext
        rw [if_neg (by omega)]
        exact hM7
      · rw [wrap_nat (by omega)]
        (try simp only []); omega
  · have ht80 : t = 80 := by simp at h80; omega
    subst ht80
    obtain ⟨k0, k1, k2, k3, k4, k5, k6, k7, rfl⟩ := list8 hh
    have hp2 := hp.no hm2
    have hMf : fill (sched bs 80) = us (sched bs 80) := by unfold fill; rw [sched_len]; simp
    rw [hMf] at hM
    refine ⟨k0, k1, k2, k3, k4, k5, k6, k7, (hp2.rd (o := 0) (vs := us [k0, k1, k2, k3, k4, k5, k6, k7]) fun j v hj => by
      rw [Nat.zero_add, List.getElem?_append_left (List.getElem?_eq_some_iff.1 hj).1, hj]), ?_⟩
    refine sem_alloc (l := List.replicate 8 z64) hj1 hj2 rfl fun vB w8 hN8 hV8 => ⟨_, rfl, ?_⟩
    have hvat := hN8.at_
    refine semU_store (vs := us [k0, k1, k2, k3, k4, k5, k6, k7]) (by kernel_rfl) (by kernel_rfl) rfl hV8 (by simp) (us_one _) fun w9 ht9 hV9 => ?_
    have hM9 : Blk w9 m (us (sched bs 80)) 589 := (hM.no hN8.mod).mod ht9.mod (by have := hM.lt; omega)
    have hm9 : Mod NoB w w9 := (hm2.tr hN8.mod).fresh ht9.mod fun x e => by have := hm2.size; omega
    refine ⟨sched bs 80, sched_len bs 80, by rw [cellsL_us]; exact hM9.rd (o := 0) fun j v hj => by rw [Nat.zero_add]; exact hj, ?_⟩
    have hvg : w.heap.size ≤ vB := by have := hm2.size; omega
    refine ⟨fun l w' => match l with | [.i _ x] => ∃ t : Nat, x = t ∧ t ≤ 80 ∧ Blk w' vB (us (rounds KS (sched bs 80) [k0, k1, k2, k3, k4, k5, k6, k7] t)) 512 ∧ Mod NoB w w' | _ => False, fun l _ => match l with | [.i _ x] => (80 - x).toNat | _ => 0, ⟨0, rfl, by omega, hV9, hm9⟩, ?_⟩
    rintro x w10 ⟨t, rfl, ht, hV, hm10⟩
    have hg10 := hg.no hm10
    refine condK_i (fun h8 => ?_) (fun h8 => ?_)
    · have ht80 : t < 80 := by simp at h8; omega
      obtain ⟨a, b', c, d, e, f, g, k, hr⟩ := list8 (rounds_len (ks := KS) (ws := sched bs 80) (v := [k0, k1, k2, k3, k4, k5, k6, k7]) rfl t)
      have hnext : rounds KS (sched bs 80) [k0, k1, k2, k3, k4, k5, k6, k7] (t + 1) = rnd [a, b', c, d, e, f, g, k] (KS.getD t 0) ((sched bs 80).getD t 0) := by
        show rnd (rounds KS (sched bs 80) _ t) _ _ = _
        rw [hr]
      rw [hr] at hV
      refine ⟨⟨by omega, by omega⟩, ?_, (sched bs 80).getD t 0, ?_, ⟨by omega, by omega⟩, ⟨by omega, by omega⟩, a, rda (w := w10.drew) hV rfl, e, rda (w := w10.drew) hV rfl, ?_⟩
      · intro z hz
        obtain ⟨y, _, rfl⟩ := List.mem_map.1 hz
        rfl
      · rw [Int.toNat_natCast]
        have hlt : t < (sched bs 80).length := by rw [sched_len]; omega
        rw [List.getElem?_map, List.getElem?_eq_getElem hlt, List.getD_eq_getElem?_getD, List.getElem?_eq_getElem hlt]
        rfl
      refine ⟨fun w' => Blk w' vB (us [a, b', c, d, e, f, g, k]) 512 ∧ Glob w', ⟨hV, hg10.drew.drew⟩, ⟨by omega, by omega⟩, ⟨by omega, by omega⟩, ⟨by omega, by omega⟩, ⟨by omega, by omega⟩,
        k, fun w' h => rda h.1 rfl, f, fun w' h => rda h.1 rfl, g, fun w' h => rda h.1 rfl, KS.getD t 0, fun w' h => Glob.k h.2 ht80, ?_, trivial⟩
      refine callK_ret (c_mix (a := 14) (b := 18) (c := 41) (by omega) (by omega) (by omega)) ?_
      rintro v w5 ⟨rfl, rfl⟩
      refine ⟨_, rfl, ⟨hV, hg10.drew.drew⟩, fun w' => Blk w' vB (us [a, b', c, d, e, f, g, k]) 512, hV, ⟨by omega, by omega⟩, ⟨by omega, by omega⟩, ⟨by omega, by omega⟩, ⟨by omega, by omega⟩,
        b', fun w' h => rda h rfl, c, fun w' h => rda h rfl, b', fun w' h => rda h rfl, c, fun w' h => rda h rfl, ?_, trivial⟩
      refine callK_ret (c_mix (a := 28) (b := 34) (c := 39) (by omega) (by omega) (by omega)) ?_
      rintro v w5 ⟨rfl, rfl⟩
      refine ⟨_, rfl, hV, ⟨by omega, by omega⟩, ⟨by omega, by omega⟩, ?_, trivial⟩
      obtain ⟨i4, h41, h42, h43, h44⟩ := i44
      have hVo : Sh.Own w10.drew.drew.drew.drew ⟨some ⟨vB, 0, none⟩, 8, 8⟩ 1 (us [a, b', c, d, e, f, g, k]) := own_whole (n := 8) (k := 1) (T := 512) hV rfl
      have hsrc : SlRd w10.drew.drew.drew.drew (cutSl ⟨some ⟨vB, 0, none⟩, 8, 8⟩ 1 0 7 8) 1 (us [a, b', c, d, e, f, g]) := hVo.rd.cut (l := 0) (n := 7) (m := 8) (by omega) (by simp only []; omega) (by omega) (by simp only []; omega)
      refine sem_copy (d := cutSl ⟨some ⟨vB, 0, none⟩, 8, 8⟩ 1 1 8 8) (x := cutSl ⟨some ⟨vB, 0, none⟩, 8, 8⟩ 1 0 7 8) (b := vB) (o := 1) (T := 512) (l := us [a, b', c, d, e, f, g, k]) u40 h41 h43 rfl hV (by simp [cutSl]) hsrc (us_one _) fun w13 hV13 hm13 hs13 => ⟨_, rfl, ?_⟩
      have hV13' : Blk w13 vB (us [a, a, b', c, d, e, f, g]) 512 := hV13
      refine ⟨⟨by omega, by omega⟩, d, rda hV13' rfl, ⟨by omega, by omega⟩, ?_⟩
      refine semU_store1 (b := vB) (o := 0) (by kernel_rfl) (by kernel_rfl) rfl hV13' (by simp) fun w14 ht14 hV14 => ⟨⟨by omega, by omega⟩, ?_⟩
      refine semU_store1 (b := vB) (o := 4) (by kernel_rfl) (by kernel_rfl) rfl hV14 (by simp) fun w15 ht15 hV15 => ⟨?_, ?_⟩
      · rw [wrap_nat (by omega)]
        refine ⟨t + 1, rfl, by omega, ?_, ?_⟩
        · rw [hnext]
          exact hV15
        · exact (((Mod.dr (Mod.dr (Mod.dr (Mod.dr hm10)))).fresh hm13 fun x e => by omega).fresh ht14.mod fun x e => by omega).fresh ht15.mod fun x e => by omega
      · rw [wrap_nat (by omega)]
        (try simp only []); omega
    · have ht80 : t = 80 := by simp at h8; omega
      subst ht80
      obtain ⟨hv, hvl⟩ : ∃ hv, hv = rounds KS (sched bs 80) [k0, k1, k2, k3, k4, k5, k6, k7] 80 := ⟨_, rfl⟩
      have hvlen : hv.length = 8 := by rw [hvl]; exact rounds_len rfl 80
      rw [← hvl] at hV
      have hcomp : comp KS [k0, k1, k2, k3, k4, k5, k6, k7] bs = List.zipWith (fun x y => x + y) [k0, k1, k2, k3, k4, k5, k6, k7] hv := by rw [hvl]; rfl
      rw [hcomp]
      clear hcomp hvl
      obtain ⟨hk, hkl⟩ : ∃ hk, hk = [k0, k1, k2, k3, k4, k5, k6, k7] := ⟨_, rfl⟩
      rw [← hkl] at hp ⊢
      have hkn : hk.length = 8 := by rw [hkl]; rfl
      clear hkl
      have hpv : p ≠ vB := by omega
      refine ⟨fun l w' => match l with | [.i _ x] => ∃ i : Nat, x = i ∧ i ≤ 8 ∧ Blk w' p (us (List.zipWith (fun x y => x + y) (hk.take i) (hv.take i) ++ hk.drop i) ++ r) T ∧ Blk w' vB (us hv) 512 ∧ Mod (fun x => x = p) w w' | _ => False, fun l _ => match l with | [.i _ x] => (8 - x).toNat | _ => 0,
        ⟨0, rfl, by omega, by simpa using hp.no hm10, hV, hm10.mono fun _ _ e => e.elim⟩, ?_⟩
      rintro x w16 ⟨i, rfl, hi, hP, hV, hm16⟩
      refine condK_i (fun h8 => ?_) (fun h8 => ?_)
      · have hi8 : i < 8 := by simp at h8; omega
        have hzl : (List.zipWith (fun x y => x + y) (hk.take i) (hv.take i)).length = i := by simp; omega
        have hget : (us (List.zipWith (fun x y => x + y) (hk.take i) (hv.take i) ++ hk.drop i) ++ r)[i]? = some (.int .u64 hk[i].toNat) := by
          rw [List.getElem?_append_left (by simp; omega), us_app, List.getElem?_append_right (by simp; omega)]
          simp only [us_len, hzl, Nat.sub_self]
          rw [us_at (by simp; omega)]
          simp
        refine ⟨fun w' => Blk w' p (us (List.zipWith (fun x y => x + y) (hk.take i) (hv.take i) ++ hk.drop i) ++ r) T ∧ Blk w' vB (us hv) 512, ⟨hP, hV⟩, ⟨by omega, by omega⟩, ⟨by omega, by omega⟩,
          hk[i], fun w' h => rda h.1 hget, hv[i], fun w' h => rda h.2 (us_at (by omega)), ⟨by omega, by omega⟩, ?_, trivial⟩
        rw [addl]
        refine semU_store1 (l := us (List.zipWith (fun x y => x + y) (hk.take i) (hv.take i) ++ hk.drop i) ++ r) (w := w16.drew) (E := T) (by kernel_rfl) (by kernel_rfl) rfl hP (by simp; omega) fun w17 ht17 hP17 => ⟨?_, ?_⟩
        · rw [wrap_nat (by omega)]
          refine ⟨i + 1, rfl, by omega, ?_, Blk.mod (w := w16.drew) hV ht17.mod (fun e => hpv e.symm), (Mod.dr hm16).tr ht17.mod⟩
          rw [Nat.zero_add, Int.toNat_natCast, Nat.mul_one, List.set_append_left _ _ (by simp; omega), zip_step hkn hvlen hi8] at hP17
          exact hP17
        · rw [wrap_nat (by omega)]
          (try simp only []); omega
      · have hi8 : i = 8 := by simp at h8; omega
        subst hi8
        refine ⟨rfl, ?_, hm16⟩
        rw [List.take_of_length_le (by omega), List.take_of_length_le (by omega), List.drop_eq_nil_of_le (by omega), List.append_nil] at hP
        exact hP
def HW (st : List UInt64) (s : Slc) (n : UInt64) : List Value := us st ++ [s.val, .int .u64 n.toNat, .bool true]
section
variable {st : List UInt64} {s : Slc} {n : UInt64}
theorem hw8 (h : st.length = 8) : (HW st s n)[8]? = some s.val := by unfold HW; rw [List.getElem?_append_right (by simp [h])]; simp [h]
theorem hw9 (h : st.length = 8) : (HW st s n)[9]? = some (.int .u64 n.toNat) := by unfold HW; rw [List.getElem?_append_right (by simp [h])]; simp [h]
theorem hw10 (h : st.length = 8) : (HW st s n)[10]? = some (.bool true) := by unfold HW; rw [List.getElem?_append_right (by simp [h])]; simp [h]
theorem hw_len (h : st.length = 8) : (HW st s n).length = 11 := by simp [HW, h]
theorem hw_set8 (h : st.length = 8) (s' : Slc) : (HW st s n).set 8 s'.val = HW st s' n := by
  unfold HW; rw [List.set_append_right _ _ (by simp [h])]; simp [h]
theorem hw_set9 (h : st.length = 8) (n' : UInt64) : (HW st s n).set 9 (.int .u64 n'.toNat) = HW st s n' := by
  unfold HW; rw [List.set_append_right _ _ (by simp [h])]; simp [h]
end
abbrev THash : TypeId := 514
structure HashAt (w : World) (p : Nat) (s : Slc) (b : List UInt8) : Prop where
  blk : Blk w p (HW (state KS H0 b) s (UInt64.ofNat b.length)) THash
  own : Sh.Own w s 1 (bys (rest b))
  ne : s.blk ≠ some p
  pg : ¬ isG p
  sg : ∀ x, s.blk = some x → ¬ isG x
theorem HashAt.mod {w w' : World} {p : Nat} {s : Slc} {b : List UInt8} {S : Nat → Prop} (h : HashAt w p s b) (hm : Mod S w w') (hp : ¬ S p) (hs : ∀ x, s.blk = some x → ¬ S x) : HashAt w' p s b :=
  ⟨h.blk.mod hm hp, h.own.mod hm hs, h.ne, h.pg, h.sg⟩
theorem HashAt.no {w w' : World} {p : Nat} {s : Slc} {b : List UInt8} (h : HashAt w p s b) (hm : Mod NoB w w') : HashAt w' p s b := h.mod hm (fun h => h) fun _ _ h => h
theorem st_len (b : List UInt8) : (state KS H0 b).length = 8 := state_len H0_len
theorem c_there {w : World} {p : Nat} {st : List UInt64} {s : Slc} {n : UInt64} (h : Blk w p (HW st s n) THash) (hst : st.length = 8) :
    Calls Tryz.prog 432 #[.pointer (some ⟨p, 0, none⟩)] w (Ret fun v w' => v = .bool true ∧ w' = w) := by
  refine call432 _ ?_
  unfold sh432
  refine ps_neq_ptr (e := THash) (by kernel_rfl) ⟨_, rfl, true, ?_, rfl, rfl⟩
  exact h.rd1 (o := 10) (hw10 hst)
structure Mid (w0 w' : World) (p : Nat) (s0 : Slc) (X : Nat → Prop) (b' c : List UInt8) (n' : UInt64) (q : Slc) : Prop where
  ex : ∃ (s3 : Slc) (c1 c2 : List UInt8), c = c1 ++ c2 ∧ (rest b' ++ c1).length % 128 = 0 ∧ SlRd w' q 1 (bys c2) ∧ (∀ x, q.blk = some x → X x) ∧
    Blk w' p (HW (absorb KS (state KS H0 b') (rest b' ++ c1) ((rest b' ++ c1).length / 128)) s3 n') THash ∧ Sh.Own w' s3 1 (bys []) ∧ BO w0 s0 s3
  mod : Mod (fun x => x = p ∨ s0.blk = some x) w0 w'
set_option maxRecDepth 10000 in
theorem c_write {w : World} {p : Nat} {s : Slc} {b : List UInt8} {parts : Slc} {pl : List (List UInt8)} {X : Nat → Prop} (h : HashAt w p s b) (hg : Glob w) (hp : PartsAt w parts pl X)
    (hXp : ¬ X p) (hXs : ∀ x, s.blk = some x → ¬ X x) (hXl : ∀ x, X x → x < w.heap.size) (hn : b.length + (pl.flatten).length ≤ 1000000000) (hm : pl.length ≤ 1000000000) :
    Calls Tryz.prog 328 #[.pointer (some ⟨p, 0, none⟩), .slice parts.a parts.len parts.cap] w (Ret fun v w' => v = .int .i64 0 ∧ ∃ s', HashAt w' p s' (b ++ pl.flatten) ∧ BO w s s' ∧ Mod (fun x => x = p ∨ s.blk = some x) w w') := by
  refine call328 _ _ ?_
  unfold sh328
  refine callK_ret (c_there h.blk (st_len b)) ?_
  rintro v w1 ⟨rfl, rfl⟩
  refine ⟨true, rfl, ?_⟩
  show condK false _ _
  refine condK_i (fun e => by cases e) fun _ => ?_
  obtain ⟨i5', h51, h52, h53, h54⟩ := i5
  have hpl := h.blk.lt
  have hY : ∀ x, s.blk = some x → ¬ (x = p ∨ isG x ∨ X x) := fun x hx e => e.elim (fun e => h.ne (by rw [hx, e])) fun e => e.elim (h.sg x hx) (hXs x hx)
  have hYl : ∀ x, (x = p ∨ isG x ∨ X x) → x < w1.heap.size := fun x e => e.elim (fun e => by omega) fun e => e.elim hg.lt (hXl x)
  have hBs : ∀ x, s.blk = some x → (x = p ∨ s.blk = some x) := fun x hx => .inr hx
  have hXn : ∀ x, X x → ¬ (x = p ∨ s.blk = some x) := fun x hx e => e.elim (fun e => hXp (by rw [← e]; exact hx)) fun e => hXs x e hx
  have hGn : ∀ x, isG x → ¬ (x = p ∨ s.blk = some x) := fun x hx e => e.elim (fun e => h.pg (by rw [← e]; exact hx)) fun e => h.sg x e hx
  obtain ⟨ss, hr10, hr2, hr3, hr4⟩ := hp
  refine ⟨fun l w' => match l with | [.i _ x] => ∃ i : Nat, x = i ∧ i ≤ pl.length ∧ (∃ s', HashAt w' p s' (b ++ (pl.take i).flatten) ∧ BO w1 s s') ∧ Mod (fun x => x = p ∨ s.blk = some x) w1 w' | _ => False,
    fun l _ => match l with | [.i _ x] => (pl.length - x).toNat | _ => 0, ⟨0, rfl, by omega, ⟨s, by simpa using h, BO.refl _ _⟩, Mod.refl _ _⟩, ?_⟩
  rintro x w2 ⟨i, rfl, hi, ⟨s2, h2, hb2⟩, hm2⟩
  have hr1 := hr10.mod hm2 fun x hx => hXn x (hr2 x hx)
  have hpn : parts.len = pl.length := by have := hr1.1; simp at this; omega
  refine condK_i (fun hc => ?_) (fun hc => ?_)
  · have hi' : i < pl.length := by simp at hc; omega
    obtain ⟨a, ha, hrd⟩ := rd_slc hr1 (i := i) (by omega)
    obtain ⟨hrs0, hrx⟩ := hr4 i (by omega) hi'
    have hrs := hrs0.mod hm2 fun x hx => hXn x (hrx x hx)
    obtain ⟨q, hq⟩ : ∃ q, q = ss[i]'(by omega) := ⟨_, rfl⟩
    rw [← hq] at hrd hrs hrx hrs0
    obtain ⟨c, hcd⟩ : ∃ c, c = pl[i] := ⟨_, rfl⟩
    rw [← hcd] at hrs hrs0
    obtain ⟨b', hbd⟩ : ∃ b', b' = b ++ (pl.take i).flatten := ⟨_, rfl⟩
    rw [← hbd] at h2
    have hb'n : b'.length + c.length ≤ 1000000000 := by
      have e1 : pl.flatten = (pl.take i).flatten ++ c ++ (pl.drop (i + 1)).flatten := by
        conv => lhs; rw [← List.take_append_drop (i + 1) pl]
        rw [List.flatten_append, take_snoc hi', List.flatten_append, hcd]
        simp
      have := congrArg List.length e1
      simp only [List.length_append] at this
      rw [hbd, List.length_append]; omega
    have hnx : b ++ (pl.take (i + 1)).flatten = b' ++ c := by rw [take_snoc hi', List.flatten_append, hbd, hcd]; simp
    have hcl := rd_len8 hrs
    have hqc := hrs.2.1
    rw [ha]
    have hst := st_len b'
    have hrl := rest_len b'
    refine ⟨⟨by omega, by omega⟩, q, hrd, UInt64.ofNat b'.length, h2.blk.rd1 (o := 9) (hw9 hst), ?_⟩
    have hmany : UInt64.ofNat b'.length + u64OfInt (q.len : Int) = UInt64.ofNat (b' ++ c).length := by
      rw [List.length_append, hcl]
      apply UInt64.toNat_inj.1
      have hu : (u64OfInt (q.len : Int)).toNat = q.len := by unfold u64OfInt; simp [UInt64.toNat_ofNat']; omega
      rw [UInt64.toNat_add, hu]
      simp [UInt64.toNat_ofNat']
    rw [hmany]
    refine semU_store1 (b := p) (o := 9) (by kernel_rfl) (by kernel_rfl) rfl h2.blk (by rw [hw_len hst]; omega) fun w3 ht3 hB3 => ?_
    rw [hw_set9 hst] at hB3
    have hm3 : Mod (fun x => x = p ∨ s.blk = some x) w1 w3 := hm2.tr (ht3.mod.mono fun _ _ e => .inl e)
    have ho3 : Sh.Own w3 s2 1 (bys (rest b')) := h2.own.mod ht3.mod fun x hx e => h2.ne (by rw [hx, e])
    have hrs3 : SlRd w3 q 1 (bys c) := hrs.mod ht3.mod fun x hx e => hXp (by rw [← e]; exact hrx x hx)
    have hol : (rest b').length = s2.len := by have := ho3.1; simpa using this
    have hend : ∀ (w' : World) (s' : Slc), HashAt w' p s' (b' ++ c) → BO w1 s s' → Mod (fun x => x = p ∨ s.blk = some x) w1 w' →
        ∃ i' : Nat, IntKind.i64.wrap ((i : Int) + (1 : Int)) = i' ∧ i' ≤ pl.length ∧ (∃ s', HashAt w' p s' (b ++ (pl.take i').flatten) ∧ BO w1 s s') ∧ Mod (fun x => x = p ∨ s.blk = some x) w1 w' := fun w' s' ha hb hm =>
      ⟨i + 1, wrap_nat (by omega), by omega, ⟨s', by rw [hnx]; exact ha, hb⟩, hm⟩
    have hmu : (pl.length - IntKind.i64.wrap ((i : Int) + (1 : Int))).toNat < ((pl.length : Int) - i).toNat := by rw [wrap_nat (by omega)]; omega
    refine ⟨fun l w' => match l with | [.sl q'] => Mid w1 w' p s X b' c (UInt64.ofNat (b' ++ c).length) q' | _ => False, ⟨s2, hB3.rd1 (o := 8) (hw8 hst), s2, hB3.rd1 (o := 8) (hw8 hst), ?_⟩, ?_⟩
    · refine condK_i (fun hl => ?_) (fun hl => ?_)
      · have hs2 : 0 < s2.len := by simpa using hl
        have e1 : IntKind.i64.wrap ((128 : Int) - (s2.len : Int)) = ((128 - s2.len : Nat) : Int) := by rw [wrap_i64 (by omega)]; omega
        rw [e1]
        obtain ⟨n0, hn0⟩ : ∃ n0, n0 = min (128 - s2.len) q.len := ⟨_, rfl⟩
        have e2 : (if (q.len : Int) < ((128 - s2.len : Nat) : Int) then (q.len : Int) else ((128 - s2.len : Nat) : Int)) = (n0 : Int) := by split <;> omega
        rw [e2]
        simp only [Int.toNat_natCast]
        have hcut := SlRd.cut (SlRd.drew hrs3) (l := 0) (n := n0) (m := q.cap) (by omega) (by omega) (by omega) (Nat.le_refl _)
        rw [Nat.sub_zero, bys_cut, List.drop_zero] at hcut
        refine ⟨fun w' => Blk w' p (HW (state KS H0 b') s2 (UInt64.ofNat (b' ++ c).length)) THash, hB3, ⟨by omega, by omega⟩, ⟨by omega, by omega⟩, s2, fun w' h => h.rd1 (o := 8) (hw8 hst), ?_, trivial⟩
        refine sem_append u26 h51 h52 h53 rfl h54 (w := w3.drew) ho3 hcut (bys_one _) (by simp only [cutSl]; omega) (by simp only [cutSl]; omega) fun s4 w4 ho4 hlen4 hblk4 hm4 => ⟨s4, rfl, ?_⟩
        rw [← bys_app] at ho4
        have hlen4' : s4.len = s2.len + n0 := by simpa [cutSl] using hlen4
        have hm3d : Mod (fun x => x = p ∨ s.blk = some x) w1 w3.drew := Mod.dr hm3
        have hm4' := hb2.mod hm3d hBs hm4
        have hb4 : BO w1 s s4 := hb2.step hm3d.size hblk4
        have hB4 : Blk w4 p (HW (state KS H0 b') s2 (UInt64.ofNat (b' ++ c).length)) THash := Blk.mod (w := w3.drew) hB3 hm4 h2.ne
        have hno4 := hb4.not hY hYl
        refine ⟨semU_store1 (b := p) (o := 8) (by kernel_rfl) (by kernel_rfl) rfl hB4 (by rw [hw_len hst]; omega) fun w5 ht5 hB5 => ?_, trivial⟩
        have hB5 : Blk w5 p (HW (state KS H0 b') s4 (UInt64.ofNat (b' ++ c).length)) THash := by rw [← hw_set8 hst s4]; exact hB5
        have ho5 : Sh.Own w5 s4 1 (bys (rest b' ++ c.take n0)) := ho4.mod ht5.mod fun x hx e => hno4 x hx (.inl e)
        have hm5 := hm4'.tr (ht5.mod.mono fun _ _ e => .inl e)
        refine ⟨s4, hB5.rd1 (o := 8) (hw8 hst), condK_i (fun h128 => ?_) (fun h128 => ?_)⟩
        · have h128' : s4.len < 128 := by simp at h128; omega
          have hn0c : n0 = c.length := by omega
          rw [hn0c, List.take_length] at ho5
          have hdiv : (rest b' ++ c).length / 128 = 0 := by rw [List.length_append]; omega
          have hs5 : state KS H0 (b' ++ c) = state KS H0 b' := by rw [state_app, hdiv]; rfl
          have hr5 : rest (b' ++ c) = rest b' ++ c := by rw [rest_app, hdiv]; simp
          exact ⟨hend w5 s4 ⟨by rw [hs5]; exact hB5, by rw [hr5]; exact ho5, fun e => hno4 p e (.inl rfl), h.pg, fun x hx e => hno4 x hx (.inr (.inl e))⟩ hb4 hm5, hmu⟩
        · have h128' : s4.len = 128 := by simp at h128; omega
          have hlb : (rest b' ++ c.take n0).length = 128 := by have := ho5.1; simp at this ⊢; omega
          have hg5 : Glob w5 := hg.mod hm5 hGn
          refine ⟨fun w' => Blk w' p (HW (state KS H0 b') s4 (UInt64.ofNat (b' ++ c).length)) THash, hB5, s4, fun w' h => h.rd1 (o := 8) (hw8 hst), ?_, trivial⟩
          have hcb := c_block (w := w5.drew) (p := p) (h := state KS H0 b') (T := THash) (r := [s4.val, .int .u64 (UInt64.ofNat (b' ++ c).length).toNat, .bool true]) hB5 hst (SlRd.drew ho5.rd) hlb hg5.drew h.pg
          refine callK_ret hcb ?_
          rintro v w6 ⟨rfl, hB6, hm6⟩
          have hB6 : Blk w6 p (HW (comp KS (state KS H0 b') (rest b' ++ c.take n0)) s4 (UInt64.ofNat (b' ++ c).length)) THash := hB6
          have hcl8 : (comp KS (state KS H0 b') (rest b' ++ c.take n0)).length = 8 := comp_len hst
          refine ⟨rfl, s4, hB6.rd1 (o := 8) (hw8 hcl8), ⟨by omega, by omega⟩, ?_⟩
          have ho6 : Sh.Own w6 s4 1 (bys (rest b' ++ c.take n0)) := Own.mod (w := w5.drew) ho5 hm6 fun x hx e => hno4 x hx (.inl e)
          have ho6c := ho6.cut (l := 0) (n := 0) (m := s4.cap) (by omega) (by omega) (by omega) (Nat.le_refl _)
          refine semU_store1 (b := p) (o := 8) (by kernel_rfl) (by kernel_rfl) rfl hB6 (by rw [hw_len hcl8]; omega) fun w7 ht7 hB7 => ?_
          have hB7 : Blk w7 p (HW (comp KS (state KS H0 b') (rest b' ++ c.take n0)) (cutSl s4 1 0 0 s4.cap) (UInt64.ofNat (b' ++ c).length)) THash := by rw [← hw_set8 hcl8 (cutSl s4 1 0 0 s4.cap)]; exact hB7
          have hno5 := (hb4.cut (k := 1) (l := 0) (n := 0) (m := s4.cap) (Nat.le_refl _)).not hY hYl
          have hm7 := ((Mod.dr hm5).tr (hm6.mono fun _ _ e => .inl e)).tr (ht7.mod.mono fun _ _ e => .inl e)
          have hrs5 : SlRd w7 q 1 (bys c) := hrs0.mod hm7 fun x hx => hXn x (hrx x hx)
          · have hcut7 := hrs5.cut (l := n0) (n := q.len) (m := q.cap) (by omega) (Nat.le_refl _) (by omega) (Nat.le_refl _)
            rw [bys_cut] at hcut7
            refine ⟨⟨cutSl s4 1 0 0 s4.cap, c.take n0, c.drop n0, (List.take_append_drop n0 c).symm, by omega, ?_, fun x hx => hrx x (blk_cut hx (Nat.le_refl _)), ?_, ?_, hb4.cut (Nat.le_refl _)⟩, hm7⟩
            · rw [List.take_of_length_le (by rw [List.length_drop]; omega)] at hcut7
              exact hcut7
            · have : (rest b' ++ c.take n0).length / 128 = 1 := by omega
              rw [this]
              have ha1 : absorb KS (state KS H0 b') (rest b' ++ c.take n0) 1 = comp KS (state KS H0 b') (rest b' ++ c.take n0) := by
                show comp KS (absorb KS (state KS H0 b') (rest b' ++ c.take n0) 0) _ = _
                simp only [absorb, Nat.mul_zero, List.drop_zero]
                rw [List.take_of_length_le (by omega)]
              rw [ha1]
              exact hB7
            · have := ho6c.mod ht7.mod fun x hx e => hno5 x hx (.inl e)
              simpa [bys] using this
      · have hs2 : s2.len = 0 := by simp at hl; omega
        have hr0 : rest b' = [] := List.eq_nil_of_length_eq_zero (by omega)
        rw [hr0] at ho3
        refine ⟨⟨s2, [], c, rfl, by rw [hr0]; rfl, hrs3, hrx, ?_, ho3, hb2⟩, hm3⟩
        rw [hr0]
        exact hB3
    · rintro q1 w8 hmid
      refine ⟨fun l w' => match l with | [.sl q'] => Mid w1 w' p s X b' c (UInt64.ofNat (b' ++ c).length) q' | _ => False, fun l _ => match l with | [.sl q'] => q'.len | _ => 0, hmid, ?_⟩
      rintro q2 w9 ⟨⟨s3, c1, c2, hcc, hmod, hrq, hqx, hB9, ho9, hb9⟩, hm9⟩
      have hal : (absorb KS (state KS H0 b') (rest b' ++ c1) ((rest b' ++ c1).length / 128)).length = 8 := absorb_len hst _
      have hc2 := rd_len8 hrq
      have hno9 := hb9.not hY hYl
      refine condK_i (fun hl => ?_) (fun hl => ?_)
      · have hq128 : 128 ≤ q2.len := by simp at hl; omega
        have hqc2 := hrq.2.1
        have hcut := SlRd.cut (SlRd.drew hrq) (l := 0) (n := 128) (m := q2.cap) (by omega) (by omega) (by omega) (Nat.le_refl _)
        rw [Nat.sub_zero, bys_cut, List.drop_zero] at hcut
        have hg9 : Glob w9 := hg.mod hm9 hGn
        refine ⟨⟨by omega, by omega⟩, ?_, trivial⟩
        refine callK_ret (c_block (w := w9.drew) (p := p) (h := absorb KS (state KS H0 b') (rest b' ++ c1) ((rest b' ++ c1).length / 128)) (T := THash) (r := [s3.val, .int .u64 (UInt64.ofNat (b' ++ c).length).toNat, .bool true]) hB9 hal hcut (by rw [List.length_take]; omega) hg9.drew h.pg) ?_
        rintro v w10 ⟨rfl, hB10, hm10⟩
        have hrq10 : SlRd w10 q2 1 (bys c2) := SlRd.mod (w := w9.drew) hrq hm10 fun x hx e => hXp (by rw [← e]; exact hqx x hx)
        have hcut2 := hrq10.cut (l := 128) (n := q2.len) (m := q2.cap) (by omega) (Nat.le_refl _) (by omega) (Nat.le_refl _)
        rw [bys_cut, List.take_of_length_le (by rw [List.length_drop]; omega)] at hcut2
        refine ⟨rfl, ⟨by omega, by omega⟩, ⟨⟨s3, c1 ++ c2.take 128, c2.drop 128, by rw [hcc, List.append_assoc, List.take_append_drop], ?_, hcut2, fun x hx => hqx x (blk_cut hx (Nat.le_refl _)), ?_, Own.mod (w := w9.drew) ho9 hm10 fun x hx e => hno9 x hx (.inl e), hb9⟩, (Mod.dr hm9).tr (hm10.mono fun _ _ e => .inl e)⟩, by simp only [cutSl]; omega⟩
        · rw [← List.append_assoc, List.length_append, List.length_take]; omega
        · have hl2 : (rest b' ++ (c1 ++ c2.take 128)).length / 128 = (rest b' ++ c1).length / 128 + 1 := by rw [← List.append_assoc, List.length_append, List.length_take]; omega
          rw [hl2, ← List.append_assoc]
          have e3 := absorb_add (ks := KS) (h := state KS H0 b') (a := rest b' ++ c1) (b := c2.take 128) (m := (rest b' ++ c1).length / 128) (by omega) 1
          rw [e3]
          have ha1 : ∀ st, absorb KS st (c2.take 128) 1 = comp KS st (c2.take 128) := fun st => by
            show comp KS (absorb KS st (c2.take 128) 0) _ = _
            simp only [absorb, Nat.mul_zero, List.drop_zero, List.take_take, Nat.min_self]
          rw [ha1]
          exact hB10
      · have hq128 : q2.len < 128 := by simp at hl; omega
        refine ⟨s3, hB9.rd1 (o := 8) (hw8 hal), ?_⟩
        have hs3 : s3.len = 0 := by have := ho9.1; simp [bys] at this; omega
        refine sem_append u26 h51 h52 h53 rfl h54 ho9 hrq (bys_one _) (by omega) (by omega) fun s4 w10 ho10 hlen10 hblk10 hm10 => ⟨s4, rfl, ?_⟩
        rw [← bys_app, List.nil_append] at ho10
        have hm10' := hb9.mod hm9 hBs hm10
        have hb10 : BO w1 s s4 := hb9.step hm9.size hblk10
        have hno10 := hb10.not hY hYl
        have hB10 := hB9.mod hm10 fun e => hno9 p e (.inl rfl)
        refine semU_store1 (b := p) (o := 8) (by kernel_rfl) (by kernel_rfl) rfl hB10 (by rw [hw_len hal]; omega) fun w11 ht11 hB11 => ⟨hend w11 s4 ⟨?_, ?_, fun e => hno10 p e (.inl rfl), h.pg, fun x hx e => hno10 x hx (.inr (.inl e))⟩ hb10 (hm10'.tr (ht11.mod.mono fun _ _ e => .inl e)), hmu⟩
        · have hdiv : (rest b' ++ c).length / 128 = (rest b' ++ c1).length / 128 := by rw [hcc, ← List.append_assoc, List.length_append]; omega
          have : state KS H0 (b' ++ c) = absorb KS (state KS H0 b') (rest b' ++ c1) ((rest b' ++ c1).length / 128) := by
            rw [state_app, hdiv]
            conv => lhs; rw [hcc, ← List.append_assoc]
            exact absorb_eq _ (by omega)
          rw [this, ← hw_set8 hal s4]
          exact hB11
        · have hdiv : (rest b' ++ c).length / 128 = (rest b' ++ c1).length / 128 := by rw [hcc, ← List.append_assoc, List.length_append]; omega
          have : rest (b' ++ c) = c2 := by
            rw [rest_app, hdiv, hcc, ← List.append_assoc, List.drop_append, List.drop_eq_nil_of_le (by omega), List.nil_append]
            have : 128 * ((rest b' ++ c1).length / 128) - (rest b' ++ c1).length = 0 := by omega
            rw [this, List.drop_zero]
          rw [this]
          exact ho10.mod ht11.mod fun x hx e => hno10 x hx (.inl e)
  · have hi' : i = pl.length := by simp at hc; omega
    subst hi'
    rw [List.take_length] at h2
    exact ⟨rfl, s2, h2, hb2, hm2⟩
theorem c_new {w : World} (hg : Glob w) : Calls Tryz.prog 327 #[] w (Ret fun v w' => ∃ p, v = .pointer (some ⟨p, 0, none⟩) ∧ HashAt w' p ⟨none, 0, 0⟩ [] ∧ p = w.heap.size ∧ w'.heap.size = p + 1 ∧ Mod NoB w w') := by
  refine call327 ?_
  unfold sh327
  refine ⟨_, _, _, _, _, _, _, _, hg.begin0, ?_⟩
  refine sem_box (l := HW H0 ⟨none, 0, 0⟩ 0) rfl fun p w1 hN hb => ⟨_, rfl, p, rfl, ⟨hb, own_nil _ _, by simp, hg.fresh (by rw [hN.at_]; exact Nat.le_refl _), by simp⟩, hN.at_, hN.size, hN.mod⟩
theorem c_clone {w : World} {s : Slc} {l : List UInt8} (hs : SlRd w s 1 (bys l)) (hn : l.length ≤ 1000000000) :
    Calls Tryz.prog 93 #[.slice s.a s.len s.cap] w (Ret fun v w' => ∃ s', v = s'.val ∧ Sh.Own w' s' 1 (bys l) ∧ (s'.blk = none ∨ ∃ x, s'.blk = some x ∧ w.heap.size ≤ x) ∧ Mod NoB w w') := by
  obtain ⟨i5', h51, h52, h53, h54⟩ := i5
  have hl := rd_len8 hs
  refine call93 _ ?_
  unfold sh93
  refine ps_eql_slc (e := 5) u26 ⟨_, rfl, condK_i (fun h => ?_) (fun h => ?_)⟩
  · have : l = [] := by
      rcases hs.2.2 with h0 | ⟨b, e1, _⟩
      · exact bys_inj (b := []) h0
      · rw [e1] at h; simp at h
    subst this
    exact ⟨⟨none, 0, 0⟩, rfl, own_nil _ _, .inl rfl, Mod.refl _ _⟩
  · refine sem_lit0 u26 h51 fun b w1 hN => ⟨⟨some ⟨b, 0, none⟩, 0, 0⟩, rfl, ?_⟩
    refine sem_append (s := ⟨some ⟨b, 0, none⟩, 0, 0⟩) u26 h51 h52 h53 rfl h54 (own_zero _ _ _) (hs.no hN.mod) (bys_one _) (by simp only []; omega) (by simp only []; omega) fun s' w2 ho hlen hblk hm => ⟨s', rfl, s', rfl, by simpa using ho, ?_, ?_⟩
    · rcases hblk with h | h
      · exact .inl (by rw [h]; simp)
      · exact .inr ⟨_, h, hN.mod.size⟩
    · exact hN.mod.fresh hm fun x e => by simp at e
theorem c_copy {w : World} {p : Nat} {s : Slc} {b : List UInt8} (h : HashAt w p s b) (hg : Glob w) (hn : b.length ≤ 1000000000) :
    Calls Tryz.prog 434 #[.pointer (some ⟨p, 0, none⟩)] w (Ret fun v w' => ∃ p' s', v = .pointer (some ⟨p', 0, none⟩) ∧ HashAt w' p' s' b ∧ w.heap.size ≤ p' ∧ (s'.blk = none ∨ ∃ x, s'.blk = some x ∧ w.heap.size ≤ x) ∧ Mod NoB w w') := by
  refine call434 _ ?_
  unfold sh434
  refine callK_ret (c_there h.blk (st_len b)) ?_
  rintro v w1 ⟨rfl, rfl⟩
  refine ⟨true, rfl, ?_⟩
  show condK false _ _
  refine condK_i (fun e => by cases e) fun _ => ?_
  obtain ⟨ih, hi1, hi2, -, -⟩ := (info_of (by kernel_rfl) (by kernel_rfl) (by kernel_rfl) : ∃ i, Tryz.prog.info? 514 = some i ∧ i.zero = some (.agg (List.replicate 8 z64 ++ [.slice none 0 0, z64, .bool false]).toArray) ∧ i.size = 11 ∧ i.bytes = 104)
  obtain ⟨k0, k1, k2, k3, k4, k5, k6, k7, hk⟩ := list8 (st_len b)
  have hB := h.blk
  rw [hk] at hB
  have hpl := h.blk.lt
  refine ⟨k0, k1, k2, k3, k4, k5, k6, k7, s, UInt64.ofNat b.length, true, hB.rd (o := 0) (vs := HW [k0, k1, k2, k3, k4, k5, k6, k7] s (UInt64.ofNat b.length)) (fun j v hj => by rw [Nat.zero_add]; exact hj), ?_⟩
  refine sem_alloc (l := List.replicate 8 z64 ++ [.slice none 0 0, z64, .bool false]) hi1 hi2 rfl fun p' w2 hN hb2 => ⟨_, rfl, ?_⟩
  have hat := hN.at_; have hsz := hN.size
  refine semU_store (b := p') (o := 0) (vs := HW [k0, k1, k2, k3, k4, k5, k6, k7] s (UInt64.ofNat b.length)) (by kernel_rfl) (by kernel_rfl) rfl hb2 (by simp [HW]) (by
    intro u hu
    rcases List.mem_append.1 hu with hu | hu
    · exact us_one _ u hu
    · simp at hu; rcases hu with rfl | rfl | rfl <;> rfl) fun w3 ht3 hb3 => ?_
  have hb3 : Blk w3 p' (HW [k0, k1, k2, k3, k4, k5, k6, k7] s (UInt64.ofNat b.length)) THash := hb3
  have hm3 : Mod NoB w1 w3 := hN.mod.fresh ht3.mod fun x e => by omega
  have hB3 := h.blk.no hm3
  refine ⟨s, hB3.rd1 (o := 8) (hw8 (st_len b)), ?_⟩
  have ho3 := h.own.no hm3
  refine callK_ret (c_clone ho3.rd (by rw [rest_len]; omega)) ?_
  rintro v w4 ⟨s', rfl, ho4, hblk4, hm4⟩
  refine ⟨s', rfl, ?_⟩
  have hb4 := hb3.no hm4
  have hsz3 := ht3.size
  have hno : ∀ x, s'.blk = some x → w3.heap.size ≤ x := fun x hx => by
    rcases hblk4 with e | ⟨y, e, hy⟩
    · rw [e] at hx; cases hx
    · rw [e] at hx; cases hx; exact hy
  refine semU_store1 (b := p') (o := 8) (by kernel_rfl) (by kernel_rfl) rfl hb4 (by simp [HW]) fun w5 ht5 hb5 => ⟨p', s', rfl, ⟨?_, ?_, ?_, hg.fresh (by omega), fun x hx => hg.fresh (by have := hno x hx; omega)⟩, by omega, ?_, ?_⟩
  · have : (HW [k0, k1, k2, k3, k4, k5, k6, k7] s (UInt64.ofNat b.length)).set 8 s'.val = HW [k0, k1, k2, k3, k4, k5, k6, k7] s' (UInt64.ofNat b.length) := rfl
    rw [hk, ← this]; exact hb5
  · exact ho4.mod ht5.mod fun x hx e => by have := hno x hx; omega
  · intro e; have := hno p' e; omega
  · rcases hblk4 with e | ⟨y, e, hy⟩
    · exact .inl e
    · exact .inr ⟨y, e, by omega⟩
  · exact (hm3.tr hm4).fresh ht5.mod fun x e => by omega
section
variable {K : Slc → World → Prop} {w : World}
theorem sem_byte0 {w0 : World} {s : Slc} {l : List UInt8} {c : UInt8} (hs : Row0 5 w s (bys l)) (hf : FB w0 s) (hm : Mod NoB w0 w) (hn : l.length ≤ 2000000000)
    (hK : ∀ (s' : Slc) w', Row0 5 w' s' (bys (l ++ [c])) → FB w0 s' → Mod NoB w0 w' → s'.len = s.len + 1 → K s' w') :
    semK Tryz.prog (Instr.buildSlice 22 1 #[(0, (.int .u8 c.toNat))]) w fun v w2 => ∃ x1 : Slc, v = (.slice x1.a x1.len x1.cap) ∧ semK Tryz.prog (Builtin.append_ #[22, 22] 22 #[(.slice s.a s.len s.cap), (.slice x1.a x1.len x1.cap)]) w2 fun v1 w3 => ∃ x2 : Slc, v1 = (.slice x2.a x2.len x2.cap) ∧ K x2 w3 := by
  obtain ⟨i5', h51, h52, h53, h54⟩ := i5
  have hl := rd_len8 hs.own.rd
  refine sem_lit (l := [.int .u8 c.toNat]) [.int .u8 c.toNat] u26 h51 h52 h53 (by decide) rfl (by decide) (by decide) rfl (by simp [Value.cells]) rfl fun b w1 hN hb => ⟨⟨_, _, _⟩, rfl, ?_⟩
  have hm1 := hm.tr hN.mod
  refine sem_append_row u26 h51 h52 h53 rfl h54 (hs.mod hN.mod fun _ _ h => h) (own_whole (n := 1) (k := 1) hb rfl).rd (bys_one [c]) (by simp only []; omega) (by simp only []; omega) (by simp only []; omega) fun s' w2 ho hlen hblk hm2 => ⟨s', rfl, hK s' w2 ?_ (hf.step hm1.size hblk) (hf.mod hm1 hm2) hlen⟩
  rw [bys_app]; exact ho
end
theorem be8_at (x : UInt64) : ∀ k, k < 8 → (be8 x)[k]? = some (shrU64 x (56 - 8 * k)).toUInt8
  | 0, _ => rfl | 1, _ => rfl | 2, _ => rfl | 3, _ => rfl | 4, _ => rfl | 5, _ => rfl | 6, _ => rfl | 7, _ => rfl
  | n + 8, h => by omega
theorem be8_take {x : UInt64} {k : Nat} (h : k < 8) : (be8 x).take (k + 1) = (be8 x).take k ++ [(shrU64 x (56 - 8 * k)).toUInt8] := by
  have := be8_at x k h
  rw [take_snoc (by simpa using h)]
  rw [List.getElem?_eq_getElem (by simpa using h)] at this
  rw [Option.some.inj this]
theorem c_sumHW {w : World} {p : Nat} {s : Slc} {b : List UInt8} (h : HashAt w p s b) (hg : Glob w) (hn : b.length ≤ 900000000) :
    Calls Tryz.prog 329 #[.pointer (some ⟨p, 0, none⟩)] w (Ret fun v w' => ∃ x : Slc, v = x.val ∧ Row0 5 w' x (bys (sha b)) ∧ FB w x ∧ Mod NoB w w') := by
  refine call329 _ ?_
  unfold sh329
  obtain ⟨i5', h51, h52, h53, h54⟩ := i5
  obtain ⟨i26', h261, h262, h263, h264⟩ := i26
  refine callK_ret (c_copy h hg (by omega)) ?_
  rintro v w1 ⟨p', s1, rfl, hh1, hp1, hs1, hm1⟩
  refine ⟨_, rfl, ps_eql_ptr (e := THash) (by kernel_rfl) ⟨_, rfl, condK_i (fun e => by cases e) fun _ => ?_⟩⟩
  have hFs : FB w s1 := FB.of hs1
  have hp1l := hh1.blk.lt
  have hrl := rest_len b
  have hleft : (rest b).length = s1.len := rd_len8 hh1.own.rd
  refine ⟨UInt64.ofNat b.length, hh1.blk.rd1 (o := 9) (hw9 (st_len b)), ?_⟩
  refine sem_makeSlice (l := 0) (c := 256) u26 h51 h52 h53 rfl h54 rfl rfl (by omega) (by omega) (by omega) fun e0 w2 hN2 hb2 ho2 => ⟨⟨_, _, _⟩, rfl, ?_⟩
  have hm2 : Mod NoB w w2 := hm1.tr hN2.mod
  have hf2 : FB w ⟨some ⟨e0, 0, none⟩, 0, 256⟩ := FB.new (by rw [hN2.at_]; exact hm1.size)
  have hsep : ∀ (w' : World), Mod NoB w1 w' → HashAt w' p' s1 b := fun w' hm => hh1.no hm
  have hf2' : FB w1 ⟨some ⟨e0, 0, none⟩, 0, 256⟩ := FB.new (by rw [hN2.at_]; exact Nat.le_refl _)
  refine sem_byte (w0 := w1) (l := []) (c := 128) (s := ⟨some ⟨e0, 0, none⟩, 0, 256⟩) ho2 hf2' hN2.mod (by simp) fun s3 w3 ho3 hf3 hm3 hl3 => ?_
  refine ⟨fun l w' => match l with | [.sl q] => ∃ j : Nat, j ≤ padZ b.length ∧ Sh.Own w' q 1 (bys ([128] ++ List.replicate j 0)) ∧ FB w1 q ∧ Mod NoB w1 w' | _ => False, fun l _ => match l with | [.sl q] => 1 + padZ b.length - q.len | _ => 0, ⟨0, by omega, ho3, hf3, hm3⟩, ?_⟩
  rintro q w4 ⟨j, hj, hoq, hfq, hm4⟩
  have hql : q.len = 1 + j := by have := rd_len8 hoq.rd; simp at this; omega
  have hh4 := hsep w4 hm4
  have hpz : padZ b.length < 128 := Nat.mod_lt _ (by decide)
  have hpz2 : padZ b.length = (239 - b.length % 128) % 128 := rfl
  have hw : IntKind.i64.wrap ((s1.len : Int) + (q.len : Int)) = ((s1.len + q.len : Nat) : Int) := by rw [wrap_i64 (by omega)]; omega
  refine ⟨s1, hh4.blk.rd1 (o := 8) (hw8 (st_len b)), by decide, ?_⟩
  rw [hw]
  have htm : Int.tmod ((s1.len + q.len : Nat) : Int) (128 : Int) = ((s1.len + q.len) % 128 : Nat) := rfl
  rw [htm]
  refine condK_i (fun hc => ?_) (fun hc => ?_)
  · have hne : (s1.len + q.len) % 128 ≠ 112 := by simp at hc; omega
    have hjlt : j < padZ b.length := by omega
    refine sem_byte (w0 := w1) (c := 0) hoq hfq hm4 (by simp; omega) fun s5 w5 ho5 hf5 hm5 hl5 => ⟨⟨j + 1, by omega, ?_, hf5, hm5⟩, by (try simp only []); omega⟩
    rw [List.append_assoc, ← List.replicate_succ'] at ho5
    exact ho5
  · have heq : (s1.len + q.len) % 128 = 112 := by simp at hc; omega
    have hjeq : j = padZ b.length := by omega
    subst hjeq
    refine sem_append_zeros (t2 := 3) (k2 := .i64) (z := .int .u8 0) (n := 8) (s := q) u26 (by kernel_rfl) h51 h52 h53 rfl rfl h54 rfl hoq (by omega) (by omega) fun s5 w5 ho5 hl5 hblk5 hm5 => ⟨s5, rfl, ?_⟩
    rw [bys_rep, ← bys_app] at ho5
    have hf5 := hfq.step hm4.size hblk5
    have hm5 := hfq.mod hm4 hm5
    refine ⟨fun l w' => match l with | [.sl q, .i _ s] => ∃ k : Nat, s = 56 - 8 * (k : Int) ∧ k ≤ 8 ∧ Sh.Own w' q 1 (bys ([128] ++ List.replicate (padZ b.length) 0 ++ List.replicate 8 0 ++ (be8 (8 * UInt64.ofNat b.length)).take k)) ∧ FB w1 q ∧ Mod NoB w1 w' | _ => False,
      fun l _ => match l with | [.sl q, .i _ s] => (s + 8).toNat | _ => 0, ⟨0, by omega, by omega, by simpa using ho5, hf5, hm5⟩, ?_⟩
    rintro q6 t w6 ⟨k, rfl, hk, ho6, hf6, hm6⟩
    refine condK_i (fun hc => ?_) (fun hc => ?_)
    · have hk8 : k < 8 := by simp at hc; omega
      have hsN : (56 - 8 * (k : Int)).toNat = 56 - 8 * k := by omega
      rw [hsN]
      refine ⟨by omega, sem_byte (w0 := w1) ho6 hf6 hm6 (by simp; omega) fun s7 w7 ho7 hf7 hm7 hl7 => ⟨⟨k + 1, ?_, by omega, ?_, hf7, hm7⟩, ?_⟩⟩
      · rw [wrap_i64 (by omega)]; omega
      · rw [be8_take hk8, ← List.append_assoc]; exact ho7
      · rw [wrap_i64 (by omega)]; (try simp only []); omega
    · have hk8 : k = 8 := by simp at hc; omega
      subst hk8
      rw [List.take_of_length_le (by simp)] at ho6
      have hpe : [128] ++ List.replicate (padZ b.length) 0 ++ List.replicate 8 0 ++ be8 (8 * UInt64.ofNat b.length) = padEnd b.length := rfl
      rw [hpe] at ho6
      have hq6 := rd_len8 ho6.rd
      have hpel : (padEnd b.length).length ≤ 256 := (pad_len b).2
      refine sem_lit (l := [q6.val]) [q6.val] u22 h261 h262 h263 (by decide) rfl (by decide) (by decide) rfl (by simp [Slc.val, Value.cells]) rfl fun e7 w7 hN7 hb7 => ⟨⟨_, _, _⟩, rfl, ?_⟩
      have hm7 := hm6.tr hN7.mod
      have hh7 := hsep w7 hm7
      have ho7 := ho6.no hN7.mod
      have he7 := hN7.at_
      have hq6l : ∀ x, q6.blk = some x → w1.heap.size ≤ x ∧ x < w6.heap.size := fun x hx => ⟨hf6 x hx, ho6.lt hx⟩
      have hs1l : ∀ x, s1.blk = some x → x < w1.heap.size := fun x hx => hh1.own.lt hx
      have hm6s := hm6.size
      have hsz7 := hN7.size
      have hparts : PartsAt w7 ⟨some ⟨e7, 0, none⟩, 1, 1⟩ [padEnd b.length] (fun x => x = e7 ∨ q6.blk = some x) := by
        refine ⟨[q6], (own_whole (n := 1) (k := 1) hb7 rfl).rd, fun x hx => .inl ?_, rfl, fun i hi hi' => ?_⟩
        · simp at hx; omega
        · have : i = 0 := by simp at hi; omega
          subst this
          exact ⟨ho7.rd, fun x hx => .inr hx⟩
      refine callK_ret (c_write hh7 (hg.no (hm1.tr hm7)) hparts (fun e => e.elim (fun e => by omega) fun e => by have := hq6l _ e; omega) (fun x hx e => e.elim (fun e => by have := hs1l x hx; omega) fun e => by have := hq6l _ e; have := hs1l x hx; omega)
        (fun x e => e.elim (fun e => by omega) fun e => by have := hq6l _ e; omega) (by simp; omega) (by simp)) ?_
      rintro v w8 ⟨rfl, s8, hh8, hb8, hm8⟩
      have hm8' : Mod NoB w w8 := (hm1.tr hm7).fresh hm8 fun x e => e.elim (fun e => by omega) fun e => hFs x e
      have hpad : b ++ [padEnd b.length].flatten = pad b := by simp [pad]
      rw [hpad] at hh8
      obtain ⟨k0, k1, k2, k3, k4, k5, k6, k7, hst⟩ := list8 (st_len (pad b))
      have hB8 := hh8.blk
      rw [hst] at hB8
      have hsha : sha b = digest [k0, k1, k2, k3, k4, k5, k6, k7] := by unfold sha; rw [shaBy_eq, hst]
      refine ⟨_, rfl, k0, k1, k2, k3, k4, k5, k6, k7, hB8.rd (o := 0) (vs := us [k0, k1, k2, k3, k4, k5, k6, k7]) (fun j v hj => by
        rw [Nat.zero_add]; unfold HW; rw [List.getElem?_append_left (List.getElem?_eq_some_iff.1 hj).1, hj]), ?_⟩
      rw [hsha]
      obtain ⟨st, hstd⟩ : ∃ st, st = [k0, k1, k2, k3, k4, k5, k6, k7] := ⟨_, rfl⟩
      have hstl : st.length = 8 := by rw [hstd]; rfl
      have htv : ([.u64 k0, .u64 k1, .u64 k2, .u64 k3, .u64 k4, .u64 k5, .u64 k6, .u64 k7] : List TV) = st.map TV.u64 := by rw [hstd]; rfl
      rw [htv, ← hstd]
      refine ⟨fun l w' => match l with | [.sl q, .i _ x] => ∃ i : Nat, x = i ∧ i ≤ 8 ∧ Row0 5 w' q (bys (digest (st.take i))) ∧ FB w q ∧ Mod NoB w w' | _ => False, fun l _ => match l with | [.sl q, .i _ x] => (8 - x).toNat | _ => 0,
        ⟨0, rfl, by omega, .inl ⟨rfl, rfl⟩, FB.nil _, hm8'⟩, ?_⟩
      rintro out x w9 ⟨i, rfl, hi, ho9, hf9, hm9⟩
      have hdl : ∀ (l : List UInt64), (digest l).length = 8 * l.length := fun l => by
        induction l with
        | nil => rfl
        | cons a l ih => simp [digest] at ih ⊢; omega
      refine condK_i (fun hc => ?_) (fun hc => ?_)
      · have hi8 : i < 8 := by simp at hc; omega
        refine ⟨⟨by omega, by omega⟩, ?_, st[i], ?_, ?_⟩
        · intro z hz
          obtain ⟨y, _, rfl⟩ := List.mem_map.1 hz
          rfl
        · rw [Int.toNat_natCast, List.getElem?_map, List.getElem?_eq_getElem (by omega)]; rfl
        refine ⟨fun l w' => match l with | [.sl q, .i _ s] => ∃ k : Nat, s = 56 - 8 * (k : Int) ∧ k ≤ 8 ∧ Row0 5 w' q (bys (digest (st.take i) ++ (be8 st[i]).take k)) ∧ FB w q ∧ Mod NoB w w' | _ => False,
          fun l _ => match l with | [.sl q, .i _ s] => (s + 8).toNat | _ => 0, ⟨0, by omega, by omega, by simpa using ho9, hf9, hm9⟩, ?_⟩
        rintro q10 t w10 ⟨k, rfl, hk, ho10, hf10, hm10⟩
        refine condK_i (fun hc => ?_) (fun hc => ?_)
        · have hk8 : k < 8 := by simp at hc; omega
          have hsN : (56 - 8 * (k : Int)).toNat = 56 - 8 * k := by omega
          rw [hsN]
          refine ⟨by omega, sem_byte0 (w0 := w) ho10 hf10 hm10 (by simp [hdl]; omega) fun s7 w7 ho7 hf7 hm7 hl7 => ⟨⟨k + 1, ?_, by omega, ?_, hf7, hm7⟩, ?_⟩⟩
          · rw [wrap_i64 (by omega)]; omega
          · rw [be8_take hk8, ← List.append_assoc]; exact ho7
          · rw [wrap_i64 (by omega)]; (try simp only []); omega
        · have hk8 : k = 8 := by simp at hc; omega
          subst hk8
          rw [List.take_of_length_le (l := be8 (st[i]'(by omega))) (by rw [be8_len]; omega)] at ho10
          refine ⟨⟨i + 1, wrap_nat (by omega), by omega, ?_, hf10, hm10⟩, ?_⟩
          · rw [take_snoc (by omega)]
            have : digest (st.take i ++ [st[i]]) = digest (st.take i) ++ be8 st[i] := by simp only [digest, List.flatMap_append, List.flatMap_cons, List.flatMap_nil, List.append_nil]
            rw [this]; exact ho10
          · rw [wrap_nat (by omega)]; (try simp only []); omega
      · have hi8 : i = 8 := by simp at hc; omega
        subst hi8
        rw [List.take_of_length_le (by omega)] at ho9
        exact ⟨out, rfl, ho9, hf9, hm9⟩
theorem c_sumW {w : World} {parts : Slc} {pl : List (List UInt8)} {X : Nat → Prop} (hg : Glob w) (hp : PartsAt w parts pl X) (hXl : ∀ x, X x → x < w.heap.size) (hn : (pl.flatten).length ≤ 900000000) (hm : pl.length ≤ 1000000000) :
    Calls Tryz.prog 203 #[.slice parts.a parts.len parts.cap] w (Ret fun v w' => ∃ x : Slc, v = x.val ∧ Row0 5 w' x (bys (sha pl.flatten)) ∧ FB w x ∧ Mod NoB w w') := by
  refine call203 _ ?_
  unfold sh203
  refine callK_ret (c_new hg) ?_
  rintro v w1 ⟨p, rfl, hh1, hp1, hs1, hm1⟩
  refine ⟨_, rfl, ?_⟩
  refine callK_ret (c_write hh1 (hg.no hm1) (hp.mod hm1 fun _ _ h => h) (fun e => by have := hXl _ e; omega) (fun x hx => by simp at hx) (fun x e => by have := hXl _ e; omega) (by rw [List.length_nil, Nat.zero_add]; omega) hm) ?_
  rintro v w2 ⟨rfl, s2, hh2, hb2, hm2⟩
  have hm2' : Mod NoB w w2 := hm1.fresh hm2 fun x e => e.elim (fun e => by omega) fun e => by simp at e
  refine ⟨_, rfl, callK_ret (c_sumHW hh2 (hg.no hm2') (by simpa using hn)) ?_⟩
  rintro v w3 ⟨x, rfl, ho, hf, hm3⟩
  rw [List.nil_append] at ho
  exact ⟨x, rfl, x, rfl, ho, hf.le hm2'.size, hm2'.tr hm3⟩
theorem c_sum {w : World} {parts : Slc} {pl : List (List UInt8)} {X : Nat → Prop} (hg : Glob w) (hp : PartsAt w parts pl X) (hXl : ∀ x, X x → x < w.heap.size) (hn : (pl.flatten).length ≤ 900000000) (hm : pl.length ≤ 1000000000) :
    Calls Tryz.prog 203 #[.slice parts.a parts.len parts.cap] w (Ret fun v w' => ∃ x : Slc, v = x.val ∧ Sh.Own w' x 1 (bys (sha pl.flatten)) ∧ FB w x ∧ Mod NoB w w') :=
  Calls.mono (c_sumW hg hp hXl hn hm) fun e w' he => by
    cases e <;> first | exact he.elim | skip
    obtain ⟨x, h1, h2, h3⟩ := he
    exact ⟨x, h1, h2.own, h3⟩
end Go.Proofs.YtgemgaofamloeaaGreatDoor
end
section
namespace Go.Proofs.YtgemgaofamloeaaGreatDoor
open Go Go.Sh Go.X
structure GS (w : World) : Prop where
  sha : Glob w
  ge : GE w
theorem GS.no {w w' : World} (h : GS w) (hm : Mod NoB w w') : GS w' := ⟨h.sha.no hm, GE_no h.ge _ hm⟩
theorem sha_len' (b : List UInt8) : (sha b).length = 64 := by rw [sha, shaBy_eq]; exact digest_len (st_len _)
def clampB (D : List UInt8) : List UInt8 := (D.set 0 (D.getD 0 0 &&& ~~~(7 : UInt8))).set 31 ((D.getD 31 0 &&& 63) ||| 64)
def secB (l : List UInt8) : List UInt8 := (clampB (sha l)).take 32
def drwB (l : List UInt8) : List UInt8 := (clampB (sha l)).drop 32
noncomputable def keyP (l : List UInt8) : P4 := mulB baseP (bitsT (secB l))
noncomputable def pubF (l : List UInt8) : List UInt8 := putP (keyP l)
theorem pubF_len (l : List UInt8) : (pubF l).length = 32 := putP_len _
structure OpenF (w0 w : World) (o : Nat) (l : List UInt8) : Prop where
  cells : ∃ (ps : List UInt64) (s d : Slc) (T : TypeId), ps.length = 20 ∧ P4.of ps (keyP l) ∧ Blk w o (us ps ++ [s.val, d.val]) T ∧ SlRd w s 1 (bys (secB l)) ∧ SlRd w d 1 (bys (drwB l)) ∧ (∀ z, s.blk = some z → w0.heap.size ≤ z ∧ z < w.heap.size) ∧ (∀ z, d.blk = some z → w0.heap.size ≤ z ∧ z < w.heap.size)
  new : w0.heap.size ≤ o
theorem OpenF.no {w0 w w' : World} {o : Nat} {l : List UInt8} (h : OpenF w0 w o l) (hm : Mod NoB w w') : OpenF w0 w' o l := by
  obtain ⟨⟨ps, s, d, T, h1, h0, h2, h3, h4, h5, h6⟩, hn⟩ := h
  exact ⟨⟨ps, s, d, T, h1, h0, h2.no hm, h3.no hm, h4.no hm, fun z hz => ⟨(h5 z hz).1, Nat.lt_of_lt_of_le (h5 z hz).2 hm.size⟩, fun z hz => ⟨(h6 z hz).1, Nat.lt_of_lt_of_le (h6 z hz).2 hm.size⟩⟩, hn⟩
theorem c_openF {w : World} {seed : Slc} {l : List UInt8} (hg : GS w) (hs : SlRd w seed 1 (bys l)) (hsl : ∀ z, seed.blk = some z → z < w.heap.size) (hl : l.length = 32) :
    Calls Tryz.prog 105 #[.slice seed.a seed.len seed.cap] w (Ret fun v w' => ∃ o, v = .tuple #[.pointer (some ⟨o, 0, none⟩), .bool true] ∧ OpenF w w' o l ∧ Mod NoB w w') := by
  refine call105 _ ?_
  unfold sh105
  have hlen := rd_len8 hs
  refine condK_i (fun h => by simp at h; omega) fun _ => ?_
  refine sem_rows [seed] rfl rfl (by omega) (by omega) fun x vb w1 hN1 ex hB1 hx1 => ⟨x, rfl, ?_⟩
  subst ex
  refine callK_ret (c_sum (pl := [l]) (X := fun z => z < w1.heap.size) (hg.no hN1.mod).sha ⟨[seed], hx1.rd, fun z hz => hx1.lt hz, rfl, rows1 (hs.no hN1.mod) (fun z hz => Nat.lt_of_lt_of_le (hsl z hz) hN1.mod.size)⟩ (fun _ h => h) (by simp; omega) (by simp)) ?_
  rintro v w2 ⟨d, rfl, ho2, hb2, hm2⟩
  have hM2 := hN1.mod.tr hm2
  have hdl := rd_len8 ho2.rd
  rw [sha_len'] at hdl
  have hdc := ho2.2.1
  have hcl : clampB (sha l) = ((sha [l].flatten).set 0 ((sha [l].flatten).getD 0 0 &&& ~~~(7 : UInt8))).set 31 (((sha [l].flatten).getD 31 0 &&& 63) ||| 64) := by simp [clampB]
  generalize hsh : sha [l].flatten = D at *
  have hD : D.length = 64 := by rw [← hsh]; exact sha_len' _
  rcases ho2.owned with ⟨e1, _, _⟩ | ⟨hz1, db, o, L, E, ea, hB, hfit, hcon⟩
  · omega
  obtain ⟨da, dl, dc⟩ := d
  simp only [] at hdl hdc ea hz1 hfit hcon
  subst hdl ea
  have hdb : w.heap.size ≤ db := Nat.le_trans hN1.mod.size (hb2 db (Slc.blk_of rfl hz1))
  have ec : cutSl ⟨some ⟨db, o, none⟩, 64, dc⟩ 1 0 32 32 = ⟨some ⟨db, o, none⟩, 32, 32⟩ := by unfold cutSl; rw [if_neg (by omega)]; simp
  have ec2 : cutSl ⟨some ⟨db, o, none⟩, 64, dc⟩ 1 32 64 dc = ⟨some ⟨db, o + 32, none⟩, 32, dc - 32⟩ := by unfold cutSl; rw [if_neg (by omega)]; simp
  have i32 : ((32 : Int)).toNat = 32 := rfl
  have hk : ∀ {w' : World} {m : List UInt8} (ho : Sh.Own w' ⟨some ⟨db, o, none⟩, 64, dc⟩ 1 (bys m)) {i : Nat} (hi : i < m.length), Rd w' ((⟨db, o, none⟩ : Addr).add (i * 1)) [.int .u8 m[i].toNat] := fun ho i hi => by
    obtain ⟨a, e, hr⟩ := rd_u8 ho.rd hi
    cases e; exact hr
  refine ⟨⟨_, _, _⟩, rfl, ?_⟩
  simp only [i32, ec, ec2]
  refine ⟨⟨by omega, by omega, by omega⟩, ⟨by omega, by omega⟩, _, hk ho2 (i := 0) (by omega), ⟨by omega, by omega⟩, ?_⟩
  refine semU_own1 (by kernel_rfl) (by kernel_rfl) rfl ho2 rfl (i := 0) (by show 0 < 64; omega) fun w3 ho3 hm3 hs3 => ?_
  rw [bys_set] at ho3
  refine ⟨⟨by omega, by omega⟩, _, hk ho3 (i := 31) (by simp; omega), ⟨by omega, by omega⟩, ?_⟩
  refine semU_own1 (by kernel_rfl) (by kernel_rfl) rfl ho3 rfl (i := 31) (by show 31 < 64; omega) fun w4 ho4 hm4 hs4 => ?_
  rw [bys_set] at ho4
  have hcD : (D.set 0 (D[0] &&& ~~~(7 : UInt8))).set 31 (((D.set 0 (D[0] &&& ~~~(7 : UInt8)))[31]'(by simp; omega) &&& 63) ||| 64) = clampB (sha l) := by
    rw [hcl]
    simp [List.getD, hD]
  rw [hcD] at ho4
  have hbd : ∀ z, Slc.blk ⟨some ⟨db, o, none⟩, 64, dc⟩ = some z → w.heap.size ≤ z := fun z hz => by rw [Slc.blk_mk, if_neg (by omega)] at hz; cases hz; exact hdb
  have hM4 : Mod NoB w w4 := (hM2.fresh hm3 hbd).fresh hm4 hbd
  have hCl : (clampB (sha l)).length = 64 := by simp [clampB, sha_len']
  refine ⟨⟨by omega, by show (32 : Int) ≤ ((64 : Nat) : Int); omega⟩, ?_, trivial⟩
  refine callK_ret (c_BaseF (hg.no (hM4.tr (Mod.drew _ _))).ge) ?_
  rintro v w5 ⟨bl, hbl1, hbl2, rfl, hm5⟩
  obtain ⟨x0, x1, x2, x3, x4, x5, x6, x7, x8, x9, x10, x11, x12, x13, x14, x15, x16, x17, x18, x19, rfl⟩ := lst20 hbl1
  refine ⟨x0, x1, x2, x3, x4, x5, x6, x7, x8, x9, x10, x11, x12, x13, x14, x15, x16, x17, x18, x19, rfl, ?_, trivial⟩
  have hM5 : Mod NoB w w5 := (hM4.tr (Mod.drew _ _)).tr hm5
  have ho5 : Sh.Own w5 ⟨some ⟨db, o, none⟩, 64, dc⟩ 1 _ := ho4.no ((Mod.drew _ _).tr hm5)
  have hmk : ∀ {m : List UInt8} {w' : World} (ho : Sh.Own w' ⟨some ⟨db, o, none⟩, 64, dc⟩ 1 (bys m)), m.length = 64 → SlRd w' ⟨some ⟨db, o, none⟩, 32, 32⟩ 1 (bys (m.take 32)) ∧ SlRd w' ⟨some ⟨db, o + 32, none⟩, 32, dc - 32⟩ 1 (bys (m.drop 32)) := fun {m w'} ho hm => by
    have h1 := ho.rd.cut (l := 0) (n := 32) (m := 32) (by omega) (by simp only []; omega) (by omega) (by simp only []; omega)
    have h2 := ho.rd.cut (l := 32) (n := 64) (m := dc) (by omega) (by simp only []; omega) (by omega) (by simp only []; omega)
    rw [ec, bys_cut] at h1
    rw [ec2, bys_cut] at h2
    refine ⟨by simpa using h1, ?_⟩
    have : (m.drop 32).take (64 - 32) = m.drop 32 := List.take_of_length_le (by simp; omega)
    rw [this] at h2; exact h2
  have hbl : db < w5.heap.size := ho5.lt (Slc.blk_of rfl hz1)
  have hx1 := (hmk (m := clampB (sha l)) ho5 hCl).1
  have hmul := c_eMulF (hg.no hM5).ge hx1 (fun z hz => by rw [Slc.blk_mk] at hz; simp at hz; omega) hbl2
  refine callK_ret hmul ?_
  rintro v w6 ⟨kl, hk1, hk2, rfl, hm6⟩
  obtain ⟨y0, y1, y2, y3, y4, y5, y6, y7, y8, y9, y10, y11, y12, y13, y14, y15, y16, y17, y18, y19, rfl⟩ := lst20 hk1
  refine ⟨y0, y1, y2, y3, y4, y5, y6, y7, y8, y9, y10, y11, y12, y13, y14, y15, y16, y17, y18, y19, rfl, ?_, trivial⟩
  have ho6 := ho5.no hm6
  refine sem_box (l := us [y0, y1, y2, y3, y4, y5, y6, y7, y8, y9, y10, y11, y12, y13, y14, y15, y16, y17, y18, y19] ++ [Slc.val ⟨some ⟨db, o, none⟩, 32, 32⟩, Slc.val ⟨some ⟨db, o + 32, none⟩, 32, dc - 32⟩]) rfl fun q w7 hN7 hb7 => ⟨_, rfl, q, rfl, ⟨⟨_, ⟨some ⟨db, o, none⟩, 32, 32⟩, ⟨some ⟨db, o + 32, none⟩, 32, dc - 32⟩, _, rfl, hk2, hb7, (hmk (ho6.no hN7.mod) hCl).1, (hmk (ho6.no hN7.mod) hCl).2, fun z hz => ?_, fun z hz => ?_⟩, ?_⟩, (hM5.tr hm6).tr hN7.mod⟩
  · rw [Slc.blk_mk] at hz; simp at hz; have := hm6.size; have := hN7.mod.size; omega
  · rw [Slc.blk_mk] at hz; split at hz
    · cases hz
    · simp at hz; have := hm6.size; have := hN7.mod.size; omega
  · have := hN7.at_; have := (hM5.tr hm6).size; omega
theorem rd20F {w : World} {o : Nat} {ps : List UInt64} {r : List Value} {T : TypeId} {p : P4} (hB : Blk w o (us ps ++ r) T) (hp : ps.length = 20) (hP : P4.of ps p) {K : UInt64 → UInt64 → UInt64 → UInt64 → UInt64 → UInt64 → UInt64 → UInt64 → UInt64 → UInt64 → UInt64 → UInt64 → UInt64 → UInt64 → UInt64 → UInt64 → UInt64 → UInt64 → UInt64 → UInt64 → Prop}
    (hK : ∀ x0 x1 x2 x3 x4 x5 x6 x7 x8 x9 x10 x11 x12 x13 x14 x15 x16 x17 x18 x19, P4.of [x0, x1, x2, x3, x4, x5, x6, x7, x8, x9, x10, x11, x12, x13, x14, x15, x16, x17, x18, x19] p → K x0 x1 x2 x3 x4 x5 x6 x7 x8 x9 x10 x11 x12 x13 x14 x15 x16 x17 x18 x19) :
    ∃ xaa xab xac xad xae xba xbb xbc xbd xbe xca xcb xcc xcd xce xda xdb xdc xdd xde : UInt64, Rd w ((⟨o, 0, none⟩ : Addr).add 0) (l20 xaa xab xac xad xae xba xbb xbc xbd xbe xca xcb xcc xcd xce xda xdb xdc xdd xde) ∧ K xaa xab xac xad xae xba xbb xbc xbd xbe xca xcb xcc xcd xce xda xdb xdc xdd xde := by
  obtain ⟨x0, x1, x2, x3, x4, x5, x6, x7, x8, x9, x10, x11, x12, x13, x14, x15, x16, x17, x18, x19, rfl⟩ := lst20 hp
  refine ⟨x0, x1, x2, x3, x4, x5, x6, x7, x8, x9, x10, x11, x12, x13, x14, x15, x16, x17, x18, x19, ?_, hK _ _ _ _ _ _ _ _ _ _ _ _ _ _ _ _ _ _ _ _ hP⟩
  rw [addl]
  exact hB.rd fun j v hj => by
    rw [List.getElem?_append_left (by have := (List.getElem?_eq_some_iff.1 hj).1; simpa [us] using this)]
    simpa [us] using hj
theorem c_publicF {w w0 : World} {o : Nat} {l : List UInt8} (hw : GE w) (hO : OpenF w0 w o l) : Calls Tryz.prog 106 #[.pointer (some ⟨o, 0, none⟩)] w (Ret (RBy (pubF l) w)) := by
  refine call106 _ ?_
  unfold sh106
  obtain ⟨⟨ps, s, d, T, h1, h2, hB, _⟩, _⟩ := hO
  refine rd20F hB h1 h2 fun x0 x1 x2 x3 x4 x5 x6 x7 x8 x9 x10 x11 x12 x13 x14 x15 x16 x17 x18 x19 hP => ?_
  refine callK_ret (c_ePutF hw hP) ?_
  rintro v w1 ⟨b, T', rfl, h⟩
  exact ⟨⟨some ⟨b, 0, none⟩, _, _⟩, rfl, b, T', rfl, h⟩
theorem c_PublicF {w : World} {seed : Slc} {l : List UInt8} (hg : GS w) (hs : SlRd w seed 1 (bys l)) (hsl : ∀ z, seed.blk = some z → z < w.heap.size) (hl : l.length = 32) :
    Calls Tryz.prog 45 #[.slice seed.a seed.len seed.cap] w (Ret (RBy (pubF l) w)) := by
  refine call45 _ ?_
  unfold sh45
  refine callK_ret (c_openF hg hs hsl hl) ?_
  rintro v w1 ⟨o, rfl, hO, hm1⟩
  refine ⟨_, _, rfl, condK_i (fun h => by simp at h) fun _ => ?_⟩
  refine callK_ret (c_publicF (hg.no hm1).ge hO) ?_
  rintro v w2 ⟨b, T, rfl, h2, h3, h4⟩
  exact ⟨⟨some ⟨b, 0, none⟩, _, _⟩, rfl, b, T, rfl, h2, Nat.le_trans hm1.size h3, hm1.tr h4⟩
end Go.Proofs.YtgemgaofamloeaaGreatDoor
end
