/- Soundness of the shallow form: operations that touch the world. -/
import Derived.Test.YtknbihogadcnpaaGreatSh1f
import Derived.Test.YtknbihogadcnpaaGreatTLaw
set_option linter.unusedSimpArgs false
set_option linter.unusedVariables false
namespace Go.Sh
open Go

section
variable {P : Program} {N : Nat} {env : Env} {a : Act} {w : World} {o : Oper} {K : Act → World → Prop} {Q : Exit → Act → World → Prop} {r : Option Nat}

theorem up_value (hdf : isDefer o.op = false) {v : Value} {w' : World} (h : (execOp a.eval o).run P w = .ok (.value v) w') (hk : K (a.put o.dst v) w') : o.wpIn (Fr r) 0 P a w K Q := by
  unfold Oper.wpIn; rw [semAt_plain hdf, h]; exact ⟨fun _ _ => trivial, hk⟩
theorem up_skip (hdf : isDefer o.op = false) {w' : World} (h : (execOp a.eval o).run P w = .ok .skip w') (hk : K (a.put o.dst undef) w') : o.wpIn (Fr r) 0 P a w K Q := by
  unfold Oper.wpIn; rw [semAt_plain hdf, h]; exact ⟨fun _ _ => trivial, hk⟩

theorem run_loadVar {T : TypeId} {ad : Addr} {t : TV} (hf : kdFit P T = true) (hl : t.cells.length = kdSize (kindOf P 20 T)) (hag : t.isAgg = kdAgg (kindOf P 20 T)) (hb : t.isBad = false) (hr : Rd w ad t.cells) :
    (loadVar T ad).run P w = .ok t.enc w := by
  simp only [kdFit, Bool.and_eq_true, beq_iff_eq, Nat.beq_eq] at hf
  obtain ⟨⟨⟨k1, k2⟩, k3⟩, k4⟩ := hf
  unfold loadVar
  simp only [Sem.run_bind, run_isAgg (Option.some_get k4).symm, Result.andThen_ok]
  rw [← k2, ← hag]
  cases hA : t.isAgg with
  | true =>
    simp only [↓reduceIte, Sem.run_bind, run_sizeAt k3, Result.andThen_ok, Sem.run_pure]
    rw [← k1, ← hl, run_loadCells_list w ad t.cells hr]
    simp [enc_agg hA]
  | false =>
    have hc := cells_single hA hb
    have := hr 0 t.enc (by rw [hc]; rfl)
    rw [Addr.add_zero'] at this
    simp [this]

theorem semK_up (hdf : isDefer o.op = false) {s : Sem Value} {κ : Kd} {next : TV → World → Prop} (he : execOp a.eval o = (do let x ← s; pure (Next.value x))) (h : semK P s w fun v w' => resK κ v fun t => next t w')
    (hn : ∀ t v w', (t.isBad = false → v = t.enc) → next t w' → K (a.put o.dst v) w') : o.wpIn (Fr r) 0 P a w K Q := by
  obtain ⟨v, w', hr, h1⟩ := h
  have h2 : exK κ fun t => v = t.enc ∧ next t w' := h1
  obtain ⟨t, _, _, _, hv, h3⟩ := exK_out _ _ h2
  exact up_value hdf (by rw [he]; simp [hr]) (hn t _ w' (fun _ => hv) h3)

theorem semU_up (hdf : isDefer o.op = false) {s : Sem Unit} {next : TV → World → Prop} (he : execOp a.eval o = (do s; pure Next.skip)) (h : semU P s w fun w' => next .bad w')
    (hn : ∀ t v w', (t.isBad = false → v = t.enc) → next t w' → K (a.put o.dst v) w') : o.wpIn (Fr r) 0 P a w K Q := by
  obtain ⟨w', hr, h⟩ := h
  exact up_skip hdf (by rw [he]; simp [hr]) (hn .bad undef w' (fun hb => by simp [TV.isBad] at hb) h)

theorem callK_up (hdf : isDefer o.op = false) {f : FuncId} {args : List Value} {κ : Kd} {pan : List PanicEntry → World → Prop} {next : TV → World → Prop} (hr : (execOp a.eval o).run P w = .ok (.enter f args.toArray) w)
    (h : callK P f args w pan fun v w' => resK κ v fun t => next t w')
    (hn : ∀ t v w', (t.isBad = false → v = t.enc) → next t w' → K (a.put o.dst v) w') (hp : ∀ c w', pan c w' → Q (.panic c) a w') : o.wpIn (Fr r) 0 P a w K Q := by
  unfold Oper.wpIn
  rw [semAt_plain hdf, hr, Oper.uponIn_enter]
  refine ⟨fun _ _ => trivial, fun h => by simp [Fence.wide] at h, callsIn_fr.2 (Calls.mono h fun e w' he => ?_)⟩
  cases e with
  | returned v =>
    have he' : exK κ fun t => v = t.enc ∧ next t w' := he
    obtain ⟨t, _, _, _, hv, h⟩ := exK_out _ _ he'
    exact hn t _ w' (fun _ => hv) h
  | panicked c => exact hp c w' he
  | outgrown => exact he.elim

theorem enters_run {f : FuncId} {args : Array Value} (h : enters P f = true) (w : World) : (callFunc f args).run P w = .ok (.enter f args) w := by
  unfold enters at h
  cases hf : P.funcs[f]? with
  | none => simp [hf] at h
  | some fn =>
    simp only [hf, Bool.and_eq_true, Bool.not_eq_true'] at h
    unfold callFunc
    have h1 : ¬ fn.name = "runtime.NumGoroutine" := by simpa using h.1
    have hb : ¬ fn.body = none := by intro e; simp [e] at h
    simp [hf, h1, hb]

theorem evs_run (hsim : Sim N env a.tmps) {xs : Array Operand} (h : allGood env xs = true) : xs.map a.eval = (evs env xs).toArray := good_evs hsim h

theorem good_is (hsim : Sim N env a.tmps) {x : Operand} (h : (!(ev env x).isBad) = true) : a.eval x = (ev env x).enc := hsim.eval x (by simpa using h)

theorem yieldK_up (hdf : isDefer o.op = false) {l : Nat} {args : List Value} {κ : Kd} {next : TV → World → Prop} (hr : ∀ x, (Instr.yield l args.toArray).run P w = .ok x w → (execOp a.eval o).run P w = .ok x w)
    (h : yieldK P l args w fun v w' => resK κ v fun t => next t w') (hn : ∀ t v w', (t.isBad = false → v = t.enc) → next t w' → K (a.put o.dst v) w') : o.wpIn (Fr r) 0 P a w K Q := by
  obtain ⟨f, tmps, assign, body, h1, h2⟩ := h
  unfold Oper.wpIn
  rw [semAt_plain hdf, hr _ h1, Oper.uponIn_round]
  refine ⟨fun _ _ => trivial, fun h => by simp [Fence.wide] at h, ?_⟩
  have h2' : RoundIn (Fr r) (0 - 1) P l f tmps assign body w fun e w' => ∃ v, e = .returned v ∧ resK κ v fun t => next t w' := h2
  refine RoundIn.mono h2' fun e w' he => ?_
  obtain ⟨v, rfl, he⟩ := he
  have he' : exK κ fun t => v = t.enc ∧ next t w' := he
  obtain ⟨t, _, _, _, hv, h⟩ := exK_out _ _ he'
  exact hn t _ w' (fun _ => hv) h

theorem stateK_wp (hdf : isDefer o.op = false) {pan : List PanicEntry → World → Prop} {next : TV → World → Prop} (hsim : Sim N env a.tmps) (h : stateK P o env w pan next)
    (hn : ∀ t v w', (t.isBad = false → v = t.enc) → next t w' → K (a.put o.dst v) w') (hp : ∀ c w', pan c w' → Q (.panic c) a w') : o.wpIn (Fr r) 0 P a w K Q := by
  obtain ⟨dst, op, type, pos, after, guard⟩ := o
  unfold stateK at h
  simp only at h
  cases op <;> (try simp only at h) <;> try (exact h.elim)
  case load T x =>
    split at h
    · rename_i q hx
      obtain ⟨ad, rfl, h⟩ := onSome_out h
      cases hf : kdFit P T with
      | false => simp [hf, onSome] at h
      | true =>
        simp only [hf, cond_true] at h
        obtain ⟨t, t1, t2, t3, hr, h⟩ := exK_out _ _ h
        refine up_value hdf (v := t.enc) (w' := w) ?_ (hn t _ w (fun _ => rfl) h)
        simp [execOp, hsim.is hx rfl, TV.enc, Instr.loadAt, Instr.sureAddr, run_loadVar hf t1 t2 t3 hr]
    · exact h.elim
  case store T x y =>
    split at h
    · rename_i q hx
      obtain ⟨ad, rfl, h⟩ := onSome_out h
      cases hg : (!(ev env y).isBad) with
      | false => simp [hg, onSome] at h
      | true =>
        simp only [hg, cond_true] at h
        refine semU_up hdf ?_ h hn
        simp only [execOp, hsim.is hx rfl, good_is hsim hg, TV.enc]
        rfl
    · exact h.elim
  case alloc T => exact semK_up hdf rfl h hn
  case box T x =>
    cases hg : (!(ev env x).isBad) with
    | false => simp [hg] at h
    | true =>
      simp only [hg, cond_true] at h
      exact semK_up hdf (by simp only [execOp, good_is hsim hg]) h hn
  case buildSlice T n parts =>
    cases hg : (parts.toList.all fun q => !(ev env q.2).isBad) with
    | false => simp [hg] at h
    | true =>
      simp only [hg, cond_true] at h
      refine semK_up hdf ?_ h hn
      have e : (parts.map fun (x : Nat × Operand) => (x.1, a.eval x.2)) = parts.map fun (x : Nat × Operand) => (x.1, (ev env x.2).enc) := by
        apply Array.ext'
        simp only [Array.toList_map]
        apply List.map_congr_left
        intro x hx
        have := List.all_eq_true.1 hg x hx
        rw [good_is hsim this]
      simp only [execOp]
      rw [← e]
  case insert T m k x =>
    cases hg : (!(ev env m).isBad && !(ev env k).isBad && !(ev env x).isBad) with
    | false => simp [hg] at h
    | true =>
      simp only [hg, cond_true] at h
      simp only [Bool.and_eq_true] at hg
      exact semU_up hdf (by simp only [execOp, good_is hsim hg.1.1, good_is hsim hg.1.2, good_is hsim hg.2]) h hn
  case mapUpdate T m k x =>
    cases hg : (!(ev env m).isBad && !(ev env k).isBad && !(ev env x).isBad) with
    | false => simp [hg] at h
    | true =>
      simp only [hg, cond_true] at h
      simp only [Bool.and_eq_true] at hg
      exact semU_up hdf (by simp only [execOp, good_is hsim hg.1.1, good_is hsim hg.1.2, good_is hsim hg.2]) h hn
  case entryStore T m k x =>
    cases hg : (!(ev env m).isBad && !(ev env k).isBad && !(ev env x).isBad) with
    | false => simp [hg] at h
    | true =>
      simp only [hg, cond_true] at h
      simp only [Bool.and_eq_true] at hg
      exact semU_up hdf (by simp only [execOp, good_is hsim hg.1.1, good_is hsim hg.1.2, good_is hsim hg.2]) h hn
  case mapEntry T m k =>
    cases hg : (!(ev env m).isBad && !(ev env k).isBad) with
    | false => simp [hg] at h
    | true =>
      simp only [hg, cond_true] at h
      simp only [Bool.and_eq_true] at hg
      exact semK_up hdf (by simp only [execOp, good_is hsim hg.1, good_is hsim hg.2]) h hn
  case lookup T m k ok =>
    cases hg : (!(ev env m).isBad && !(ev env k).isBad) with
    | false => simp [hg] at h
    | true =>
      simp only [hg, cond_true] at h
      simp only [Bool.and_eq_true] at hg
      exact semK_up hdf (by simp only [execOp, good_is hsim hg.1, good_is hsim hg.2]) h hn
  case makeSlice T m k =>
    cases hg : (!(ev env m).isBad && !(ev env k).isBad) with
    | false => simp [hg] at h
    | true =>
      simp only [hg, cond_true] at h
      simp only [Bool.and_eq_true] at hg
      exact semK_up hdf (by simp only [execOp, good_is hsim hg.1, good_is hsim hg.2]) h hn
  case convert s d x =>
    cases hg : (!(ev env x).isBad) with
    | false => simp [hg] at h
    | true =>
      simp only [hg, cond_true] at h
      exact semK_up hdf (by simp only [execOp, good_is hsim hg]) h hn
  case range T x =>
    cases hg : (!(ev env x).isBad) with
    | false => simp [hg] at h
    | true =>
      simp only [hg, cond_true] at h
      exact semK_up hdf (by simp only [execOp, good_is hsim hg]) h hn
  case next x b =>
    cases hg : (!(ev env x).isBad) with
    | false => simp [hg] at h
    | true =>
      simp only [hg, cond_true] at h
      exact semK_up hdf (by simp only [execOp, good_is hsim hg]) h hn
  case entry x =>
    cases hg : (!(ev env x).isBad) with
    | false => simp [hg] at h
    | true =>
      simp only [hg, cond_true] at h
      exact semK_up hdf (by simp only [execOp, good_is hsim hg]) h hn
  case typeAssert x T b ok =>
    cases hg : (!(ev env x).isBad) with
    | false => simp [hg] at h
    | true =>
      simp only [hg, cond_true] at h
      exact semK_up hdf (by simp only [execOp, good_is hsim hg]) h hn
  case makeMap T r =>
    cases r with
    | none => exact semK_up hdf rfl h hn
    | some x =>
      simp only at h
      cases hg : (!(ev env x).isBad) with
      | false => simp [hg] at h
      | true =>
        simp only [hg, cond_true] at h
        exact semK_up hdf (by simp only [execOp, Option.map_some, good_is hsim hg]) h hn
  case panic x =>
    split at h
    · rename_i T y hx
      unfold Oper.wpIn
      have : (execOp a.eval { dst, op := .panic x, type, pos, after, guard }).run P w = .halt (.panic (.iface T y)) w := by
        simp [execOp, hsim.is hx rfl, TV.enc, Instr.panic]
      rw [semAt_plain hdf, this]
      exact ⟨fun _ _ => trivial, hp _ _ h⟩
    · exact h.elim
  case call c =>
    obtain ⟨callee, args, argTypes⟩ := c
    simp only at h
    cases hg : allGood env args with
    | false => simp [hg] at h
    | true =>
      simp only [hg, cond_true] at h
      have ea := good_evs hsim hg
      cases callee with
      | builtin b =>
        cases b <;> (try simp only at h) <;> (try (exact h.elim)) <;>
          exact semK_up hdf (by simp only [execOp, resolve, ea, invoke, builtin, pure_bind]) h hn
      | value f =>
        simp only at h
        split at h
        · rename_i fv hf
          have hfe := hsim.is hf rfl
          unfold callFV at h
          split at h
          · rename_i fid first cap
            cases he : enters P fid with
            | true =>
              simp only [he, cond_true] at h
              refine callK_up hdf (args := first.toList ++ evs env args ++ cap.toList) ?_ h hn hp
              have : (first.toList ++ evs env args ++ cap.toList).toArray = first ++ (evs env args).toArray ++ cap := by apply Array.ext'; simp
              rw [this]
              simp [execOp, resolve, hfe, TV.enc, ea, Deferred.ofValue, invoke, enters_run he]
            | false =>
              simp only [he, cond_false] at h
              obtain ⟨v, w', hr, h1⟩ := h
              have h2 : exK (kindOf P 20 type) fun t => v = t.enc ∧ next t w' := h1
              obtain ⟨t, _, _, _, hv, h3⟩ := exK_out _ _ h2
              refine up_value hdf (v := v) (w' := w') ?_ (hn t _ w' (fun _ => hv) h3)
              simp [execOp, resolve, hfe, TV.enc, ea, Deferred.ofValue, invoke]
              simpa [TV.enc] using hr
          · rename_i l first cap
            refine yieldK_up hdf (fun x hx => ?_) h hn
            have : (first.toList ++ evs env args).toArray = first ++ (evs env args).toArray := by apply Array.ext'; simp
            rw [this] at hx
            simp only [execOp, resolve, hfe, TV.enc, ea, Deferred.ofValue, Sem.run_bind, Sem.run_pure, Result.andThen_ok]
            simpa [invoke] using hx
          · rename_i fn first cap _ _
            obtain ⟨f, args', hr, h⟩ := h
            refine callK_up hdf (args := args'.toList) ?_ h hn hp
            simp only [execOp, resolve, hfe, TV.enc, ea, Deferred.ofValue, Sem.run_bind, Sem.run_pure, Result.andThen_ok]
            simpa using hr
          · exact h.elim
        · exact h.elim
      | invoke r name =>
        simp only at h
        split at h
        · rename_i rv hx
          obtain ⟨f, args', hr, h⟩ := h
          refine callK_up hdf (args := args'.toList) ?_ h hn hp
          simp only [execOp, resolve, hsim.is hx rfl, TV.enc, ea, Sem.run_bind, Sem.run_pure, Result.andThen_ok]
          simpa using hr
        · exact h.elim

theorem runOp_wp (hdf : isDefer o.op = false) {pan : List PanicEntry → World → Prop} {next : TV → World → Prop} (hsim : Sim N env a.tmps) (h : runOp P o env w pan next)
    (hn : ∀ t v w', (t.isBad = false → v = t.enc) → next t w' → K (a.put o.dst v) w') (hp : ∀ c w', pan c w' → Q (.panic c) a w') : o.wpIn (Fr r) 0 P a w K Q := by
  unfold runOp at h
  cases hc : isPure P o with
  | true =>
    simp only [hc, cond_true] at h
    obtain ⟨t, v, hr, hv, h⟩ := pureK_run hsim h
    exact up_value hdf (hr w) (hn t v w hv h)
  | false =>
    simp only [hc, cond_false] at h
    exact stateK_wp hdf hsim h hn hp
end
end Go.Sh
