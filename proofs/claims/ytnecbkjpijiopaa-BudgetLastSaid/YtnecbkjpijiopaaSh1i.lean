/- Soundness of the shallow form: whole functions. -/
import Derived.Test.YtnecbkjpijiopaaSh1h
set_option linter.unusedSimpArgs false
set_option linter.unusedVariables false
namespace Go.Sh
open Go

/-- what holds where a piece of code is left -/
def QK (N : Nat) (k : Kt) (ws : List Nat) (t0 : Array Value) : Exit → Act → World → Prop
  | .normal, a, w => a.defers = [] ∧ Same ws t0 a.tmps ∧ ∃ env, Sim N env a.tmps ∧ k.nrm env w
  | .ret, a, w => a.defers = [] ∧ Same ws t0 a.tmps ∧ ∃ env, Sim N env a.tmps ∧ k.ret env w
  | .exit i, a, w => a.defers = [] ∧ Same ws t0 a.tmps ∧ ∃ env, Sim N env a.tmps ∧ k.ext i env w
  | .panic c, a, w => a.defers = [] ∧ k.pan c w
  | _, _, _ => False

section
variable {P : Program} {N : Nat}

theorem QK.mono {k : Kt} {a b : List Nat} {t0 t1 : Array Value} (h : Same a t0 t1) {c : List Nat} (ha : ∀ t, t ∈ a → t ∈ c) (hb : ∀ t, t ∈ b → t ∈ c) :
    ∀ e x w, QK N k b t1 e x w → QK N k c t0 e x w := by
  intro e x w hq
  cases e <;> first
    | exact ⟨hq.1, Same.trans h hq.2.1 ha hb, hq.2.2⟩
    | exact hq
    | exact hq.elim

theorem act_eta {a : Act} (h : a.defers = []) : a = ⟨a.tmps, []⟩ := by cases a; simp_all

theorem look_append (e1 e2 : Env) (t : Nat) : look (e1 ++ e2) t = (match e1.find? (fun p => Nat.beq p.1 t) with | some p => p.2 | none => look e2 t) := by
  induction e1 with
  | nil => rfl
  | cons p r ih =>
    obtain ⟨u, x⟩ := p
    simp only [List.cons_append, look, List.find?_cons]
    cases h : Nat.beq u t with
    | true => rfl
    | false => simpa using ih

theorem look_poison (ws : List Nat) (env : Env) (t : Nat) : look (poison ws env) t = if t ∈ ws then .bad else look env t := by
  unfold poison
  induction ws with
  | nil => rfl
  | cons u r ih =>
    simp only [List.map_cons, List.cons_append, look_cons, List.mem_cons]
    by_cases e : u = t
    · subst e; simp
    · have : ¬ t = u := fun h => e h.symm
      simp only [e, ↓reduceIte, this, false_or]
      exact ih

theorem look_binds : ∀ (vs : List (Nat × Kd)) (xs : List TV) (env : Env) (t : Nat), xs.length = vs.length →
    (∃ (i : Nat) (v : Nat × Kd) (x : TV), vs[i]? = some v ∧ xs[i]? = some x ∧ v.1 = t ∧ look (binds vs xs ++ env) t = x) ∨ look (binds vs xs ++ env) t = look env t
  | [], xs, env, t, h => .inr (by simp [binds])
  | v :: vs, [], env, t, h => by simp at h
  | v :: vs, x :: xs, env, t, h => by
    have e : binds (v :: vs) (x :: xs) ++ env = (v.1, x) :: (binds vs xs ++ env) := rfl
    rw [e, look_cons]
    by_cases hv : v.1 = t
    · exact .inl ⟨0, v, x, rfl, rfl, hv, by simp [hv]⟩
    · simp only [hv, ↓reduceIte]
      rcases look_binds vs xs env t (by simpa using h) with ⟨i, v', x', h1, h2, h3, h4⟩ | h1
      · exact .inl ⟨i + 1, v', x', by simpa using h1, by simpa using h2, h3, h4⟩
      · exact .inr h1

theorem okKs_len : ∀ (ks : List Kd) (xs : List TV), okKs ks xs = true → xs.length = ks.length
  | [], [], _ => rfl
  | [], _ :: _, h => by simp [okKs] at h
  | _ :: _, [], h => by simp [okKs] at h
  | k :: r, x :: xs, h => by simp [okKs] at h; simp [okKs_len r xs h.2]

/-- the environment where ways meet: the live slots as they came, the others that may have been written forgotten -/
theorem sim_join {env env' : Env} {t0 t1 : Array Value} {ws : List Nat} {vs : List (Nat × Kd)} (h0 : Sim N env t0) (h1 : Sim N env' t1) (hs : Same ws t0 t1) {xs : List TV} (hxs : xs = vals env' vs) :
    Sim N (binds vs xs ++ poison ws env) t1 := by
  refine ⟨h1.1, fun t ht => ?_⟩
  rcases look_binds vs xs (poison ws env) t (by rw [hxs]; simp [vals]) with ⟨i, v, x, a1, a2, a3, a4⟩ | a1
  · rw [a4] at ht ⊢
    subst hxs
    simp only [vals, List.getElem?_map, a1, Option.map_some, Option.some.injEq] at a2
    rw [← a2, a3] at ht ⊢
    exact h1.2 t ht
  · rw [a1, look_poison] at ht ⊢
    by_cases e : t ∈ ws
    · simp [e, TV.isBad] at ht
    · simp only [e, ↓reduceIte] at ht ⊢
      rw [hs t e]
      exact h0.2 t ht

theorem subB_sim {env : Env} {t0 : Array Value} {c : Operand} {t : Bool} (h : Sim N env t0) (hc : ev env c = .b t) : Sim N (subB env c t) t0 := by
  cases c with
  | tmp u => exact h.same hc
  | _ => exact h

theorem den_wp : ∀ (c : Code) (ann : Ann) (k : Kt) (env : Env) (w : World) (t0 : Array Value), Sim N env t0 → den P N ann c k env w → c.wp P (QK N k (writes c) t0) ⟨t0, []⟩ w := by
  intro c
  induction c with
  | skip => intro ann k env w t0 hs h; exact wp_skip ⟨rfl, Same.refl _ _, env, hs, by simpa [den] using h⟩
  | ret => intro ann k env w t0 hs h; exact wp_ret ⟨rfl, Same.refl _ _, env, hs, by simpa [den] using h⟩
  | exit id => intro ann k env w t0 hs h; exact wp_exit ⟨rfl, Same.refl _ _, env, hs, by simpa [den] using h⟩
  | region id ops draw =>
    intro ann k env w t0 hs h
    cases draw with
    | false =>
      have h' : denOps P N ops.toList k.pan ops.toList k.nrm env w := by simpa [den] using h
      refine wp_region_list ?_
      have := denOps_wp (P := P) (Q := QK N k (writes (.region id ops false)) t0) (ops := ops.toList) (fun c a' w' hd hp => ⟨hd, hp⟩) ops.toList env ⟨t0, []⟩ w hs rfl h'
        (fun env' a' w' h1 h2 h3 h4 => ⟨h2, h3, env', h1, h4⟩)
      simpa using this
    | true =>
      cases ann with
      | draw fl d =>
        have gen : ∀ (S : World → Prop) (LD : Addr → List Value → Prop), (∀ ad cs, LD ad cs → ∀ w', S w' → Rd w' ad cs) → (Region.noSelect ops && P.follows .mixedOrders) = true → S w.drew →
            denDraw P N ops S LD k.pan k.nrm d ops.size (Array.replicate ops.size false) env w.drew → (Code.region id ops true).wp P (QK N k (writes (.region id ops true)) t0) ⟨t0, []⟩ w := by
          intro S LD hLD hc hS h
          simp only [Bool.and_eq_true] at hc
          exact wp_region_held hc.2 (denDraw_wp hc.1 hLD (Q := QK N k (writes (.region id ops true)) t0) (t0 := t0) (fun c a d v w hq => by rw [QK, put_defers] at hq; exact hq) (fun c a' w' hd hp => ⟨hd, hp⟩)
              (fun env' a' w' h1 h2 h3 h4 => ⟨h2, h3, env', h1, h4⟩) d ops.size _ env ⟨t0, []⟩ w.drew hs rfl (Same.refl _ _) hS h)
        match fl, h with
        | 0, h =>
          simp only [den] at h
          cases hc : (Region.noSelect ops && P.follows .mixedOrders) with
          | false => simp only [hc, cond_false] at h
          | true => simp only [hc, cond_true] at h; exact gen _ _ (fun _ _ h => h.elim) hc trivial h
        | 1, h =>
          simp only [den] at h
          cases hc : (Region.noSelect ops && P.follows .mixedOrders) with
          | false => simp only [hc, cond_false] at h
          | true => simp only [hc, cond_true] at h; obtain ⟨S, hS, h⟩ := h; exact gen S _ (fun _ _ h => h) hc hS h
        | 2, h =>
          simp only [den] at h
          cases hc : (Region.noSelect ops && P.follows .mixedOrders) with
          | false => simp only [hc, cond_false] at h
          | true => simp only [hc, cond_true] at h; exact gen (fun w' => w' = w.drew) (fun ad cs => Rd w.drew ad cs) (fun _ _ h w' e => by rw [e]; exact h) hc rfl h
        | n + 3, h => simp [den] at h
      | _ => simp [den] at h
  | seq x y ihx ihy =>
    intro ann k env w t0 hs h
    cases ann with
    | seq j a b =>
      have hx : ∀ t, t ∈ writes x → t ∈ writes (x.seq y) := fun t ht => by simp [writes, ht]
      have hy : ∀ t, t ∈ writes y → t ∈ writes (x.seq y) := fun t ht => by simp [writes, ht]
      cases j with
      | none =>
        simp only [den] at h
        refine wp_seq (Code.wp_mono ?_ (ihx a _ env w t0 hs h))
        intro e act w' hq
        cases e with
        | normal =>
          obtain ⟨hd, hsm, env', hs', hk⟩ := hq
          show y.wp P _ act w'
          rw [act_eta hd]
          exact Code.wp_mono (QK.mono hsm hx hy) (ihy b k env' w' act.tmps hs' hk)
        | ret => exact ⟨hq.1, hq.2.1.mono hx, hq.2.2⟩
        | exit i => exact ⟨hq.1, hq.2.1.mono hx, hq.2.2⟩
        | panic c => exact hq
        | goto l => exact hq.elim
        | outgrown => exact hq.elim
      | some vs =>
        simp only [den] at h
        obtain ⟨J, h, hrest⟩ := h
        refine wp_seq (Code.wp_mono ?_ (ihx a _ env w t0 hs h))
        intro e act w' hq
        cases e with
        | normal =>
          obtain ⟨hd, hsm, env', hs', hk⟩ := hq
          simp only at hk
          cases hok : okKs (kinds vs) (vals env' vs) with
          | false => simp only [hok, cond_false] at hk
          | true =>
            simp only [hok, cond_true] at hk
            show y.wp P _ act w'
            rw [act_eta hd]
            exact Code.wp_mono (QK.mono hsm hx hy) (ihy b k _ w' act.tmps (sim_join hs hs' hsm rfl) (allKs_in _ _ _ hrest hok w' hk))
        | ret => exact ⟨hq.1, hq.2.1.mono hx, hq.2.2⟩
        | exit i => exact ⟨hq.1, hq.2.1.mono hx, hq.2.2⟩
        | panic c => exact hq
        | goto l => exact hq.elim
        | outgrown => exact hq.elim
    | _ => simp [den] at h
  | cond c x y ihx ihy =>
    intro ann k env w t0 hs h
    cases ann with
    | cond a b =>
      simp only [den] at h
      split at h
      · rename_i t hc
        have he := hs.is (a := ⟨t0, []⟩) hc rfl
        cases t with
        | true => exact wp_cond_true he (Code.wp_mono (QK.mono (Same.refl [] t0) (by simp) (fun t ht => by simp [writes, ht])) (ihx a k _ w t0 (subB_sim hs hc) h))
        | false => exact wp_cond_false he (Code.wp_mono (QK.mono (Same.refl [] t0) (by simp) (fun t ht => by simp [writes, ht])) (ihy b k _ w t0 (subB_sim hs hc) h))
      · exact h.elim
    | _ => simp [den] at h
  | block id x ih =>
    intro ann k env w t0 hs h
    cases ann with
    | block j a =>
      cases j with
      | none =>
        simp only [den] at h
        refine wp_block (Code.wp_mono ?_ (ih a _ env w t0 hs h))
        intro e act w' hq
        cases e with
        | exit i =>
          obtain ⟨hd, hsm, env', hs', hk⟩ := hq
          simp only at hk
          simp only [Exit.inBlock]
          by_cases e : i = id
          · subst e
            rw [if_pos rfl]
            simp only [Nat.beq_refl, cond_true] at hk
            exact ⟨hd, hsm, env', hs', hk⟩
          · rw [if_neg e]
            have : Nat.beq i id = false := by
              cases hb : Nat.beq i id with
              | false => rfl
              | true => exact absurd (Nat.eq_of_beq_eq_true hb) e
            rw [this] at hk
            exact ⟨hd, hsm, env', hs', hk⟩
        | normal => exact hq
        | ret => exact hq
        | panic c => exact hq
        | goto l => exact hq.elim
        | outgrown => exact hq.elim
      | some vs =>
        simp only [den] at h
        obtain ⟨J, h, hrest⟩ := h
        refine wp_block (Code.wp_mono ?_ (ih a _ env w t0 hs h))
        have fin : ∀ (env' : Env) (act : Act) (w' : World), act.defers = [] → Same (writes x) t0 act.tmps → Sim N env' act.tmps → (bif okKs (kinds vs) (vals env' vs) then J (vals env' vs) w' else False) →
            QK N k (writes (.block id x)) t0 .normal act w' := by
          intro env' act w' hd hsm hs' hk
          cases hok : okKs (kinds vs) (vals env' vs) with
          | false => simp only [hok, cond_false] at hk
          | true =>
            simp only [hok, cond_true] at hk
            exact ⟨hd, hsm, _, sim_join hs hs' hsm rfl, allKs_in _ _ _ hrest hok w' hk⟩
        intro e act w' hq
        cases e with
        | exit i =>
          obtain ⟨hd, hsm, env', hs', hk⟩ := hq
          simp only at hk
          simp only [Exit.inBlock]
          by_cases e : i = id
          · subst e
            rw [if_pos rfl]
            simp only [Nat.beq_refl, cond_true] at hk
            exact fin env' act w' hd hsm hs' hk
          · rw [if_neg e]
            have : Nat.beq i id = false := by
              cases hb : Nat.beq i id with
              | false => rfl
              | true => exact absurd (Nat.eq_of_beq_eq_true hb) e
            rw [this] at hk
            exact ⟨hd, hsm, env', hs', hk⟩
        | normal =>
          obtain ⟨hd, hsm, env', hs', hk⟩ := hq
          exact fin env' act w' hd hsm hs' hk
        | ret => exact hq
        | panic c => exact hq
        | goto l => exact hq.elim
        | outgrown => exact hq.elim
    | _ => simp [den] at h
  | loop x ih =>
    intro ann k env w t0 hs h
    cases ann with
    | loop vs a =>
      simp only [den] at h
      cases hok : okKs (kinds vs) (vals env vs) with
      | false => simp only [hok, cond_false] at h
      | true =>
        simp only [hok, cond_true] at h
        obtain ⟨I, μ, hI, hround⟩ := h
        refine wp_loop_ghost (fun n act w => act.defers = [] ∧ Same (writes x) t0 act.tmps ∧ ∃ env' , Sim N env' act.tmps ∧ okKs (kinds vs) (vals env' vs) = true ∧ I (vals env' vs) w ∧ μ (vals env' vs) w = n)
          (μ (vals env vs) w) ⟨rfl, Same.refl _ _, env, hs, hok, hI, rfl⟩ ?_
        rintro n act w ⟨hd, hsm, env', hs', hok', hI', hμ⟩
        have hb := allKs_in _ _ _ hround hok' w hI'
        rw [act_eta hd]
        refine Code.wp_mono ?_ (ih a _ _ w act.tmps (sim_join hs hs' hsm rfl) hb)
        intro e act' w' hq
        cases e with
        | normal =>
          obtain ⟨hd2, hsm2, env2, hs2, hk⟩ := hq
          simp only at hk
          cases hok2 : okKs (kinds vs) (vals env2 vs) with
          | false => simp only [hok2, cond_false] at hk
          | true =>
            simp only [hok2, cond_true] at hk
            exact ⟨_, hμ ▸ hk.2, hd2, Same.trans hsm hsm2 (fun _ h => h) (fun _ h => h), env2, hs2, hok2, hk.1, rfl⟩
        | ret => exact ⟨hq.1, Same.trans hsm hq.2.1 (fun _ h => h) (fun _ h => h), hq.2.2⟩
        | exit i => exact ⟨hq.1, Same.trans hsm hq.2.1 (fun _ h => h) (fun _ h => h), hq.2.2⟩
        | panic c => exact hq
        | goto l => exact hq.elim
        | outgrown => exact hq.elim
    | _ => simp [den] at h
  | _ => intro ann k env w t0 hs h; simp [den] at h

/-! ## a call -/
theorem envOf_look : ∀ (i : Nat) (xs : List TV) (t : Nat), (look (envOf i xs) t).isBad = false → ∃ j x, t = i + j ∧ xs[j]? = some x ∧ look (envOf i xs) t = x
  | i, [], t, h => by simp [envOf, look, TV.isBad] at h
  | i, x :: r, t, h => by
    unfold envOf at h ⊢
    rw [look_cons] at h ⊢
    by_cases e : i = t
    · subst e; exact ⟨0, x, rfl, rfl, by simp⟩
    · simp only [e, ↓reduceIte] at h ⊢
      obtain ⟨j, y, h1, h2, h3⟩ := envOf_look (i + 1) r t h
      exact ⟨j + 1, y, by omega, by simpa using h2, h3⟩

theorem retK_run {fn : Func} {tmps : Array Value} {env : Env} {w : World} (hs : Sim N env tmps) :
    ∀ (l : List ResultVar) (acc : List TV) (K : TV → Prop), retK P env w l acc K → ∃ xs : List TV, (l.mapM fun
      | .tmp t => pure (tmps.getD t undef)
      | .cell a t => do loadVar t (← asAddr (tmps.getD a undef)) : Sem (List Value)).run P w = .ok (encL xs) w ∧ K (packV (acc.reverse ++ xs))
  | [], acc, K, h => ⟨[], rfl, by simpa [retK] using h⟩
  | .tmp t :: r, acc, K, h => by
    unfold retK at h
    cases hb : (look env t).isBad with
    | true => simp [hb] at h
    | false =>
      simp only [hb, cond_false] at h
      obtain ⟨xs, h1, h2⟩ := retK_run (fn := fn) hs r _ K h
      refine ⟨look env t :: xs, ?_, by simpa using h2⟩
      have := hs.2 t hb
      simp only [List.mapM_cons, Sem.run_bind, Sem.run_pure, Result.andThen_ok]
      rw [h1]
      simp [this, encL]
  | .cell t T :: r, acc, K, h => by
    unfold retK at h
    split at h
    · rename_i q hq
      obtain ⟨ad, rfl, h⟩ := onSome_out h
      cases hf : kdFit P T with
      | false => simp [hf, onSome] at h
      | true =>
        simp only [hf, cond_true] at h
        obtain ⟨x, x1, x2, x3, hr, h⟩ := exK_out _ _ h
        obtain ⟨xs, h1, h2⟩ := retK_run (fn := fn) hs r _ K h
        refine ⟨x :: xs, ?_, by simpa using h2⟩
        have ht : tmps[t]? = some (.pointer (some ad)) := by
          have := hs.2 t (by rw [hq]; rfl)
          rw [hq] at this
          exact this
        have hlv := run_loadVar (P := P) hf x1 x2 x3 hr
        have e : (do loadVar T (← asAddr (tmps.getD t undef)) : Sem Value).run P w = .ok x.enc w := by simp [ht, asAddr, hlv]
        simp only [List.mapM_cons]
        rw [Sem.run_bind, e]
        simp only [Result.andThen_ok, Sem.run_bind]
        rw [h1]
        simp [encL]
    · exact h.elim

theorem encL_len : ∀ xs : List TV, (encL xs).length = xs.length
  | [] => rfl
  | x :: r => by simp [encL, encL_len r]

theorem encL_get : ∀ (l : List TV) (i : Nat), (encL l)[i]? = (l[i]?).map TV.enc
  | [], i => by simp [encL]
  | x :: r, 0 => by simp [encL]
  | x :: r, i + 1 => by simp [encL, encL_get r i]

theorem retR_post {fn : Func} {R : Ending → World → Prop} {a : Act} {w : World} {env : Env} (hs : Sim N env a.tmps) (h : retR P fn R env w) :
    ∃ v, (results fn a.tmps).run P w = .ok v w ∧ R (.returned v) w := by
  obtain ⟨xs, h1, h2⟩ := retK_run (fn := fn) hs fn.results.toList [] _ h
  simp only [List.reverse_nil, List.nil_append] at h2
  refine ⟨_, ?_, h2⟩
  unfold results
  rw [Array.mapM_eq_mapM_toList]
  simp only [Sem.run_bind, Sem.run_map]
  erw [h1]
  simp only [Result.andThen_ok, Sem.run_pure]
  congr 1
  match xs with
  | [] => rfl
  | [x] => simp [encL, packV]
  | x :: y :: r => simp [encL, packV, TV.enc]

theorem calls_of_den {f : FuncId} {fn : Func} {c : Code} (ann : Ann) (hf : P.funcs[f]? = some fn) (hb : fn.body = some c) (args : List TV) (hl : args.length ≤ fn.ntmps) {w : World} {R : Ending → World → Prop}
    (h : den P fn.ntmps ann c (ktOf P fn R) (envOf 0 args) w) : Calls P f (encL args).toArray w R := by
  refine calls_of_wp hf hb ?_
  have hs : Sim fn.ntmps (envOf 0 args) ((encL args).toArray ++ Array.replicate (fn.ntmps - (encL args).toArray.size) undef) := by
    have hle := encL_len args
    refine ⟨by simp [hle]; omega, fun t ht => ?_⟩
    obtain ⟨j, x, h1, h2, h3⟩ := envOf_look 0 args t ht
    rw [h3]
    have : t = j := by omega
    subst this
    have hjl : t < args.length := (List.getElem?_eq_some_iff.1 h2).1
    rw [Array.getElem?_append_left (by simpa [hle] using hjl)]
    simp [encL_get, h2]
  refine Code.wp_mono ?_ (den_wp c ann _ _ w _ hs h)
  intro e a w' hq
  cases e with
  | normal => obtain ⟨hd, _, env, hs', hk⟩ := hq; exact ⟨hd, retR_post hs' hk⟩
  | ret => obtain ⟨hd, _, env, hs', hk⟩ := hq; exact ⟨hd, retR_post hs' hk⟩
  | exit i => obtain ⟨hd, _, env, hs', hk⟩ := hq; exact hk.elim
  | panic c => exact hq
  | goto l => exact hq.elim
  | outgrown => exact hq.elim
end
end Go.Sh
