/- Soundness of the shallow form: code. -/
import Derived.Test.YtnecbkjpijiopaaSh1g
import Derived.Deep.LoopGhost
set_option linter.unusedSimpArgs false
set_option linter.unusedVariables false
namespace Go.Sh
open Go

def Same (ws : List Nat) (t0 t1 : Array Value) : Prop := ∀ t, t ∉ ws → t1[t]? = t0[t]?
theorem Same.refl (ws : List Nat) (t : Array Value) : Same ws t t := fun _ _ => rfl
theorem Same.trans {a b c : List Nat} {x y z : Array Value} (h : Same a x y) (h' : Same b y z) (ha : ∀ t, t ∈ a → t ∈ c) (hb : ∀ t, t ∈ b → t ∈ c) : Same c x z :=
  fun t ht => (h' t (fun e => ht (hb t e))).trans (h t (fun e => ht (ha t e)))
theorem Same.mono {a c : List Nat} {x y : Array Value} (h : Same a x y) (ha : ∀ t, t ∈ a → t ∈ c) : Same c x y := fun t ht => h t (fun e => ht (ha t e))
theorem Same.put (a : Act) (d : Option Tmp) (v : Value) {ws : List Nat} (h : ∀ x, d = some x → x ∈ ws) : Same ws a.tmps (a.put d v).tmps := by
  intro t ht
  cases d with
  | none => rfl
  | some x =>
    have : x ≠ t := fun e => ht (e ▸ h x rfl)
    simp [Act.put, Array.getElem?_setIfInBounds_ne this]

section
variable {P : Program} {N : Nat}

theorem put_defers (a : Act) (d : Option Tmp) (v : Value) : (a.put d v).defers = a.defers := by cases d <;> rfl

theorem Sim.putD' {env : Env} {a : Act} (h : Sim N env a.tmps) {d : Option Tmp} (hd : inRange N d = true) {x : TV} {v : Value} (hv : x.isBad = false → v = x.enc) :
    Sim N (Sh.putD env d x) (a.put d v).tmps := by
  cases d with
  | none => exact h
  | some d => exact h.put (by simpa [inRange] using hd) hv

theorem guard_split {ops : List Oper} {o : Oper} {env : Env} {a : Act} {yes no : Env → Prop} (hsim : Sim N env a.tmps) (h : guardK ops o env yes no) :
    (Region.wanted o (yielded ops.toArray a.tmps) = true ∧ ∃ env', Sim N env' a.tmps ∧ yes env') ∨ (Region.wanted o (yielded ops.toArray a.tmps) = false ∧ ∃ env', Sim N env' a.tmps ∧ no env') := by
  unfold guardK at h
  unfold Region.wanted
  cases hg : o.guard with
  | none => simp only [hg] at h; exact .inl ⟨rfl, env, hsim, h⟩
  | some jw =>
    obtain ⟨j, want⟩ := jw
    simp only [hg] at h
    cases hs : slotOf ops j with
    | none => simp [hs] at h
    | some d =>
      simp only [hs] at h
      split at h
      · rename_i t hl
        have ht : a.tmps[d]? = some (.bool t) := by
          have := hsim.2 d (by rw [hl]; rfl)
          rw [hl] at this
          exact this
        have hy : yielded ops.toArray a.tmps j = some t := by
          unfold yielded
          unfold slotOf at hs
          cases ho : ops[j]? with
          | none => simp [ho] at hs
          | some oj =>
            simp [ho] at hs
            simp [ho, hs, ht]
        simp only [hy]
        have hsame : Sim N ((d, .b t) :: env) a.tmps := hsim.same hl
        cases t <;> cases want <;> simp only [condK, cond_true, cond_false] at h
        · exact .inl ⟨rfl, _, hsame, h⟩
        · exact .inr ⟨rfl, _, hsame, h⟩
        · exact .inr ⟨rfl, _, hsame, h⟩
        · exact .inl ⟨rfl, _, hsame, h⟩
      · rename_i fs hl
        have ht : a.tmps[d]? = some (.tuple (encL fs).toArray) := by
          have := hsim.2 d (by rw [hl]; rfl)
          rw [hl] at this
          exact this
        have hy : yielded ops.toArray a.tmps j = none := by
          unfold yielded
          unfold slotOf at hs
          cases ho : ops[j]? with
          | none => simp [ho] at hs
          | some oj =>
            simp [ho] at hs
            simp [ho, hs, ht]
        simp only [hy]
        exact .inr ⟨rfl, env, hsim, h⟩
      · exact h.elim

theorem denOps_wp {ops : List Oper} {pan : List PanicEntry → World → Prop} {k : Env → World → Prop} {Q : Exit → Act → World → Prop}
    (hp : ∀ c a' w', a'.defers = [] → pan c w' → Q (.panic c) a' w') :
    ∀ (l : List Oper) (env : Env) (a : Act) (w : World), Sim N env a.tmps → a.defers = [] → denOps P N ops pan l k env w →
      (∀ env a' w', Sim N env a'.tmps → a'.defers = [] → Same (opsWrite l) a.tmps a'.tmps → k env w' → Q .normal a' w') → wpList P ops.toArray Q l a w
  | [], env, a, w, hsim, hd, h, hn => hn env a w hsim hd (Same.refl _ _) h
  | o :: r, env, a, w, hsim, hd, h, hn => by
    unfold denOps at h
    cases hr : inRange N o.dst with
    | false => simp [hr] at h
    | true =>
      simp only [hr, cond_true] at h
      have hsub : ∀ t, t ∈ opsWrite r → t ∈ opsWrite (o :: r) := by
        intro t ht; unfold opsWrite; cases o.dst <;> simp [ht]
      have hdst : ∀ x, o.dst = some x → x ∈ opsWrite (o :: r) := by
        intro x hx; unfold opsWrite; simp [hx]
      have rest : ∀ (env : Env) (v : Value) (x : TV) (w' : World), Sim N env a.tmps → (x.isBad = false → v = x.enc) → denOps P N ops pan r k (putD env o.dst x) w' → wpList P ops.toArray Q r (a.put o.dst v) w' := by
        intro env v x w' hs hv hden
        refine denOps_wp hp r _ (a.put o.dst v) w' (hs.putD' hr hv) (by rw [put_defers, hd]) hden ?_
        intro env' a' w'' h1 h2 h3 h4
        exact hn env' a' w'' h1 h2 (Same.trans (Same.put a o.dst v hdst) h3 (fun _ h => h) hsub) h4
      rcases guard_split hsim h with ⟨hw, env', hs', h⟩ | ⟨hw, env', hs', h⟩
      · unfold wpList
        rw [if_pos hw]
        left
        exact runOp_wp hs' h (fun t v w' hv hk => rest env' v t w' hs' hv hk) (fun c w' hc => hp c a w' hd hc)
      · unfold wpList
        rw [if_neg (by simp [hw])]
        exact rest env' undef (.tup []) w hs' (fun _ => rfl) h

theorem opsWrite_mem (l : List Oper) (o : Oper) (h : o ∈ l) (x : Nat) (hx : o.dst = some x) : x ∈ opsWrite l := by
  induction l with
  | nil => cases h
  | cons y r ih =>
    rcases List.mem_cons.1 h with e | e
    · subst e; simp [opsWrite, hx]
    · have := ih e
      unfold opsWrite
      cases y.dst <;> simp [this]

mutual
theorem denDraw_wp {ops : Array Oper} {S : World → Prop} {LD : Addr → List Value → Prop} {pan : List PanicEntry → World → Prop} {k : Env → World → Prop} {Q : Exit → Act → World → Prop} {t0 : Array Value}
    (hsel : Region.noSelect ops = true) (hLD : ∀ ad cs, LD ad cs → ∀ w', S w' → Rd w' ad cs) (hQ : ∀ c (a : Act) d v w, Q (.panic c) (a.put d v) w → Q (.panic c) a w)
    (hp : ∀ c a' w', a'.defers = [] → pan c w' → Q (.panic c) a' w')
    (hn : ∀ env a' w', Sim N env a'.tmps → a'.defers = [] → Same (opsWrite ops.toList) t0 a'.tmps → k env w' → Q .normal a' w') :
    ∀ (d : DS) (f : Nat) (listed : Array Bool) (env : Env) (a : Act) (w : World), Sim N env a.tmps → a.defers = [] → Same (opsWrite ops.toList) t0 a.tmps → S w → denDraw P N ops S LD pan k d f listed env w →
      wpAnyH P .any ops Q S f listed a w
  | .done, f, listed, env, a, w, hsim, hd, hsame, hS, h => by
    unfold denDraw at h
    cases hr : (Region.ready .any ops listed).isEmpty with
    | false => simp [hr] at h
    | true =>
      simp only [hr, cond_true] at h
      exact wpAnyH_done (by simpa using hr) (hn env a w hsim hd hsame h) f
  | .take i r, 0, listed, env, a, w, hsim, hd, hsame, hS, h => by unfold denDraw at h; exact h.elim
  | .take i r, f + 1, listed, env, a, w, hsim, hd, hsame, hS, h => by
    unfold denDraw at h
    cases ho : ops[i]? with
    | none => simp [ho] at h
    | some o =>
      simp only [ho] at h
      have hdst : ∀ x, o.dst = some x → x ∈ opsWrite ops.toList := opsWrite_mem _ o (by
        have := Array.mem_of_getElem? ho
        simpa using this)
      cases hc : (inRange N o.dst && Region.free .any ops listed i && (Region.ready .any ops listed).contains i) with
      | false => simp only [hc, cond_false] at h
      | true =>
        simp only [hc, cond_true] at h
        simp only [Bool.and_eq_true] at hc
        obtain ⟨⟨c1, c2⟩, c3⟩ := hc
        have go : ∀ (env' : Env) (v : Value) (x : TV), Sim N env' a.tmps → (x.isBad = false → v = x.enc) → YieldsIf P ops S o v a → denDraw P N ops S LD pan k r f (listed.setIfInBounds i true) (putD env' o.dst x) w →
            wpAnyH P .any ops Q S (f + 1) listed a w := by
          intro env' v x hs hv hy hden
          refine wpAnyH_take ho hsel c2 c3 (fun c a w => hQ c a o.dst v w) hy hS ?_
          exact denDraw_wp hsel hLD hQ hp hn r f _ _ (a.put o.dst v) w (hs.putD' c1 hv) (by rw [put_defers, hd])
            (Same.trans hsame (Same.put a o.dst v hdst) (fun _ h => h) (fun _ h => h)) hS hden
        have eops : ops.toList.toArray = ops := by simp
        cases hpu : isPure P o with
        | true =>
          simp only [hpu, cond_true] at h
          rcases guard_split hsim h with ⟨hw, env', hs', h⟩ | ⟨hw, env', hs', h⟩
          · rw [eops] at hw
            obtain ⟨t, v, hr, hv, h⟩ := pureK_run hs' h
            exact go env' v t hs' hv (.inl ⟨hw, fun w _ => hr w⟩) h
          · rw [eops] at hw
            exact go env' undef (.tup []) hs' (fun _ => rfl) (.inr ⟨hw, rfl⟩) h
        | false =>
          simp only [hpu, cond_false] at h
          split at h
          · rename_i T x hop
            rcases guard_split hsim h with ⟨hw, env', hs', h⟩ | ⟨hw, env', hs', h⟩
            · rw [eops] at hw
              split at h
              · rename_i q hx
                obtain ⟨ad, rfl, h⟩ := onSome_out h
                cases hf : kdFit P T with
                | false => simp [hf, onSome] at h
                | true =>
                  simp only [hf, cond_true] at h
                  obtain ⟨t, t1, t2, t3, hr, h⟩ := exK_out _ _ h
                  refine go env' t.enc t hs' (fun _ => rfl) (.inl ⟨hw, fun w' hSw => ?_⟩) h
                  have := run_loadVar (P := P) hf t1 t2 t3 (hLD _ _ hr w' hSw)
                  simp [execOp, hop, hs'.is hx rfl, TV.enc, Instr.loadAt, Instr.sureAddr, this]
              · exact h.elim
            · rw [eops] at hw
              exact go env' undef (.tup []) hs' (fun _ => rfl) (.inr ⟨hw, rfl⟩) h
          · exact h.elim
  | .all rs, 0, listed, env, a, w, hsim, hd, hsame, hS, h => by unfold denDraw at h; exact h.elim
  | .all rs, f + 1, listed, env, a, w, hsim, hd, hsame, hS, h => by
    unfold denDraw at h
    cases hc : (Region.ready .any ops listed == rs.map (·.1) && !rs.isEmpty) with
    | false => simp only [hc, cond_false] at h
    | true =>
      simp only [hc, cond_true] at h
      simp only [Bool.and_eq_true, beq_iff_eq] at hc
      have hne : rs.map (·.1) ≠ [] := by
        intro e
        cases rs with
        | nil => simp at hc
        | cons _ _ => simp at e
      refine wpAnyH_all hc.1 hne ?_
      exact denDraws_wp hsel hLD hQ hp hn rs f listed env a w hsim hd hsame hS h
theorem denDraws_wp {ops : Array Oper} {S : World → Prop} {LD : Addr → List Value → Prop} {pan : List PanicEntry → World → Prop} {k : Env → World → Prop} {Q : Exit → Act → World → Prop} {t0 : Array Value}
    (hsel : Region.noSelect ops = true) (hLD : ∀ ad cs, LD ad cs → ∀ w', S w' → Rd w' ad cs) (hQ : ∀ c (a : Act) d v w, Q (.panic c) (a.put d v) w → Q (.panic c) a w)
    (hp : ∀ c a' w', a'.defers = [] → pan c w' → Q (.panic c) a' w')
    (hn : ∀ env a' w', Sim N env a'.tmps → a'.defers = [] → Same (opsWrite ops.toList) t0 a'.tmps → k env w' → Q .normal a' w') :
    ∀ (rs : List (Nat × DS)) (f : Nat) (listed : Array Bool) (env : Env) (a : Act) (w : World), Sim N env a.tmps → a.defers = [] → Same (opsWrite ops.toList) t0 a.tmps → S w → denDraws P N ops S LD pan k rs f listed env w →
      ∀ i ∈ rs.map (·.1), wpOp P ops Q i (fun a' w' => S w' ∧ wpAnyH P .any ops Q S f (listed.setIfInBounds i true) a' w') a w
  | [], f, listed, env, a, w, hsim, hd, hsame, hS, h => by simp
  | (i, r) :: rs, f, listed, env, a, w, hsim, hd, hsame, hS, h => by
    unfold denDraws at h
    obtain ⟨h, hrest⟩ := h
    have ih := denDraws_wp hsel hLD hQ hp hn rs f listed env a w hsim hd hsame hS hrest
    intro j hj
    simp only [List.map_cons, List.mem_cons] at hj
    rcases hj with rfl | hj
    · cases ho : ops[j]? with
      | none => simp [ho] at h
      | some o =>
        simp only [ho] at h
        have hdst : ∀ x, o.dst = some x → x ∈ opsWrite ops.toList := opsWrite_mem _ o (by
          have := Array.mem_of_getElem? ho
          simpa using this)
        cases c1 : inRange N o.dst with
        | false => simp [c1] at h
        | true =>
          simp only [c1, cond_true] at h
          have go : ∀ (env' : Env) (v : Value) (x : TV) (w' : World), Sim N env' a.tmps → (x.isBad = false → v = x.enc) → S w' → denDraw P N ops S LD pan k r f (listed.setIfInBounds j true) (putD env' o.dst x) w' →
              wpAnyH P .any ops Q S f (listed.setIfInBounds j true) (a.put o.dst v) w' := by
            intro env' v x w' hs hv hS' hden
            exact denDraw_wp hsel hLD hQ hp hn r f _ _ (a.put o.dst v) w' (hs.putD' c1 hv) (by rw [put_defers, hd])
              (Same.trans hsame (Same.put a o.dst v hdst) (fun _ h => h) (fun _ h => h)) hS' hden
          have eops : ops.toList.toArray = ops := by simp
          unfold wpOp
          simp only [ho]
          rcases guard_split hsim h with ⟨hw, env', hs', h⟩ | ⟨hw, env', hs', h⟩
          · rw [eops] at hw
            rw [if_pos hw]
            left
            exact runOp_wp hs' h (fun t v w' hv hk => ⟨hk.1, go env' v t w' hs' hv hk.1 hk.2⟩) (fun c w' hc => hp c a w' hd hc)
          · rw [eops] at hw
            rw [if_neg (by simp [hw])]
            exact ⟨h.1, go env' undef (.tup []) w hs' (fun _ => rfl) h.1 h.2⟩
    · exact ih j hj
end
end
end Go.Sh
