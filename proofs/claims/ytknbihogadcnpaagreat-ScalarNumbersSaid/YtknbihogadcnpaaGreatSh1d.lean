/- Soundness of the shallow form: operations whose value hangs on their operands alone, all of them. -/
import Derived.Test.YtknbihogadcnpaaGreatSh1c
set_option linter.unusedSimpArgs false
set_option linter.unusedVariables false
namespace Go.Sh
open Go

theorem fits_part : ∀ (fs : List TV) (o : Nat) (ps : List Pt) (i : Nat) (y : TV), fitsAt o ps fs = true → fs[i]? = some y →
    ∃ q pre post, ps[i]? = some q ∧ cellsL fs = pre ++ y.cells ++ post ∧ o + pre.length = q.off ∧ y.cells.length = q.size ∧ y.isAgg = q.ag ∧ y.isBad = false
  | [], o, ps, i, y, h, hi => by simp at hi
  | x :: xs, o, ps, i, y, h, hi => by
    cases ps with
    | nil => simp [fitsAt] at h
    | cons q r =>
      simp only [fitsAt, Bool.and_eq_true, beq_iff_eq, Nat.beq_eq] at h
      obtain ⟨⟨⟨⟨h1, h2⟩, h3⟩, h4⟩, h5⟩ := h
      cases i with
      | zero =>
        simp at hi; subst hi
        exact ⟨q, [], cellsL xs, rfl, by simp [cellsL], by simp [h1], h2.symm, h3, by simpa using h4⟩
      | succ i =>
        simp at hi
        obtain ⟨q', pre, post, e1, e2, e3, e4, e5, e6⟩ := fits_part xs (o + q.size) r i y h5 hi
        refine ⟨q', x.cells ++ pre, post, by simpa using e1, by simp [cellsL, e2], ?_, e4, e5, e6⟩
        simp only [List.length_append]; omega

theorem cells_single {y : TV} (h1 : y.isAgg = false) (h2 : y.isBad = false) : y.cells = [y.enc] := by
  cases y <;> simp_all [TV.isAgg, TV.isBad, TV.cells, TV.enc]

theorem enc_agg {y : TV} (h1 : y.isAgg = true) : y.enc = .agg y.cells.toArray := by
  cases y <;> simp_all [TV.isAgg, TV.cells, TV.enc]

section
variable {P : Program}

theorem run_sizeOf {T : TypeId} {i : TypeInfo} (h : P.info? T = some i) (w : World) : (sizeOf T).run P w = .ok i.size w := by
  simp [sizeOf, typeInfo, h]
theorem sizeAt_of {T : TypeId} {i : TypeInfo} (h : P.info? T = some i) : sizeAt P T = i.size := by simp [sizeAt, h]
theorem info_some {T : TypeId} (h : (P.info? T).isSome = true) : P.info? T = some ((P.info? T).get h) := by simp
theorem run_sizeAt {T : TypeId} (h : (P.info? T).isSome = true) (w : World) : (sizeOf T).run P w = .ok (sizeAt P T) w := by
  rw [run_sizeOf (info_some h), sizeAt_of (info_some h)]
theorem run_isAgg {T : TypeId} {d : TypeDesc} (h : P.underlying T = some d) (w : World) : (isAgg T).run P w = .ok (isAggT P T) w := by
  unfold isAggT
  cases d <;> simp [isAgg, run_underlying h, h]

theorem isAggT_none {T : TypeId} (h : P.underlying T = none) : isAggT P T = false := by simp [isAggT, h]

theorem und_of_info {T : TypeId} (h : (P.info? T).isSome = true) (w : World) : ∃ b, (isAgg T).run P w = .ok b w ∧ (b = isAggT P T) ∨ P.underlying T = none := by
  cases hu : P.underlying T with
  | none => exact ⟨true, .inr rfl⟩
  | some d => exact ⟨_, .inl ⟨run_isAgg hu w, rfl⟩⟩

/-- reading a part -/
theorem run_part {T : TypeId} {d : TypeDesc} (hu : P.underlying T = some d) (hi : (P.info? T).isSome = true) {y : TV} {pre post : List Value} (hb : y.isBad = false)
    (hag : y.isAgg = isAggT P T) (hs : y.cells.length = sizeAt P T) (w : World) :
    (part T (pre ++ y.cells ++ post).toArray pre.length).run P w = .ok y.enc w := by
  unfold part
  simp only [Sem.run_bind, run_isAgg hu, Result.andThen_ok]
  cases hA : isAggT P T with
  | true =>
    rw [hA] at hag
    simp only [↓reduceIte, Sem.run_bind, run_sizeAt hi, Result.andThen_ok, Sem.run_pure]
    rw [enc_agg hag]
    congr 2
    apply Array.ext'
    simp [← hs]
  | false =>
    rw [hA] at hag
    rw [cells_single hag hb]
    simp

end

theorem binds_good {x : TV} (h : x.isBad = false) : x ≠ .bad := by intro e; subst e; simp [TV.isBad] at h

theorem optNum_run {env : Env} {x : Option Operand} {n : Option Int} (h : optNum env x = some n) :
    (x = none ∧ n = none) ∨ ∃ o c, x = some o ∧ n = some c ∧ (ev env o).num = some c := by
  unfold optNum at h
  split at h
  · exact .inl ⟨rfl, by simpa using h.symm⟩
  · rename_i o
    split at h
    · rename_i c hc
      exact .inr ⟨o, c, rfl, by simpa using h.symm, hc⟩
    · simp at h

/-- bounds that hold -/
theorem bounds_run {P : Program} {isS : Bool} {len cap : Nat} {lo hi mx : Option Int} {kl kh km : IntKind} {K : Nat → Nat → Nat → Prop} (h : boundK len cap lo hi mx K) :
    ∃ l h' m, (∀ w, (Instr.sliceBounds isS len cap (lo.map (Value.int kl)) (hi.map (Value.int kh)) (mx.map (Value.int km))).run P w = .ok (l, h', m) w) ∧ K l h' m := by
  cases mx with
  | none =>
    cases hi with
    | none =>
      cases lo with
      | none => exact ⟨_, _, _, fun w => by simp [Instr.sliceBounds], h⟩
      | some l =>
        obtain ⟨⟨h1, h2⟩, h⟩ := h
        exact ⟨_, _, _, fun w => by simp [Instr.sliceBounds, Instr.sliceBound, asIntOf, h1, h2], h⟩
    | some hh =>
      cases lo with
      | none =>
        obtain ⟨⟨h1, h2⟩, h⟩ := h
        exact ⟨_, _, _, fun w => by simp [Instr.sliceBounds, Instr.sliceBound, asIntOf, h1, h2], h⟩
      | some l =>
        obtain ⟨⟨h1, h2, h3⟩, h⟩ := h
        have e1 : 0 ≤ hh := by omega
        have e2 : l ≤ max hh 0 := by omega
        exact ⟨_, _, _, fun w => by simp [Instr.sliceBounds, Instr.sliceBound, asIntOf, h1, e2, h3, e1], h⟩
  | some m =>
    cases hi with
    | none => exact h.elim
    | some hh =>
      cases lo with
      | none =>
        obtain ⟨⟨h1, h2, h3⟩, h⟩ := h
        have e1 : 0 ≤ m := by omega
        have e2 : hh ≤ max m 0 := by omega
        exact ⟨_, _, _, fun w => by simp [Instr.sliceBounds, Instr.sliceBound, asIntOf, h1, e2, h3, e1], h⟩
      | some l =>
        obtain ⟨⟨h1, h2, h3, h4⟩, h⟩ := h
        have e1 : 0 ≤ m := by omega
        have e0 : 0 ≤ hh := by omega
        have e2 : hh ≤ max m 0 := by omega
        have e3 : l ≤ max hh 0 := by omega
        exact ⟨_, _, _, fun w => by simp [Instr.sliceBounds, Instr.sliceBound, asIntOf, h1, e2, e3, h4, e1, e0], h⟩

/-! ### building -/
theorem splice_fold (cs : List Value) : ∀ (i : Nat) (pre old post : List Value) (k : Nat), old.length = cs.length → k + i = pre.length →
    (cs.zipIdx i).foldl (fun a (cj : Value × Nat) => a.setIfInBounds (k + cj.2) cj.1) (pre ++ old ++ post).toArray = (pre ++ cs ++ post).toArray := by
  induction cs with
  | nil => intro i pre old post k h _; have : old = [] := List.eq_nil_of_length_eq_zero (by simpa using h); subst this; rfl
  | cons c cs ih =>
    intro i pre old post k h hk
    cases old with
    | nil => simp at h
    | cons o old =>
      simp only [List.zipIdx_cons, List.foldl_cons]
      have e : ((pre ++ o :: old ++ post).toArray).setIfInBounds (k + i) c = ((pre ++ [c]) ++ old ++ post).toArray := by
        rw [hk]
        apply Array.ext'
        simp
      rw [e, ih (i + 1) (pre ++ [c]) old post k (by simpa using h) (by simp; omega)]
      simp

theorem fits_len : ∀ (o : Nat) (ps : List Pt) (fs : List TV), fitsAt o ps fs = true → ps.length = fs.length
  | o, [], [], _ => rfl
  | o, [], _ :: _, h => by simp [fitsAt] at h
  | o, _ :: _, [], h => by simp [fitsAt] at h
  | o, q :: r, x :: xs, h => by
    simp only [fitsAt, Bool.and_eq_true] at h
    simp [fits_len _ r xs h.2]

theorem cellsL_set : ∀ (fs : List TV) (i : Nat) (x y : TV) (pre post : List Value), fs[i]? = some y → cellsL fs = pre ++ y.cells ++ post → pre.length = (cellsL (fs.take i)).length →
    cellsL (fs.set i x) = pre ++ x.cells ++ post
  | [], i, x, y, pre, post, h, _, _ => by simp at h
  | z :: zs, 0, x, y, pre, post, h, he, hl => by
    simp at h; subst h
    simp [cellsL] at hl
    subst hl
    simp [cellsL] at he ⊢
    exact he
  | z :: zs, i + 1, x, y, pre, post, h, he, hl => by
    simp at h
    simp only [List.take_succ_cons, cellsL, List.length_append] at hl
    simp only [cellsL, List.set_cons_succ] at he ⊢
    have hz : pre.take z.cells.length = z.cells := by
      have := congrArg (List.take z.cells.length) he
      simp [List.take_append_of_le_length, show z.cells.length ≤ pre.length by omega] at this
      exact this.symm
    obtain ⟨p2, rfl⟩ : ∃ p2, pre = z.cells ++ p2 := ⟨pre.drop z.cells.length, (List.take_append_drop z.cells.length pre).symm.trans (by rw [hz])⟩
    simp only [List.append_assoc, List.append_cancel_left_eq] at he ⊢
    have := cellsL_set zs i x y p2 post h (by simpa using he) (by simp at hl; omega)
    simpa using this

theorem fits_take : ∀ (fs : List TV) (o : Nat) (ps : List Pt) (i : Nat) (q : Pt), fitsAt o ps fs = true → ps[i]? = some q → q.off = o + (cellsL (fs.take i)).length
  | [], o, ps, i, q, h, hi => by cases ps <;> simp_all [fitsAt]
  | x :: xs, o, ps, i, q, h, hi => by
    cases ps with
    | nil => simp at hi
    | cons p r =>
      simp only [fitsAt, Bool.and_eq_true, beq_iff_eq, Nat.beq_eq] at h
      obtain ⟨⟨⟨⟨h1, h2⟩, h3⟩, h4⟩, h5⟩ := h
      cases i with
      | zero => simp at hi; subst hi; simp [cellsL, h1]
      | succ i =>
        simp at hi
        have := fits_take xs (o + p.size) r i q h5 hi
        simp only [List.take_succ_cons, cellsL, List.length_append]; omega

/-- a value's cells, where it is one cell or a row -/
theorem cells_of {x : TV} (hb : x.isBad = false) (hs : ∀ v, x = .v v → v.oneCell' = true) : x.enc.cells = x.cells.toArray := by
  cases x with
  | v y =>
    have := hs y rfl
    cases y <;> simp_all [Value.oneCell', TV.enc, TV.cells, Value.cells]
  | bad => simp [TV.isBad] at hb
  | _ => simp [TV.enc, TV.cells, Value.cells]

theorem solid_out : ∀ (ts : List TV) (K : Prop), solidK ts K → (∀ t ∈ ts, ∀ v, t = .v v → v.oneCell' = true) ∧ K
  | [], K, h => ⟨by simp, h⟩
  | t :: r, K, h => by
    cases t with
    | v y =>
      obtain ⟨h1, h2⟩ := h
      obtain ⟨h3, h4⟩ := solid_out r K h2
      refine ⟨fun t ht v hv => ?_, h4⟩
      cases ht with
      | head => cases hv; exact h1
      | tail _ ht => exact h3 t ht v hv
    | _ =>
      obtain ⟨h3, h4⟩ := solid_out r K h
      refine ⟨fun t ht v hv => ?_, h4⟩
      cases ht with
      | head => cases hv
      | tail _ ht => exact h3 t ht v hv

theorem fill_parts {N : Nat} {env : Env} {a : Act} (hsim : Sim N env a.tmps) {ps : List Pt} {place : Nat → Option (Nat × Nat)} (hp : ∀ i q, ps[i]? = some q → place i = some (q.off, q.size)) :
    ∀ (parts : List (Nat × Operand)) (fs out : List TV), fitsAt 0 ps fs = true → setParts ps env fs parts = some out → (∀ t ∈ parts.map (fun q => ev env q.2), ∀ v, t = .v v → v.oneCell' = true) →
      Instr.fill place (cellsL fs).toArray (parts.map fun q => (q.1, a.eval q.2)) = some (cellsL out).toArray ∧ fitsAt 0 ps out = true
  | [], fs, out, hf, hs, _ => by
    simp only [setParts, Option.some.injEq] at hs
    subst hs
    exact ⟨rfl, hf⟩
  | (i, x) :: r, fs, out, hf, hs, hso => by
    simp only [setParts] at hs
    cases hc : (Nat.blt i fs.length && fitsAt 0 ps (fs.set i (ev env x))) with
    | false => simp [hc] at hs
    | true =>
      simp only [hc, cond_true] at hs
      simp only [Bool.and_eq_true, Nat.blt_eq] at hc
      obtain ⟨hlt, hfit⟩ := hc
      have hy : (fs.set i (ev env x))[i]? = some (ev env x) := by simp [hlt]
      obtain ⟨q, pre2, post2, e1, e2, e3, e4, e5, e6⟩ := fits_part _ _ _ _ _ hfit hy
      obtain ⟨y, hyo⟩ : ∃ y, fs[i]? = some y := ⟨_, List.getElem?_eq_getElem hlt⟩
      obtain ⟨q', pre, post, f1, f2, f3, f4, f5, f6⟩ := fits_part _ _ _ _ _ hf hyo
      rw [e1] at f1
      cases f1
      have hev := hsim.eval x e6
      have hcell : (a.eval x).cells = (ev env x).cells.toArray := by
        rw [hev]; exact cells_of e6 (fun v hv => hso _ (by simp) v hv)
      have htake := fits_take fs 0 ps i q hf e1
      have hset := cellsL_set fs i (ev env x) y pre post hyo f2 (by omega)
      have ih := fill_parts hsim hp r (fs.set i (ev env x)) out hfit hs (fun t ht v hv => hso t (by simp at ht ⊢; exact .inr ht) v hv)
      refine ⟨?_, ih.2⟩
      simp only [List.map_cons, Instr.fill, hp i q e1, hcell, List.size_toArray, e4]
      simp only [ne_eq, not_true, decide_false, Bool.false_or]
      have hle : ¬ (q.off + q.size > (cellsL fs).length) := by
        have : (cellsL fs).length = pre.length + y.cells.length + post.length := by rw [f2]; simp [Nat.add_assoc]
        omega
      simp only [hle, decide_false, Bool.false_eq_true, ↓reduceIte]
      have hfold := splice_fold (ev env x).cells 0 pre y.cells post pre.length (by omega) (by omega)
      rw [f2]
      have hoff : q.off = pre.length := by omega
      rw [hoff]
      have e9 : ((ev env x).cells.toArray.zipIdx.foldl (fun cs (x : Value × Nat) => cs.setIfInBounds (pre.length + x.2) x.1) (pre ++ y.cells ++ post).toArray) = (pre ++ (ev env x).cells ++ post).toArray := by
        rw [← Array.foldl_toList]
        simpa using hfold
      rw [e9, ← hset]
      exact ih.1

end Go.Sh
