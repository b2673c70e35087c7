/- Soundness of the shallow form: what hangs on operands alone. -/
import Derived.Test.YtknbihogadcnpaaGreatSh1d
set_option linter.unusedSimpArgs false
set_option linter.unusedVariables false
namespace Go.Sh
open Go

section
variable {P : Program} {N : Nat} {env : Env} {a : Act} {next : TV → Prop}

theorem okT_out {T : TypeId} (h : okT P T = true) : (P.info? T).isSome = true ∧ (P.underlying T).isSome = true := by simpa [okT] using h

theorem onSome_out {α : Type} {o : Option α} {K : α → Prop} (h : onSome o K) : ∃ x, o = some x ∧ K x := by
  cases o with
  | none => exact h.elim
  | some x => exact ⟨x, rfl, h⟩

theorem Sim.is (h : Sim N env a.tmps) {x : Operand} {t : TV} (hx : ev env x = t) (hb : t.isBad = false) : a.eval x = t.enc := by
  subst hx; exact h.eval x hb
theorem Sim.numIs (h : Sim N env a.tmps) {x : Operand} {c : Int} (hx : (ev env x).num = some c) : ∃ k, a.eval x = .int k c := by
  obtain ⟨k, hk⟩ := num_enc hx
  exact ⟨k, by rw [h.eval x (num_good hx), hk]⟩

theorem idx_run {k : IntKind} {n : Int} {len : Nat} {q : Option Addr} {T e : TypeId} (hu : P.underlying T = some (.slice e)) (hi : (P.info? e).isSome = true) {cap : Nat}
    (h : idxK n len q (sizeAt P e) next) : ∃ t, (∀ w, (Instr.indexAt T (.slice q len cap) (.int k n)).run P w = .ok t.enc w) ∧ next t := by
  obtain ⟨⟨h1, h2⟩, h⟩ := h
  obtain ⟨ad, rfl, h⟩ := onSome_out h
  exact ⟨_, fun w => by simp [Instr.indexAt, asIntOf, run_underlying hu, h1, h2, run_sizeAt hi, TV.enc], h⟩

theorem idxA_run {k : IntKind} {n : Int} {len : Nat} {q : Option Addr} {T e : TypeId} (hu : P.underlying T = some (.array len e)) (hi : (P.info? e).isSome = true)
    (h : idxK n len q (sizeAt P e) next) : ∃ t, (∀ w, (Instr.indexAt T (.pointer q) (.int k n)).run P w = .ok t.enc w) ∧ next t := by
  obtain ⟨⟨h1, h2⟩, h⟩ := h
  obtain ⟨ad, rfl, h⟩ := onSome_out h
  exact ⟨_, fun w => by simp [Instr.indexAt, asIntOf, run_underlying hu, h1, h2, run_sizeAt hi, TV.enc, Instr.sureAddr], h⟩

theorem gives_value {s : Sem Value} {t : TV} (h : ∀ w, s.run P w = .ok t.enc w) (hn : next t) : Gives P (do let x ← s; pure (Next.value x) : Sem Next) next :=
  .of (fun w => by simp [h w]) hn

mutual
theorem zeroOf_cells : ∀ (κ : Kd) (l : List Value) (x : TV) (r : List Value), zeroOf κ l = some (x, r) → l = x.cells ++ r
  | .i k, l, x, r, h => by
    unfold zeroOf at h
    split at h <;> (try split at h) <;> simp_all [TV.cells]
    all_goals (obtain ⟨h1, _⟩ := h; rw [← h1]; simp [TV.cells]; try rfl)
  | .u8, l, x, r, h => by
    unfold zeroOf at h
    split at h <;> (try split at h) <;> simp_all [TV.cells]
    all_goals (obtain ⟨h1, _⟩ := h; rw [← h1]; simp [TV.cells]; try rfl)
  | .u64, l, x, r, h => by
    unfold zeroOf at h
    split at h <;> (try split at h) <;> simp_all [TV.cells]
    all_goals (obtain ⟨h1, _⟩ := h; rw [← h1]; simp [TV.cells]; try rfl)
  | .b, l, x, r, h => by
    unfold zeroOf at h
    split at h <;> (try split at h) <;> simp_all [TV.cells]
    all_goals (obtain ⟨h1, _⟩ := h; rw [← h1]; simp [TV.cells]; try rfl)
  | .s, l, x, r, h => by
    unfold zeroOf at h
    split at h <;> (try split at h) <;> simp_all [TV.cells]
    all_goals (obtain ⟨h1, _⟩ := h; rw [← h1]; simp [TV.cells]; try rfl)
  | .p, l, x, r, h => by
    unfold zeroOf at h
    split at h <;> (try split at h) <;> simp_all [TV.cells]
    all_goals (obtain ⟨h1, _⟩ := h; rw [← h1]; simp [TV.cells]; try rfl)
  | .sl, l, x, r, h => by
    unfold zeroOf at h
    split at h <;> (try split at h) <;> simp_all [TV.cells]
    all_goals (obtain ⟨h1, _⟩ := h; rw [← h1]; simp [TV.cells]; try rfl)
  | .m, l, x, r, h => by
    unfold zeroOf at h
    split at h <;> (try split at h) <;> simp_all [TV.cells]
    all_goals (obtain ⟨h1, _⟩ := h; rw [← h1]; simp [TV.cells]; try rfl)
  | .v, l, x, r, h => by
    unfold zeroOf at h
    split at h <;> (try split at h) <;> simp_all [TV.cells]
    all_goals (obtain ⟨h1, _⟩ := h; rw [← h1]; simp [TV.cells]; try rfl)
  | .agg fs, l, x, r, h => by
    unfold zeroOf at h
    cases hz : zerosOf fs l with
    | none => simp [hz] at h
    | some q =>
      obtain ⟨xs, r'⟩ := q
      simp [hz] at h
      obtain ⟨rfl, rfl⟩ := h
      exact zerosOf_cells fs l xs r' hz
  | .la _ _, l, x, r, h => by simp [zeroOf] at h
  | .tup _, l, x, r, h => by simp [zeroOf] at h
theorem zerosOf_cells : ∀ (κs : List Kd) (l : List Value) (xs : List TV) (r : List Value), zerosOf κs l = some (xs, r) → l = cellsL xs ++ r
  | [], l, xs, r, h => by simp [zerosOf] at h; obtain ⟨rfl, rfl⟩ := h; rfl
  | k :: ks, l, xs, r, h => by
    unfold zerosOf at h
    cases hz : zeroOf k l with
    | none => simp [hz] at h
    | some q =>
      obtain ⟨x, r1⟩ := q
      simp only [hz] at h
      cases hzs : zerosOf ks r1 with
      | none => simp [hzs] at h
      | some q' =>
        obtain ⟨ys, r2⟩ := q'
        simp [hzs] at h
        obtain ⟨rfl, rfl⟩ := h
        rw [zeroOf_cells k l x r1 hz, zerosOf_cells ks r1 ys r2 hzs]
        simp [cellsL]
end

theorem zeroTV_run {T : TypeId} {x : TV} (h : zeroTV P T = some x) : ∃ z, (∀ w, (zeroValue T).run P w = .ok z w) ∧ z.cells.toList = x.cells := by
  unfold zeroTV at h
  cases hi : P.info? T with
  | none => simp [hi] at h
  | some i =>
    simp only [hi] at h
    cases hz : i.zero with
    | none => simp [hz] at h
    | some z =>
      simp only [hz] at h
      refine ⟨z, fun w => by simp [zeroValue, typeInfo, hi, hz], ?_⟩
      split at h
      · rename_i y hy
        simp at h; subst h
        have := zeroOf_cells _ _ _ _ hy
        simpa using this
      · simp at h

theorem buildK_run (hsim : Sim N env a.tmps) {T : TypeId} {parts : Array (Nat × Operand)} (h : buildK P T parts env next) :
    ∃ t, (∀ w, (Instr.build T (parts.map fun (i, x) => (i, a.eval x))).run P w = .ok t.enc w) ∧ next t := by
  unfold buildK at h
  split at h
  · rename_i zs hz
    cases hps : partsOf P T with
    | none => simp [hps] at h
    | some ps =>
      simp only [hps] at h
      cases hf : fitsAt 0 ps zs with
      | false => simp [hf] at h
      | true =>
        simp only [hf, cond_true] at h
        cases hs : setParts ps env zs parts.toList with
        | none => simp [hs] at h
        | some fs =>
          simp only [hs] at h
          obtain ⟨hso, h⟩ := solid_out _ _ h
          obtain ⟨z, hzr, hzc⟩ := zeroTV_run hz
          have hzc' : z.cells = (cellsL zs).toArray := by
            apply Array.ext'
            rw [hzc]; rfl
          refine ⟨_, fun w => ?_, h⟩
          unfold partsOf at hps
          split at hps
          · rename_i fields hu
            cases hall : (fields.toList.all fun f => okT P f.type) with
            | false => simp [hall] at hps
            | true =>
              simp only [hall, cond_true, Option.some.injEq] at hps
              subst hps
              have hm : ∀ w, (fields.mapM (fun f => do pure (f.offset, ← sizeOf f.type)) : Sem (Array (Nat × Nat))).run P w = .ok (fields.map fun f => (f.offset, sizeAt P f.type)) w := by
                intro w
                have hl : ∀ (l : List Field) (w : World), l.all (fun f => okT P f.type) = true → (l.mapM (fun f => Functor.map (Prod.mk f.offset) (sizeOf f.type)) : Sem (List (Nat × Nat))).run P w = .ok (l.map fun f => (f.offset, sizeAt P f.type)) w := by
                  intro l
                  induction l with
                  | nil => intro w _; rfl
                  | cons f l ih =>
                    intro w h
                    simp only [List.all_cons, Bool.and_eq_true] at h
                    simp [List.mapM_cons, run_sizeAt (okT_out h.1).1, ih w h.2]
                rw [Array.mapM_eq_mapM_toList]
                simp [hl fields.toList w hall]
                apply Array.ext'
                simp
              have hfill := fill_parts hsim (place := fun i => (fields.map fun f => (f.offset, sizeAt P f.type))[i]?) (by
                intro i q hq
                simp at hq
                obtain ⟨f, hf1, rfl⟩ := hq
                simp [hf1]) parts.toList zs fs hf hs hso
              simp only [Instr.build, Sem.run_bind, hzr, Result.andThen_ok, run_underlying hu, hm, hzc']
              have e : (parts.map fun (x : Nat × Operand) => (x.1, a.eval x.2)).toList = parts.toList.map fun q => (q.1, a.eval q.2) := by simp
              rw [e, hfill.1]
              rfl
          · rename_i n e hu
            cases hall : okT P e with
            | false => simp [hall] at hps
            | true =>
              simp only [hall, cond_true, Option.some.injEq] at hps
              subst hps
              have hfill := fill_parts hsim (place := fun i => some (i * sizeAt P e, sizeAt P e)) (by
                intro i q hq
                simp only [List.getElem?_map, Option.map_eq_some_iff] at hq
                obtain ⟨j, hf1, rfl⟩ := hq
                have := List.getElem?_range (show i < n from by
                  have := (List.getElem?_eq_some_iff.1 hf1).1
                  simpa using this)
                rw [this] at hf1
                cases hf1
                rfl) parts.toList zs fs hf hs hso
              simp only [Instr.build, Sem.run_bind, hzr, Result.andThen_ok, run_underlying hu, run_sizeAt (okT_out hall).1, hzc']
              have e : (parts.map fun (x : Nat × Operand) => (x.1, a.eval x.2)).toList = parts.toList.map fun q => (q.1, a.eval q.2) := by simp
              rw [e, hfill.1]
              rfl
          · simp at hps
  · exact h.elim

theorem field_run (hsim : Sim N env a.tmps) {T : TypeId} {x : Operand} {f : Nat} {fs : List TV} {ps : List Pt} {y : TV} (hx : ev env x = .agg fs) (hps : partsOf P T = some ps) (hf : fs[f]? = some y)
    (hfit : fitsAt 0 ps fs = true) (hfo : (fieldsOf P T).isSome = true) (hn : next y) : ∃ t, (∀ w, (Instr.field T (a.eval x) f).run P w = .ok t.enc w) ∧ next t := by
  obtain ⟨q, pre, post, e1, e2, e3, e4, e5, e6⟩ := fits_part _ _ _ _ _ hfit hf
  refine ⟨y, fun w => ?_, hn⟩
  rw [hsim.is hx rfl]
  unfold partsOf at hps
  unfold fieldsOf at hfo
  split at hps
  · rename_i fields hu
    cases hall : (fields.toList.all fun f => okT P f.type) with
    | false => simp [hall] at hps
    | true =>
      simp only [hall, cond_true, Option.some.injEq] at hps
      subst hps
      simp only [List.getElem?_map, Option.map_eq_some_iff] at e1
      obtain ⟨fd, g1, g2⟩ := e1
      subst g2
      have hfd : fields[f]? = some fd := by simpa using g1
      have hok := okT_out (by simpa using List.all_eq_true.1 hall fd (List.mem_of_getElem? g1))
      have hpre : pre.length = fd.offset := by simpa using e3
      simp only [Instr.field, Sem.run_bind, run_underlying hu, Result.andThen_ok, hfd, TV.enc, asAgg, Sem.run_pure]
      rw [e2, ← hpre]
      exact run_part (Option.some_get hok.2).symm hok.1 e6 e5 e4 w
  · rename_i hu; simp [hu] at hfo
  · simp at hps

theorem index_run (hsim : Sim N env a.tmps) {T e : TypeId} {len : Nat} {x : Operand} {k : IntKind} {n : Int} {fs : List TV} {y : TV} (hu : P.underlying T = some (.array len e)) (hx : ev env x = .agg fs)
    (hk : kdFit P e = true) (hr : 0 ≤ n ∧ n < len) (hall : ∀ z ∈ fs, z.cells.length = sizeAt P e) (hy : fs[n.toNat]? = some y) (hl : y.cells.length = kdSize (kindOf P 20 e)) (hag : y.isAgg = kdAgg (kindOf P 20 e)) (hb : y.isBad = false)
    (w : World) : (Instr.index T (a.eval x) (.int k n)).run P w = .ok y.enc w := by
  rw [hsim.is hx rfl]
  simp only [kdFit, Bool.and_eq_true, beq_iff_eq, Nat.beq_eq] at hk
  obtain ⟨⟨⟨k1, k2⟩, k3⟩, k4⟩ := hk
  have hc : ∀ (fs : List TV) (i : Nat), (∀ z ∈ fs, z.cells.length = sizeAt P e) → fs[i]? = some y → ∃ pre post, cellsL fs = pre ++ y.cells ++ post ∧ pre.length = i * sizeAt P e := by
    intro fs
    induction fs with
    | nil => intro i _ h; simp at h
    | cons z zs ih =>
      intro i ha h
      cases i with
      | zero => simp at h; subst h; exact ⟨[], cellsL zs, by simp [cellsL], by simp⟩
      | succ i =>
        simp at h
        obtain ⟨pre, post, h1, h2⟩ := ih i (fun z hz => ha z (by simp [hz])) h
        refine ⟨z.cells ++ pre, post, by simp [cellsL, h1], ?_⟩
        have := ha z (by simp)
        rw [List.length_append, this, h2, Nat.add_mul]; omega
  obtain ⟨pre, post, h1, h2⟩ := hc fs n.toNat hall hy
  simp only [Instr.index, Sem.run_bind, asIntOf, Sem.run_pure, Result.andThen_ok, run_underlying hu, TV.enc, hr, and_self, ↓reduceIte, run_sizeAt k3]
  rw [h1, ← h2]
  exact run_part (Option.some_get k4).symm k3 hb (by rw [hag, k2]) (by rw [hl, k1]) w

end
end Go.Sh
