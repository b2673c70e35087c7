/- Soundness of the shallow form, first part: values, environments, operations whose value hangs on their operands alone. -/
import Derived.Test.YtknbihogadcnpaaGreatT0
set_option linter.unusedSimpArgs false
set_option linter.unusedVariables false
namespace Go.Sh
open Go

/-! ## values -/
theorem enc_ofVal (v : Value) : (ofVal v).isBad = false ∧ (ofVal v).enc = v := by
  unfold ofVal
  split
  · rename_i n
    by_cases h : 0 ≤ n ∧ n < 256
    · rw [if_pos h]
      refine ⟨rfl, ?_⟩
      simp only [TV.enc]
      congr 1
      have : n.toNat < 256 := by omega
      simp [UInt8.toNat_ofNat', Nat.mod_eq_of_lt this]
      omega
    · rw [if_neg h]; exact ⟨rfl, rfl⟩
  · rename_i n
    by_cases h : 0 ≤ n ∧ n < 18446744073709551616
    · rw [if_pos h]
      refine ⟨rfl, ?_⟩
      simp only [TV.enc]
      congr 1
      have : n.toNat < 18446744073709551616 := by omega
      simp [UInt64.toNat_ofNat', Nat.mod_eq_of_lt this]
      omega
    · rw [if_neg h]; exact ⟨rfl, rfl⟩
  all_goals first | exact ⟨rfl, rfl⟩ | (refine ⟨rfl, ?_⟩; simp [TV.enc])

mutual
theorem exK_out : ∀ (κ : Kd) (K : TV → Prop), exK κ K → ∃ t, t.cells.length = kdSize κ ∧ t.isAgg = kdAgg κ ∧ t.isBad = false ∧ K t
  | .i k, K, ⟨n, h⟩ => ⟨_, rfl, rfl, rfl, h⟩
  | .u8, K, ⟨n, h⟩ => ⟨_, rfl, rfl, rfl, h⟩
  | .u64, K, ⟨n, h⟩ => ⟨_, rfl, rfl, rfl, h⟩
  | .b, K, ⟨n, h⟩ => ⟨_, rfl, rfl, rfl, h⟩
  | .s, K, ⟨n, h⟩ => ⟨_, rfl, rfl, rfl, h⟩
  | .p, K, ⟨n, h⟩ => ⟨_, rfl, rfl, rfl, h⟩
  | .sl, K, ⟨n, h⟩ => ⟨_, rfl, rfl, rfl, h⟩
  | .m, K, ⟨n, h⟩ => ⟨_, rfl, rfl, rfl, h⟩
  | .v, K, ⟨n, h⟩ => ⟨_, rfl, rfl, rfl, h⟩
  | .agg fs, K, h => by
    unfold exK at h
    obtain ⟨xs, h1, h2⟩ := exKs_out fs _ h
    exact ⟨_, by simpa [TV.cells, kdSize] using h1, rfl, rfl, h2⟩
  | .tup fs, K, h => by
    unfold exK at h
    obtain ⟨xs, h1, h2⟩ := exKs_out fs _ h
    exact ⟨_, by simp [TV.cells, kdSize], rfl, rfl, h2⟩
  | .la n .u64, K, h => by
    unfold exK at h
    obtain ⟨l, h1, h2⟩ := h
    refine ⟨_, ?_, rfl, rfl, h2⟩
    simp only [TV.cells, kdSize]
    rw [← h1]
    clear h1 h2
    induction l with
    | nil => rfl
    | cons x r ih => simp [cellsL, TV.cells, ih]
  | .la n .u8, K, h => by
    unfold exK at h
    obtain ⟨l, h1, h2⟩ := h
    refine ⟨_, ?_, rfl, rfl, h2⟩
    simp only [TV.cells, kdSize]
    rw [← h1]
    clear h1 h2
    induction l with
    | nil => rfl
    | cons x r ih => simp [cellsL, TV.cells, ih]
  | .la _ (.i _), _, h => by simp [exK] at h
  | .la _ .b, _, h => by simp [exK] at h
  | .la _ .s, _, h => by simp [exK] at h
  | .la _ .p, _, h => by simp [exK] at h
  | .la _ .sl, _, h => by simp [exK] at h
  | .la _ .m, _, h => by simp [exK] at h
  | .la _ .v, _, h => by simp [exK] at h
  | .la _ (.agg _), _, h => by simp [exK] at h
  | .la _ (.la _ _), _, h => by simp [exK] at h
  | .la _ (.tup _), _, h => by simp [exK] at h
theorem exKs_out : ∀ (κs : List Kd) (K : List TV → Prop), exKs κs K → ∃ xs, (cellsL xs).length = kdSizes κs ∧ K xs
  | [], K, h => ⟨[], rfl, h⟩
  | k :: r, K, h => by
    unfold exKs at h
    obtain ⟨x, h1, _, _, h2⟩ := exK_out k _ h
    obtain ⟨xs, h3, h4⟩ := exKs_out r _ h2
    exact ⟨x :: xs, by simp [cellsL, kdSizes, h1, h3], h4⟩
end

mutual
theorem allK_in : ∀ (κ : Kd) (K : TV → Prop) (t : TV), allK κ K → okK κ t = true → K t
  | .i k, K, t, h, ho => by cases t <;> simp [okK] at ho; subst ho; exact h _
  | .u8, K, t, h, ho => by cases t <;> simp [okK] at ho; exact h _
  | .u64, K, t, h, ho => by cases t <;> simp [okK] at ho; exact h _
  | .b, K, t, h, ho => by cases t <;> simp [okK] at ho; exact h _
  | .s, K, t, h, ho => by cases t <;> simp [okK] at ho; exact h _
  | .p, K, t, h, ho => by cases t <;> simp [okK] at ho; exact h _
  | .sl, K, t, h, ho => by cases t <;> simp [okK] at ho; exact h _
  | .m, K, t, h, ho => by cases t <;> simp [okK] at ho; exact h _
  | .v, K, t, h, ho => by cases t <;> simp [okK] at ho; exact h _
  | .agg fs, K, t, h, ho => by
    cases t <;> simp [okK] at ho
    unfold allK at h
    exact allKs_in fs _ _ h ho
  | .tup fs, K, t, h, ho => by
    cases t <;> simp [okK] at ho
    unfold allK at h
    exact allKs_in fs _ _ h ho
  | .la _ _, K, t, h, ho => by cases t <;> simp [okK] at ho
theorem allKs_in : ∀ (κs : List Kd) (K : List TV → Prop) (ts : List TV), allKs κs K → okKs κs ts = true → K ts
  | [], K, ts, h, ho => by cases ts <;> simp [okKs] at ho; exact h
  | k :: r, K, ts, h, ho => by
    cases ts with
    | nil => simp [okKs] at ho
    | cons x xs =>
      simp [okKs] at ho
      unfold allKs at h
      exact allKs_in r _ xs (allK_in k _ x h ho.1) ho.2
end

theorem enc_cells (t : TV) : t.enc.cells.toList = t.cells ∨ ∃ cs, t = .v (.agg cs) := by
  cases t with
  | v x => cases x <;> first | exact .inl rfl | exact .inr ⟨_, rfl⟩
  | _ => exact .inl (by simp [TV.enc, TV.cells, Value.cells, undef])

/-! ## environments -/
def Sim (N : Nat) (env : Env) (tmps : Array Value) : Prop :=
  tmps.size = N ∧ ∀ t, (look env t).isBad = false → tmps[t]? = some (look env t).enc

theorem look_cons (t : Nat) (x : TV) (env : Env) (u : Nat) : look ((t, x) :: env) u = if t = u then x else look env u := by
  simp only [look]
  by_cases h : t = u
  · subst h; simp [Nat.beq_refl]
  · have : Nat.beq t u = false := by
      cases hb : Nat.beq t u with
      | false => rfl
      | true => exact absurd (Nat.eq_of_beq_eq_true hb) h
    simp [this, h]

theorem Sim.put {N : Nat} {env : Env} {tmps : Array Value} (h : Sim N env tmps) {d : Nat} (hd : d < N) {x : TV} {v : Value} (hv : x.isBad = false → v = x.enc) :
    Sim N ((d, x) :: env) (tmps.setIfInBounds d v) := by
  refine ⟨by simpa using h.1, fun t ht => ?_⟩
  rw [look_cons] at ht ⊢
  by_cases e : d = t
  · subst e
    simp only [↓reduceIte] at ht ⊢
    rw [← hv ht]
    simp [h.1, hd]
  · simp only [e, ↓reduceIte] at ht ⊢
    rw [Array.getElem?_setIfInBounds_ne e]
    exact h.2 t ht

theorem Sim.putD {N : Nat} {env : Env} {tmps : Array Value} {ds : List Deferred} (h : Sim N env tmps) {d : Option Tmp} (hd : inRange N d = true) {x : TV} {v : Value} (hv : x.isBad = false → v = x.enc) :
    Sim N (putD env d x) (({ tmps := tmps, defers := ds } : Act).put d v).tmps := by
  cases d with
  | none => exact h
  | some d => exact h.put (by simpa [inRange] using hd) hv

theorem Sim.same {N : Nat} {env : Env} {tmps : Array Value} (h : Sim N env tmps) {t : Nat} {x : TV} (hx : look env t = x) : Sim N ((t, x) :: env) tmps := by
  refine ⟨h.1, fun u hu => ?_⟩
  rw [look_cons] at hu ⊢
  by_cases e : t = u
  · subst e; simp only [↓reduceIte] at hu ⊢; rw [← hx] at hu ⊢; exact h.2 _ hu
  · simp only [e, ↓reduceIte] at hu ⊢; exact h.2 u hu

theorem Sim.eval {N : Nat} {env : Env} {a : Act} (h : Sim N env a.tmps) (x : Operand) (hx : (ev env x).isBad = false) : a.eval x = (ev env x).enc := by
  cases x with
  | tmp t => simp only [ev] at hx ⊢; simp [Act.eval, h.2 t hx]
  | const v => exact ((enc_ofVal v).2).symm
  | global g => rfl
  | func f => rfl

end Go.Sh
