/- More heap rules: make, copy, append of zeros, literals of no elements. Generic in the program. -/
import Derived.Test.YtknbihogadcnpaaGreatH4
set_option linter.unusedSimpArgs false
set_option linter.unusedVariables false
namespace Go.Sh
open Go

section
variable {P : Program} {w : World} {K : Value → World → Prop}
theorem run_tinfo {T : TypeId} {i : TypeInfo} (h : P.info? T = some i) (w : World) : (typeInfo T).run P w = .ok i w := by simp [typeInfo, h]
theorem run_zero {T : TypeId} {i : TypeInfo} {z : Value} (h : P.info? T = some i) (hz : i.zero = some z) (w : World) : (zeroValue T).run P w = .ok z w := by simp [zeroValue, typeInfo, h, hz]
theorem zc1 (z : Value) (n : Nat) : Builtin.zeroCells #[z] n = (List.replicate n z).toArray := by
  apply Array.ext'
  simp only [Builtin.zeroCells, Array.toList_map, Array.toList_range, List.size_toArray, List.length_cons, List.length_nil, Nat.zero_add, Nat.mul_one]
  apply List.ext_getElem
  · simp
  · intro i h1 h2
    simp [Nat.mod_one]
theorem rng1 (z : Value) (n : Nat) : (Array.range n).map (fun i => (#[z] : Array Value)[i % 1]!) = (List.replicate n z).toArray := by
  have := zc1 z n
  simpa [Builtin.zeroCells] using this

/-- make([]T, l, c), an element one cell -/
theorem sem_makeSlice {t e : TypeId} {i : TypeInfo} {z : Value} (ht : P.underlying t = some (.slice e)) (hi : P.info? e = some i) (hz : i.zero = some z) (hk : i.size = 1) (hzk : z.cells = #[z]) {bytes : Nat} (hby : i.bytes = bytes)
    {kl kc : IntKind} {li ci : Int} {l c : Nat} (hl : li = l) (hc : ci = c) (hlc : l ≤ c) (hb : c * bytes ≤ 281474976710656) (hc63 : c ≤ 9223372036854775807)
    (hK : ∀ b w', New w w' b (.cells (List.replicate c z).toArray e) → Blk w' b (List.replicate c z) e → Own w' ⟨some ⟨b, 0, none⟩, l, c⟩ 1 (List.replicate l z) → K (.slice (some ⟨b, 0, none⟩) l c) w') :
    semK P (Instr.makeSlice t (.int kl li) (.int kc ci)) w K := by
  subst hl hc hby
  refine sem_newSlice (l := List.replicate c z) (e := e) (n := l) (c := c) (fun w => ?_) (fun b w' hN hb' => hK b w' hN hb' ?_)
  · have e1 : IntKind.i64.wrap (l : Int) = l := wrap_i64 (by omega)
    have e2 : IntKind.i64.wrap (c : Int) = c := wrap_i64 (by omega)
    have g1 : ¬ ((c : Int) < 0) := by omega
    have g2 : ¬ ((281474976710656 : Int) < i.bytes * (c : Int)) := by
      have : (i.bytes * (c : Int)) = ((c * i.bytes : Nat) : Int) := by rw [Nat.mul_comm]; simp
      rw [this]; omega
    have g3 : ¬ ((l : Int) < 0) := by omega
    have g4 : ¬ ((c : Int) < l) := by omega
    have g5 : ¬ (((281474976710656 : Int) < i.bytes * (c : Int) ∨ (c : Int) < 0) ∨ (l : Int) < 0 ∨ (c : Int) < l) := by omega
    have r1 : ∀ n : Nat, (Array.range n).map (fun j => z.cells[j % z.cells.size]!) = (List.replicate n z).toArray := fun n => by rw [hzk]; exact rng1 z n
    have r0 : (if c = 0 then (#[] : Array Value) else z.cells) = if c = 0 then #[] else z.cells := rfl
    unfold Instr.makeSlice
    simp only [asInt, asIntOf, Sem.run_bind, Sem.run_pure, run_underlying ht, Result.andThen_ok, run_sizeOf hi, run_tinfo hi, hk, e1, e2, Nat.mul_one, Int.toNat_natCast, run_askRoom]
    have g6 : ¬ ((decide ((c : Int) < 0) || decide ((i.bytes : Int) * (c : Int) > 2 ^ 48) || decide ((l : Int) < 0) || decide ((l : Int) > (c : Int))) = true) := by
      simp only [Bool.or_eq_true, decide_eq_true_eq, gt_iff_lt]
      have : (2 : Int) ^ 48 = 281474976710656 := by decide
      rw [this]; omega
    rw [if_neg g6]
    simp only [Sem.run_bind, Sem.run_pure, Result.andThen_ok, run_sizeOf hi, run_tinfo hi, hk, Nat.mul_one, Int.toNat_natCast, run_askRoom]
    by_cases h0 : c = 0
    · subst h0
      have : (Array.map (fun (x : Nat) => (default : Value)) (Array.range 0)) = #[] := by apply Array.ext'; simp
      simp [newRow, this]
    · rw [if_neg h0]
      simp only [Sem.run_bind, run_zero hi hz, Result.andThen_ok, Sem.run_pure, newRow, r1]
      simp
  · have := own_new (n := l) (k := 1) hb' (by simp) hlc
    simpa [List.take_replicate, Nat.min_eq_left hlc] using this

/-- a literal of no elements -/
theorem sem_lit0 {t e : TypeId} {i : TypeInfo} (ht : P.underlying t = some (.slice e)) (hi : P.info? e = some i)
    (hK : ∀ b w', New w w' b (.cells #[] e) → K (.slice (some ⟨b, 0, none⟩) 0 0) w') : semK P (Instr.buildSlice t 0 #[]) w K :=
  sem_newSlice (l := []) (e := e) (fun w => by
    have : (Array.map (fun (x : Nat) => (default : Value)) (Array.range 0)) = #[] := by apply Array.ext'; simp
    simp [Instr.buildSlice, run_underlying ht, sizeOf, typeInfo, hi, Instr.fill, newRow, this]) fun b w' hN _ => hK b w' hN

/-- copy(dst, src) into a block at hand -/
theorem sem_copy {t t2 ty e : TypeId} {i : TypeInfo} (ht : P.underlying t = some (.slice e)) (hi : P.info? e = some i) {k : Nat} (hk : i.size = k)
    {d x : Slc} {b o : Nat} {l ys : List Value} {T : TypeId} (hd : d.a = some ⟨b, o, none⟩) (hb : Blk w b l T) (hfit : o + d.len * k ≤ l.length) (hx : SlRd w x k ys) (h1 : ∀ y ∈ ys, y.oneCell' = true)
    (hK : ∀ w', Blk w' b (putAt l o (ys.take (min x.len d.len * k))) T → Mod (fun y => y = b) w w' → w'.heap.size = w.heap.size → K (.int .i64 (min x.len d.len : Nat)) w') :
    semK P (Builtin.copy_ #[t, t2] ty #[.slice d.a d.len d.cap, .slice x.a x.len x.cap]) w K := by
  subst hk
  have hxl := hx.1
  have hfx := run_firstCells (P := P) (s := ⟨x.a, min x.len d.len, x.cap⟩) (w := w) (k := i.size) (vs := ys.take (min x.len d.len * i.size)) (by
    refine ⟨?_, by have := hx.2.1; simp only []; omega, ?_⟩
    · rw [List.length_take, hxl]
      exact Nat.min_eq_left (Nat.mul_le_mul_right _ (Nat.min_le_left _ _))
    · rcases hx.2.2 with h | ⟨a', e1, e2⟩
      · left; simp [h]
      · exact .inr ⟨a', e1, fun j v hj => e2 j v (by rw [List.getElem?_take] at hj; split at hj <;> simp_all)⟩)
  have hlt : (ys.take (min x.len d.len * i.size)).length = min x.len d.len * i.size := by
    rw [List.length_take, hxl]
    exact Nat.min_eq_left (Nat.mul_le_mul_right _ (Nat.min_le_left _ _))
  have hle : min x.len d.len * i.size ≤ d.len * i.size := Nat.mul_le_mul_right _ (Nat.min_le_right _ _)
  obtain ⟨w', hst, hb', ht'⟩ := store_blk (P := P) (o := o) (vs := ys.take (min x.len d.len * i.size)) hb (by rw [hlt]; omega) (fun y hy => h1 y (List.mem_of_mem_take hy))
  refine ⟨_, _, ?_, hK _ hb' ht'.mod ht'.size⟩
  have hg : ∀ w, (Builtin.lenOf (.slice x.a x.len x.cap)).run P w = .ok x.len w := fun w => by simp [Builtin.lenOf]
  have hfx' : (Builtin.firstCells i.size (min x.len d.len) (.slice x.a x.len x.cap)).run P w = .ok (ys.take (min x.len d.len * i.size)).toArray w := by
    rw [← hfx]; cases x.a <;> simp [Builtin.firstCells]
  unfold Builtin.copy_
  simp only [List.getElem?_toArray, List.getElem?_cons_zero, List.getElem?_cons_succ, run_underlying ht, Sem.run_bind, Sem.run_pure, Result.andThen_ok, hg, run_sizeOf hi, goInt, show Nat.min x.len d.len = min x.len d.len from rfl, hfx', hd, hst]
end
end Go.Sh
