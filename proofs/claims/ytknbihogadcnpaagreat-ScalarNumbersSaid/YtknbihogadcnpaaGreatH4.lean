/- Comparing arrays of integers. Generic in the program. -/
import Derived.Test.YtknbihogadcnpaaGreatH3
import Derived.ChangeKeysEq
set_option linter.unusedSimpArgs false
set_option linter.unusedVariables false
namespace Go.Sh
open Go

section
variable {P : Program}
theorem run_eqItems_ints {e : TypeId} {k : IntKind} (d : Nat) (he : P.underlying e = some (.int k)) (hp : P.plainKey e = true) (l l' : List Int) (w : World) : ∀ (m s : Nat), s + m = l.length → s + m = l'.length →
    (Op.eqItems (d + 1) e 1 (l.map (Value.int k)).toArray (l'.map (Value.int k)).toArray (List.range' s m)).run P w = .ok (l.drop s == l'.drop s) w
  | 0, s, h1, h2 => by
    have e1 : l.drop s = [] := List.drop_eq_nil_of_le (by omega)
    have e2 : l'.drop s = [] := List.drop_eq_nil_of_le (by omega)
    simp [Op.eqItems, e1, e2]
  | m + 1, s, h1, h2 => by
    have ih := run_eqItems_ints d he hp l l' w m (s + 1) (by omega) (by omega)
    have p1 := run_part_plain w hp (xs := (l.map (Value.int k)).toArray) (off := s * 1) (v := .int k (l[s]'(by omega))) (by simp [show s < l.length by omega])
    have p2 := run_part_plain w hp (xs := (l'.map (Value.int k)).toArray) (off := s * 1) (v := .int k (l'[s]'(by omega))) (by simp [show s < l'.length by omega])
    rw [List.range'_succ]
    simp only [Op.eqItems, Sem.run_bind, p1, p2, run_equalIn_int w d e k k _ _ he, Result.andThen_ok]
    have d1 : l.drop s = l[s]'(by omega) :: l.drop (s + 1) := List.drop_eq_getElem_cons (by omega)
    have d2 : l'.drop s = l'[s]'(by omega) :: l'.drop (s + 1) := List.drop_eq_getElem_cons (by omega)
    rw [d1, d2, List.cons_beq_cons]
    cases hb : l[s]'(by omega) == l'[s]'(by omega)
    · simp
    · simpa using ih
theorem run_equal_ints {t e : TypeId} {n : Nat} {k : IntKind} {i : TypeInfo} (d : Nat) (hu : P.underlying t = some (.array n e)) (he : P.underlying e = some (.int k)) (hp : P.plainKey e = true) (hi : P.info? e = some i) (hs : P.cellsOf e = 1)
    (l l' : List Int) (h1 : l.length = n) (h2 : l'.length = n) (w : World) : (Op.equalIn (d + 2) t (.agg (l.map (Value.int k)).toArray) (.agg (l'.map (Value.int k)).toArray)).run P w = .ok (l == l') w := by
  rw [run_equalIn_array w (d + 1) _ _ hu hi, hs, List.range_eq_range', run_eqItems_ints d he hp l l' w n 0 (by omega) (by omega)]
  rfl
variable {K : Value → Prop}
theorem ps_arr {op : BinOp} {t e : TypeId} {n : Nat} {k : IntKind} {i : TypeInfo} {ox oy : Operand} (hop : op = .eql ∨ op = .neq) (hu : P.underlying t = some (.array n e)) (he : P.underlying e = some (.int k)) (hp : P.plainKey e = true) (hi : P.info? e = some i) (hs : P.cellsOf e = 1)
    (hm : P.eqGuardType P.depth t = false) {l l' : List Int} (h1 : l.length = n) (h2 : l'.length = n) {xs ys : Array Value} (hx : xs = (l.map (Value.int k)).toArray) (hy : ys = (l'.map (Value.int k)).toArray)
    (hk : K (.bool (if op = .eql then (l == l') else !(l == l')))) : pureSem P (do eqGuard op t ox oy (.agg xs) (.agg ys); binOp op t (.agg xs) (.agg ys)) K := by
  subst hx hy
  refine ps_of (fun w => ?_) hk
  have he' : (Op.equal t (.agg (l.map (Value.int k)).toArray) (.agg (l'.map (Value.int k)).toArray)).run P w = .ok (l == l') w := run_equal_ints 9998 hu he hp hi hs l l' h1 h2 w
  simp only [Sem.run_bind, run_eqGuard_agg w op t ox oy _ _ hm, Result.andThen_ok]
  rcases hop with rfl | rfl
  · show (do pure (Value.bool (← Op.equal t _ _)) : Sem Value).run P w = _
    simp only [Sem.run_bind, he', Result.andThen_ok]
    rfl
  · show (do pure (Value.bool (!(← Op.equal t _ _))) : Sem Value).run P w = _
    simp only [Sem.run_bind, he', Result.andThen_ok]
    rfl
end
def fieldList (o : Option TypeDesc) : Option (List (TypeId × Nat)) :=
  match o with
  | some (.struct fs) => some (fs.toList.map fun f => (f.type, f.offset))
  | _ => none
theorem struct_of {P : Program} {T : TypeId} {l : List (TypeId × Nat)} (h : fieldList (P.underlying T) = some l) : ∃ fs : Array Field, P.underlying T = some (.struct fs) ∧ fs.toList.map (fun f => (f.type, f.offset)) = l := by
  unfold fieldList at h
  split at h
  · next fs he => exact ⟨fs, he, by simpa using h⟩
  · cases h
theorem struct3_of {P : Program} {T t0 t1 t2 : TypeId} {o0 o1 o2 : Nat} (h : fieldList (P.underlying T) = some [(t0, o0), (t1, o1), (t2, o2)]) :
    ∃ a b c : Field, P.underlying T = some (.struct #[a, b, c]) ∧ a.type = t0 ∧ b.type = t1 ∧ c.type = t2 ∧ a.offset = o0 ∧ b.offset = o1 ∧ c.offset = o2 := by
  obtain ⟨⟨fs⟩, h1, h2⟩ := struct_of h
  match fs, h1, h2 with
  | [a, b, c], h1, h2 =>
    simp at h2
    exact ⟨a, b, c, h1, by simp [h2], by simp [h2], by simp [h2], by simp [h2], by simp [h2], by simp [h2]⟩
theorem add_block (a : Addr) (n : Nat) : (a.add n).block = a.block := by unfold Addr.add; split <;> rfl
end Go.Sh
