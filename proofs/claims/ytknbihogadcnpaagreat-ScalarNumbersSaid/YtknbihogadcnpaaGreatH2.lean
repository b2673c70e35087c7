/- More rules: comparisons with nil, clearing, map words for int keys. Generic in the program. -/
import Derived.Test.YtknbihogadcnpaaGreatH1
set_option linter.unusedSimpArgs false
set_option linter.unusedVariables false
namespace Go.Sh
open Go

section
variable {P : Program} {w : World} {K : Value → Prop}
theorem ps_of {s : Sem Value} {v : Value} (h : ∀ w, s.run P w = .ok v w) (hk : K v) : pureSem P s K := ⟨v, h, hk⟩
theorem ps_gen {op : BinOp} {T : TypeId} {ox oy : Operand} {x y : Value} {b : Bool} (hop : op = .eql ∨ op = .neq) (hg : eqGuard op T ox oy x y = pure ())
    (hb : ∀ w, (Op.equal T x y).run P w = .ok b w) (h1 : binOp .eql T x y = (do pure (.bool (← Op.equal T x y)))) (h2 : binOp .neq T x y = (do pure (.bool (!(← Op.equal T x y)))))
    (hk : K (.bool (if op = .eql then b else !b))) : pureSem P (do eqGuard op T ox oy x y; binOp op T x y) K := by
  refine ps_of (fun w => ?_) hk
  rw [hg]
  rcases hop with rfl | rfl
  · rw [h1]; simp [hb]
  · rw [h2]; simp [hb]
theorem eqIn_ptr {T : TypeId} {e : TypeId} {p : Option Addr} (d : Nat) (ht : P.underlying T = some (.pointer e)) (w : World) : (Op.equalIn (d + 1) T (.pointer p) (.pointer none)).run P w = .ok p.isNone w := by
  unfold Op.equalIn
  cases p <;> simp [run_underlying ht]
theorem ps_eql_ptr {T : TypeId} {e : TypeId} {ox oy : Operand} {p : Option Addr} (ht : P.underlying T = some (.pointer e)) (hk : K (.bool p.isNone)) :
    pureSem P (do eqGuard .eql T ox oy (.pointer p) (.pointer none); binOp .eql T (.pointer p) (.pointer none)) K :=
  ps_gen (.inl rfl) (eqGuard_at_pointer ..) (fun w => eqIn_ptr 9999 ht w) rfl rfl hk
theorem ps_neq_ptr {T : TypeId} {e : TypeId} {ox oy : Operand} {p : Option Addr} (ht : P.underlying T = some (.pointer e)) (hk : K (.bool p.isSome)) :
    pureSem P (do eqGuard .neq T ox oy (.pointer p) (.pointer none); binOp .neq T (.pointer p) (.pointer none)) K :=
  ps_gen (.inr rfl) (eqGuard_at_pointer ..) (fun w => eqIn_ptr 9999 ht w) rfl rfl (by cases p <;> exact hk)
theorem eqIn_map {T : TypeId} {k e : TypeId} {p : Option Nat} (d : Nat) (ht : P.underlying T = some (.map k e)) (w : World) : (Op.equalIn (d + 1) T (.map p) (.map none)).run P w = .ok p.isNone w := by
  unfold Op.equalIn
  cases p <;> simp [run_underlying ht]
theorem ps_eql_map {T : TypeId} {k e : TypeId} {ox oy : Operand} {p : Option Nat} (ht : P.underlying T = some (.map k e)) (hk : K (.bool p.isNone)) :
    pureSem P (do eqGuard .eql T ox oy (.map p) (.map none); binOp .eql T (.map p) (.map none)) K :=
  ps_gen (.inl rfl) (eqGuard_at_map ..) (fun w => eqIn_map 9999 ht w) rfl rfl hk
theorem ps_neq_map {T : TypeId} {k e : TypeId} {ox oy : Operand} {p : Option Nat} (ht : P.underlying T = some (.map k e)) (hk : K (.bool p.isSome)) :
    pureSem P (do eqGuard .neq T ox oy (.map p) (.map none); binOp .neq T (.map p) (.map none)) K :=
  ps_gen (.inr rfl) (eqGuard_at_map ..) (fun w => eqIn_map 9999 ht w) rfl rfl (by cases p <;> exact hk)
theorem eqIn_slc {T : TypeId} {e : TypeId} {a : Option Addr} {n c : Nat} (d : Nat) (ht : P.underlying T = some (.slice e)) (w : World) : (Op.equalIn (d + 1) T (.slice a n c) (.slice none 0 0)).run P w = .ok a.isNone w := by
  unfold Op.equalIn
  cases a <;> simp [run_underlying ht]
theorem ps_eql_slc {T : TypeId} {e : TypeId} {ox oy : Operand} {a : Option Addr} {n c : Nat} (ht : P.underlying T = some (.slice e)) (hk : K (.bool a.isNone)) :
    pureSem P (do eqGuard .eql T ox oy (.slice a n c) (.slice none 0 0); binOp .eql T (.slice a n c) (.slice none 0 0)) K :=
  ps_gen (.inl rfl) (eqGuard_at_slice ..) (fun w => eqIn_slc 9999 ht w) rfl rfl hk
theorem ps_neq_slc {T : TypeId} {e : TypeId} {ox oy : Operand} {a : Option Addr} {n c : Nat} (ht : P.underlying T = some (.slice e)) (hk : K (.bool a.isSome)) :
    pureSem P (do eqGuard .neq T ox oy (.slice a n c) (.slice none 0 0); binOp .neq T (.slice a n c) (.slice none 0 0)) K :=
  ps_gen (.inr rfl) (eqGuard_at_slice ..) (fun w => eqIn_slc 9999 ht w) rfl rfl (by cases a <;> exact hk)
theorem eqIn_bool {T : TypeId} {x y : Bool} (d : Nat) (ht : P.underlying T = some .bool) (w : World) : (Op.equalIn (d + 1) T (.bool x) (.bool y)).run P w = .ok (x == y) w := by
  unfold Op.equalIn
  simp [run_underlying ht]
theorem ps_eql_bool {T : TypeId} {ox oy : Operand} {x y : Bool} (ht : P.underlying T = some .bool) (hk : K (.bool (x == y))) :
    pureSem P (do eqGuard .eql T ox oy (.bool x) (.bool y); binOp .eql T (.bool x) (.bool y)) K :=
  ps_gen (.inl rfl) (eqGuard_at_bool ..) (fun w => eqIn_bool 9999 ht w) rfl rfl hk
theorem ps_neq_bool {T : TypeId} {ox oy : Operand} {x y : Bool} (ht : P.underlying T = some .bool) (hk : K (.bool (x != y))) :
    pureSem P (do eqGuard .neq T ox oy (.bool x) (.bool y); binOp .neq T (.bool x) (.bool y)) K :=
  ps_gen (.inr rfl) (eqGuard_at_bool ..) (fun w => eqIn_bool 9999 ht w) rfl rfl hk
end

section
variable {P : Program} {w : World} {K : Value → World → Prop}
theorem zeroCells_oneCell {z : Array Value} (hz : ∀ u ∈ z, u.oneCell' = true) (n : Nat) : ∀ u ∈ (Builtin.zeroCells z n).toList, u.oneCell' = true := by
  intro u hu
  simp only [Builtin.zeroCells, Array.toList_map, Array.toList_range, List.mem_map, List.mem_range] at hu
  obtain ⟨i, hi, rfl⟩ := hu
  have hs : 0 < z.size := by
    rcases Nat.eq_zero_or_pos z.size with h | h
    · simp [h] at hi
    · exact h
  have : i % z.size < z.size := Nat.mod_lt _ hs
  have e : z[i % z.size]! = z[i % z.size] := by simp [this]
  rw [e]
  exact hz _ (Array.getElem_mem _)

/-- clearing what lies behind an owned row's length: the row stays -/
theorem sem_clear_tail {T e ty : TypeId} {z : Value} {i : TypeInfo} (ht : P.underlying T = some (.slice e)) (hi : P.info? e = some i) (hz : i.zero = some z) {k : Nat} (hzk : z.cells.size = k) (hz1 : ∀ u ∈ z.cells, u.oneCell' = true)
    {s : Slc} {vs : List Value} (hs : Own w s k vs) {n : Nat} (h1 : s.len ≤ n) (h2 : n ≤ s.cap)
    (hK : ∀ w', Own w' s k vs → Mod (fun b => s.blk = some b) w w' → w'.heap.size = w.heap.size → K (.tuple #[]) w') :
    semK P (Builtin.clear_ #[T] ty #[.slice (cutSl s k s.len n s.cap).a (cutSl s k s.len n s.cap).len (cutSl s k s.len n s.cap).cap]) w K := by
  rcases hs.owned with ⟨e1, e2, e3⟩ | ⟨hcp, b, o, l, E, e1, e2, e3, e4⟩
  · refine ⟨_, w, ?_, hK w hs (Mod.refl _ _) rfl⟩
    have h0 : n - s.len = 0 := by omega
    simp only [cutSl, h0]
    cases (if s.cap = s.len then s.a else Option.map (fun x => x.add (s.len * k)) s.a) <;> simp [Builtin.clear_, run_underlying ht]
  · by_cases hn : n = s.len
    · refine ⟨_, w, ?_, hK w hs (Mod.refl _ _) rfl⟩
      simp only [cutSl, hn, Nat.sub_self]
      cases (if s.cap = s.len then s.a else Option.map (fun x => x.add (s.len * k)) s.a) <;> simp [Builtin.clear_, run_underlying ht]
    · have hcap : ¬ s.cap = s.len := by omega
      have hln : ¬ (n - s.len = 0) := by omega
      have hb : o + s.len * k + (n - s.len) * k ≤ l.length := by
        have : s.len * k + (n - s.len) * k ≤ s.cap * k := by rw [← Nat.add_mul]; exact Nat.mul_le_mul_right k (by omega)
        omega
      have hzl : (Builtin.zeroCells z.cells (n - s.len)).toList.length = (n - s.len) * k := by simp [size_zeroCells, hzk]
      obtain ⟨w', hst, hb', ht'⟩ := store_blk (P := P) (o := o + s.len * k) (vs := (Builtin.zeroCells z.cells (n - s.len)).toList) e2 (by rw [hzl]; exact hb) (zeroCells_oneCell hz1 _)
      refine ⟨_, w', ?_, hK _ (hs.tail e1 e2 hb' (putAt_len (by rw [hzl]; exact hb)) ?_) (ht'.mod.mono fun y _ hy => by subst hy; exact Slc.blk_of e1 (by omega)) ht'.size⟩
      · have hne : (cutSl s k s.len n s.cap).a = some ⟨b, o + s.len * k, none⟩ := by simp [cutSl, hcap, e1]
        have hle : (cutSl s k s.len n s.cap).len = n - s.len := rfl
        rw [hne, hle]
        obtain ⟨m, hm⟩ : ∃ m, n - s.len = m + 1 := ⟨n - s.len - 1, by omega⟩
        rw [hm] at hst ⊢
        simp [Builtin.clear_, run_underlying ht, zeroValue, typeInfo, hi, hz, hst]
      · simp only [putAt]
        rw [List.append_assoc, List.drop_append_of_le_length (by rw [List.length_take]; omega), List.drop_take]
        have e5 : o + s.len * k - o = s.len * k := by omega
        rw [e5, List.take_append_of_le_length (by rw [List.length_take, List.length_drop]; omega), List.take_take, Nat.min_self]
end
end Go.Sh
