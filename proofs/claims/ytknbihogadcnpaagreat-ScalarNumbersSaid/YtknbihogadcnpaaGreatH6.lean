/- Append from any source. Generic in the program. -/
import Derived.Test.YtknbihogadcnpaaGreatH5
set_option linter.unusedSimpArgs false
set_option linter.unusedVariables false
namespace Go.Sh
open Go

def bys (l : List UInt8) : List Value := l.map fun x => .int .u8 x.toNat
theorem bys_one (l : List UInt8) : ∀ y ∈ bys l, y.oneCell' = true := by
  intro y hy
  obtain ⟨x, _, rfl⟩ := List.mem_map.1 hy
  rfl
@[simp] theorem bys_len (l : List UInt8) : (bys l).length = l.length := by simp [bys]
theorem bys_app (a b : List UInt8) : bys (a ++ b) = bys a ++ bys b := by simp [bys]
theorem bys_inj {a b : List UInt8} (h : bys a = bys b) : a = b := by
  induction a generalizing b with
  | nil => cases b <;> simp [bys] at h ⊢
  | cons x a ih =>
    cases b with
    | nil => simp [bys] at h
    | cons y b =>
      simp only [bys, List.map_cons, List.cons.injEq, Value.int.injEq, true_and] at h
      have : x.toNat = y.toNat := by omega
      rw [UInt8.toNat_inj] at this
      rw [this, ih h.2]
theorem bys_rep (n : Nat) : List.replicate n (Value.int .u8 0) = bys (List.replicate n 0) := by simp [bys]

section
variable {P : Program} {w : World} {K : Value → World → Prop}
/-- append onto a slice that is owned: what every append does -/
theorem sem_append_gen {A : Sem Value} {e : TypeId} {i : TypeInfo} {z : Value} (hzk : z.cells.size = i.size) {n : Nat} {s : Slc} {vs ys : List Value} (hs : Own w s i.size vs) (hxl : ys.length = n * i.size) (h1 : ∀ y ∈ ys, y.oneCell' = true)
    (hroomR : s.len + n ≤ s.cap → ∀ w', (match s.a with | some a => storeCells (a.add (s.len * i.size)) ys | none => pure () : Sem Unit).run P w = .ok () w' → A.run P w = .ok (.slice s.a (s.len + n) s.cap) w')
    (hgrowR : s.cap < s.len + n → A.run P w = .ok (.slice (some ⟨w.heap.size, 0, none⟩) (s.len + n) (grownCap w (s.len + n) s.cap e)) (w.drew.alloc (.cells (vs.toArray ++ ys.toArray ++ Builtin.zeroCells z.cells (grownCap w (s.len + n) s.cap e - (s.len + n))) e)))
    (hK : ∀ (s' : Slc) (w' : World), Own w' s' i.size (vs ++ ys) → s'.len = s.len + n → (s'.blk = s.blk ∨ s'.blk = some w.heap.size) → Mod (fun b => s.blk = some b) w w' → K (.slice s'.a s'.len s'.cap) w') : semK P A w K := by
  have hsl := hs.1
  by_cases hroom : s.len + n ≤ s.cap
  · obtain ⟨g1, g2, g3⟩ := hs
    by_cases hc0 : s.cap = 0
    · have g3 := hc0
      have hx0 : n = 0 := by omega
      have hs0 : s.len = 0 := by omega
      have hy0 : ys = [] := List.eq_nil_of_length_eq_zero (by rw [hxl, hx0]; simp)
      subst hy0
      refine ⟨.slice s.a (s.len + n) s.cap, w, ?_, ?_⟩
      · exact hroomR hroom w (by cases hsa : s.a <;> simp [storeCells])
      · exact hK ⟨s.a, s.len + n, s.cap⟩ w ⟨by simp [g1, hx0], hroom, .inl g3⟩ rfl (.inl rfl) (Mod.refl _ _)
    · obtain ⟨b, o, l, T, e1, e2, e3, e4⟩ := g3.resolve_left hc0
      have hfit : o + s.len * i.size + ys.length ≤ l.length := by
        have : s.len * i.size + n * i.size ≤ s.cap * i.size := by rw [← Nat.add_mul]; exact Nat.mul_le_mul_right _ hroom
        omega
      obtain ⟨w', hst, hb', ht'⟩ := store_blk (P := P) e2 hfit h1
      refine ⟨.slice s.a (s.len + n) s.cap, w', ?_, ?_⟩
      · exact hroomR hroom w' (by rw [e1]; simpa using hst)
      · refine hK ⟨s.a, s.len + n, s.cap⟩ _ ⟨by simp [g1, hxl, Nat.add_mul], hroom, .inr ⟨b, o, _, T, e1, hb', ?_, ?_⟩⟩ rfl (.inl rfl) (ht'.mod.mono fun y _ hy => by subst hy; exact Slc.blk_of e1 (by omega))
        · rw [putAt_len hfit]; exact e3
        · have hlo : o + s.len * i.size ≤ l.length := by omega
          simp only [putAt]
          rw [Nat.add_mul, ← hxl, List.append_assoc, List.drop_append_of_le_length (by rw [List.length_take]; omega), List.drop_take]
          have e5 : (List.take (o + s.len * i.size - o) (List.drop o l)) = vs := by rw [← e4]; congr 1; omega
          rw [e5]
          have e6 : vs.length = s.len * i.size := g1
          rw [← List.append_assoc, List.take_append_of_le_length (by simp [e6]), List.take_of_length_le (by simp [e6])]
  · have hcap : s.cap < s.len + n := by omega
    have hge := grownCap_ge w (s.len + n) s.cap e
    have hrun := hgrowR hcap
    have hlv : (vs ++ ys ++ (Builtin.zeroCells z.cells (grownCap w (s.len + n) s.cap e - (s.len + n))).toList).length = grownCap w (s.len + n) s.cap e * i.size := by
      simp only [List.length_append, Array.length_toList, size_zeroCells, hzk, hsl, hxl, ← Nat.add_mul]
      congr 1; omega
    have hna := new_alloc_drew w (.cells (vs.toArray ++ ys.toArray ++ Builtin.zeroCells z.cells (grownCap w (s.len + n) s.cap e - (s.len + n))) e)
    have hblk : Blk (w.drew.alloc (.cells (vs.toArray ++ ys.toArray ++ Builtin.zeroCells z.cells (grownCap w (s.len + n) s.cap e - (s.len + n))) e)) w.heap.size (vs ++ ys ++ (Builtin.zeroCells z.cells (grownCap w (s.len + n) s.cap e - (s.len + n))).toList) e := by
      refine Blk.mk ?_
      rw [hna.get]
      congr 2
      apply Array.ext'
      simp [List.append_assoc]
    refine ⟨_, _, hrun, hK ⟨some ⟨w.heap.size, 0, none⟩, s.len + n, grownCap w (s.len + n) s.cap e⟩ _ ⟨by simp [hsl, hxl, Nat.add_mul], hge, .inr ⟨w.heap.size, 0, _, e, rfl, hblk, by simp only []; omega, ?_⟩⟩ rfl (.inr (Slc.blk_of rfl (by simp only []; omega))) (hna.mod.mono fun _ _ h => h.elim)⟩
    simp only [List.drop_zero]
    rw [List.take_append_of_le_length (by simp [hsl, hxl, Nat.add_mul]), List.take_of_length_le (by simp [hsl, hxl, Nat.add_mul])]


theorem run_firstCells_string (w : World) (l : List UInt8) (k : Nat) : (Builtin.firstCells k l.length (.string ⟨l.toArray⟩)).run P w = .ok (bys l).toArray w := by
  have h0 : (ByteArray.mk l.toArray).extract 0 l.length = ByteArray.mk l.toArray := by
    apply ByteArray.ext
    simp
  simp [Builtin.firstCells, bys, h0]

/-- append(s, text...) -/
theorem sem_append_str {t t2 ty e : TypeId} {i : TypeInfo} {z : Value} (ht : P.underlying t = some (.slice e)) (ht2 : P.underlying t2 = some .string) (hi : P.info? e = some i) (hz : i.zero = some z) (hk : i.size = 1) (hzk : z.cells.size = 1) {bytes : Nat} (hby : i.bytes = bytes)
    {s : Slc} {vs : List Value} {xs : List UInt8} (hs : Own w s 1 vs) (hb : (s.len + xs.length) * bytes ≤ 140737488355328) (hm : s.len + xs.length ≤ 9223372036854775807)
    (hK : ∀ (s' : Slc) (w' : World), Own w' s' 1 (vs ++ bys xs) → s'.len = s.len + xs.length → (s'.blk = s.blk ∨ s'.blk = some w.heap.size) → Mod (fun b => s.blk = some b) w w' → K (.slice s'.a s'.len s'.cap) w') :
    semK P (Builtin.append_ #[t, t2] ty #[.slice s.a s.len s.cap, .string ⟨xs.toArray⟩]) w K := by
  subst hby
  have hsz : (ByteArray.mk xs.toArray).size = xs.length := by simp [ByteArray.size]
  have hfx : ∀ w, (Builtin.firstCells 1 xs.length (.string ⟨xs.toArray⟩)).run P w = .ok (bys xs).toArray w := fun w => run_firstCells_string w xs 1
  refine sem_append_gen (e := e) (i := i) (z := z) (n := xs.length) (by rw [hzk, hk]) (by rw [hk]; exact hs) (by simp [hk]) (bys_one xs) (fun hroom w' hst => ?_) (fun hcap => ?_) (by rw [hk]; exact hK)
  · rw [hk] at hst
    cases hsa : s.a with
    | none =>
      rw [hsa] at hst
      simp at hst
      simp [Builtin.append_, run_underlying ht, run_underlying ht2, sizeOf, typeInfo, hi, Builtin.lenOf, hsz, hroom, hfx, hk, hst]
    | some a =>
      rw [hsa] at hst
      simp only [Nat.mul_one] at hst
      simp [Builtin.append_, run_underlying ht, run_underlying ht2, sizeOf, typeInfo, hi, Builtin.lenOf, hsz, hroom, hfx, hk, hst]
  · have hm' : ¬ ((9223372036854775807 : Int) < (s.len : Int) + xs.length) := by omega
    have h48 : ¬ (281474976710656 < Builtin.nextslicecap (s.len + xs.length) s.cap * i.bytes) := by
      have := growslice_fits hcap hb; omega
    have hfs' := run_firstCells (P := P) (w := w.drew) (hs.rd).drew
    have hn : ¬ (s.len + xs.length ≤ s.cap) := by omega
    simp [Builtin.append_, run_underlying ht, run_underlying ht2, sizeOf, typeInfo, zeroValue, hi, hz, Builtin.lenOf, hsz, hn, hm', h48, Question.forced, newRow, grownCap, hk, hfx]
    rw [hfs']
    simp only [Result.andThen_ok]
    congr 3
    apply Array.ext'
    simp [List.append_assoc]

/-- append(s, make([]T, n)...) -/
theorem sem_append_zeros {t t2 ty e : TypeId} {k2 : IntKind} {i : TypeInfo} {z : Value} (ht : P.underlying t = some (.slice e)) (ht2 : P.underlying t2 = some (.int k2)) (hi : P.info? e = some i) (hz : i.zero = some z) (hk : i.size = 1) (hzc : z.cells = #[z]) (hz1 : z.oneCell' = true) {bytes : Nat} (hby : i.bytes = bytes)
    {s : Slc} {vs : List Value} {n : Nat} {xn : Int} {kn : IntKind} (hxn : xn = n) (hs : Own w s 1 vs) (hb : (s.len + n) * bytes ≤ 140737488355328) (hm : s.len + n ≤ 9223372036854775807)
    (hK : ∀ (s' : Slc) (w' : World), Own w' s' 1 (vs ++ List.replicate n z) → s'.len = s.len + n → (s'.blk = s.blk ∨ s'.blk = some w.heap.size) → Mod (fun b => s.blk = some b) w w' → K (.slice s'.a s'.len s'.cap) w') :
    semK P (Builtin.append_ #[t, t2] ty #[.slice s.a s.len s.cap, .int kn xn]) w K := by
  subst hby hxn
  have hw : IntKind.i64.wrap (n : Int) = n := wrap_i64 (by omega)
  have hn0 : ¬ ((n : Int) < 0) := by omega
  have hbig : ¬ ((281474976710656 : Int) < (n : Int) * i.bytes) := by
    have : ((n : Int) * i.bytes) = ((n * i.bytes : Nat) : Int) := by simp
    rw [this]
    have h2 : n * i.bytes ≤ (s.len + n) * i.bytes := Nat.mul_le_mul_right _ (by omega)
    omega
  have hw0 : IntKind.i64.wrap 0 = 0 := wrap_i64 (by omega)
  refine sem_append_gen (e := e) (i := i) (z := z) (n := n) (ys := List.replicate n z) (by rw [hzc, hk]; rfl) (by rw [hk]; exact hs) (by simp [hk]) (fun y hy => by rw [List.eq_of_mem_replicate hy]; exact hz1) (fun hroom w' hst => ?_) (fun hcap => ?_) (by rw [hk]; exact hK)
  · rw [hk] at hst
    by_cases h0 : n = 0
    · subst h0
      cases hsa : s.a with
      | none =>
        rw [hsa] at hst
        simp at hst
        simp [Builtin.append_, run_underlying ht, run_underlying ht2, sizeOf, typeInfo, hi, asInt, asIntOf, hw0, hroom, hk, hst, show s.len ≤ s.cap from hs.2.1]
      | some a =>
        rw [hsa] at hst
        simp only [Nat.mul_one, List.replicate_zero] at hst
        simp [Builtin.append_, run_underlying ht, run_underlying ht2, sizeOf, typeInfo, hi, asInt, asIntOf, hw0, hk, hst, show s.len ≤ s.cap from hs.2.1]
    · cases hsa : s.a with
      | none =>
        rw [hsa] at hst
        simp at hst
        simp [Builtin.append_, run_underlying ht, run_underlying ht2, sizeOf, typeInfo, zeroValue, hi, hz, asInt, asIntOf, hw, hn0, hbig, h0, hroom, hk, hzc, zc1, hst]
      | some a =>
        rw [hsa] at hst
        simp only [Nat.mul_one] at hst
        simp [Builtin.append_, run_underlying ht, run_underlying ht2, sizeOf, typeInfo, zeroValue, hi, hz, asInt, asIntOf, hw, hn0, hbig, h0, hroom, hk, hzc, zc1, hst]
  · have h0 : n ≠ 0 := by have := hs.2.1; omega
    have hm' : ¬ ((9223372036854775807 : Int) < (s.len : Int) + n) := by omega
    have h48 : ¬ (281474976710656 < Builtin.nextslicecap (s.len + n) s.cap * i.bytes) := by
      have := growslice_fits hcap hb; omega
    have hfs' := run_firstCells (P := P) (w := w.drew) (hs.rd).drew
    have hn : ¬ (s.len + n ≤ s.cap) := by omega
    simp [Builtin.append_, run_underlying ht, run_underlying ht2, sizeOf, typeInfo, zeroValue, hi, hz, asInt, asIntOf, hw, hn0, hbig, h0, hn, hm', h48, Question.forced, newRow, grownCap, hk, hzc, zc1]
    rw [hfs']
    simp only [Result.andThen_ok]
    rfl
end
end Go.Sh
