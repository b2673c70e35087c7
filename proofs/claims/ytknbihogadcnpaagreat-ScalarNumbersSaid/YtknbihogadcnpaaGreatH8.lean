/- More about slices at hand: a store, a prefix, append told apart. Generic in the program. -/
import Derived.Test.YtknbihogadcnpaaGreatH7
set_option linter.unusedSimpArgs false
set_option linter.unusedVariables false
namespace Go.Sh
open Go

section
variable {P : Program} {w : World} {K : Value → World → Prop}
/-- append where there is no room: a new block -/
theorem sem_append_new {t ty e : TypeId} {i : TypeInfo} {z : Value} (ht : P.underlying t = some (.slice e)) (hi : P.info? e = some i) (hz : i.zero = some z) {k : Nat} (hk : i.size = k) (hzk : z.cells.size = k) {bytes : Nat} (hby : i.bytes = bytes)
    {s x : Slc} {vs ys : List Value} (hs : Own w s k vs) (hx : SlRd w x k ys) (h1 : ∀ y ∈ ys, y.oneCell' = true) (hb : (s.len + x.len) * bytes ≤ 140737488355328) (hm : s.len + x.len ≤ 9223372036854775807) (hcap : s.cap < s.len + x.len)
    (hK : ∀ (c : Nat) (w' : World), Own w' ⟨some ⟨w.heap.size, 0, none⟩, s.len + x.len, c⟩ k (vs ++ ys) → s.len + x.len ≤ c → Mod NoB w w' → w'.heap.size = w.heap.size + 1 → K (.slice (some ⟨w.heap.size, 0, none⟩) (s.len + x.len) c) w') :
    semK P (Builtin.append_ #[t, t] ty #[.slice s.a s.len s.cap, .slice x.a x.len x.cap]) w K := by
  subst hk
  subst hby
  have hfx := run_firstCells (P := P) hx
  have hfs := run_firstCells (P := P) hs.rd
  have hxl := hx.1
  have hsl := hs.1
  have hm' : ¬ ((9223372036854775807 : Int) < (s.len : Int) + x.len) := by omega
  have hroom : ¬ s.len + x.len ≤ s.cap := by omega
  have h48 : ¬ (281474976710656 < Builtin.nextslicecap (s.len + x.len) s.cap * i.bytes) := by
    have := growslice_fits hcap hb; omega
  have hge := grownCap_ge w (s.len + x.len) s.cap e
  have hrun : (Builtin.append_ #[t, t] ty #[.slice s.a s.len s.cap, .slice x.a x.len x.cap]).run P w =
      .ok (.slice (some ⟨w.heap.size, 0, none⟩) (s.len + x.len) (grownCap w (s.len + x.len) s.cap e)) (w.drew.alloc (.cells (vs.toArray ++ ys.toArray ++ Builtin.zeroCells z.cells (grownCap w (s.len + x.len) s.cap e - (s.len + x.len))) e)) := by
    have hfx' := run_firstCells (P := P) (w := w.drew) hx.drew
    have hfs' := run_firstCells (P := P) (w := w.drew) (hs.rd).drew
    have hn : ¬ (s.len + x.len ≤ s.cap) := hroom
    simp [Builtin.append_, run_underlying ht, sizeOf, typeInfo, zeroValue, hi, hz, Builtin.lenOf, hn, hm', h48, Question.forced, newRow, grownCap]
    rw [hfs']
    simp only [Result.andThen_ok]
    rw [hfx']
    simp only [Result.andThen_ok]
    congr 3
    apply Array.ext'
    simp [List.append_assoc]
  have hlv : (vs ++ ys ++ (Builtin.zeroCells z.cells (grownCap w (s.len + x.len) s.cap e - (s.len + x.len))).toList).length = grownCap w (s.len + x.len) s.cap e * i.size := by
    simp only [List.length_append, Array.length_toList, size_zeroCells, hzk, hsl, hxl, ← Nat.add_mul]
    congr 1; omega
  have hn := new_alloc_drew w (.cells (vs.toArray ++ ys.toArray ++ Builtin.zeroCells z.cells (grownCap w (s.len + x.len) s.cap e - (s.len + x.len))) e)
  have hblk : Blk (w.drew.alloc (.cells (vs.toArray ++ ys.toArray ++ Builtin.zeroCells z.cells (grownCap w (s.len + x.len) s.cap e - (s.len + x.len))) e)) w.heap.size (vs ++ ys ++ (Builtin.zeroCells z.cells (grownCap w (s.len + x.len) s.cap e - (s.len + x.len))).toList) e := by
    refine Blk.mk ?_
    rw [hn.get]
    congr 2
    apply Array.ext'
    simp [List.append_assoc]
  refine ⟨_, _, hrun, hK (grownCap w (s.len + x.len) s.cap e) _ ⟨by simp [hsl, hxl, Nat.add_mul], hge, .inr ⟨w.heap.size, 0, _, e, rfl, hblk, by simp only []; omega, ?_⟩⟩ hge hn.mod hn.size⟩
  simp only [List.drop_zero]
  rw [List.take_append_of_le_length (by simp [hsl, hxl, Nat.add_mul]), List.take_of_length_le (by simp [hsl, hxl, Nat.add_mul])]

/-- append told apart: within the room, or into a new block -/
theorem sem_append2 {t ty e : TypeId} {i : TypeInfo} {z : Value} (ht : P.underlying t = some (.slice e)) (hi : P.info? e = some i) (hz : i.zero = some z) {k : Nat} (hk : i.size = k) (hzk : z.cells.size = k) {bytes : Nat} (hby : i.bytes = bytes)
    {s x : Slc} {vs ys : List Value} (hs : Own w s k vs) (hx : SlRd w x k ys) (h1 : ∀ y ∈ ys, y.oneCell' = true) (hb : (s.len + x.len) * bytes ≤ 140737488355328) (hm : s.len + x.len ≤ 9223372036854775807)
    (hK1 : s.len + x.len ≤ s.cap → ∀ (w' : World), Own w' ⟨s.a, s.len + x.len, s.cap⟩ k (vs ++ ys) → Mod (fun b => s.blk = some b) w w' → w'.heap.size = w.heap.size → K (.slice s.a (s.len + x.len) s.cap) w')
    (hK2 : s.cap < s.len + x.len → ∀ (c : Nat) (w' : World), Own w' ⟨some ⟨w.heap.size, 0, none⟩, s.len + x.len, c⟩ k (vs ++ ys) → s.len + x.len ≤ c → Mod NoB w w' → w'.heap.size = w.heap.size + 1 → K (.slice (some ⟨w.heap.size, 0, none⟩) (s.len + x.len) c) w') :
    semK P (Builtin.append_ #[t, t] ty #[.slice s.a s.len s.cap, .slice x.a x.len x.cap]) w K := by
  rcases Nat.lt_or_ge s.cap (s.len + x.len) with h | h
  · exact sem_append_new ht hi hz hk hzk hby hs hx h1 hb hm h (hK2 h)
  · exact sem_append_in ht hi hk hs hx h1 h (hK1 h)
end
theorem Own.take {w : World} {s : Slc} {k : Nat} {vs : List Value} (h : Own w s k vs) {n : Nat} (hn : n ≤ s.len) : Own w ⟨s.a, n, s.cap⟩ k (vs.take (n * k)) := by
  obtain ⟨h1, h2, h3⟩ := h
  have hle : n * k ≤ s.len * k := Nat.mul_le_mul_right k hn
  refine ⟨by rw [List.length_take, h1]; exact Nat.min_eq_left hle, Nat.le_trans hn h2, ?_⟩
  rcases h3 with h3 | ⟨b, o, l, T, e1, e2, e3, e4⟩
  · exact .inl h3
  · exact .inr ⟨b, o, l, T, e1, e2, e3, by rw [← e4, List.take_take, Nat.min_eq_left hle]⟩
theorem SlRd.take {w : World} {s : Slc} {k : Nat} {vs : List Value} (h : SlRd w s k vs) {n : Nat} (hn : n ≤ s.len) : SlRd w ⟨s.a, n, s.cap⟩ k (vs.take (n * k)) := by
  obtain ⟨h1, h2, h3⟩ := h
  have hle : n * k ≤ s.len * k := Nat.mul_le_mul_right k hn
  refine ⟨by rw [List.length_take, h1]; exact Nat.min_eq_left hle, Nat.le_trans hn h2, ?_⟩
  rcases h3 with h3 | ⟨a, e1, e2⟩
  · subst h3; exact .inl (by simp)
  · refine .inr ⟨a, e1, fun j v hj => e2 j v ?_⟩
    rw [List.getElem?_take] at hj
    split at hj
    · exact hj
    · cases hj
theorem cutSl0 {s : Slc} {n : Nat} (h : s.len ≤ s.cap) (hn : n ≤ s.cap) : cutSl s 1 0 n s.cap = ⟨s.a, n, s.cap⟩ := by
  unfold cutSl
  split
  · next hc => simp
  · next hc =>
    congr 1
    cases s.a with
    | none => rfl
    | some a => simp [Addr.add]
end Go.Sh
