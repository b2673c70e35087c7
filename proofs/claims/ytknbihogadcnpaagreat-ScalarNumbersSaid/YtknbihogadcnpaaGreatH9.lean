/- A row that grows in one typed block (a builder's bytes). Generic in the program. -/
import Derived.Test.YtknbihogadcnpaaGreatD0
import Derived.Lib.UnsafeStr
import Derived.Lib.Builder
import Derived.Laws.Externs
set_option linter.unusedSimpArgs false
set_option linter.unusedVariables false
namespace Go.Sh
open Go

/-- bytes in a block of their own, from its start; or none -/
def Row0 (T : TypeId) (w : World) (s : Slc) (vs : List Value) : Prop :=
  (s = ⟨none, 0, 0⟩ ∧ vs = []) ∨ ∃ g n c l, s = ⟨some ⟨g, 0, none⟩, n, c⟩ ∧ 0 < c ∧ Blk w g l T ∧ l.length = c ∧ l.take n = vs ∧ n ≤ c
theorem Row0.mod {T : TypeId} {w w' : World} {s : Slc} {vs : List Value} {S : Nat → Prop} (h : Row0 T w s vs) (hm : Mod S w w') (hs : ∀ b, s.blk = some b → ¬ S b) : Row0 T w' s vs := by
  rcases h with h | ⟨g, n, c, l, rfl, hc, hb, h1, h2, h3⟩
  · exact .inl h
  · exact .inr ⟨g, n, c, l, rfl, hc, hb.mod hm (hs g (by rw [Slc.blk_mk, if_neg (by omega)])), h1, h2, h3⟩
theorem Row0.own {T : TypeId} {w : World} {s : Slc} {vs : List Value} (h : Row0 T w s vs) : Own w s 1 vs := by
  rcases h with ⟨rfl, rfl⟩ | ⟨g, n, c, l, rfl, hc, hb, h1, h2, h3⟩
  · exact own_nil _ _
  · have := own_new (n := n) (c := c) (k := 1) hb (by omega) h3
    rw [Nat.mul_one, h2] at this
    exact this
section
variable {P : Program} {w : World} {K : Value → World → Prop}
/-- append where there is no room: a new block -/
theorem sem_append_newB {t ty e : TypeId} {i : TypeInfo} {z : Value} (ht : P.underlying t = some (.slice e)) (hi : P.info? e = some i) (hz : i.zero = some z) {k : Nat} (hk : i.size = k) (hzk : z.cells.size = k) {bytes : Nat} (hby : i.bytes = bytes)
    {s x : Slc} {vs ys : List Value} (hs : Own w s k vs) (hx : SlRd w x k ys) (h1 : ∀ y ∈ ys, y.oneCell' = true) (hb : (s.len + x.len) * bytes ≤ 140737488355328) (hm : s.len + x.len ≤ 9223372036854775807) (hcap : s.cap < s.len + x.len)
    (hK : ∀ (c : Nat) (w' : World), (∃ l, Blk w' w.heap.size l e ∧ l.length = c * k ∧ l.take ((s.len + x.len) * k) = vs ++ ys) → s.len + x.len ≤ c → Mod NoB w w' → w'.heap.size = w.heap.size + 1 → K (.slice (some ⟨w.heap.size, 0, none⟩) (s.len + x.len) c) w') :
    semK P (Builtin.append_ #[t, t] ty #[.slice s.a s.len s.cap, .slice x.a x.len x.cap]) w K := by
  subst hk
  subst hby
  have hfx := run_firstCells (P := P) hx
  have hfs := run_firstCells (P := P) hs.rd
  have hxl := hx.1
  have hsl := hs.1
  have hm' : ¬ ((9223372036854775807 : Int) < (s.len : Int) + x.len) := by omega
  have hroom : ¬ s.len + x.len ≤ s.cap := by omega
  have h48 : ¬ (281474976710656 < Builtin.nextslicecap (s.len + x.len) s.cap * i.bytes) := by
    have := growslice_fits hcap hb; omega
  have hge := grownCap_ge w (s.len + x.len) s.cap e
  have hrun : (Builtin.append_ #[t, t] ty #[.slice s.a s.len s.cap, .slice x.a x.len x.cap]).run P w =
      .ok (.slice (some ⟨w.heap.size, 0, none⟩) (s.len + x.len) (grownCap w (s.len + x.len) s.cap e)) (w.drew.alloc (.cells (vs.toArray ++ ys.toArray ++ Builtin.zeroCells z.cells (grownCap w (s.len + x.len) s.cap e - (s.len + x.len))) e)) := by
    have hfx' := run_firstCells (P := P) (w := w.drew) hx.drew
    have hfs' := run_firstCells (P := P) (w := w.drew) (hs.rd).drew
    have hn : ¬ (s.len + x.len ≤ s.cap) := hroom
    simp [Builtin.append_, run_underlying ht, sizeOf, typeInfo, zeroValue, hi, hz, Builtin.lenOf, hn, hm', h48, Question.forced, newRow, grownCap]
    rw [hfs']
    simp only [Result.andThen_ok]
    rw [hfx']
    simp only [Result.andThen_ok]
    congr 3
    apply Array.ext'
    simp [List.append_assoc]
  have hlv : (vs ++ ys ++ (Builtin.zeroCells z.cells (grownCap w (s.len + x.len) s.cap e - (s.len + x.len))).toList).length = grownCap w (s.len + x.len) s.cap e * i.size := by
    simp only [List.length_append, Array.length_toList, size_zeroCells, hzk, hsl, hxl, ← Nat.add_mul]
    congr 1; omega
  have hn := new_alloc_drew w (.cells (vs.toArray ++ ys.toArray ++ Builtin.zeroCells z.cells (grownCap w (s.len + x.len) s.cap e - (s.len + x.len))) e)
  have hblk : Blk (w.drew.alloc (.cells (vs.toArray ++ ys.toArray ++ Builtin.zeroCells z.cells (grownCap w (s.len + x.len) s.cap e - (s.len + x.len))) e)) w.heap.size (vs ++ ys ++ (Builtin.zeroCells z.cells (grownCap w (s.len + x.len) s.cap e - (s.len + x.len))).toList) e := by
    refine Blk.mk ?_
    rw [hn.get]
    congr 2
    apply Array.ext'
    simp [List.append_assoc]
  refine ⟨_, _, hrun, hK (grownCap w (s.len + x.len) s.cap e) _ ⟨_, hblk, hlv, ?_⟩ hge hn.mod hn.size⟩
  rw [List.take_append_of_le_length (by simp [hsl, hxl, Nat.add_mul]), List.take_of_length_le (by simp [hsl, hxl, Nat.add_mul])]
/-- append onto a row in a block of its own -/
theorem sem_append_row {t ty e : TypeId} {i : TypeInfo} {z : Value} (ht : P.underlying t = some (.slice e)) (hi : P.info? e = some i) (hz : i.zero = some z) (hk : i.size = 1) (hzk : z.cells.size = 1) {bytes : Nat} (hby : i.bytes = bytes)
    {s x : Slc} {vs ys : List Value} (hs : Row0 e w s vs) (hx : SlRd w x 1 ys) (h1 : ∀ y ∈ ys, y.oneCell' = true) (hx0 : 0 < x.len) (hb : (s.len + x.len) * bytes ≤ 140737488355328) (hm : s.len + x.len ≤ 9223372036854775807)
    (hK : ∀ (s' : Slc) (w' : World), Row0 e w' s' (vs ++ ys) → s'.len = s.len + x.len → (s'.blk = s.blk ∨ s'.blk = some w.heap.size) → Mod (fun b => s.blk = some b) w w' → K (.slice s'.a s'.len s'.cap) w') :
    semK P (Builtin.append_ #[t, t] ty #[.slice s.a s.len s.cap, .slice x.a x.len x.cap]) w K := by
  rcases Nat.lt_or_ge s.cap (s.len + x.len) with hroom | hroom
  · refine sem_append_newB ht hi hz hk hzk hby hs.own hx h1 hb hm hroom fun c w' ⟨l, hb', hl, htk⟩ hc hmod hsz => hK ⟨some ⟨w.heap.size, 0, none⟩, s.len + x.len, c⟩ w' (.inr ⟨_, _, _, l, rfl, by omega, hb', by omega, by rw [Nat.mul_one] at htk; exact htk, hc⟩) rfl (.inr (Slc.blk_of rfl (by simp only []; omega))) (hmod.mono fun _ _ h => h.elim)
  · rcases hs with ⟨rfl, rfl⟩ | ⟨g, n, c, l, rfl, hc, hbk, e1, e2, e3⟩
    · simp only [] at hroom; omega
    · have hxl := hx.1
      have hfx := run_firstCells (P := P) hx
      have hroom' : n + x.len ≤ c := hroom
      have hfit : n + ys.length ≤ l.length := by omega
      obtain ⟨w', hst, hb', ht'⟩ := store_blk (P := P) hbk hfit h1
      refine ⟨.slice (some ⟨g, 0, none⟩) (n + x.len) c, w', ?_, hK ⟨some ⟨g, 0, none⟩, n + x.len, c⟩ w' (.inr ⟨g, _, c, _, rfl, hc, hb', by rw [putAt_len hfit]; exact e1, ?_, hroom'⟩) rfl (.inl (by rw [Slc.blk_mk, Slc.blk_mk])) (ht'.mod.mono fun y _ hy => by subst hy; rw [Slc.blk_mk, if_neg (by omega)])⟩
      · skip
        have ea : (⟨g, 0, none⟩ : Addr).add n = ⟨g, n, none⟩ := by rw [addl, Nat.zero_add]
        simp [Builtin.append_, run_underlying ht, sizeOf, typeInfo, hi, hk, Builtin.lenOf, hroom', hfx, ea, hst]
      · simp only [putAt]
        rw [e2]
        have hvl : vs.length = n := by rw [← e2, List.length_take]; omega
        rw [List.take_append_of_le_length (by simp; omega), List.take_of_length_le (by simp; omega)]
end
end Go.Sh
