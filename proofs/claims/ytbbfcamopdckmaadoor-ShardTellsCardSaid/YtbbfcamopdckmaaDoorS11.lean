/- Arguments opened: bytes, rows of bytes, numbers, truths; the laid tables. -/
import Derived.Test.YtbbfcamopdckmaaDoorS9
import Derived.Deep.Slices
import Derived.Deep.Strs
import Derived.Lib.LaidTab
import Derived.Stop.LaidErr
import Derived.LaidHandle
import Derived.MakeChecks
import Derived.SizedLaws
set_option linter.unusedSimpArgs false
set_option linter.unusedVariables false
namespace Go.Proofs.YtbbfcamopdckmaaDoor
open Go Go.Sh

section
variable {H : Type} {enc : TypeId × Value → H} {W : World} {spare : Nat → Bool} {held : Bool} {fuel : Nat}
theorem cells5 : Tryd.prog.cellsOf 5 = 1 := by kernel_rfl
theorem cells26 : Tryd.prog.cellsOf 26 = 1 := by kernel_rfl
/-- a slice of one-cell elements: what each cell is -/
theorem row_of {t e : TypeId} {a : Option Addr} {len cap : Nat} {x : DataW H × List MemPlace} (ht : Tryd.prog.underlying t = some (.slice e)) (hc : Tryd.prog.cellsOf e = 1) (h : DataW.trod enc Tryd.prog W 0 (fun _ => true) held fuel t [.slice a len cap] = some x) :
    ∃ V : Nat → Value, SlRd W ⟨a, len, cap⟩ 1 ((List.range len).map V) ∧ (∀ y, Slc.blk ⟨a, len, cap⟩ = some y → y < W.heap.size) ∧ (∀ i, i < len → ∃ (n : Nat) (y : DataW H × List MemPlace), DataW.trod enc Tryd.prog W 0 (fun _ => true) held n e [V i] = some y) ∧
      ((x.1 = .nil ∧ cap = 0) ∨ ∃ es ss, x.1 = .slice es ss ∧ es.length + ss.length = cap) := by
  rcases Deep.open_slice1 ht hc h with ⟨hcs, hx⟩ | ⟨ad, l, c, m, n, V, D, Pl, hcs, _, hl, _, hm, hx, hV⟩
  · cases hcs
    exact ⟨fun _ => undef, rd_nil _ _, fun y hy => by simp at hy, fun i hi => by omega, .inl ⟨by rw [hx], rfl⟩⟩
  · cases hcs
    simp only [if_true] at hm
    refine ⟨V, ⟨by simp, hl, ?_⟩, fun y hy => ?_, fun i hi => ⟨n, _, (hV i (by omega)).2⟩, .inr ⟨_, _, by rw [hx], by simp; omega⟩⟩
    · refine .inr ⟨ad, rfl, fun j v hj => ?_⟩
      have hj' : j < len := by
        rcases Nat.lt_or_ge j len with h | h
        · exact h
        · rw [List.getElem?_eq_none (by simpa using h)] at hj; cases hj
      rw [List.getElem?_map, List.getElem?_range hj'] at hj
      simp at hj; subst hj
      exact (hV j (by omega)).1
    · unfold Slc.blk at hy
      split at hy
      · cases hy
      · next hc0 =>
        simp at hy; subst hy
        have hc0' : ¬ cap = 0 := hc0
        have := World.block_lt_of_cell? W _ (hV 0 (by omega)).1
        rwa [add0] at this
theorem u8_of {n : Nat} {v : Value} {y : DataW H × List MemPlace} (h : DataW.trod enc Tryd.prog W 0 spare held n 5 [v] = some y) : ∃ c : UInt8, v = .int .u8 c.toNat := by
  obtain ⟨k, h1, h2, h3⟩ := DataW.trod_int Tryd.underlying5 h
  simp at h1
  simp only [Lit.wf, Bool.and_eq_true, decide_eq_true_eq] at h3
  have e1 : IntKind.u8.min = 0 := by decide
  have e2 : IntKind.u8.max = 255 := by decide
  rw [e1, e2] at h3
  refine ⟨UInt8.ofNat k.toNat, ?_⟩
  rw [h1]
  congr 1
  simp [UInt8.toNat_ofNat']; omega
theorem map_get {α : Type} (g : α → Value) (d : α) (V : Nat → Value) (n : Nat) (h : ∀ i, i < n → ∃ c, V i = g c) : ∃ l : List α, (List.range n).map V = l.map g := by
  induction n with
  | zero => exact ⟨[], rfl⟩
  | succ n ih =>
    obtain ⟨l, hl⟩ := ih fun i hi => h i (by omega)
    obtain ⟨c, hc⟩ := h n (by omega)
    exact ⟨l ++ [c], by rw [List.range_succ, List.map_append, hl, List.map_append]; simp [hc]⟩
/-- bytes that came in -/
theorem bytes_of {a : Option Addr} {len cap : Nat} {x : DataW H × List MemPlace} (h : DataW.trod enc Tryd.prog W 0 (fun _ => true) held fuel 26 [.slice a len cap] = some x) :
    ∃ l, SlRd W ⟨a, len, cap⟩ 1 (bys l) ∧ (∀ y, Slc.blk ⟨a, len, cap⟩ = some y → y < W.heap.size) ∧ ((x.1 = .nil ∧ cap = 0) ∨ ∃ es ss, x.1 = .slice es ss ∧ es.length + ss.length = cap) := by
  obtain ⟨V, h1, h2, h3, h4⟩ := row_of u26 cells5 h
  obtain ⟨l, hl⟩ := map_get (fun c : UInt8 => Value.int .u8 c.toNat) 0 V len fun i hi => by
    obtain ⟨n, y, hy⟩ := h3 i hi
    exact u8_of hy
  rw [hl] at h1
  exact ⟨l, h1, h2, h4⟩
theorem val_of {n : Nat} {v : Value} {y : DataW H × List MemPlace} (h : DataW.trod enc Tryd.prog W 0 (fun _ => true) held n 26 [v] = some y) : ∃ s : Slc, v = s.val := by
  rcases Deep.open_slice1 u26 cells5 h with ⟨hcs, _⟩ | ⟨ad, l, c, _, _, _, _, _, hcs, _⟩
  · simp at hcs; exact ⟨⟨none, 0, 0⟩, hcs⟩
  · simp at hcs; exact ⟨⟨some ad, l, c⟩, hcs⟩
/-- rows of bytes that came in -/
theorem rows_of {a : Option Addr} {len cap : Nat} {x : DataW H × List MemPlace} (h : DataW.trod enc Tryd.prog W 0 (fun _ => true) held fuel 22 [.slice a len cap] = some x) :
    ∃ pl, PartsAt W ⟨a, len, cap⟩ pl (fun y => y < W.heap.size) := by
  obtain ⟨V, h1, h2, h3, h4⟩ := row_of u22 cells26 h
  obtain ⟨ss, hl⟩ := map_get Slc.val ⟨none, 0, 0⟩ V len fun i hi => by
    obtain ⟨n, y, hy⟩ := h3 i hi
    exact val_of hy
  have hsl : ss.length = len := by have := congrArg List.length hl; simpa using this.symm
  have hb : ∀ i, i < len → ∃ l : List UInt8, SlRd W (ss.getD i ⟨none, 0, 0⟩) 1 (bys l) ∧ (∀ y, (ss.getD i ⟨none, 0, 0⟩).blk = some y → y < W.heap.size) := fun i hi => by
    obtain ⟨n, y, hy⟩ := h3 i hi
    have hv : V i = (ss.getD i ⟨none, 0, 0⟩).val := by
      have := congrArg (·[i]?) hl
      simp [List.getElem?_range hi, List.getElem?_eq_getElem (show i < ss.length by omega)] at this
      rw [this, List.getD, List.getElem?_eq_getElem (show i < ss.length by omega)]; rfl
    rw [hv] at hy
    obtain ⟨l, g1, g2, _⟩ := bytes_of hy
    exact ⟨l, g1, g2⟩
  obtain ⟨L, hL⟩ := Deep.choose_lt (α := List UInt8) hb
  refine ⟨(List.range len).map L, ss, by rw [← hl]; exact h1, h2, by simp [hsl], fun i hi hi' => ?_⟩
  have hi2 : i < len := by omega
  have := hL i hi2
  have e : ss.getD i ⟨none, 0, 0⟩ = ss[i] := by rw [List.getD, List.getElem?_eq_getElem hi]; rfl
  rw [e] at this
  simpa using this
theorem len_le {l : List UInt8} {a : Option Addr} {len cap : Nat} (h : SlRd W ⟨a, len, cap⟩ 1 (bys l)) : len ≤ cap := h.2.1
end

/-- a laid table's cells -/
theorem rd_of_tab {W : World} {name : String} {l : List UInt64} {g : Nat} (h : Lib.TabIs Tryd.prog W name .u64 (l.map fun x => (x.toNat : Int))) (hg : Tryd.prog.globalNamed name = some g) : Rd W ⟨g, 0, none⟩ (us l) := by
  intro j v hj
  have hj' : j < l.length := by
    rcases Nat.lt_or_ge j l.length with h | h
    · exact h
    · rw [List.getElem?_eq_none (by simpa using h)] at hj; cases hj
  rw [addl, Nat.zero_add, h.cell hg j (by simpa using hj')]
  rw [us_at hj'] at hj
  rw [← hj]
  simp [List.getD, hj']
theorem glob_of_laid {W : World} (h : laidMetH Tryd.prog [("buttress/sha.begin", Rows.laid_buttress_sha_begin), ("buttress/sha.rest", Rows.laid_buttress_sha_rest)] W) : Glob W := by
  rw [MakeChecks.laidMetH_plain _ _ _ (by kernel_rfl)] at h
  have e1 : (Rows.laid_buttress_sha_begin : DataW Unit) = Lib.tabData .u64 (H0.map fun x => (x.toNat : Int)) := by kernel_rfl
  have e2 : (Rows.laid_buttress_sha_rest : DataW Unit) = Lib.tabData .u64 (KS.map fun x => (x.toNat : Int)) := by kernel_rfl
  rw [e1, e2] at h
  refine ⟨rd_of_tab (Lib.tabIs_of_head (g := 0) (t := 46) (e := 44) (n := 8) (by kernel_rfl) (by kernel_rfl) (by kernel_rfl) (by kernel_rfl) (by kernel_rfl) (by kernel_rfl) h) (by kernel_rfl),
    rd_of_tab (Lib.tabIs_of_head (g := 1) (t := 129) (e := 44) (n := 80) (by kernel_rfl) (by kernel_rfl) (by kernel_rfl) (by kernel_rfl) (by kernel_rfl) (by kernel_rfl) h.tail) (by kernel_rfl)⟩
end Go.Proofs.YtbbfcamopdckmaaDoor
