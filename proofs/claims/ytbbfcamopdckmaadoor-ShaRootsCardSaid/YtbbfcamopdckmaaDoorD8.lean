/- SHA: the digest by constants out of roots. -/
import Derived.Test.YtbbfcamopdckmaaDoorD7
import Derived.Test.YtbbfcamopdckmaaDoorS10
import Derived.Test.YtbbfcamopdckmaaDoorFnC
set_option linter.unusedSimpArgs false
set_option linter.unusedVariables false
set_option maxRecDepth 100000
namespace Go.Proofs.YtbbfcamopdckmaaDoor
open Go Go.Sh

/-- what of the texts is made so far, in whatever order -/
structure St (w0 w : World) (rw0 : Option Nat) (cv0 y1 y2 y3 : Option Slc) : Prop where
  mod : Mod NoB w0 w
  raw : ∀ b, rw0 = some b → Blk w b (bys [97, 98, 99]) 5 ∧ w0.heap.size ≤ b
  cv : ∀ s, cv0 = some s → Sh.Own w s 1 (bys [97, 98, 99])
  z1 : ∀ s, y1 = some s → Sh.Own w s 1 (bys (List.replicate 111 0)) ∧ ∀ b, rw0 = some b → s.blk ≠ some b
  z2 : ∀ s, y2 = some s → Sh.Own w s 1 (bys (List.replicate 112 0)) ∧ ∀ b, rw0 = some b → s.blk ≠ some b
  z3 : ∀ s, y3 = some s → Sh.Own w s 1 (bys (List.replicate 300 0)) ∧ ∀ b, rw0 = some b → s.blk ≠ some b
section
variable {w0 w : World} {raw : Option Nat} {cv z1 z2 z3 : Option Slc} {K : Slc → World → Prop}
theorem St.no {w' : World} (h : St w0 w raw cv z1 z2 z3) (hm : Mod NoB w w') : St w0 w' raw cv z1 z2 z3 :=
  ⟨h.mod.tr hm, fun b e => ⟨(h.raw b e).1.no hm, (h.raw b e).2⟩, fun s e => (h.cv s e).no hm, fun s e => ⟨(h.z1 s e).1.no hm, (h.z1 s e).2⟩, fun s e => ⟨(h.z2 s e).1.no hm, (h.z2 s e).2⟩, fun s e => ⟨(h.z3 s e).1.no hm, (h.z3 s e).2⟩⟩
theorem st_raw (h : St w0 w none none z1 z2 z3) (hK : ∀ b w', St w0 w' (some b) none z1 z2 z3 → K ⟨some ⟨b, 0, none⟩, 3, 3⟩ w') :
    semK Tryd.prog (Instr.buildSlice 26 3 #[(0, (.int .u8 ((97 : UInt8)).toNat)), (1, (.int .u8 ((98 : UInt8)).toNat)), (2, (.int .u8 ((99 : UInt8)).toNat))]) w fun v w' => ∃ x : Slc, v = (.slice x.a x.len x.cap) ∧ K x w' := by
  refine sem_bytes [97, 98, 99] rfl rfl (by omega) (by omega) fun x b w' hN hx hb ho => ⟨x, rfl, ?_⟩
  subst hx
  have hat := hN.at_
  have h' := h.no hN.mod
  refine hK b w' ⟨h'.mod, fun b' e => by cases e; exact ⟨hb, by have := h.mod.size; omega⟩, h'.cv, fun s e => ⟨(h'.z1 s e).1, fun b' e' hb' => ?_⟩, fun s e => ⟨(h'.z2 s e).1, fun b' e' hb' => ?_⟩, fun s e => ⟨(h'.z3 s e).1, fun b' e' hb' => ?_⟩⟩
  · cases e'; have := (h.z1 s e).1.lt hb'; omega
  · cases e'; have := (h.z2 s e).1.lt hb'; omega
  · cases e'; have := (h.z3 s e).1.lt hb'; omega
theorem st_conv {b : Nat} (h : St w0 w (some b) none z1 z2 z3) (hK : ∀ s w', St w0 w' none (some s) z1 z2 z3 → K s w') :
    semK Tryd.prog (convert 26 26 (.slice (some ⟨b, 0, none⟩) 3 3)) w fun v w' => ∃ x : Slc, v = (.slice x.a x.len x.cap) ∧ K x w' := by
  obtain ⟨hb, hbw⟩ := h.raw b rfl
  refine sem_convLit u26 (by kernel_rfl) hb fun w' hb' ht => ⟨⟨_, _, _⟩, rfl, ?_⟩
  have hm := ht.mod
  refine hK _ w' ⟨h.mod.fresh hm fun x e => by omega, fun b' e => (by cases e), fun s e => by cases e; exact own_whole hb' rfl, fun s e => ⟨(h.z1 s e).1.mod hm fun x hx e' => (h.z1 s e).2 b rfl (by rw [← e']; exact hx), fun b' e' => by cases e'⟩, fun s e => ⟨(h.z2 s e).1.mod hm fun x hx e' => (h.z2 s e).2 b rfl (by rw [← e']; exact hx), fun b' e' => by cases e'⟩, fun s e => ⟨(h.z3 s e).1.mod hm fun x hx e' => (h.z3 s e).2 b rfl (by rw [← e']; exact hx), fun b' e' => by cases e'⟩⟩
theorem mk_zeros {n : Nat} (hn : n ≤ 1000) (hK : ∀ s w', Mod NoB w w' → Sh.Own w' s 1 (bys (List.replicate n 0)) → (∀ b, s.blk = some b → w.heap.size ≤ b) → K s w') :
    semK Tryd.prog (Instr.makeSlice 26 (.int .i64 (n : Int)) (.int .i64 (n : Int))) w fun v w' => ∃ x : Slc, v = (.slice x.a x.len x.cap) ∧ K x w' := by
  obtain ⟨i5', h51, h52, h53, h54⟩ := i5
  refine sem_makeSlice (l := n) (c := n) u26 h51 h52 h53 rfl h54 rfl rfl (by omega) (by omega) (by omega) fun b w' hN hb ho => ⟨⟨some ⟨b, 0, none⟩, n, n⟩, rfl, hK _ w' hN.mod (by rw [← bys_rep]; exact ho) fun y hy => ?_⟩
  rw [Slc.blk_mk] at hy
  have := hN.at_
  split at hy
  · cases hy
  · simp at hy; omega
theorem st_z1 (h : St w0 w raw cv none z2 z3) (hK : ∀ s w', St w0 w' raw cv (some s) z2 z3 → K s w') :
    semK Tryd.prog (Instr.makeSlice 26 (.int .i64 (111 : Int)) (.int .i64 (111 : Int))) w fun v w' => ∃ x : Slc, v = (.slice x.a x.len x.cap) ∧ K x w' :=
  mk_zeros (n := 111) (by omega) fun s w' hm ho hf => hK s w' ⟨(h.no hm).mod, (h.no hm).raw, (h.no hm).cv, fun s' e => by cases e; exact ⟨ho, fun b e hb => by have := hf b hb; have := (h.raw b e).1.lt; omega⟩, (h.no hm).z2, (h.no hm).z3⟩
theorem st_z2 (h : St w0 w raw cv z1 none z3) (hK : ∀ s w', St w0 w' raw cv z1 (some s) z3 → K s w') :
    semK Tryd.prog (Instr.makeSlice 26 (.int .i64 (112 : Int)) (.int .i64 (112 : Int))) w fun v w' => ∃ x : Slc, v = (.slice x.a x.len x.cap) ∧ K x w' :=
  mk_zeros (n := 112) (by omega) fun s w' hm ho hf => hK s w' ⟨(h.no hm).mod, (h.no hm).raw, (h.no hm).cv, (h.no hm).z1, fun s' e => by cases e; exact ⟨ho, fun b e hb => by have := hf b hb; have := (h.raw b e).1.lt; omega⟩, (h.no hm).z3⟩
theorem st_z3 (h : St w0 w raw cv z1 z2 none) (hK : ∀ s w', St w0 w' raw cv z1 z2 (some s) → K s w') :
    semK Tryd.prog (Instr.makeSlice 26 (.int .i64 (300 : Int)) (.int .i64 (300 : Int))) w fun v w' => ∃ x : Slc, v = (.slice x.a x.len x.cap) ∧ K x w' :=
  mk_zeros (n := 300) (by omega) fun s w' hm ho hf => hK s w' ⟨(h.no hm).mod, (h.no hm).raw, (h.no hm).cv, (h.no hm).z1, (h.no hm).z2, fun s' e => by cases e; exact ⟨ho, fun b e hb => by have := hf b hb; have := (h.raw b e).1.lt; omega⟩⟩
def TL : List (List UInt8) := [[], [97, 98, 99], List.replicate 111 0, List.replicate 112 0, List.replicate 300 0]
def JT (w0 : World) (l : List TV) (w : World) : Prop := ∃ x : Slc, l = [.sl x] ∧ PartsAt w x TL (fun y => y < w.heap.size) ∧ Mod NoB w0 w
theorem st_leaf {a b c d : Slc} (h : St w0 w none (some a) (some b) (some c) (some d)) :
    semK Tryd.prog (Instr.buildSlice 22 5 #[(0, (.slice none 0 0)), (1, (.slice a.a a.len a.cap)), (2, (.slice b.a b.len b.cap)), (3, (.slice c.a c.len c.cap)), (4, (.slice d.a d.len d.cap))]) w fun v w' => ∃ x : Slc, v = (.slice x.a x.len x.cap) ∧ JT w0 [.sl x] w' := by
  refine sem_rows [⟨none, 0, 0⟩, a, b, c, d] rfl rfl (by omega) (by omega) fun x e w' hN hx hb ho => ⟨x, rfl, x, rfl, ?_, h.mod.tr hN.mod⟩
  have h' := h.no hN.mod
  refine parts_of ho.rd (fun y hy => ho.lt hy) rfl fun i hi hi' => ?_
  match i, hi, hi' with
  | 0, _, _ => exact ⟨rd_nil _ _, fun y hy => by simp at hy⟩
  | 1, _, _ => exact ⟨(h'.cv a rfl).rd, fun y hy => (h'.cv a rfl).lt hy⟩
  | 2, _, _ => exact ⟨(h'.z1 b rfl).1.rd, fun y hy => (h'.z1 b rfl).1.lt hy⟩
  | 3, _, _ => exact ⟨(h'.z2 c rfl).1.rd, fun y hy => (h'.z2 c rfl).1.lt hy⟩
  | 4, _, _ => exact ⟨(h'.z3 d rfl).1.rd, fun y hy => (h'.z3 d rfl).1.lt hy⟩
end

end Go.Proofs.YtbbfcamopdckmaaDoor
