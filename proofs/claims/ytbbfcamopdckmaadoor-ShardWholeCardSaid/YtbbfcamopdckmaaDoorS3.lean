/- SHA: a block turns the words. -/
import Derived.Test.YtbbfcamopdckmaaDoorS2
set_option linter.unusedSimpArgs false
set_option linter.unusedVariables false
namespace Go.Proofs.YtbbfcamopdckmaaDoor
open Go Go.Sh

theorem rd_u8 {w : World} {s : Slc} {l : List UInt8} (h : SlRd w s 1 (bys l)) {i : Nat} (hi : i < l.length) : ∃ a, s.a = some a ∧ Rd w (a.add (i * 1)) [.int .u8 l[i].toNat] :=
  h.at (by have := h.1; simp at this; omega) (by omega) fun j u hu => by
    cases j with
    | zero => simp at hu; subst hu; simp [bys_at hi]
    | succ j => simp at hu
theorem rd_u64 {w : World} {s : Slc} {l : List UInt64} (h : SlRd w s 1 (us l)) {i : Nat} (hi : i < l.length) : ∃ a, s.a = some a ∧ Rd w (a.add (i * 1)) [.int .u64 l[i].toNat] :=
  h.at (by have := h.1; simp at this; omega) (by omega) fun j u hu => by
    cases j with
    | zero => simp at hu; subst hu; simp [us_at hi]
    | succ j => simp at hu
theorem bys_cut (l : List UInt8) (a n : Nat) : ((bys l).drop (a * 1)).take (n * 1) = bys ((l.drop a).take n) := by simp [bys, List.map_drop, List.map_take]
theorem us_cut (l : List UInt64) (a n : Nat) : ((us l).drop (a * 1)).take (n * 1) = us ((l.drop a).take n) := by simp [us, List.map_drop, List.map_take]
theorem rd_len8 {w : World} {s : Slc} {l : List UInt8} (h : SlRd w s 1 (bys l)) : l.length = s.len := by have := h.1; simpa using this
theorem rd_len64 {w : World} {s : Slc} {l : List UInt64} (h : SlRd w s 1 (us l)) : l.length = s.len := by have := h.1; simpa using this
def z64 : Value := .int .u64 0
theorem i640 : ∃ i, Tryd.prog.info? 129 = some i ∧ i.zero = some (.agg (List.replicate 80 z64).toArray) ∧ i.size = 80 ∧ i.bytes = 640 := info_of (by kernel_rfl) (by kernel_rfl) (by kernel_rfl)
theorem iwords : ∃ i, Tryd.prog.info? 46 = some i ∧ i.zero = some (.agg (List.replicate 8 z64).toArray) ∧ i.size = 8 ∧ i.bytes = 64 := info_of (by kernel_rfl) (by kernel_rfl) (by kernel_rfl)
theorem set_mid {α : Type} {l r : List α} {x y : α} {n : Nat} (h : n = l.length) : (l ++ x :: r).set n y = l ++ y :: r := by subst h; simp
theorem rep_succ {n : Nat} {z : Value} (h : 0 < n) : List.replicate n z = z :: List.replicate (n - 1) z := by
  cases n with
  | zero => omega
  | succ n => simp [List.replicate_succ]
theorem be64_snoc (l : List UInt8) (c : UInt8) : be64 (l ++ [c]) = shlU64 (be64 l) 8 ||| c.toUInt64 := by simp [be64]
theorem take_snoc {α : Type} {l : List α} {j : Nat} (h : j < l.length) : l.take (j + 1) = l.take j ++ [l[j]] := by rw [List.take_succ_eq_append_getElem h]

/-- the row of words while it is filled -/
def fill (ws : List UInt64) : List Value := us ws ++ List.replicate (80 - ws.length) z64
theorem fill_at {ws : List UInt64} {i : Nat} (h : i < ws.length) : (fill ws)[i]? = some (.int .u64 (ws.getD i 0).toNat) := by
  unfold fill
  rw [List.getElem?_append_left (by simpa using h), us_getD h]
theorem fill_next {ws : List UInt64} {x : UInt64} (h : ws.length < 80) : (fill ws).set ws.length (.int .u64 x.toNat) = fill (ws ++ [x]) := by
  unfold fill
  rw [rep_succ (by omega), set_mid (by simp), us_app]
  simp only [List.length_append, List.length_cons, List.length_nil, List.append_assoc]
  congr 1
@[simp] theorem fill_len {ws : List UInt64} (h : ws.length ≤ 80) : (fill ws).length = 80 := by unfold fill; simp; omega

theorem c_block1 {w : World} {b : Slc} {bs : List UInt8} (hb : SlRd w b 1 (bys bs)) (hl : bs.length = 128) {m t : Nat} (ht : t < 16) {w2 : World} (hm : Mod NoB w w2) (hbm : ∀ x, b.blk = some x → x ≠ m) (hmw : w.heap.size ≤ m) (hM : Blk w2 m (fill (sched bs t)) 129) {R : Prop}
    {K : World → Prop} (hk : ∀ w3, Mod NoB w w3 → Blk w3 m (fill (sched bs (t + 1))) 129 → K w3) :
    ∃ (inv1 : List TV → World → Prop) (mu1 : List TV → World → Nat), inv1 [.i .i64 (0 : Int)] w2 ∧ (∀ x1 : Int, ∀ w3 : World, inv1 [.i .i64 x1] w3 → condK (decide (x1 < ((cutSl b 1 (8 * t) (8 * t + 8) b.cap).len : Int))) (((0 ≤ x1 ∧ x1 < ((cutSl b 1 (8 * t) (8 * t + 8) b.cap).len : Nat)) ∧ onSome (cutSl b 1 (8 * t) (8 * t + 8) b.cap).a fun a => ∃ x2 : UInt8, Rd w3 (a.add ((x1).toNat * 1)) [(.int .u8 (x2).toNat)] ∧ ((0 ≤ (t : Int) ∧ (t : Int) < (80 : Nat)) ∧ ∃ x3 : UInt64, Rd w3 ((⟨m, 0, none⟩ : Addr).add (t * 1)) [(.int .u64 (x3).toNat)] ∧ (0 ≤ (((8 : UInt64)).toNat : Int) ∧ ((0 ≤ (t : Int) ∧ (t : Int) < (80 : Nat)) ∧ semU Tryd.prog (storeVar 44 ((⟨m, 0, none⟩ : Addr).add (t * 1)) (.int .u64 (((shlU64 x3 ((((8 : UInt64)).toNat : Int)).toNat) ||| (x2).toUInt64)).toNat)) w3 fun w4 => (inv1 [.i .i64 (IntKind.i64.wrap (x1 + (1 : Int)))] w4 ∧ mu1 [.i .i64 (IntKind.i64.wrap (x1 + (1 : Int)))] w4 < mu1 [.i .i64 x1] w3)))))) (K w3)) := by
  have hbl := rd_len8 hb
  have hcut := hb.cut (l := 8 * t) (n := 8 * t + 8) (m := b.cap) (by omega) (by omega) (by have := hb.2.1; omega) (Nat.le_refl _)
  have hwl : ((bs.drop (8 * t)).take 8).length = 8 := by rw [List.length_take, List.length_drop]; omega
  rw [show 8 * t + 8 - 8 * t = 8 by omega, bys_cut] at hcut
  have hcl : (cutSl b 1 (8 * t) (8 * t + 8) b.cap).len = 8 := by simp [cutSl]
  have hsl := sched_len bs t
  refine ⟨fun l w' => match l with | [.i _ x] => ∃ j : Nat, x = j ∧ j ≤ 8 ∧ Blk w' m ((fill (sched bs t)).set t (.int .u64 (be64 (((bs.drop (8 * t)).take 8).take j)).toNat)) 129 ∧ Mod NoB w w' | _ => False, fun l _ => match l with | [.i _ x] => (8 - x).toNat | _ => 0, ⟨0, rfl, by omega, ?_, hm⟩, ?_⟩
  · have : (fill (sched bs t)).set t (.int .u64 (be64 (((bs.drop (8 * t)).take 8).take 0)).toNat) = fill (sched bs t) := by
      apply List.ext_getElem?
      intro i
      rw [List.getElem?_set]
      split
      · next h =>
        subst h
        rw [if_pos (by rw [fill_len (by omega)]; omega)]
        unfold fill
        rw [List.getElem?_append_right (by simp [hsl]), us_len, hsl, Nat.sub_self, rep_succ (by omega)]
        rfl
      · rfl
    rw [this]; exact hM
  rintro x1 w3 ⟨j, rfl, hj, hB, hm3⟩
  rw [hcl]
  have hfl : ((fill (sched bs t)).set t (Value.int .u64 (be64 (((bs.drop (8 * t)).take 8).take j)).toNat)).length = 80 := by rw [List.length_set, fill_len (by omega)]
  refine condK_i (fun h => ?_) (fun h => ?_)
  · have hj8 : j < 8 := by simp at h; omega
    obtain ⟨a, ha, hrd⟩ := rd_u8 hcut (i := j) (by omega)
    rw [ha]
    refine ⟨⟨by omega, by omega⟩, _, (hrd.mod hm3 fun h => h), ⟨by omega, by omega⟩, be64 (((bs.drop (8 * t)).take 8).take j), ?_, by decide, ⟨by omega, by omega⟩, ?_⟩
    · rw [addl]
      exact hB.rd1 (by rw [Nat.zero_add, Nat.mul_one, List.getElem?_set_self (by rw [fill_len (by omega)]; omega)])
    · rw [addl]
      refine semU_store1 (by kernel_rfl) (by kernel_rfl) rfl hB (by rw [hfl]; omega) fun w4 ht4 hB4 => ⟨?_, ?_⟩
      · rw [wrap_nat (by omega)]
        refine ⟨j + 1, rfl, by omega, ?_, hm3.fresh ht4.mod fun x e => by omega⟩
        rw [Nat.zero_add, Nat.mul_one, List.set_set] at hB4
        rw [take_snoc (by omega), be64_snoc]
        exact hB4
      · rw [wrap_nat (by omega)]
        simp only []
        omega
  · have hj8 : j = 8 := by simp at h; omega
    subst hj8
    refine hk w3 hm3 ?_
    rw [List.take_of_length_le (by omega)] at hB
    have e : sched bs (t + 1) = sched bs t ++ [be64 ((bs.drop (8 * t)).take 8)] := by
      show (let l := sched bs t; l ++ [wnext bs l t]) = _
      simp only [wnext, if_pos ht, word]
    rw [e, ← fill_next (by omega), hsl]
    exact hB
end Go.Proofs.YtbbfcamopdckmaaDoor
