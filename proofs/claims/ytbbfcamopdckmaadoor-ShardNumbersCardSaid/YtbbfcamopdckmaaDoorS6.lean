/- SHA: a new hash, a copy, the digest. -/
import Derived.Test.YtbbfcamopdckmaaDoorS5
set_option linter.unusedSimpArgs false
set_option linter.unusedVariables false
namespace Go.Proofs.YtbbfcamopdckmaaDoor
open Go Go.Sh

theorem state_nil : state KS H0 [] = H0 := rfl
theorem c_new {w : World} (hg : Glob w) : Calls Tryd.prog 22 #[] w (Ret fun v w' => ∃ p, v = .pointer (some ⟨p, 0, none⟩) ∧ HashAt w' p ⟨none, 0, 0⟩ [] ∧ p = w.heap.size ∧ w'.heap.size = p + 1 ∧ Mod NoB w w') := by
  refine call22 ?_
  unfold sh22
  refine ⟨_, _, _, _, _, _, _, _, hg.begin0, ?_⟩
  refine sem_box (l := HW H0 ⟨none, 0, 0⟩ 0) rfl fun p w1 hN hb => ⟨_, rfl, p, rfl, ⟨hb, own_nil _ _, by simp, hg.fresh (by rw [hN.at_]; exact Nat.le_refl _), by simp⟩, hN.at_, hN.size, hN.mod⟩

/-- slices.Clone at bytes: a slice of the call's own -/
theorem c_clone {w : World} {s : Slc} {l : List UInt8} (hs : SlRd w s 1 (bys l)) (hn : l.length ≤ 1000000000) :
    Calls Tryd.prog 43 #[.slice s.a s.len s.cap] w (Ret fun v w' => ∃ s', v = s'.val ∧ Sh.Own w' s' 1 (bys l) ∧ (s'.blk = none ∨ ∃ x, s'.blk = some x ∧ w.heap.size ≤ x) ∧ Mod NoB w w') := by
  obtain ⟨i5', h51, h52, h53, h54⟩ := i5
  have hl := rd_len8 hs
  refine call43 _ ?_
  unfold sh43
  refine ps_eql_slc (e := 5) u26 ⟨_, rfl, condK_i (fun h => ?_) (fun h => ?_)⟩
  · have : l = [] := by
      rcases hs.2.2 with h0 | ⟨b, e1, _⟩
      · exact bys_inj (b := []) h0
      · rw [e1] at h; simp at h
    subst this
    exact ⟨⟨none, 0, 0⟩, rfl, own_nil _ _, .inl rfl, Mod.refl _ _⟩
  · refine sem_lit0 u26 h51 fun b w1 hN => ⟨⟨some ⟨b, 0, none⟩, 0, 0⟩, rfl, ?_⟩
    refine sem_append (s := ⟨some ⟨b, 0, none⟩, 0, 0⟩) u26 h51 h52 h53 rfl h54 (own_zero _ _ _) (hs.no hN.mod) (bys_one _) (by simp only []; omega) (by simp only []; omega) fun s' w2 ho hlen hblk hm => ⟨s', rfl, s', rfl, by simpa using ho, ?_, ?_⟩
    · rcases hblk with h | h
      · exact .inl (by rw [h]; simp)
      · exact .inr ⟨_, h, hN.mod.size⟩
    · exact hN.mod.fresh hm fun x e => by simp at e

theorem c_copy {w : World} {p : Nat} {s : Slc} {b : List UInt8} (h : HashAt w p s b) (hg : Glob w) (hn : b.length ≤ 1000000000) :
    Calls Tryd.prog 23 #[.pointer (some ⟨p, 0, none⟩)] w (Ret fun v w' => ∃ p' s', v = .pointer (some ⟨p', 0, none⟩) ∧ HashAt w' p' s' b ∧ w.heap.size ≤ p' ∧ (s'.blk = none ∨ ∃ x, s'.blk = some x ∧ w.heap.size ≤ x) ∧ Mod NoB w w') := by
  refine call23 _ ?_
  unfold sh23
  refine callK_ret (c_there h.blk (st_len b)) ?_
  rintro v w1 ⟨rfl, rfl⟩
  refine ⟨true, rfl, ?_⟩
  show condK false _ _
  refine condK_i (fun e => by cases e) fun _ => ?_
  obtain ⟨ih, hi1, hi2, -, -⟩ := (info_of (by kernel_rfl) (by kernel_rfl) (by kernel_rfl) : ∃ i, Tryd.prog.info? 48 = some i ∧ i.zero = some (.agg (List.replicate 8 z64 ++ [.slice none 0 0, z64, .bool false]).toArray) ∧ i.size = 11 ∧ i.bytes = 104)
  obtain ⟨k0, k1, k2, k3, k4, k5, k6, k7, hk⟩ := list8 (st_len b)
  have hB := h.blk
  rw [hk] at hB
  have hpl := h.blk.lt
  refine ⟨k0, k1, k2, k3, k4, k5, k6, k7, s, UInt64.ofNat b.length, true, hB.rd (o := 0) (vs := HW [k0, k1, k2, k3, k4, k5, k6, k7] s (UInt64.ofNat b.length)) (fun j v hj => by rw [Nat.zero_add]; exact hj), ?_⟩
  refine sem_alloc (l := List.replicate 8 z64 ++ [.slice none 0 0, z64, .bool false]) hi1 hi2 rfl fun p' w2 hN hb2 => ⟨_, rfl, ?_⟩
  have hat := hN.at_; have hsz := hN.size
  refine semU_store (b := p') (o := 0) (vs := HW [k0, k1, k2, k3, k4, k5, k6, k7] s (UInt64.ofNat b.length)) (by kernel_rfl) (by kernel_rfl) rfl hb2 (by simp [HW]) (by
    intro u hu
    rcases List.mem_append.1 hu with hu | hu
    · exact us_one _ u hu
    · simp at hu; rcases hu with rfl | rfl | rfl <;> rfl) fun w3 ht3 hb3 => ?_
  have hb3 : Blk w3 p' (HW [k0, k1, k2, k3, k4, k5, k6, k7] s (UInt64.ofNat b.length)) THash := hb3
  have hm3 : Mod NoB w1 w3 := hN.mod.fresh ht3.mod fun x e => by omega
  have hB3 := h.blk.no hm3
  refine ⟨s, hB3.rd1 (o := 8) (hw8 (st_len b)), ?_⟩
  have ho3 := h.own.no hm3
  refine callK_ret (c_clone ho3.rd (by rw [rest_len]; omega)) ?_
  rintro v w4 ⟨s', rfl, ho4, hblk4, hm4⟩
  refine ⟨s', rfl, ?_⟩
  have hb4 := hb3.no hm4
  have hsz3 := ht3.size
  have hno : ∀ x, s'.blk = some x → w3.heap.size ≤ x := fun x hx => by
    rcases hblk4 with e | ⟨y, e, hy⟩
    · rw [e] at hx; cases hx
    · rw [e] at hx; cases hx; exact hy
  refine semU_store1 (b := p') (o := 8) (by kernel_rfl) (by kernel_rfl) rfl hb4 (by simp [HW]) fun w5 ht5 hb5 => ⟨p', s', rfl, ⟨?_, ?_, ?_, hg.fresh (by omega), fun x hx => hg.fresh (by have := hno x hx; omega)⟩, by omega, ?_, ?_⟩
  · have : (HW [k0, k1, k2, k3, k4, k5, k6, k7] s (UInt64.ofNat b.length)).set 8 s'.val = HW [k0, k1, k2, k3, k4, k5, k6, k7] s' (UInt64.ofNat b.length) := rfl
    rw [hk, ← this]; exact hb5
  · exact ho4.mod ht5.mod fun x hx e => by have := hno x hx; omega
  · intro e; have := hno p' e; omega
  · rcases hblk4 with e | ⟨y, e, hy⟩
    · exact .inl e
    · exact .inr ⟨y, e, by omega⟩
  · exact (hm3.tr hm4).fresh ht5.mod fun x e => by omega
end Go.Proofs.YtbbfcamopdckmaaDoor
