/- BudgetNumbers: the walk. -/
import Derived.Test.YtnecbkjpijiopaaB11
set_option linter.unusedSimpArgs false
set_option linter.unusedVariables false
namespace Go.Proofs.Ytnecbkjpijiopaa
open Go Go.Sh

def trs (l : List (Int × Int × Int)) : List Value := l.flatMap fun p => [.int .i64 p.1, .int .i64 p.2.1, .int .i64 p.2.2]
theorem trs_app (l l' : List (Int × Int × Int)) : trs (l ++ l') = trs l ++ trs l' := by simp [trs]
@[simp] theorem trs_len (l : List (Int × Int × Int)) : (trs l).length = l.length * 3 := by
  induction l with
  | nil => rfl
  | cons a l ih => simp [trs] at ih ⊢; omega
theorem trs_one (l : List (Int × Int × Int)) : ∀ y ∈ trs l, y.oneCell' = true := by
  intro y hy
  obtain ⟨p, _, hp⟩ := List.mem_flatMap.1 hy
  simp at hp
  rcases hp with rfl | rfl | rfl <;> rfl
theorem trs_at : ∀ (l : List (Int × Int × Int)) (i : Nat) (h : i < l.length), (trs l)[i * 3]? = some (.int .i64 l[i].1) ∧ (trs l)[i * 3 + 1]? = some (.int .i64 l[i].2.1) ∧ (trs l)[i * 3 + 2]? = some (.int .i64 l[i].2.2)
  | a :: l, 0, _ => ⟨rfl, rfl, rfl⟩
  | a :: l, i + 1, h => by
    have ih := trs_at l i (by simpa using h)
    have e : trs (a :: l) = .int .i64 a.1 :: .int .i64 a.2.1 :: .int .i64 a.2.2 :: trs l := by simp [trs]
    rw [e, show (i + 1) * 3 = i * 3 + 1 + 1 + 1 by omega]
    simpa using ih
theorem tr_len {w : World} {s : Slc} {l : List (Int × Int × Int)} (h : SlRd w s 3 (trs l)) : l.length = s.len := by have := h.1; simp at this; omega
theorem dos_own {w : World} {s : Slc} {l : List (Int × Int × Int)} (h : Own w s 3 (trs l)) : Dos w s := by
  intro k hk
  have hl := tr_len h.rd
  have hk' : k < l.length := by omega
  obtain ⟨a, ha, hrd⟩ := h.rd.at (us := [.int .i64 l[k].1, .int .i64 l[k].2.1, .int .i64 l[k].2.2]) hk (by omega) fun j u hu => by
    have := trs_at l k hk'
    match j, hu with
    | 0, hu => simp at hu; subst hu; exact this.1
    | 1, hu => simp at hu; subst hu; exact this.2.1
    | 2, hu => simp at hu; subst hu; exact this.2.2
    | j + 3, hu => simp at hu
  refine ⟨a, _, _, _, ha, hrd, ?_⟩
  have := World.block_lt_of_cell? w _ (hrd 0 _ rfl)
  simpa only [add_block] using this
theorem u22 : Try.prog.underlying 22 = some (.slice 29) := by kernel_rfl

theorem c5 {w : World} : Calls Try.prog 5 #[] w (Ret fun v w' => v = .bool true ∧ Mod NoB w w') := by
  refine call5 ?_
  unfold sh5
  obtain ⟨i3, h31, h32, h33, h34⟩ := i3
  obtain ⟨i29, g1, g2, g3, g4⟩ := i29
  refine sem_lit [.int .i64 (-9223372036854775808), .int .i64 (-1), .int .i64 0, .int .i64 1, .int .i64 2, .int .i64 3, .int .i64 8, .int .i64 9223372036854775807] (l := ints [-9223372036854775808, -1, 0, 1, 2, 3, 8, 9223372036854775807]) u43 h31 h32 h33 (by decide) rfl (by decide) (by decide) rfl
    (by intro v hv; simp at hv; rcases hv with rfl | rfl | rfl | rfl | rfl | rfl | rfl | rfl <;> rfl) rfl fun b w1 hN hb => ⟨⟨_, _, _⟩, rfl, ?_⟩
  have hat := hN.at_; have hsz := hN.size
  have hread : ∀ k : Nat, k < 8 → ∃ v, ∀ w', Mod NoB w1 w' → Rd w' ((⟨b, 0, none⟩ : Addr).add (k * 1)) [.int .i64 v] := by
    intro k hk
    refine ⟨([-9223372036854775808, -1, 0, 1, 2, 3, 8, 9223372036854775807] : List Int)[k]'hk, fun w' hm => ?_⟩
    rw [addl]
    refine (hb.mod hm fun h => h).rd1 ?_
    unfold ints
    rw [Nat.zero_add, Nat.mul_one, List.getElem?_map, List.getElem?_eq_getElem (by simpa using hk)]
    rfl
  refine ⟨fun l' w2 => match l' with | [.i _ i] => ∃ n : Nat, i = n ∧ n ≤ 8 ∧ Mod NoB w1 w2 | _ => False, fun l' _ => match l' with | [.i _ i] => (8 - i).toNat | _ => 0, ⟨0, rfl, by omega, Mod.refl _ _⟩, ?_⟩
  rintro i w2 ⟨i, rfl, hi, hm2⟩
  refine condK_i (fun hlt => ?_) (fun _ => ?_)
  · have hi' : i < 8 := by simp at hlt; omega
    obtain ⟨vi, hvi⟩ := hread i hi'
    have bi : 0 ≤ (i : Int) ∧ (i : Int) < ((8 : Nat) : Int) := ⟨by omega, by omega⟩
    refine ⟨fun l' w3 => match l' with | [.i _ k] => ∃ n : Nat, k = n ∧ n ≤ 8 ∧ Mod NoB w1 w3 | _ => False, fun l' _ => match l' with | [.i _ i] => (8 - i).toNat | _ => 0, ⟨0, rfl, by omega, hm2⟩, ?_⟩
    rintro k w3 ⟨k, rfl, hk, hm3⟩
    refine condK_i (fun hlt => ?_) (fun _ => ?_)
    · have hk' : k < 8 := by simp at hlt; omega
      obtain ⟨vk, hvk⟩ := hread k hk'
      have bk : 0 ≤ (k : Int) ∧ (k : Int) < ((8 : Nat) : Int) := ⟨by omega, by omega⟩
      refine ⟨fun l' w4 => match l' with | [.sl l, .i _ n] => ∃ m : Nat, n = m ∧ m ≤ 10 ∧ Mod NoB w1 w4 ∧ ∃ T, Own w4 l 3 (trs T) ∧ T.length = 4 * m ∧ ∀ x, l.blk = some x → w1.heap.size ≤ x | _ => False,
        fun l' _ => match l' with | [.sl _, .i _ i] => (10 - i).toNat | _ => 0, ⟨0, rfl, by omega, hm3, [], own_nil _ _, rfl, by simp [Slc.blk]⟩, ?_⟩
      rintro l n w4 ⟨n, rfl, hn, hm4, T, hT, hTl, hTf⟩
      have hll := tr_len hT.rd
      have hd4 : Mod NoB w1 w4.drew := hm4.no (Mod.drew _ _)
      refine condK_i (fun hlt => ?_) (fun _ => ?_)
      · have hn' : n < 10 := by simp at hlt; omega
        obtain ⟨vn, hvn⟩ := hread (n % 8) (by omega)
        have e8 : ∀ m : Nat, m = 8 → Int.tmod (n : Int) (m : Int) = ((n % 8 : Nat) : Int) := by rintro m rfl; rw [Int.tmod_eq_emod_of_nonneg (by omega)]; rfl
        refine ⟨fun w' => Mod NoB w1 w', hd4, bi, bk, bk, bi, by simp, ?_⟩
        rw [e8 _ rfl]
        refine ⟨⟨by omega, by simp only []; omega⟩, vi, hvi, vk, hvk, vk, hvk, vi, hvi, vn, hvn, ?_, trivial⟩
        refine sem_lit [.agg #[.int .i64 0, .int .i64 vi, .int .i64 n], .agg #[.int .i64 0, .int .i64 vk, .int .i64 n], .agg #[.int .i64 3, .int .i64 vk, .int .i64 0], .agg #[.int .i64 0, .int .i64 vi, .int .i64 vn]]
          (l := trs [(0, vi, n), (0, vk, n), (3, vk, 0), (0, vi, vn)]) u22 g1 g2 g3 (by decide) rfl (by decide) (by decide) rfl (by intro v hv; simp at hv; rcases hv with rfl | rfl | rfl | rfl <;> rfl) rfl fun c w5 hN5 hc => ⟨⟨_, _, _⟩, rfl, ?_⟩
        have hm5 := hd4.no hN5.mod
        have hT5 : Own w5 l 3 (trs T) := (hT.mod (Mod.drew NoB w4) fun _ _ h => h).mod hN5.mod fun _ _ h => h
        refine ⟨hm5, ?_, trivial⟩
        refine sem_append u22 g1 g2 g3 rfl g4 hT5 (own_new (n := 4) (c := 4) (k := 3) hc rfl (by omega)).rd (by intro y hy; exact trs_one _ y (List.mem_of_mem_take hy)) (by simp only []; omega) (by simp only []; omega) ?_
        intro s' w6 ho hlen hblk hm6
        have hm6' : Mod NoB w1 w6 := hm5.fresh hm6 hTf
        refine ⟨s', rfl, hm6', ?_⟩
        rw [wrap_nat (by omega)]
        refine ⟨⟨n + 1, rfl, by omega, hm6', T ++ [((0 : Int), vi, (n : Int)), (0, vk, (n : Int)), (3, vk, 0), (0, vi, vn)], by rw [trs_app]; exact ho, by simp; omega, fun x hx => ?_⟩, by simp only []; omega⟩
        have := hm5.size; have := hd4.size; have := hN5.size; have := hN5.at_
        rcases hblk with e | e
        · exact hTf x (by rw [← e]; exact hx)
        · rw [e] at hx; cases hx; omega
      · refine ⟨fun w' => Mod NoB w1 w', hd4, bi, bk, bi, bi, bi, vi, hvi, vk, hvk, vi, hvi, vi, hvi, vi, hvi, ?_, trivial⟩
        refine sem_lit [.agg #[.int .i64 2, .int .i64 vi, .int .i64 8], .agg #[.int .i64 2, .int .i64 vk, .int .i64 vi], .agg #[.int .i64 0, .int .i64 vi, .int .i64 8], .agg #[.int .i64 5, .int .i64 0, .int .i64 0], .agg #[.int .i64 3, .int .i64 vi, .int .i64 0], .agg #[.int .i64 2, .int .i64 9, .int .i64 9]]
          (l := trs [(2, vi, 8), (2, vk, vi), (0, vi, 8), (5, 0, 0), (3, vi, 0), (2, 9, 9)]) u22 g1 g2 g3 (by decide) rfl (by decide) (by decide) rfl (by intro v hv; simp at hv; rcases hv with rfl | rfl | rfl | rfl | rfl | rfl <;> rfl) rfl fun c w5 hN5 hc => ⟨⟨_, _, _⟩, rfl, ?_⟩
        have hm5 := hd4.no hN5.mod
        have hT5 : Own w5 l 3 (trs T) := (hT.mod (Mod.drew NoB w4) fun _ _ h => h).mod hN5.mod fun _ _ h => h
        refine ⟨hm5, ?_, trivial⟩
        refine sem_append u22 g1 g2 g3 rfl g4 hT5 (own_new (n := 6) (c := 6) (k := 3) hc rfl (by omega)).rd (by intro y hy; exact trs_one _ y (List.mem_of_mem_take hy)) (by simp only []; omega) (by simp only []; omega) ?_
        intro s' w6 ho hlen hblk hm6
        have hm6' : Mod NoB w1 w6 := hm5.fresh hm6 hTf
        have ho' : Own w6 s' 3 (trs (T ++ [(2, vi, 8), (2, vk, vi), (0, vi, 8), (5, 0, 0), (3, vi, 0), (2, 9, 9)])) := by rw [trs_app]; exact ho
        have hd6 : Dos w6.drew s' := (dos_own ho').mod (Mod.drew _ _)
        have hm6d := hm6'.no (Mod.drew NoB w6)
        refine ⟨s', rfl, hm6', fun w' => Mod NoB w1 w', hm6d, bi, bk, vi, hvi, vk, hvk, ?_, trivial⟩
        refine callK_ret (c3 hd6) ?_
        rintro v w9 ⟨rfl, hm9⟩
        refine ⟨_, rfl, hm6d.no hm9, condK_i (fun h => by simp at h) (fun _ => ⟨?_, trivial⟩)⟩
        refine callK_ret (c3 (hd6.mod hm9)) ?_
        rintro v w10 ⟨rfl, hm10⟩
        refine ⟨_, rfl, (hm6d.no hm9).no hm10, condK_i (fun h => by simp at h) (fun _ => ⟨bi, bk, vi, hvi, vk, hvk, ?_, trivial⟩)⟩
        refine callK_ret c4 ?_
        rintro v w11 ⟨rfl, hm11⟩
        have hmm := ((hm6d.no hm9).no hm10).no hm11
        refine ⟨_, rfl, hmm, condK_i (fun h => by simp at h) (fun _ => ?_)⟩
        rw [wrap_nat (by omega)]
        exact ⟨⟨k + 1, rfl, by omega, hmm⟩, by simp only []; omega⟩
    · rw [wrap_nat (by omega)]
      exact ⟨⟨i + 1, rfl, by omega, hm3⟩, by simp only []; omega⟩
  · refine callK_ret (c3 (l := ⟨none, 0, 0⟩) fun k hk => by simp at hk) ?_
    rintro v w3 ⟨rfl, hm3⟩
    refine ⟨_, rfl, condK_i (fun _ => ?_) (fun h => by simp at h)⟩
    refine callK_ret c7 ?_
    rintro v w4 ⟨rfl, hm4⟩
    exact ⟨_, rfl, rfl, ((hN.mod.no hm2).no hm3).no hm4⟩
end Go.Proofs.Ytnecbkjpijiopaa
