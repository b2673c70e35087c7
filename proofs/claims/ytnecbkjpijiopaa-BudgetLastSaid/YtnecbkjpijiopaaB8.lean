/- Budget: the document's answer (rows of sessions and of bad frames). -/
import Derived.Test.YtnecbkjpijiopaaK4
import Derived.Test.YtnecbkjpijiopaaB6
set_option linter.unusedSimpArgs false
set_option linter.unusedVariables false
namespace Go.Proofs.Ytnecbkjpijiopaa
open Go Go.Sh

def prs (l : List (Int × Int)) : List Value := l.flatMap fun p => [.int .i64 p.1, .int .i64 p.2]
theorem prs_app (l l' : List (Int × Int)) : prs (l ++ l') = prs l ++ prs l' := by simp [prs]
@[simp] theorem prs_len (l : List (Int × Int)) : (prs l).length = l.length * 2 := by
  induction l with
  | nil => rfl
  | cons a l ih => simp [prs] at ih ⊢; omega
theorem prs_one (l : List (Int × Int)) : ∀ y ∈ prs l, y.oneCell' = true := by
  intro y hy
  obtain ⟨p, _, hp⟩ := List.mem_flatMap.1 hy
  simp at hp
  rcases hp with rfl | rfl <;> rfl
theorem prs_at : ∀ (l : List (Int × Int)) (i : Nat) (h : i < l.length), (prs l)[i * 2]? = some (.int .i64 l[i].1) ∧ (prs l)[i * 2 + 1]? = some (.int .i64 l[i].2)
  | a :: l, 0, _ => ⟨rfl, rfl⟩
  | a :: l, i + 1, h => by
    have ih := prs_at l i (by simpa using h)
    have e : prs (a :: l) = .int .i64 a.1 :: .int .i64 a.2 :: prs l := by simp [prs]
    rw [e, show (i + 1) * 2 = i * 2 + 1 + 1 by omega]
    simpa using ih
theorem pr_len {w : World} {s : Slc} {l : List (Int × Int)} (h : SlRd w s 2 (prs l)) : l.length = s.len := by have := h.1; simp at this; omega
theorem pr_at {w : World} {s : Slc} {l : List (Int × Int)} (h : SlRd w s 2 (prs l)) {i : Nat} (hi : i < l.length) : ∃ a, s.a = some a ∧ Rd w (a.add (i * 2)) [.int .i64 l[i].1, .int .i64 l[i].2] :=
  h.at (by rw [← pr_len h]; exact hi) (by omega) fun j u hu => by
    have := prs_at l i hi
    match j, hu with
    | 0, hu => simp at hu; subst hu; exact this.1
    | 1, hu => simp at hu; subst hu; exact this.2
    | j + 2, hu => simp at hu
theorem add_add (a : Addr) (i j : Nat) : (a.add i).add j = a.add (i + j) := by
  unfold Addr.add
  by_cases hi : i = 0
  · subst hi; simp
  · by_cases hj : j = 0
    · subst hj; simp
    · simp [hi, hj, Nat.add_assoc]
theorem rd_sub {w : World} {a : Addr} {vs : List Value} (h : Rd w a vs) {j : Nat} {v : Value} (hv : vs[j]? = some v) : Rd w (a.add j) [v] :=
  rd1_iff.2 (h j v hv)

theorem u51 : Try.prog.underlying 51 = some (.slice 61) := by kernel_rfl
theorem u61 : Try.prog.underlying 61 = some (.array 2 3) := by kernel_rfl
theorem i61 : ∃ i, Try.prog.info? 61 = some i ∧ i.zero = some (.agg #[.int .i64 0, .int .i64 0]) ∧ i.size = 2 ∧ i.bytes = 16 := info_of (by kernel_rfl) (by kernel_rfl) (by kernel_rfl)

theorem ps_pair {op : BinOp} {ox oy : Operand} {a b c d : Int} {K : Value → Prop} (hop : op = .eql ∨ op = .neq) (hk : K (.bool (if op = .eql then decide ((a, b) = (c, d)) else !decide ((a, b) = (c, d))))) :
    pureSem Try.prog (do eqGuard op 61 ox oy (.agg #[.int .i64 a, .int .i64 b]) (.agg #[.int .i64 c, .int .i64 d]); binOp op 61 (.agg #[.int .i64 a, .int .i64 b]) (.agg #[.int .i64 c, .int .i64 d])) K := by
  obtain ⟨i, hi, h1, h2, h3⟩ := i3
  refine ps_arr (l := [a, b]) (l' := [c, d]) hop u61 (by kernel_rfl) (by kernel_rfl) hi (by kernel_rfl) (by kernel_rfl) rfl rfl rfl rfl ?_
  have e : (([a, b] : List Int) == [c, d]) = decide ((a, b) = (c, d)) := by
    rw [Bool.eq_iff_iff]; simp
  rw [e]; exact hk

structure RRep (w : World) (r : Nat) (S : Nat → Prop) (op : List (Int × Int)) (bd : List Int) (sess most : Int) (s1 s2 : Slc) : Prop where
  blk : Blk w r [s1.val, s2.val, .int .i64 sess, .int .i64 most] 53
  o1 : Own w s1 2 (prs op)
  o2 : Own w s2 1 (ints bd)
  n1 : s1.blk ≠ some r
  n2 : s2.blk ≠ some r
  n3 : ∀ x, s1.blk = some x → s2.blk ≠ some x
  ins : S r ∧ (∀ x, s1.blk = some x → S x) ∧ ∀ x, s2.blk = some x → S x
  low : ∀ x, S x → x < w.heap.size
def RH (w : World) (r : Nat) (S : Nat → Prop) (op : List (Int × Int)) (bd : List Int) (sess most : Int) : Prop := ∃ s1 s2, RRep w r S op bd sess most s1 s2
def RPost (S : Nat → Prop) (w w' : World) (r : Nat) (op : List (Int × Int)) (bd : List Int) (sess most : Int) : Prop := ∃ S', RH w' r S' op bd sess most ∧ (∀ x, S' x → S x ∨ w.heap.size ≤ x) ∧ Mod S w w'
theorem RRep.mod {w w' : World} {r : Nat} {S T : Nat → Prop} {op : List (Int × Int)} {bd : List Int} {sess most : Int} {s1 s2 : Slc} (h : RRep w r S op bd sess most s1 s2) (hm : Mod T w w') (hT : ∀ x, S x → ¬ T x) : RRep w' r S op bd sess most s1 s2 :=
  ⟨h.blk.mod hm (hT _ h.ins.1), h.o1.mod hm fun x hx => hT _ (h.ins.2.1 x hx), h.o2.mod hm fun x hx => hT _ (h.ins.2.2 x hx), h.n1, h.n2, h.n3, h.ins, fun x hx => Nat.lt_of_lt_of_le (h.low x hx) hm.size⟩
theorem RH.mod {w w' : World} {r : Nat} {S T : Nat → Prop} {op : List (Int × Int)} {bd : List Int} {sess most : Int} (h : RH w r S op bd sess most) (hm : Mod T w w') (hT : ∀ x, S x → ¬ T x) : RH w' r S op bd sess most := by
  obtain ⟨s1, s2, h⟩ := h
  exact ⟨s1, s2, h.mod hm hT⟩
/-- the sessions' row is replaced -/
theorem RRep.st1 {w w1 : World} {r : Nat} {S : Nat → Prop} {op op' : List (Int × Int)} {bd : List Int} {sess most : Int} {s1 s2 s' : Slc} (h : RRep w r S op bd sess most s1 s2)
    (hm : Mod (fun x => s1.blk = some x) w w1) (ho : Own w1 s' 2 (prs op')) (hb : s'.blk = s1.blk ∨ ∃ x, s'.blk = some x ∧ w.heap.size ≤ x) {K : World → Prop}
    (hk : ∀ w2, RRep w2 r (fun x => S x ∨ s'.blk = some x) op' bd sess most s' s2 → Mod (fun x => x = r) w1 w2 → K w2) : semU Try.prog (storeVar 51 ⟨r, 0, none⟩ (.slice s'.a s'.len s'.cap)) w1 K := by
  have hb1 : Blk w1 r _ 53 := h.blk.mod hm h.n1
  have hr : s'.blk ≠ some r := by
    rcases hb with e | ⟨x, e, hx⟩
    · rw [e]; exact h.n1
    · rw [e]; rintro ⟨⟩; have := h.blk.lt; omega
  refine semU_store1 (o := 0) (by kernel_rfl) (by kernel_rfl) rfl hb1 (by simp) fun w2 hu hb2 => hk w2 ⟨hb2, ho.mod hu.mod fun x hx e => hr (by rw [hx, e]), (h.o2.mod hm fun x hx e => h.n3 x e hx).mod hu.mod fun x hx e => h.n2 (by rw [hx, e]), hr, h.n2, ?_, ⟨.inl h.ins.1, fun x hx => .inr hx, fun x hx => .inl (h.ins.2.2 x hx)⟩, ?_⟩ hu.mod
  · intro x hx
    rcases hb with e | ⟨y, e, hy⟩
    · exact h.n3 x (by rw [← e]; exact hx)
    · rw [e] at hx; cases hx
      intro e2; have := h.o2.lt e2; omega
  · intro x hx
    have h1 := hm.size; have h2 := hu.size
    rcases hx with hx | hx
    · have := h.low x hx; omega
    · have := ho.lt hx; omega
theorem RRep.st2 {w w1 : World} {r : Nat} {S : Nat → Prop} {op : List (Int × Int)} {bd bd' : List Int} {sess most : Int} {s1 s2 s' : Slc} (h : RRep w r S op bd sess most s1 s2)
    (hm : Mod (fun x => s2.blk = some x) w w1) (ho : Own w1 s' 1 (ints bd')) (hb : s'.blk = s2.blk ∨ s'.blk = none ∨ ∃ x, s'.blk = some x ∧ w.heap.size ≤ x) {K : World → Prop}
    (hk : ∀ w2, RRep w2 r (fun x => S x ∨ s'.blk = some x) op bd' sess most s1 s' → Mod (fun x => x = r) w1 w2 → K w2) : semU Try.prog (storeVar 43 ⟨r, 1, none⟩ (.slice s'.a s'.len s'.cap)) w1 K := by
  have hb1 : Blk w1 r _ 53 := h.blk.mod hm h.n2
  have hr : s'.blk ≠ some r := by
    rcases hb with e | e | ⟨x, e, hx⟩
    · rw [e]; exact h.n2
    · rw [e]; simp
    · rw [e]; rintro ⟨⟩; have := h.blk.lt; omega
  refine semU_store1 (o := 1) (by kernel_rfl) (by kernel_rfl) rfl hb1 (by simp) fun w2 hu hb2 => hk w2 ⟨hb2, (h.o1.mod hm fun x hx e => h.n3 x hx e).mod hu.mod fun x hx e => h.n1 (by rw [hx, e]), ho.mod hu.mod fun x hx e => hr (by rw [hx, e]), h.n1, hr, ?_, ⟨.inl h.ins.1, fun x hx => .inl (h.ins.2.1 x hx), fun x hx => .inr hx⟩, ?_⟩ hu.mod
  · intro x hx hx'
    rcases hb with e | e | ⟨y, e, hy⟩
    · exact h.n3 x hx (by rw [← e]; exact hx')
    · rw [e] at hx'; cases hx'
    · rw [e] at hx'; cases hx'
      have := h.o1.lt hx; omega
  · intro x hx
    have h1 := hm.size; have h2 := hu.size
    rcases hx with hx | hx
    · have := h.low x hx; omega
    · have := ho.lt hx; omega

theorem c9 {w : World} {x y : Int} : Calls Try.prog 9 #[.int .i64 x, .int .i64 y] w (Ret fun v w' => ∃ r S, v = .pointer (some ⟨r, 0, none⟩) ∧ RH w' r S [] [] (max1 x) (max1 y) ∧ (∀ z, S z → w.heap.size ≤ z) ∧ Mod NoB w w') := by
  refine call9 _ _ ?_
  unfold sh9
  refine sem_box (l := [.slice none 0 0, .slice none 0 0, .int .i64 (max1 x), .int .i64 (max1 y)]) rfl fun r w1 hN hb => ⟨_, rfl, r, fun z => z = r, rfl, ?_, fun z hz => by have := hN.at_; omega, hN.mod⟩
  refine ⟨⟨none, 0, 0⟩, ⟨none, 0, 0⟩, hb, own_nil _ _, own_nil _ _, by simp [Slc.blk], by simp [Slc.blk], by simp [Slc.blk], ⟨rfl, by simp [Slc.blk], by simp [Slc.blk]⟩, fun z hz => by have := hN.size; omega⟩

theorem c20r {w : World} {r : Nat} {S : Nat → Prop} {op : List (Int × Int)} {bd : List Int} {sess most peer n : Int} (h : RH w r S op bd sess most) (hn : op.length ≤ 1000000) :
    Calls Try.prog 20 #[.pointer (some ⟨r, 0, none⟩), .int .i64 peer, .int .i64 n] w (Ret fun v w' => v = .bool (decide ((peer, n) ∈ op)) ∧ w' = w) := by
  refine call20 _ _ _ ?_
  unfold sh20
  obtain ⟨s1, s2, h⟩ := h
  have hl := pr_len h.o1.rd
  refine ⟨fun l w1 => match l with | [.i _ i] => ∃ k : Nat, i = k ∧ k ≤ op.length ∧ w1 = w ∧ (peer, n) ∉ op.take k | _ => False, fun l _ => match l with | [.i _ i] => (s1.len - i).toNat | _ => 0, ⟨0, rfl, by omega, rfl, by simp⟩, ?_⟩
  rintro i w1 ⟨k, rfl, hk, rfl, hno⟩
  refine ⟨s1, h.blk.rd1 rfl, condK_i (fun hc => ?_) (fun hc => ?_)⟩
  · have hk' : k < op.length := by rw [hl]; simpa using hc
    obtain ⟨a, ha, hrd⟩ := pr_at h.o1.rd hk'
    refine ⟨s1, h.blk.rd1 rfl, ⟨by omega, by omega⟩, ?_⟩
    rw [ha]
    refine ⟨_, _, hrd, ps_pair (.inl rfl) ⟨_, rfl, condK_i (fun he => ?_) (fun he => ?_)⟩⟩
    · have he' : op[k] = (peer, n) := by simp at he; exact Prod.ext he.1 he.2
      exact ⟨by rw [decide_eq_true (he' ▸ List.getElem_mem hk')], rfl⟩
    · have he' : op[k] ≠ (peer, n) := by intro e; simp [e] at he
      rw [wrap_nat (by omega)]
      refine ⟨⟨k + 1, rfl, by omega, rfl, ?_⟩, by simp only []; omega⟩
      rw [List.take_succ_eq_append_getElem (by omega), List.mem_append, List.mem_singleton]
      exact fun hc => hc.elim hno fun e => he' e.symm
  · have hk' : ¬ k < op.length := by rw [hl]; simpa using hc
    rw [List.take_of_length_le (by omega)] at hno
    exact ⟨by rw [decide_eq_false hno], rfl⟩

theorem c12r {w : World} {r : Nat} {S : Nat → Prop} {op : List (Int × Int)} {bd : List Int} {sess most peer n : Int} (h : RH w r S op bd sess most) (hn : op.length ≤ 1000000) :
    Calls Try.prog 12 #[.pointer (some ⟨r, 0, none⟩), .int .i64 peer, .int .i64 n] w (Ret fun v w' => v = .tuple #[] ∧ RPost S w w' r (op.filter fun p => decide (p ≠ (peer, n))) bd sess most) := by
  refine call12 _ _ _ ?_
  unfold sh12
  obtain ⟨s1, s2, h⟩ := h
  obtain ⟨i61, h1, h2, h3, h4⟩ := i61
  have hl := pr_len h.o1.rd
  refine ⟨fun l w1 => match l with | [.sl rest, .i _ i] => ∃ k : Nat, i = k ∧ k ≤ op.length ∧ Own w1 rest 2 (prs ((op.take k).filter fun p => decide (p ≠ (peer, n)))) ∧ Mod NoB w w1 ∧ (rest.blk = none ∨ ∃ x, rest.blk = some x ∧ w.heap.size ≤ x) | _ => False,
    fun l _ => match l with | [.sl _, .i _ i] => (s1.len - i).toNat | _ => 0, ⟨0, rfl, by omega, by simpa [prs] using own_nil w 2, Mod.refl _ _, .inl rfl⟩, ?_⟩
  rintro rest i w1 ⟨k, rfl, hk, ho, hm, hfr⟩
  have h' := h.mod hm fun _ _ h => h
  refine ⟨s1, h'.blk.rd1 rfl, condK_i (fun hc => ?_) (fun hc => ?_)⟩
  · have hk' : k < op.length := by rw [hl]; simpa using hc
    obtain ⟨a, ha, hrd⟩ := pr_at h'.o1.rd hk'
    refine ⟨s1, h'.blk.rd1 rfl, ⟨by omega, by omega⟩, ?_⟩
    rw [ha]
    refine ⟨_, _, hrd, ps_pair (.inr rfl) ⟨_, rfl, condK_i (fun he => ?_) (fun he => ?_)⟩⟩
    · have he' : op[k] ≠ (peer, n) := by intro e; simp [e] at he
      refine ⟨s1, h'.blk.rd1 rfl, ⟨by omega, by omega⟩, ?_⟩
      rw [ha]
      refine ⟨_, _, hrd, sem_lit [.agg #[.int .i64 op[k].1, .int .i64 op[k].2]] (l := [.int .i64 op[k].1, .int .i64 op[k].2]) u51 h1 h2 h3 (by decide) rfl (by decide) (by decide) rfl (by intro v hv; simp at hv; subst hv; rfl) rfl fun b w2 hN hb => ⟨⟨_, _, _⟩, rfl, ?_⟩⟩
      have hrl := pr_len ho.rd
      have hfl := List.length_filter_le (fun p => decide (p ≠ (peer, n))) (op.take k)
      rw [List.length_take] at hfl
      refine sem_append u51 h1 h2 h3 rfl h4 (ho.mod hN.mod fun _ _ h => h) (own_new (n := 1) (c := 1) (k := 2) hb rfl (by omega)).rd (by intro y hy; simp at hy; rcases hy with rfl | rfl <;> rfl) (by simp only []; omega) (by simp only []; omega) ?_
      intro s' w3 ho' hlen hblk hm3
      refine ⟨s', rfl, ?_⟩
      rw [wrap_nat (by omega)]
      refine ⟨⟨k + 1, rfl, by omega, ?_, ?_, ?_⟩, by simp only []; omega⟩
      · rw [List.take_succ_eq_append_getElem (by omega), List.filter_append, prs_app]
        simpa [he', prs] using ho'
      · refine (hm.no hN.mod).fresh hm3 fun x hx => ?_
        rcases hfr with e | ⟨y, e, hy⟩
        · rw [e] at hx; cases hx
        · rw [e] at hx; cases hx; exact hy
      · have hsz := hN.size; have hat := hN.at_; have := hm.size
        rcases hblk with e | e
        · rw [e]; exact hfr
        · exact .inr ⟨_, e, by omega⟩
    · have he' : op[k] = (peer, n) := by simp at he; exact Prod.ext he.1 he.2
      rw [wrap_nat (by omega)]
      refine ⟨⟨k + 1, rfl, by omega, ?_, hm, hfr⟩, by simp only []; omega⟩
      rw [List.take_succ_eq_append_getElem (by omega), List.filter_append]
      simpa [he'] using ho
  · have hk' : ¬ k < op.length := by rw [hl]; simpa using hc
    rw [List.take_of_length_le (by omega)] at ho
    rcases hfr with e | ⟨y, e, hy⟩
    · have hz : rest.a = none ∧ rest.len = 0 ∧ rest.cap = 0 := by
        rcases ho.owned with ⟨e1, e2, e3, _⟩ | ⟨b, o, l, T, e1, _⟩
        · exact ⟨e1, e3, e2⟩
        · simp [Slc.blk, e1] at e
      have hb1 : Blk w1 r _ 53 := h'.blk
      refine semU_store1 (o := 0) (by kernel_rfl) (by kernel_rfl) rfl hb1 (by simp) fun w2 hu hb2 => ⟨rfl, S, ⟨rest, s2, hb2, ho.mod hu.mod (by rw [e]; simp), h'.o2.mod hu.mod fun x hx e => h.n2 (by rw [hx, e]), by rw [e]; simp, h.n2, by rw [e]; simp, ⟨h.ins.1, by rw [e]; simp, h.ins.2.2⟩, fun x hx => by have := h'.low x hx; have := hu.size; omega⟩, fun x hx => .inl hx, hm.no (hu.mod.mono fun x _ e => e ▸ h.ins.1)⟩
    · refine h.st1 (hm.mono fun _ _ h => h.elim) ho (.inr ⟨y, e, hy⟩) fun w2 hR hm2 => ⟨rfl, _, ⟨_, _, hR⟩, fun x hx => ?_, hm.no (hm2.mono fun x _ e => e ▸ h.ins.1)⟩
      rcases hx with hx | hx
      · exact .inl hx
      · rw [e] at hx; cases hx; exact .inr hy

theorem c14r {w : World} {r : Nat} {S : Nat → Prop} {op : List (Int × Int)} {bd : List Int} {sess most peer : Int} (h : RH w r S op bd sess most) (hn : bd.length ≤ 1000000) :
    Calls Try.prog 14 #[.pointer (some ⟨r, 0, none⟩), .int .i64 peer] w (Ret fun v w' => v = .tuple #[] ∧ RPost S w w' r op (bd ++ [peer]) sess most) := by
  refine call14 _ _ ?_
  unfold sh14
  obtain ⟨s1, s2, h⟩ := h
  obtain ⟨inf, h1, h2, h3, h4⟩ := i3
  have hl := ow_len h.o2
  refine ⟨s2, h.blk.rd1 rfl, sem_lit [.int .i64 peer] (l := [.int .i64 peer]) u43 h1 h2 h3 (by decide) rfl (by decide) (by decide) rfl (by simp [Value.cells]) rfl fun b w1 hN hb => ⟨⟨_, _, _⟩, rfl, ?_⟩⟩
  have h' := h.mod hN.mod fun _ _ h => h
  have hsz := hN.size; have hat := hN.at_
  refine sem_append u43 h1 h2 h3 rfl h4 h'.o2 (own_new (n := 1) (c := 1) (k := 1) hb rfl (by omega)).rd (by intro y hy; simp at hy; subst hy; rfl) (by simp only []; omega) (by simp only []; omega) ?_
  intro s' w2 ho hlen hblk hm
  have ho' : Own w2 s' 1 (ints (bd ++ [peer])) := by rw [ints_app]; exact ho
  have hb' : s'.blk = s2.blk ∨ s'.blk = none ∨ ∃ x, s'.blk = some x ∧ w1.heap.size ≤ x := by
    rcases hblk with e | e
    · exact .inl e
    · exact .inr (.inr ⟨_, e, by omega⟩)
  refine ⟨s', rfl, h'.st2 hm ho' hb' fun w3 hR hm3 => ⟨rfl, _, ⟨_, _, hR⟩, fun x hx => ?_, hN.mod.no ((hm.mono fun x _ e => h.ins.2.2 x e).tr (hm3.mono fun x _ e => e ▸ h.ins.1))⟩⟩
  rcases hx with hx | hx
  · exact .inl hx
  · rcases hblk with e | e
    · exact .inl (h.ins.2.2 x (by rw [← e]; exact hx))
    · rw [e] at hx; cases hx; right; omega

theorem c16r {w : World} {r : Nat} {S : Nat → Prop} {op : List (Int × Int)} {bd : List Int} {sess most : Int} (h : RH w r S op bd sess most) :
    Calls Try.prog 16 #[.pointer (some ⟨r, 0, none⟩)] w (Ret fun v w' => v = .tuple #[] ∧ RPost S w w' r op [] sess most) := by
  refine call16 _ ?_
  unfold sh16
  obtain ⟨s1, s2, h⟩ := h
  refine h.st2 (s' := ⟨none, 0, 0⟩) (bd' := []) (Mod.refl _ _) (own_nil _ _) (.inr (.inl rfl)) fun w3 hR hm3 => ⟨rfl, _, ⟨_, _, hR⟩, fun x hx => hx.elim .inl fun e => by simp [Slc.blk] at e, hm3.mono fun x _ e => e ▸ h.ins.1⟩

theorem c22r {w : World} {r : Nat} {S : Nat → Prop} {op : List (Int × Int)} {bd : List Int} {sess most peer : Int} (h : RH w r S op bd sess most) (hn : bd.length ≤ 1000000) :
    Calls Try.prog 22 #[.pointer (some ⟨r, 0, none⟩), .int .i64 peer] w (Ret fun v w' => v = .bool (decide ((bd.count peer : Int) < most)) ∧ w' = w) := by
  refine call22 _ _ ?_
  unfold sh22
  obtain ⟨s1, s2, h⟩ := h
  have hl := ow_len h.o2
  refine ⟨fun l w1 => match l with | [.i _ c, .i _ i] => ∃ k : Nat, i = k ∧ k ≤ bd.length ∧ w1 = w ∧ c = ((bd.take k).count peer : Nat) | _ => False, fun l _ => match l with | [.i _ _, .i _ i] => (s2.len - i).toNat | _ => 0, ⟨0, rfl, by omega, rfl, by simp⟩, ?_⟩
  rintro c i w1 ⟨k, rfl, hk, rfl, rfl⟩
  refine ⟨s2, h.blk.rd1 rfl, condK_i (fun hc => ?_) (fun hc => ?_)⟩
  · have hk' : k < bd.length := by rw [hl]; simpa using hc
    obtain ⟨a, ha, hrd⟩ := sl_at h.o2.rd hk'
    refine ⟨s2, h.blk.rd1 rfl, ⟨by omega, by omega⟩, ?_⟩
    rw [ha]
    have hcl : (bd.take k).count peer ≤ k := Nat.le_trans List.count_le_length (by simp; omega)
    refine ⟨_, hrd, condK_i (fun he => ?_) (fun he => ?_)⟩
    · have he' : bd[k] = peer := by simpa using he
      rw [wrap_nat (by omega), wrap_nat (by omega)]
      refine ⟨⟨k + 1, rfl, by omega, rfl, ?_⟩, by simp only []; omega⟩
      rw [List.take_succ_eq_append_getElem (by omega), List.count_append, he']
      simp
    · have he' : bd[k] ≠ peer := by simpa using he
      rw [wrap_nat (by omega)]
      refine ⟨⟨k + 1, rfl, by omega, rfl, ?_⟩, by simp only []; omega⟩
      rw [List.take_succ_eq_append_getElem (by omega), List.count_append]
      simp [he']
  · have hk' : ¬ k < bd.length := by rw [hl]; simpa using hc
    rw [List.take_of_length_le (by omega)]
    exact ⟨_, h.blk.rd1 rfl, rfl, rfl⟩
end Go.Proofs.Ytnecbkjpijiopaa
