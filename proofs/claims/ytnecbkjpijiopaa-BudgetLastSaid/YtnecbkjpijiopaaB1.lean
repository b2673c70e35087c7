/- Budget: the sessions of an account. -/
import Derived.Test.YtnecbkjpijiopaaFn
import Derived.Test.YtnecbkjpijiopaaK3
set_option linter.unusedSimpArgs false
set_option linter.unusedVariables false
namespace Go.Proofs.Ytnecbkjpijiopaa
open Go Go.Sh

theorem u43 : Try.prog.underlying 43 = some (.slice 3) := by kernel_rfl
theorem i3 : ∃ i, Try.prog.info? 3 = some i ∧ i.zero = some (.int .i64 0) ∧ i.size = 1 ∧ i.bytes = 8 := info_of (by kernel_rfl) (by kernel_rfl) (by kernel_rfl)
def ints (xs : List Int) : List Value := xs.map (.int .i64)
theorem ints_one (xs : List Int) : ∀ y ∈ ints xs, y.oneCell' = true := by
  intro y hy
  obtain ⟨x, _, rfl⟩ := List.mem_map.1 hy
  rfl
@[simp] theorem ints_len (xs : List Int) : (ints xs).length = xs.length := by simp [ints]
theorem ints_app (xs ys : List Int) : ints (xs ++ ys) = ints xs ++ ints ys := by simp [ints]
theorem sl_len {w : World} {s : Slc} {xs : List Int} (h : SlRd w s 1 (ints xs)) : xs.length = s.len := by have := h.1; simpa using this
theorem ow_len {w : World} {s : Slc} {xs : List Int} (h : Own w s 1 (ints xs)) : xs.length = s.len := sl_len h.rd
theorem sl_at {w : World} {s : Slc} {xs : List Int} (h : SlRd w s 1 (ints xs)) {i : Nat} (hi : i < xs.length) : ∃ a, s.a = some a ∧ Rd w (a.add (i * 1)) [.int .i64 xs[i]] :=
  h.at (by rw [← sl_len h]; exact hi) (by omega) fun j u hu => by
    cases j with
    | zero => simp at hu; subst hu; simp [ints, hi]
    | succ j => simp at hu

theorem c42 {w : World} {n x : Int} {b : Nat} {T : TypeId} (hb : Blk w b [.int .i64 x] T) :
    Calls Try.prog 42 #[.int .i64 n, .pointer (some ⟨b, 0, none⟩)] w (Ret fun v w' => v = .bool (n == x) ∧ w' = w) :=
  call42 _ _ (by unfold sh42; exact ⟨x, hb.rd1 rfl, rfl, rfl⟩)

def place (xs : List Int) (x : Int) : Int := if x ∈ xs then (xs.idxOf x : Int) else -1
theorem idxOf_take {xs : List Int} {x : Int} {k : Nat} (h : x ∉ xs.take k) (hk : k < xs.length) (he : xs[k] = x) : xs.idxOf x = k := by
  have h1 : xs = xs.take k ++ x :: xs.drop (k + 1) := by
    rw [← he]; simp
  rw [h1, List.idxOf_append, if_neg h]
  simp; omega

theorem c41 {w : World} {s : Slc} {xs : List Int} {x : Int} {c : Nat} {T : TypeId} (hs : SlRd w s 1 (ints xs)) (hn : xs.length ≤ 1000000) (hc : Blk w c [.int .i64 x] T) :
    Calls Try.prog 41 #[.slice s.a s.len s.cap, .func (.func 42) #[] #[.pointer (some ⟨c, 0, none⟩)]] w (Ret fun v w' => v = .int .i64 (place xs x) ∧ w' = w) := by
  refine call41 _ _ ?_
  unfold sh41
  have hl := sl_len hs
  refine ⟨fun l w1 => match l with | [.i _ i] => ∃ k : Nat, i = k ∧ k ≤ xs.length ∧ w1 = w ∧ x ∉ xs.take k | _ => False, fun l _ => match l with | [.i _ i] => (s.len - i).toNat | _ => 0, ⟨0, rfl, by omega, rfl, by simp⟩, ?_⟩
  rintro i w1 ⟨k, rfl, hk, rfl, hno⟩
  refine condK_i (fun h => ?_) (fun h => ?_)
  · have hk' : k < s.len := by simpa using h
    obtain ⟨a, ha, hrd⟩ := sl_at hs (i := k) (by omega)
    rw [ha]
    refine ⟨⟨by omega, by omega⟩, _, hrd, callFV_of (by kernel_rfl) (callK_ret (c42 hc) ?_)⟩
    rintro v w' ⟨rfl, rfl⟩
    refine ⟨_, rfl, condK_i (fun h => ?_) (fun h => ?_)⟩
    · have he : xs[k]'(by omega) = x := by simpa using h
      refine ⟨?_, rfl⟩
      unfold place
      rw [if_pos (he ▸ List.getElem_mem _), idxOf_take hno (by omega) he]
    · have he : xs[k]'(by omega) ≠ x := by simpa using h
      rw [wrap_nat (by omega)]
      refine ⟨⟨k + 1, rfl, by omega, rfl, ?_⟩, by simp only []; omega⟩
      rw [List.take_succ_eq_append_getElem (by omega), List.mem_append, List.mem_singleton]
      exact fun hc => hc.elim hno fun e => he e.symm
  · have hk' : ¬ k < s.len := by simpa using h
    refine ⟨?_, rfl⟩
    unfold place
    rw [List.take_of_length_le (by omega)] at hno
    rw [if_neg hno]

theorem c35 {w : World} {s : Slc} {xs : List Int} {x : Int} {p : Nat} {r : List Value} {T : TypeId} (hp : Blk w p (s.val :: r) T) (hs : SlRd w s 1 (ints xs)) (hn : xs.length ≤ 1000000) :
    Calls Try.prog 35 #[.pointer (some ⟨p, 0, none⟩), .int .i64 x] w (Ret fun v w' => v = .int .i64 (place xs x) ∧ Mod NoB w w') := by
  refine call35 _ _ ?_
  unfold sh35
  refine sem_box rfl fun b w1 hN hb => ⟨_, rfl, s, (hp.mod hN.mod (fun h => h)).rd1 rfl, callK_ret (c41 (hs.mod hN.mod fun _ _ h => h) hn hb) ?_⟩
  rintro v w' ⟨rfl, rfl⟩
  exact ⟨_, rfl, rfl, hN.mod⟩

theorem c40 {w : World} {s : Slc} {xs : List Int} {i : Nat} (hs : Own w s 1 (ints xs)) (hi : i < xs.length) {j : Int} (hj : j = ((i + 1 : Nat) : Int)) :
    Calls Try.prog 40 #[.slice s.a s.len s.cap, .int .i64 i, .int .i64 j] w (Ret fun v w' => ∃ s' : Slc, v = s'.val ∧ Own w' s' 1 (ints (xs.eraseIdx i)) ∧ s'.blk = s.blk ∧ Mod (fun b => s.blk = some b) w w') := by
  subst hj
  refine call40 _ _ _ ?_
  unfold sh40
  have hl := ow_len hs
  have hcap := hs.2.1
  refine ⟨by omega, condK_i (fun h => by simp at h; omega) (fun _ => ⟨by omega, by omega, ?_, trivial⟩)⟩
  simp only [Int.toNat_natCast]
  obtain ⟨inf, h1, h2, h3, h4⟩ := i3
  have hs' : Own w.drew s 1 (ints xs) := hs.mod (Mod.drew NoB w) fun _ _ h => h
  have hc1 := hs'.cut (l := 0) (n := i) (m := s.cap) (by omega) (by omega) (by omega) (by omega)
  have hc2 := (hs'.cut (l := i + 1) (n := s.len) (m := s.cap) (by omega) (by omega) (by omega) (by omega)).rd
  have hblk : (cutSl s 1 0 i s.cap).blk = s.blk := by
    unfold cutSl Slc.blk
    simp only []
    split
    · rfl
    · cases s.a <;> simp [Addr.add]
  refine sem_append_in u43 h1 h3 hc1 hc2 ?_ (by simp [cutSl]; omega) ?_
  · intro y hy
    exact ints_one xs y (List.mem_of_mem_drop (List.mem_of_mem_take hy))
  intro w1 ho hm hsz
  have hbl2 : (⟨(cutSl s 1 0 i s.cap).a, (cutSl s 1 0 i s.cap).len + (cutSl s 1 (i + 1) s.len s.cap).len, (cutSl s 1 0 i s.cap).cap⟩ : Slc).blk = s.blk := hblk
  refine ⟨⟨(cutSl s 1 0 i s.cap).a, (cutSl s 1 0 i s.cap).len + (cutSl s 1 (i + 1) s.len s.cap).len, (cutSl s 1 0 i s.cap).cap⟩, rfl, trivial, ⟨by omega, by simp [cutSl]; omega, by simp [cutSl]; omega⟩, ?_⟩
  simp only [Int.toNat_natCast]
  refine sem_clear_tail u43 h1 h2 rfl (by intro u hu; simp [Value.cells] at hu; subst hu; rfl) ho (by simp [cutSl]; omega) (by simp [cutSl]; omega) ?_
  intro w2 ho2 hm2 hsz2
  refine ⟨rfl, _, rfl, ?_, hbl2, ?_⟩
  · have e : ints (xs.eraseIdx i) = ((ints xs).drop (0 * 1)).take ((i - 0) * 1) ++ ((ints xs).drop ((i + 1) * 1)).take ((s.len - (i + 1)) * 1) := by
      rw [List.eraseIdx_eq_take_drop_succ, ints_app]
      simp only [ints, Nat.mul_one, Nat.zero_mul, List.drop_zero, Nat.sub_zero, List.map_take, List.map_drop]
      congr 1
      rw [List.take_of_length_le]
      simp; omega
    rw [e]
    exact ho2
  · rw [hblk] at hm
    rw [hbl2] at hm2
    exact ((Mod.drew _ w).tr hm).tr hm2

/-! an account -/
structure AccAt (w : World) (p : Nat) (s : Slc) (xs : List Int) (bad : Int) : Prop where
  blk : Blk w p [s.val, .int .i64 bad] 59
  own : Own w s 1 (ints xs)
  ne : s.blk ≠ some p
theorem AccAt.mod {w w' : World} {p : Nat} {s : Slc} {xs : List Int} {bad : Int} {S : Nat → Prop} (h : AccAt w p s xs bad) (hm : Mod S w w') (h1 : ¬ S p) (h2 : ∀ b, s.blk = some b → ¬ S b) : AccAt w' p s xs bad :=
  ⟨h.blk.mod hm h1, h.own.mod hm h2, h.ne⟩
/-- what is done to it -/
def AccNext (T : Nat → Prop) (w w' : World) (p : Nat) (s : Slc) (xs : List Int) (bad : Int) : Prop :=
  ∃ s' : Slc, AccAt w' p s' xs bad ∧ (s'.blk = s.blk ∨ ∃ b, s'.blk = some b ∧ w.heap.size ≤ b) ∧ Mod (fun x => x = p ∨ s.blk = some x ∨ T x) w w'

theorem c39 {w : World} {p : Nat} {s : Slc} {xs : List Int} {bad : Int} (h : AccAt w p s xs bad) :
    Calls Try.prog 39 #[.pointer (some ⟨p, 0, none⟩)] w (Ret fun v w' => v = .bool (bad == 0 && xs.length == 0) ∧ w' = w) := by
  refine call39 _ ?_
  unfold sh39
  have hl := ow_len h.own
  refine ⟨bad, h.blk.rd1 rfl, condK_i (fun hb => ?_) (fun hb => ?_)⟩
  · refine ⟨s, h.blk.rd1 rfl, ?_, rfl⟩
    rw [hb, hl]
    congr 1
    cases hs : s.len <;> simp
    omega
  · exact ⟨by rw [hb]; rfl, rfl⟩

/-- the account's session row is replaced -/
theorem acc_store {w w' : World} {p : Nat} {s s' : Slc} {xs xs' : List Int} {bad : Int} {S : Nat → Prop} (h : AccAt w p s xs bad) (hm : Mod S w w') (hp : ¬ S p) (ho : Own w' s' 1 (ints xs')) (hne : s'.blk ≠ some p)
    {K : World → Prop} (hk : ∀ w2, AccAt w2 p s' xs' bad → Mod (fun x => x = p) w' w2 → K w2) : semU Try.prog (storeVar 43 ⟨p, 0, none⟩ (.slice s'.a s'.len s'.cap)) w' K := by
  refine semU_store1 (o := 0) (by kernel_rfl) (by kernel_rfl) rfl (h.blk.mod hm hp) (by simp) fun w2 hu hb => hk w2 ⟨hb, ho.mod hu.mod fun b e e' => hne (by rw [e, e']), hne⟩ hu.mod

theorem c30 {w : World} {p : Nat} {s : Slc} {xs : List Int} {bad x : Int} (h : AccAt w p s xs bad) (hn : xs.length ≤ 1000000) :
    Calls Try.prog 30 #[.pointer (some ⟨p, 0, none⟩), .int .i64 x] w (Ret fun v w' => v = .tuple #[] ∧ AccNext NoB w w' p s (xs.erase x) bad) := by
  refine call30 _ _ ?_
  unfold sh30
  refine callK_ret (c35 h.blk h.own.rd hn) ?_
  rintro v w1 ⟨rfl, hm⟩
  have h1 := h.mod hm (fun h => h) (fun _ _ h => h)
  refine ⟨_, rfl, condK_i (fun hc => ?_) (fun hc => ?_)⟩
  · have hx : x ∈ xs := by
      unfold place at hc
      by_cases hx : x ∈ xs
      · exact hx
      · simp [hx] at hc
    have hpl : place xs x = (xs.idxOf x : Int) := by unfold place; rw [if_pos hx]
    have hlt : xs.idxOf x < xs.length := List.idxOf_lt_length_of_mem hx
    rw [hpl, wrap_nat (by omega)]
    refine ⟨s, h1.blk.rd1 rfl, callK_ret (c40 h1.own hlt rfl) ?_⟩
    rintro v w2 ⟨s', rfl, ho, hb, hm2⟩
    refine ⟨s', rfl, acc_store h1 hm2 h.ne ho (by rw [hb]; exact h.ne) fun w3 h3 hm3 => ⟨rfl, s', ?_, .inl hb, ?_⟩⟩
    · rw [List.erase_eq_eraseIdx_of_idxOf rfl]; exact h3
    · exact hm.no ((hm2.mono fun _ _ e => .inr (.inl e)).tr (hm3.mono fun _ _ e => .inl e))
  · have hx : x ∉ xs := by
      intro hx
      unfold place at hc
      rw [if_pos hx] at hc
      simp at hc
    exact ⟨rfl, s, by rw [List.erase_of_not_mem hx]; exact h1, .inl rfl, hm.mono fun _ _ h => h.elim⟩
end Go.Proofs.Ytnecbkjpijiopaa
