/- BudgetLast: deeds, and the stage around two budgets. -/
import Derived.Test.YtnecbkjpijiopaaB11
set_option linter.unusedSimpArgs false
set_option linter.unusedVariables false
namespace Go.Proofs.Ytnecbkjpijiopaa
open Go Go.Sh

theorem pick_range (x : Int) : 0 ≤ pickv x 6 ∧ pickv x 6 < 6 := by
  unfold pickv
  rw [if_neg (by omega)]
  have h1 := Int.tmod_lt_of_pos x (b := 6) (by omega)
  have h2 : -6 < Int.tmod x 6 := by
    by_cases h : x < 0
    · have := Int.tmod_lt_of_pos (-x) (b := 6) (by omega)
      rw [Int.neg_tmod] at this; omega
    · have := Int.tmod_nonneg 6 (show 0 ≤ x by omega); omega
  split
  · rw [wrap_i64 (by omega)]; omega
  · omega
def doTells (st : BSt) (x y z : Int) : Int × Bool × Int :=
  if pickv x 6 = 2 ∨ pickv x 6 = 3 ∨ pickv x 6 = 4 ∨ pickv x 6 = 5 then (0, false, 0) else openTells (st.acc y).1 z st.most
def doLeaves (st : BSt) (x y z : Int) : BSt :=
  if pickv x 6 = 2 then st.put y ((st.acc y).1.erase z, (st.acc y).2)
  else if pickv x 6 = 3 ∨ pickv x 6 = 4 then st.put y ((st.acc y).1, (st.acc y).2 + 1)
  else if pickv x 6 = 5 then st.tick else st.put y (openLeaves (st.acc y).1 z st.most, (st.acc y).2)

theorem c23 {w : World} {b : Nat} {S : Nat → Prop} {st : BSt} {x y z : Int} (h : BH w b S st) (hn : (st.acc y).1.length ≤ 1000000) (hb : -1000000 ≤ (st.acc y).2 ∧ (st.acc y).2 ≤ 1000000) :
    Calls Try.prog 23 #[.pointer (some ⟨b, 0, none⟩), .agg #[.int .i64 x, .int .i64 y, .int .i64 z]] w (Ret fun v w' => v = .tuple #[.int .i64 (doTells st x y z).1, .bool (doTells st x y z).2.1, .int .i64 (doTells st x y z).2.2] ∧ Post S w w' b (doLeaves st x y z)) := by
  refine call23 _ _ _ _ ?_
  unfold sh23
  refine sem_box (l := [.int .i64 x, .int .i64 y, .int .i64 z]) rfl fun d w1 hN hd => ⟨_, rfl, ?_⟩
  have h1 := h.mod hN.mod fun _ _ h => h
  have hat := hN.at_; have hsz := hN.size
  have fin : ∀ {w' st'}, Post S w1 w' b st' → Post S w w' b st' := by
    rintro w' st' ⟨S', hB, g1, g2⟩
    exact ⟨S', hB, fun x hx => (g1 x hx).imp id fun e => by omega, hN.mod.no g2⟩
  refine ⟨_, hd.rd1 rfl, callK_ret c10 ?_⟩
  rintro v w2 ⟨rfl, rfl⟩
  refine ⟨_, rfl, condK_i (fun hc => ?_) (fun hc => ?_)⟩
  · have hk : pickv x 6 = 2 := by simpa using hc
    refine ⟨_, hd.rd1 rfl, _, hd.rd1 rfl, callK_ret (c11 h1 hn) ?_⟩
    rintro v w3 ⟨rfl, hp⟩
    refine ⟨rfl, ?_, ?_⟩
    · simp [doTells, hk]
    · simp only [doLeaves, hk, if_true]; exact fin hp
  have hk2 : pickv x 6 ≠ 2 := by simpa using hc
  refine ⟨fun l' w7 => w7 = w2 ∧ ∃ b, l' = [.b b] ∧ (b = true ↔ pickv x 6 = 3 ∨ pickv x 6 = 4), ?_, ?_⟩
  · refine condK_i (fun h3 => ⟨rfl, true, rfl, ?_⟩) (fun h3 => ⟨rfl, _, rfl, ?_⟩)
    · have : pickv x 6 = 3 := by simpa using h3
      simp [this]
    · have : pickv x 6 ≠ 3 := by simpa using h3
      simp [this]
  rintro x4 w4 ⟨rfl, b4, hb4, hiff⟩
  cases hb4
  refine condK_i (fun hc => ?_) (fun hc => ?_)
  · have hk := hiff.1 hc
    refine ⟨_, hd.rd1 rfl, callK_ret (c13 h1 hb) ?_⟩
    rintro v w3 ⟨rfl, hp⟩
    refine ⟨rfl, ?_, ?_⟩
    · rcases hk with hk | hk <;> simp [doTells, hk]
    · simp only [doLeaves, if_neg hk2, if_pos hk]; exact fin hp
  have hk34 : ¬ (pickv x 6 = 3 ∨ pickv x 6 = 4) := fun e => by rw [hiff.2 e] at hc; cases hc
  refine condK_i (fun hc => ?_) (fun hc => ?_)
  · have hk : pickv x 6 = 5 := by simpa using hc
    refine callK_ret (c15 h1) ?_
    rintro v w3 ⟨rfl, hp⟩
    refine ⟨rfl, ?_, ?_⟩
    · simp [doTells, hk]
    · simp only [doLeaves, if_neg hk2, if_neg hk34, if_pos hk]; exact fin hp
  · have hk5 : pickv x 6 ≠ 5 := by simpa using hc
    refine ⟨_, hd.rd1 rfl, _, hd.rd1 rfl, callK_ret (c17 h1 hn) ?_⟩
    rintro v w3 ⟨rfl, hp⟩
    have hno : ¬ (pickv x 6 = 2 ∨ pickv x 6 = 3 ∨ pickv x 6 = 4 ∨ pickv x 6 = 5) := by omega
    refine ⟨_, _, _, rfl, ?_, ?_⟩
    · simp only [doTells, if_neg hno]
    · simp only [doLeaves, if_neg hk2, if_neg hk34, if_neg hk5]; exact fin hp

theorem c24 {w : World} {s : Slc} {xs : List Int} {n : Int} (hs : SlRd w s 1 (ints xs)) (hn : xs.length ≤ 1000000) :
    Calls Try.prog 24 #[.slice s.a s.len s.cap, .int .i64 n] w (Ret fun v w' => ∃ s' : Slc, v = s'.val ∧ Own w' s' 1 (ints (xs.filter fun x => decide (x ≠ n))) ∧ (∀ x, s'.blk = some x → w.heap.size ≤ x) ∧ Mod NoB w w') := by
  refine call24 _ _ ?_
  unfold sh24
  obtain ⟨i3, h1, h2, h3, h4⟩ := i3
  have hl := sl_len hs
  refine ⟨fun l' w1 => match l' with | [.sl out, .i _ i] => ∃ k : Nat, i = k ∧ k ≤ xs.length ∧ Own w1 out 1 (ints ((xs.take k).filter fun x => decide (x ≠ n))) ∧ Mod NoB w w1 ∧ (∀ x, out.blk = some x → w.heap.size ≤ x) | _ => False,
    fun l' _ => match l' with | [.sl _, .i _ i] => (s.len - i).toNat | _ => 0, ⟨0, rfl, by omega, own_nil _ _, Mod.refl _ _, by simp [Slc.blk]⟩, ?_⟩
  rintro out i w1 ⟨k, rfl, hk, ho, hm, hfr⟩
  refine condK_i (fun hc => ?_) (fun hc => ?_)
  · have hk' : k < xs.length := by have := of_decide_eq_true hc; omega
    obtain ⟨a, ha, hrd⟩ := sl_at (hs.mod hm fun _ _ h => h) hk'
    rw [ha]
    have hfl := List.length_filter_le (fun x => decide (x ≠ n)) (xs.take k)
    rw [List.length_take] at hfl
    have hol := ow_len ho
    refine ⟨⟨by omega, by omega⟩, _, hrd, condK_i (fun he => ?_) (fun he => ?_)⟩
    · have he' : xs[k] ≠ n := by simpa using he
      refine ⟨⟨by omega, by omega⟩, _, hrd, sem_lit [.int .i64 xs[k]] (l := [.int .i64 xs[k]]) u43 h1 h2 h3 (by decide) rfl (by decide) (by decide) rfl (by simp [Value.cells]) rfl fun b w2 hN hb => ⟨⟨_, _, _⟩, rfl, ?_⟩⟩
      refine sem_append u43 h1 h2 h3 rfl h4 (ho.mod hN.mod fun _ _ h => h) (own_new (n := 1) (c := 1) (k := 1) hb rfl (by omega)).rd (by intro y hy; simp at hy; subst hy; rfl) (by simp only []; omega) (by simp only []; omega) ?_
      intro s' w3 ho' hlen hblk hm3
      refine ⟨s', rfl, ?_⟩
      rw [wrap_nat (by omega)]
      refine ⟨⟨k + 1, rfl, by omega, ?_, (hm.no hN.mod).fresh hm3 hfr, fun x hx => ?_⟩, by simp only []; omega⟩
      · rw [List.take_succ_eq_append_getElem (by omega), List.filter_append, ints_app]
        simpa [he', ints] using ho'
      · have := hN.at_; have := hN.size; have := hm.size
        rcases hblk with e | e
        · exact hfr x (by rw [← e]; exact hx)
        · rw [e] at hx; cases hx; omega
    · have he' : xs[k] = n := by simpa using he
      rw [wrap_nat (by omega)]
      refine ⟨⟨k + 1, rfl, by omega, ?_, hm, hfr⟩, by simp only []; omega⟩
      rw [List.take_succ_eq_append_getElem (by omega), List.filter_append]
      simpa [he'] using ho
  · have hk' : ¬ k < xs.length := by have := of_decide_eq_false hc; omega
    rw [List.take_of_length_le (by omega)] at ho
    exact ⟨out, rfl, ho, hfr, hm⟩

structure TwC (D : Option (Nat × List Value)) (w0 w : World) (a o : Nat) (st st2 : BSt) (s : Slc) (O : List Int) (Sa So : Nat → Prop) : Prop where
  ha : BH w a Sa st
  ho : BH w o So st2
  dis : ∀ x, Sa x → ¬ So x
  la : ∀ x, Sa x → w0.heap.size ≤ x
  lo : ∀ x, So x → w0.heap.size ≤ x
  mod : Mod NoB w0 w
  own : Own w s 1 (ints O)
  sb : ∀ x, s.blk = some x → ¬ Sa x ∧ ¬ So x ∧ w0.heap.size ≤ x
  hd : ∀ d dl, D = some (d, dl) → Blk w d dl 29 ∧ ¬ Sa d ∧ ¬ So d ∧ s.blk ≠ some d
def Tw (D : Option (Nat × List Value)) (w0 w : World) (a o : Nat) (st st2 : BSt) (s : Slc) (O : List Int) : Prop := ∃ Sa So, TwC D w0 w a o st st2 s O Sa So
section
variable {D : Option (Nat × List Value)} {w0 w w' : World} {a o : Nat} {st st' st2 st2' : BSt} {s s' : Slc} {O O' : List Int} {Sa So : Nat → Prop}
theorem TwC.postA (h : TwC D w0 w a o st st2 s O Sa So) (hp : Post Sa w w' a st') : Tw D w0 w' a o st' st2 s O := by
  obtain ⟨S', hB, h1, h2⟩ := hp
  refine ⟨S', So, hB, h.ho.mod h2 fun x hx hx' => h.dis x hx' hx, fun x hx hx' => ?_, fun x hx => (h1 x hx).elim (h.la x) fun e => Nat.le_trans h.mod.size e, h.lo, h.mod.fresh h2 h.la, h.own.mod h2 fun x hx => (h.sb x hx).1, fun x hx => ⟨fun e => ?_, (h.sb x hx).2⟩, fun d dl e => ?_⟩
  · have := h.ho.low x hx'
    rcases h1 x hx with e | e
    · exact h.dis x e hx'
    · omega
  · have := h.own.lt hx
    rcases h1 x e with e | e
    · exact (h.sb x hx).1 e
    · omega
  · obtain ⟨g1, g2, g3, g4⟩ := h.hd d dl e
    exact ⟨g1.mod h2 g2, fun e => (h1 d e).elim g2 fun e => by have := g1.lt; omega, g3, g4⟩
theorem TwC.postO (h : TwC D w0 w a o st st2 s O Sa So) (hp : Post So w w' o st2') : Tw D w0 w' a o st st2' s O := by
  obtain ⟨S', hB, h1, h2⟩ := hp
  refine ⟨Sa, S', h.ha.mod h2 fun x hx hx' => h.dis x hx hx', hB, fun x hx hx' => ?_, h.la, fun x hx => (h1 x hx).elim (h.lo x) fun e => Nat.le_trans h.mod.size e, h.mod.fresh h2 h.lo, h.own.mod h2 fun x hx => (h.sb x hx).2.1, fun x hx => ⟨(h.sb x hx).1, fun e => ?_, (h.sb x hx).2.2⟩, fun d dl e => ?_⟩
  · have := h.ha.low x hx
    rcases h1 x hx' with e | e
    · exact h.dis x hx e
    · omega
  · have := h.own.lt hx
    rcases h1 x e with e | e
    · exact (h.sb x hx).2.1 e
    · omega
  · obtain ⟨g1, g2, g3, g4⟩ := h.hd d dl e
    exact ⟨g1.mod h2 g3, g2, fun e => (h1 d e).elim g3 fun e => by have := g1.lt; omega, g4⟩
/-- the row of sessions is another one -/
theorem Tw.row (h : Tw D w0 w a o st st2 s O) (hm : Mod (fun x => s.blk = some x) w w') (ho : Own w' s' 1 (ints O')) (hb : s'.blk = s.blk ∨ ∀ x, s'.blk = some x → w.heap.size ≤ x) : Tw D w0 w' a o st st2 s' O' := by
  obtain ⟨Sa, So, h⟩ := h
  refine ⟨Sa, So, h.ha.mod hm fun x hx e => (h.sb x e).1 hx, h.ho.mod hm fun x hx e => (h.sb x e).2.1 hx, h.dis, h.la, h.lo, h.mod.fresh hm fun x e => (h.sb x e).2.2, ho, fun x hx => ?_, fun d dl e => ?_⟩
  · rcases hb with e | e
    · exact h.sb x (by rw [← e]; exact hx)
    · have := e x hx
      have := h.mod.size
      exact ⟨fun e => by have := h.ha.low x e; omega, fun e => by have := h.ho.low x e; omega, by omega⟩
  · obtain ⟨g1, g2, g3, g4⟩ := h.hd d dl e
    refine ⟨g1.mod hm fun e => g4 e, g2, g3, fun e2 => ?_⟩
    rcases hb with e | e
    · exact g4 (by rw [← e]; exact e2)
    · have := e d e2; have := g1.lt; omega
theorem Tw.mod (h : Tw D w0 w a o st st2 s O) (hm : Mod NoB w w') : Tw D w0 w' a o st st2 s O := by
  obtain ⟨Sa, So, h⟩ := h
  exact ⟨Sa, So, h.ha.mod hm fun _ _ h => h, h.ho.mod hm fun _ _ h => h, h.dis, h.la, h.lo, h.mod.no hm, h.own.mod hm fun _ _ h => h, h.sb, fun d dl e => ⟨(h.hd d dl e).1.mod hm fun h => h, (h.hd d dl e).2⟩⟩
theorem Tw.forget (h : Tw D w0 w a o st st2 s O) : Tw none w0 w a o st st2 s O := by
  obtain ⟨Sa, So, h⟩ := h
  exact ⟨Sa, So, h.ha, h.ho, h.dis, h.la, h.lo, h.mod, h.own, h.sb, by simp⟩
theorem Tw.m (h : Tw D w0 w a o st st2 s O) : Mod NoB w0 w := by
  obtain ⟨Sa, So, h⟩ := h; exact h.mod
theorem Tw.ow (h : Tw D w0 w a o st st2 s O) : Own w s 1 (ints O) := by
  obtain ⟨Sa, So, h⟩ := h; exact h.own
theorem Tw.d {d : Nat} {dl : List Value} (h : Tw (some (d, dl)) w0 w a o st st2 s O) : Blk w d dl 29 := by
  obtain ⟨Sa, So, h⟩ := h; exact (h.hd d dl rfl).1
theorem Tw.lay {d : Nat} {dl : List Value} {w1 w2 : World} (h : Tw none w0 w a o st st2 s O) {ob : Obj} (hN : New w w1 d ob) (hm : Mod (fun x => x = d) w1 w2) (hb : Blk w2 d dl 29) : Tw (some (d, dl)) w0 w2 a o st st2 s O := by
  obtain ⟨Sa, So, h⟩ := h
  have hat := hN.at_
  have hm' : Mod NoB w w2 := hN.mod.fresh hm fun x e => by omega
  refine ⟨Sa, So, h.ha.mod hm' fun _ _ h => h, h.ho.mod hm' fun _ _ h => h, h.dis, h.la, h.lo, h.mod.no hm', h.own.mod hm' fun _ _ h => h, h.sb, fun d' dl' e => ?_⟩
  cases e
  exact ⟨hb, fun e => by have := h.ha.low _ e; omega, fun e => by have := h.ho.low _ e; omega, fun e => by have := h.own.lt e; omega⟩
variable {x y z : Int}
theorem w23a (h : Tw D w0 w a o st st2 s O) (hn : (st.acc y).1.length ≤ 1000000) (hb : -1000000 ≤ (st.acc y).2 ∧ (st.acc y).2 ≤ 1000000) :
    Calls Try.prog 23 #[.pointer (some ⟨a, 0, none⟩), .agg #[.int .i64 x, .int .i64 y, .int .i64 z]] w (Ret fun v w' => v = .tuple #[.int .i64 (doTells st x y z).1, .bool (doTells st x y z).2.1, .int .i64 (doTells st x y z).2.2] ∧ Tw D w0 w' a o (doLeaves st x y z) st2 s O) := by
  obtain ⟨Sa, So, h⟩ := h
  exact ret_mono (c23 h.ha hn hb) fun v w' hq => ⟨hq.1, h.postA hq.2⟩
theorem w23o (h : Tw D w0 w a o st st2 s O) (hn : (st2.acc y).1.length ≤ 1000000) (hb : -1000000 ≤ (st2.acc y).2 ∧ (st2.acc y).2 ≤ 1000000) :
    Calls Try.prog 23 #[.pointer (some ⟨o, 0, none⟩), .agg #[.int .i64 x, .int .i64 y, .int .i64 z]] w (Ret fun v w' => v = .tuple #[.int .i64 (doTells st2 x y z).1, .bool (doTells st2 x y z).2.1, .int .i64 (doTells st2 x y z).2.2] ∧ Tw D w0 w' a o st (doLeaves st2 x y z) s O) := by
  obtain ⟨Sa, So, h⟩ := h
  exact ret_mono (c23 h.ho hn hb) fun v w' hq => ⟨hq.1, h.postO hq.2⟩
theorem w21a {peer : Int} (h : Tw D w0 w a o st st2 s O) : Calls Try.prog 21 #[.pointer (some ⟨a, 0, none⟩), .int .i64 peer] w (Ret fun v w' => v = .bool (decide ((st.acc peer).2 < st.worst)) ∧ Tw D w0 w' a o st st2 s O) := by
  obtain ⟨Sa, So, h⟩ := h
  exact ret_mono (c21 h.ha) fun v w' hq => ⟨hq.1, h.postA hq.2⟩
theorem w21o {peer : Int} (h : Tw D w0 w a o st st2 s O) : Calls Try.prog 21 #[.pointer (some ⟨o, 0, none⟩), .int .i64 peer] w (Ret fun v w' => v = .bool (decide ((st2.acc peer).2 < st2.worst)) ∧ Tw D w0 w' a o st st2 s O) := by
  obtain ⟨Sa, So, h⟩ := h
  exact ret_mono (c21 h.ho) fun v w' hq => ⟨hq.1, h.postO hq.2⟩
theorem w19a {peer n : Int} (h : Tw D w0 w a o st st2 s O) (hn : (st.acc peer).1.length ≤ 1000000) : Calls Try.prog 19 #[.pointer (some ⟨a, 0, none⟩), .int .i64 peer, .int .i64 n] w (Ret fun v w' => v = .bool (decide (n ∈ (st.acc peer).1)) ∧ Tw D w0 w' a o st st2 s O) := by
  obtain ⟨Sa, So, h⟩ := h
  exact ret_mono (c19 h.ha hn) fun v w' hq => ⟨hq.1, h.postA hq.2⟩
end

/-! ## the plain law -/
def Small (st : BSt) (k : Nat) : Prop := ∀ q, (st.acc q).1.length ≤ k ∧ 0 ≤ (st.acc q).2 ∧ (st.acc q).2 ≤ k
theorem openLeaves_len (xs : List Int) (n m : Int) : (openLeaves xs n m).length ≤ xs.length + 1 := by
  unfold openLeaves opened
  split
  · omega
  · split <;> simp
theorem Small.put {st : BSt} {k : Nat} (h : Small st k) {y : Int} {xs : List Int} {b : Int} (h1 : xs.length ≤ k + 1) (h2 : 0 ≤ b) (h3 : b ≤ k + 1) : Small (st.put y (xs, b)) (k + 1) := by
  intro q
  unfold BSt.put
  dsimp only
  split
  · exact ⟨h1, h2, by omega⟩
  · have := h q; omega
theorem Small.doL {st : BSt} {k : Nat} (h : Small st k) (x y z : Int) : Small (doLeaves st x y z) (k + 1) := by
  have hy := h y
  unfold doLeaves
  split
  · exact h.put (by have := List.length_erase_le (a := z) (l := (st.acc y).1); omega) hy.2.1 (by omega)
  · split
    · exact h.put (by omega) (by omega) (by omega)
    · split
      · intro q; have := h q; unfold BSt.tick; dsimp only; omega
      · exact h.put (by have := openLeaves_len (st.acc y).1 z st.most; omega) hy.2.1 (by omega)
theorem doL_most {st : BSt} {x y z : Int} : (doLeaves st x y z).most = st.most ∧ (doLeaves st x y z).worst = st.worst := by
  unfold doLeaves
  split
  · exact ⟨rfl, rfl⟩
  · split
    · exact ⟨rfl, rfl⟩
    · split <;> exact ⟨rfl, rfl⟩
theorem doL_other {st : BSt} {x y z peer : Int} (hy : y ≠ peer) (h5 : pickv x 6 ≠ 5) : (doLeaves st x y z).acc peer = st.acc peer := by
  have hp : ∀ v, (st.put y v).acc peer = st.acc peer := fun v => by unfold BSt.put; dsimp only; rw [if_neg (Ne.symm hy)]
  unfold doLeaves
  split
  · exact hp _
  · split
    · exact hp _
    · exact hp _
/-- a deed of the peer, or a tick: of the peer the same is left, and told -/
theorem do_same {st st2 : BSt} {x y z peer : Int} (hy : y = peer ∨ pickv x 6 = 5) (ha : st.acc peer = st2.acc peer) (hm : st.most = st2.most) :
    doTells st x y z = doTells st2 x y z ∧ (doLeaves st x y z).acc peer = (doLeaves st2 x y z).acc peer := by
  by_cases h5 : pickv x 6 = 5
  · simp [doTells, doLeaves, h5, BSt.tick, ha]
  · have hy' : y = peer := hy.elim id fun e => absurd e h5
    subst hy'
    have hp : ∀ (s : BSt) v, (s.put y v).acc y = v := fun s v => by simp [BSt.put]
    refine ⟨by unfold doTells; rw [ha, hm], ?_⟩
    unfold doLeaves
    split
    · rw [hp, hp, ha]
    · split
      · rw [hp, hp, ha]
      · rw [hp, hp, ha, hm]
end Go.Proofs.Ytnecbkjpijiopaa
