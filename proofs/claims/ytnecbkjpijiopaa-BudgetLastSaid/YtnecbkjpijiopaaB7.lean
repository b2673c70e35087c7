/- Budget: the chapter's example; the statement on nil budgets. -/
import Derived.Test.YtnecbkjpijiopaaB6
set_option linter.unusedSimpArgs false
set_option linter.unusedVariables false
namespace Go.Proofs.Ytnecbkjpijiopaa
open Go Go.Sh Go.MapKept

/-- a budget that was made behind w0 -/
def Live (w0 w : World) (b : Nat) (st : BSt) : Prop := ∃ S, BH w b S st ∧ (∀ x, S x → w0.heap.size ≤ x) ∧ Mod NoB w0 w
theorem Live.post {w0 w w' : World} {b : Nat} {st' : BSt} {S : Nat → Prop} (hS : ∀ x, S x → w0.heap.size ≤ x) (hm : Mod NoB w0 w) (h : Post S w w' b st') : Live w0 w' b st' := by
  obtain ⟨S', hB, h1, h2⟩ := h
  exact ⟨S', hB, fun x hx => (h1 x hx).elim (hS x) fun e => Nat.le_trans hm.size e, hm.fresh h2 hS⟩

def mk1 (xs : List Int) (bad : Int) : BSt := ⟨fun q => if q = 1 then (xs, bad) else ([], 0), 2, 3⟩
theorem mk1_put {xs ys : List Int} {m n : Int} : (mk1 xs m).put 1 (ys, n) = mk1 ys n := by
  unfold mk1 BSt.put
  congr
  funext q
  by_cases h : q = 1 <;> simp [h]
theorem e17 {w0 w : World} {b : Nat} {xs : List Int} {m n : Int} (h : Live w0 w b (mk1 xs m)) (hn : xs.length ≤ 1000000) :
    Calls Try.prog 17 #[.pointer (some ⟨b, 0, none⟩), .int .i64 1, .int .i64 n] w (Ret fun v w' => v = .tuple #[.int .i64 (openTells xs n 2).1, .bool (openTells xs n 2).2.1, .int .i64 (openTells xs n 2).2.2] ∧ Live w0 w' b (mk1 (openLeaves xs n 2) m)) := by
  obtain ⟨S, hB, hS, hm⟩ := h
  refine Calls.mono (c17 (peer := 1) (n := n) hB hn) fun e w' he => ?_
  cases e with
  | returned v =>
    obtain ⟨rfl, hp⟩ := he
    refine ⟨rfl, Live.post hS hm ?_⟩
    rw [← mk1_put]; exact hp
  | panicked c => exact he
  | outgrown => exact he
theorem e13 {w0 w : World} {b : Nat} {xs : List Int} {m : Int} (h : Live w0 w b (mk1 xs m)) (hn : -1000000 ≤ m ∧ m ≤ 1000000) :
    Calls Try.prog 13 #[.pointer (some ⟨b, 0, none⟩), .int .i64 1] w (Ret fun v w' => v = .tuple #[] ∧ Live w0 w' b (mk1 xs (m + 1))) := by
  obtain ⟨S, hB, hS, hm⟩ := h
  refine Calls.mono (c13 (peer := 1) hB hn) fun e w' he => ?_
  cases e with
  | returned v =>
    obtain ⟨rfl, hp⟩ := he
    refine ⟨rfl, Live.post hS hm ?_⟩
    rw [← mk1_put]; exact hp
  | panicked c => exact he
  | outgrown => exact he
theorem e21 {w0 w : World} {b : Nat} {st : BSt} {q : Int} (h : Live w0 w b st) :
    Calls Try.prog 21 #[.pointer (some ⟨b, 0, none⟩), .int .i64 q] w (Ret fun v w' => v = .bool (decide ((st.acc q).2 < st.worst)) ∧ Live w0 w' b st) := by
  obtain ⟨S, hB, hS, hm⟩ := h
  refine Calls.mono (c21 (peer := q) hB) fun e w' he => ?_
  cases e with
  | returned v => exact ⟨he.1, Live.post hS hm he.2⟩
  | panicked c => exact he
  | outgrown => exact he
theorem e19 {w0 w : World} {b : Nat} {st : BSt} {q n : Int} (h : Live w0 w b st) (hn : (st.acc q).1.length ≤ 1000000) :
    Calls Try.prog 19 #[.pointer (some ⟨b, 0, none⟩), .int .i64 q, .int .i64 n] w (Ret fun v w' => v = .bool (decide (n ∈ (st.acc q).1)) ∧ Live w0 w' b st) := by
  obtain ⟨S, hB, hS, hm⟩ := h
  refine Calls.mono (c19 (peer := q) hB hn) fun e w' he => ?_
  cases e with
  | returned v => exact ⟨he.1, Live.post hS hm he.2⟩
  | panicked c => exact he
  | outgrown => exact he
theorem e15 {w0 w : World} {b : Nat} {st : BSt} (h : Live w0 w b st) : Calls Try.prog 15 #[.pointer (some ⟨b, 0, none⟩)] w (Ret fun v w' => v = .tuple #[] ∧ Live w0 w' b st.tick) := by
  obtain ⟨S, hB, hS, hm⟩ := h
  refine Calls.mono (c15 hB) fun e w' he => ?_
  cases e with
  | returned v => exact ⟨he.1, Live.post hS hm he.2⟩
  | panicked c => exact he
  | outgrown => exact he

theorem c7 {w : World} : Calls Try.prog 7 #[] w (Ret fun v w' => v = .bool true ∧ Mod NoB w w') := by
  refine call7 ?_
  unfold sh7
  refine callK_ret c8 ?_
  rintro v w1 ⟨b, S, rfl, hB, hS, hm⟩
  have h : Live w w1 b (mk1 [] 0) := ⟨S, by
    have : mk1 [] 0 = bst0 (max1 2) (max1 3) := by
      unfold mk1 bst0 max1
      congr
      funext q
      by_cases h : q = 1 <;> simp [h]
    rw [this]; exact hB, hS, hm⟩
  refine ⟨_, rfl, callK_ret (e17 h (by simp)) ?_⟩
  rintro v w2 ⟨rfl, h⟩
  refine ⟨_, _, _, rfl, callK_ret (e17 h (by decide)) ?_⟩
  rintro v w3 ⟨rfl, h⟩
  refine ⟨_, _, _, rfl, callK_ret (e17 h (by decide)) ?_⟩
  rintro v w4 ⟨rfl, h⟩
  refine ⟨_, _, _, rfl, callK_ret (e17 h (by decide)) ?_⟩
  rintro v w5 ⟨rfl, h⟩
  refine ⟨_, _, _, rfl, callK_ret (e13 h (by decide)) ?_⟩
  rintro v w6 ⟨rfl, h⟩
  refine ⟨rfl, callK_ret (e13 h (by decide)) ?_⟩
  rintro v w7 ⟨rfl, h⟩
  refine ⟨rfl, callK_ret (e21 h) ?_⟩
  rintro v w8 ⟨rfl, h⟩
  refine ⟨_, rfl, callK_ret (e13 h (by decide)) ?_⟩
  rintro v w9 ⟨rfl, h⟩
  refine ⟨rfl, callK_ret (e21 h) ?_⟩
  rintro v w10 ⟨rfl, h⟩
  refine ⟨_, rfl, callK_ret (e21 h) ?_⟩
  rintro v w11 ⟨rfl, h⟩
  refine ⟨_, rfl, callK_ret (e15 h) ?_⟩
  rintro v w12 ⟨rfl, h⟩
  refine ⟨rfl, ?_⟩
  refine condK_i (fun _ => ?_) (fun h => absurd h (by decide))
  refine condK_i (fun _ => ?_) (fun h => absurd h (by decide))
  refine condK_i (fun _ => ?_) (fun h => absurd h (by decide))
  refine condK_i (fun _ => ?_) (fun h => absurd h (by decide))
  refine condK_i (fun _ => ?_) (fun h => absurd h (by decide))
  refine condK_i (fun _ => ?_) (fun h => absurd h (by decide))
  refine callK_ret (e19 h (by decide)) ?_
  rintro v w13 ⟨rfl, h⟩
  refine ⟨_, rfl, ?_⟩
  refine condK_i (fun _ => ?_) (fun h => absurd h (by decide))
  refine callK_ret (e19 h (by decide)) ?_
  rintro v w14 ⟨rfl, h⟩
  refine ⟨_, rfl, ?_⟩
  refine condK_i (fun _ => ?_) (fun h => absurd h (by decide))
  refine condK_i (fun _ => ?_) (fun h => absurd h (by decide))
  refine condK_i (fun _ => ?_) (fun h => absurd h (by decide))
  refine condK_i (fun _ => ?_) (fun h => absurd h (by decide))
  refine callK_ret (e21 h) ?_
  rintro v w15 ⟨rfl, ⟨S', -, -, hm'⟩⟩
  exact ⟨_, rfl, congrArg Value.bool (by decide), hm'⟩

theorem u42 : Try.prog.underlying 42 = some (.slice 24) := by kernel_rfl
theorem i24 : ∃ i, Try.prog.info? 24 = some i ∧ i.zero = some (.pointer none) ∧ i.size = 1 ∧ i.bytes = 8 := info_of (by kernel_rfl) (by kernel_rfl) (by kernel_rfl)
theorem c4 {w : World} {peer n : Int} : Calls Try.prog 4 #[.int .i64 peer, .int .i64 n] w (Ret fun v w' => v = .bool true ∧ Mod NoB w w') := by
  refine call4 _ _ ?_
  unfold sh4
  obtain ⟨i24, h1, h2, h3, h4⟩ := i24
  refine sem_box (l := [.map none, .int .i64 0, .int .i64 0]) rfl fun b w1 hN1 hb1 => ⟨_, rfl, ?_⟩
  refine sem_lit [.pointer none, .pointer (some ⟨b, 0, none⟩)] (l := [.pointer none, .pointer (some ⟨b, 0, none⟩)]) u42 h1 h2 h3 (by decide) rfl (by decide) (by decide) rfl (by intro v hv; simp at hv; rcases hv with rfl | rfl <;> rfl) rfl fun a w2 hN2 ha2 => ⟨⟨_, _, _⟩, rfl, ?_⟩
  have hb2 := hb1.mod hN2.mod fun h => h
  have hm2 := hN1.mod.no hN2.mod
  refine ⟨fun l w3 => match l with | [.i _ k] => Mod NoB w w3 ∧ Blk w3 b [.map none, .int .i64 0, .int .i64 0] 41 ∧ Blk w3 a [.pointer none, .pointer (some ⟨b, 0, none⟩)] 24 ∧ (k = 0 ∨ k = 1 ∨ k = 2) | _ => False,
    fun l _ => match l with | [.i _ k] => (2 - k).toNat | _ => 0, ⟨hm2, hb2, ha2, .inl rfl⟩, ?_⟩
  rintro k w3 ⟨hm3, hb3, ha3, hk⟩
  refine condK_i (fun hlt => ?_) (fun _ => ?_)
  · have hk' : ∃ x2 : Option Addr, Un w3 x2 ∧ Rd w3 ((⟨a, 0, none⟩ : Addr).add (k.toNat * 1)) [.pointer x2] ∧ 0 ≤ k ∧ k < 2 := by
      rcases hk with rfl | rfl | rfl
      · exact ⟨none, .inl rfl, ha3.rd1 rfl, by decide, by decide⟩
      · exact ⟨some ⟨b, 0, none⟩, .inr ⟨b, _, rfl, hb3⟩, ha3.rd1 rfl, by decide, by decide⟩
      · simp at hlt
    obtain ⟨x2, hu, hrd, hk0, hk2⟩ := hk'
    refine ⟨⟨hk0, by simpa using hk2⟩, x2, hrd, callK_ret (c11_un hu) ?_⟩
    rintro v w4 ⟨rfl, m4⟩
    have hu := hu.mod m4 fun _ _ h => h
    refine ⟨rfl, callK_ret (c13_un hu) ?_⟩
    rintro v w5 ⟨rfl, m5⟩
    have hu := hu.mod m5 fun _ _ h => h
    refine ⟨rfl, callK_ret (c15_un hu) ?_⟩
    rintro v w6 ⟨rfl, m6⟩
    have hu := hu.mod m6 fun _ _ h => h
    refine ⟨rfl, callK_ret (c17_un hu) ?_⟩
    rintro v w7 ⟨rfl, m7⟩
    have hu := hu.mod m7 fun _ _ h => h
    refine ⟨_, _, _, rfl, ?_⟩
    refine condK_i (fun h => absurd h (by decide)) (fun _ => ?_)
    refine condK_i (fun h => absurd h (by decide)) (fun _ => ?_)
    refine condK_i (fun h => absurd h (by decide)) (fun _ => ?_)
    refine callK_ret (c19_un hu) ?_
    rintro v w8 ⟨rfl, m8⟩
    have hu := hu.mod m8 fun _ _ h => h
    refine ⟨_, rfl, condK_i (fun h => absurd h (by decide)) (fun _ => ?_)⟩
    refine callK_ret (c21_un hu) ?_
    rintro v w9 ⟨rfl, m9⟩
    have mm : Mod NoB w3 w9 := ((((m4.no m5).no m6).no m7).no m8).no m9
    refine ⟨_, rfl, condK_i (fun h => absurd h (by decide)) (fun _ => ?_)⟩
    rw [wrap_i64 (by omega)]
    exact ⟨⟨hm3.no mm, hb3.mod mm fun h => h, ha3.mod mm fun h => h, by omega⟩, by simp only []; omega⟩
  · refine callK_ret c7 ?_
    rintro v w4 ⟨rfl, m4⟩
    exact ⟨_, rfl, rfl, hm3.no m4⟩
end Go.Proofs.Ytnecbkjpijiopaa
