/- Budget: opening, the budget's heap, 'with'. -/
import Derived.Test.YtnecbkjpijiopaaB1
set_option linter.unusedSimpArgs false
set_option linter.unusedVariables false
namespace Go.Proofs.Ytnecbkjpijiopaa
open Go Go.Sh Go.MapKept

/-- one more session; whether the eldest goes -/
def opened (xs : List Int) (n most : Int) : List Int × Int × Bool :=
  if ((xs.length + 1 : Nat) : Int) ≤ most then (xs ++ [n], 0, false) else ((xs ++ [n]).tail, (xs ++ [n]).headD 0, true)

theorem c36 {w : World} {p : Nat} {s : Slc} {xs : List Int} {bad n most : Int} (h : AccAt w p s xs bad) (hn : xs.length ≤ 1000000) :
    Calls Try.prog 36 #[.pointer (some ⟨p, 0, none⟩), .int .i64 n, .int .i64 most] w (Ret fun v w' => v = .tuple #[.int .i64 (opened xs n most).2.1, .bool (opened xs n most).2.2] ∧ AccNext NoB w w' p s (opened xs n most).1 bad) := by
  refine call36 _ _ _ ?_
  unfold sh36
  obtain ⟨inf, h1, h2, h3, h4⟩ := i3
  have hl := ow_len h.own
  refine ⟨s, h.blk.rd1 rfl, sem_lit [.int .i64 n] (l := [.int .i64 n]) u43 h1 h2 h3 (by decide) rfl (by decide) (by decide) rfl (by simp [Value.cells]) rfl fun b w1 hN hb => ⟨⟨_, _, _⟩, rfl, ?_⟩⟩
  have ha1 := h.mod hN.mod (fun h => h) (fun _ _ h => h)
  refine sem_append u43 h1 h2 h3 rfl h4 ha1.own (own_new (n := 1) (c := 1) (k := 1) hb rfl (by omega)).rd (by intro y hy; simp at hy; subst hy; rfl) (by simp only []; omega) (by simp only []; omega) ?_
  intro s1 w2 ho hlen hblk hm
  have hlen' : s1.len = xs.length + 1 := by rw [hlen, hl]
  have hpb : p < w.heap.size := h.blk.lt
  have hs1p : s1.blk ≠ some p := by
    rcases hblk with e | e
    · rw [e]; exact h.ne
    · rw [e]; intro hc; cases hc
      have := hN.size; have := hN.at_; omega
  have ho' : Own w2 s1 1 (ints (xs ++ [n])) := by rw [ints_app]; exact ho
  refine ⟨s1, rfl, acc_store ha1 hm h.ne ho' hs1p fun w3 h3a hm3 => ⟨s1, h3a.blk.rd1 rfl, condK_i (fun hc => ?_) (fun hc => ?_)⟩⟩
  · have hc' : ((xs.length + 1 : Nat) : Int) ≤ most := by simpa [hlen'] using hc
    unfold opened
    simp only [if_pos hc']
    refine ⟨rfl, s1, h3a, ?_, hN.mod.no ((hm.mono fun _ _ e => .inr (.inl e)).tr (hm3.mono fun _ _ e => .inl e))⟩
    rcases hblk with e | e
    · exact .inl e
    · exact .inr ⟨_, e, hN.mod.size⟩
  · have hc' : ¬ ((xs.length + 1 : Nat) : Int) ≤ most := by simpa [hlen'] using hc
    unfold opened
    simp only [if_neg hc']
    obtain ⟨a, ha, hrd⟩ := sl_at h3a.own.rd (i := 0) (by simp)
    refine ⟨s1, h3a.blk.rd1 rfl, ⟨by omega, by omega⟩, ?_⟩
    rw [ha]
    refine ⟨_, hrd, s1, h3a.blk.rd1 rfl, callK_ret (c40 (i := 0) h3a.own (by simp) rfl) ?_⟩
    rintro v w4 ⟨s2, rfl, ho2, hb2, hm4⟩
    refine ⟨s2, rfl, acc_store h3a hm4 h3a.ne ho2 (by rw [hb2]; exact hs1p) fun w5 h5 hm5 => ⟨?_, s2, ?_, ?_, ?_⟩⟩
    · congr 4
      cases xs <;> rfl
    · have e : (xs ++ [n]).eraseIdx 0 = (xs ++ [n]).tail := by cases xs <;> rfl
      rw [← e]; exact h5
    · rcases hblk with e | e
      · exact .inl (hb2.trans e)
      · exact .inr ⟨_, hb2.trans e, hN.mod.size⟩
    · have hmm : Mod (fun x => x = p ∨ s.blk = some x ∨ NoB x) w w3 := hN.mod.no ((hm.mono fun _ _ e => .inr (.inl e)).tr (hm3.mono fun _ _ e => .inl e))
      refine (hmm.trans hm4 (fun _ _ e => e) fun x hx e => ?_).tr (hm5.mono fun _ _ e => .inl e)
      rcases hblk with e' | e'
      · right; left; rw [← e']; exact e
      · rw [e'] at e; cases e
        have := hN.mod.size; omega

/-! the budget -/
structure BSt where
  acc : Int → List Int × Int
  most : Int
  worst : Int
def BSt.put (st : BSt) (peer : Int) (x : List Int × Int) : BSt := { st with acc := fun q => if q = peer then x else st.acc q }
abbrev Pl := Int → Option (Nat × Slc)
def Pl.put (f : Pl) (peer : Int) (x : Option (Nat × Slc)) : Pl := fun q => if q = peer then x else f q

structure BRep (w : World) (b : Nat) (S : Nat → Prop) (st : BSt) (m : Nat) (es : List MapEntry) (clock : Nat) (pl : Pl) : Prop where
  blk : Blk w b [.map (some m), .int .i64 st.most, .int .i64 st.worst] 41
  map : MapB (.int .i64) w m es clock
  ent : ∀ e ∈ es, ∃ peer p s, e.key = .int .i64 peer ∧ pl peer = some (p, s) ∧ e.val = .pointer (some ⟨p, 0, none⟩)
  acc : ∀ peer p s, pl peer = some (p, s) → (∃ e ∈ es, e.key = .int .i64 peer ∧ e.val = .pointer (some ⟨p, 0, none⟩)) ∧ AccAt w p s (st.acc peer).1 (st.acc peer).2
  non : ∀ peer, pl peer = none → st.acc peer = ([], 0)
  dis : ∀ peer p s peer' p' s', pl peer = some (p, s) → pl peer' = some (p', s') → peer ≠ peer' → p ≠ p' ∧ s.blk ≠ some p' ∧ s'.blk ≠ some p ∧ ∀ x, s.blk = some x → s'.blk ≠ some x
  off : ∀ peer p s, pl peer = some (p, s) → p ≠ b ∧ p ≠ m ∧ s.blk ≠ some b ∧ s.blk ≠ some m
  ins : S b ∧ S m ∧ ∀ peer p s, pl peer = some (p, s) → S p ∧ ∀ x, s.blk = some x → S x
  low : ∀ x, S x → x < w.heap.size
  bm : b ≠ m

theorem BRep.mod {w w' : World} {b : Nat} {S : Nat → Prop} {st : BSt} {m : Nat} {es : List MapEntry} {clock : Nat} {pl : Pl} {T : Nat → Prop} (h : BRep w b S st m es clock pl) (hm : Mod T w w') (hT : ∀ x, S x → ¬ T x) : BRep w' b S st m es clock pl :=
  ⟨h.blk.mod hm (hT _ h.ins.1), h.map.mod hm (hT _ h.ins.2.1), h.ent, fun peer p s e => ⟨(h.acc peer p s e).1, (h.acc peer p s e).2.mod hm (hT _ (h.ins.2.2 peer p s e).1) fun x hx => hT _ ((h.ins.2.2 peer p s e).2 x hx)⟩,
    h.non, h.dis, h.off, h.ins, fun x hx => Nat.lt_of_lt_of_le (h.low x hx) hm.size, h.bm⟩

/-- a new, empty account -/
theorem BRep.new {w w1 w2 : World} {b : Nat} {S : Nat → Prop} {st : BSt} {m : Nat} {es : List MapEntry} {clock : Nat} {pl : Pl} (h : BRep w b S st m es clock pl) {peer : Int} (hp : pl peer = none) {p : Nat}
    (hN : New w w1 p (.cells [(⟨none, 0, 0⟩ : Slc).val, .int .i64 0].toArray 59)) (hb : Blk w1 p [(⟨none, 0, 0⟩ : Slc).val, .int .i64 0] 59)
    (hM : MapB (.int .i64) w2 m (es ++ [⟨.int .i64 peer, .pointer (some ⟨p, 0, none⟩), clock⟩]) (clock + 1)) (hm : Mod (fun x => x = m) w1 w2) (hsz : w2.heap.size = w1.heap.size) :
    BRep w2 b (fun x => S x ∨ x = p) st m (es ++ [⟨.int .i64 peer, .pointer (some ⟨p, 0, none⟩), clock⟩]) (clock + 1) (pl.put peer (some (p, ⟨none, 0, 0⟩))) := by
  have h1 : BRep w1 b S st m es clock pl := h.mod hN.mod fun _ _ h => h
  have hpS : ∀ x, S x → x ≠ p := fun x hx => by have := h.low x hx; have := hN.at_; omega
  refine ⟨h1.blk.mod hm h.bm, hM, ?_, ?_, ?_, ?_, ?_, ⟨.inl h.ins.1, .inl h.ins.2.1, ?_⟩, ?_, h.bm⟩
  · intro e he
    rcases List.mem_append.1 he with he | he
    · obtain ⟨q, p', s', e1, e2, e3⟩ := h.ent e he
      refine ⟨q, p', s', e1, ?_, e3⟩
      unfold Pl.put
      rw [if_neg]
      · exact e2
      · rintro rfl; rw [hp] at e2; cases e2
    · simp at he; subst he
      exact ⟨peer, p, ⟨none, 0, 0⟩, rfl, by simp [Pl.put], rfl⟩
  · intro q p' s' e
    unfold Pl.put at e
    split at e
    · next hq =>
      subst hq; cases e
      refine ⟨⟨_, List.mem_append_right _ (List.mem_singleton.2 rfl), rfl, rfl⟩, ?_⟩
      rw [h.non q hp]
      exact ⟨hb.mod hm (fun e => hpS m h.ins.2.1 e.symm), own_nil _ _, by simp [Slc.blk]⟩
    · obtain ⟨⟨e0, he0, e1, e2⟩, h3⟩ := h1.acc q p' s' e
      have ho := h.off q p' s' e
      exact ⟨⟨e0, List.mem_append_left _ he0, e1, e2⟩, h3.mod hm ho.2.1 fun x hx e => ho.2.2.2 (by rw [hx, e])⟩
  · intro q e
    unfold Pl.put at e
    split at e
    · cases e
    · exact h.non q e
  · intro q p1 s1 q' p2 s2 e1 e2 hne
    unfold Pl.put at e1 e2
    split at e1
    · next hq =>
      cases e1
      rw [if_neg (by rintro rfl; exact hne hq)] at e2
      have hi := h.ins.2.2 q' p2 s2 e2
      exact ⟨fun e => hpS _ hi.1 e.symm, by simp [Slc.blk], fun e => hpS _ (hi.2 _ e) rfl, by simp [Slc.blk]⟩
    · split at e2
      · cases e2
        have hi := h.ins.2.2 q p1 s1 e1
        exact ⟨fun e => hpS _ hi.1 e, fun e => hpS _ (hi.2 _ e) rfl, by simp [Slc.blk], by simp [Slc.blk]⟩
      · exact h.dis q p1 s1 q' p2 s2 e1 e2 hne
  · intro q p' s' e
    unfold Pl.put at e
    split at e
    · cases e
      exact ⟨fun e => hpS _ h.ins.1 e.symm, fun e => hpS _ h.ins.2.1 e.symm, by simp [Slc.blk], by simp [Slc.blk]⟩
    · exact h.off q p' s' e
  · intro q p' s' e
    unfold Pl.put at e
    split at e
    · cases e
      exact ⟨.inr rfl, by simp [Slc.blk]⟩
    · exact ⟨.inl (h.ins.2.2 q p' s' e).1, fun x hx => .inl ((h.ins.2.2 q p' s' e).2 x hx)⟩
  · intro x hx
    rcases hx with hx | hx
    · have := h1.low x hx; omega
    · have := hN.size; omega

/-- what is done to an account -/
theorem BRep.upd {w w' : World} {b : Nat} {S : Nat → Prop} {st : BSt} {m : Nat} {es : List MapEntry} {clock : Nat} {pl : Pl} (h : BRep w b S st m es clock pl) {peer : Int} {p : Nat} {s : Slc} (hp : pl peer = some (p, s))
    {T : Nat → Prop} (hT : ∀ x, S x → ¬ T x) {xs : List Int} {bad : Int} {s' : Slc} (hA : AccAt w' p s' xs bad) (hs : s'.blk = s.blk ∨ ∃ x, s'.blk = some x ∧ w.heap.size ≤ x) (hm : Mod (fun x => x = p ∨ s.blk = some x ∨ T x) w w') :
    BRep w' b (fun x => S x ∨ s'.blk = some x) (st.put peer (xs, bad)) m es clock (pl.put peer (some (p, s'))) := by
  have hi := h.ins.2.2 peer p s hp
  have ho := h.off peer p s hp
  have hnew : ∀ x, S x → s.blk ≠ some x → s'.blk ≠ some x := by
    intro x hx hn
    rcases hs with e | ⟨y, e, hy⟩
    · rw [e]; exact hn
    · rw [e]; rintro ⟨⟩; have := h.low _ hx; omega
  refine ⟨?_, ?_, ?_, ?_, ?_, ?_, ?_, ⟨.inl h.ins.1, .inl h.ins.2.1, ?_⟩, ?_, h.bm⟩
  · exact h.blk.mod hm fun e => e.elim (fun e => ho.1 e.symm) fun e => e.elim ho.2.2.1 (hT _ h.ins.1)
  · exact h.map.mod hm fun e => e.elim (fun e => ho.2.1 e.symm) fun e => e.elim ho.2.2.2 (hT _ h.ins.2.1)
  · intro e he
    obtain ⟨q, p', s0, e1, e2, e3⟩ := h.ent e he
    by_cases hq : q = peer
    · subst hq
      rw [hp] at e2; cases e2
      exact ⟨q, p, s', e1, by simp [Pl.put], e3⟩
    · exact ⟨q, p', s0, e1, by unfold Pl.put; rw [if_neg hq]; exact e2, e3⟩
  · intro q p' s0 e
    unfold Pl.put at e
    split at e
    · next hq =>
      subst hq; cases e
      exact ⟨(h.acc q p s hp).1, by simp only [BSt.put, if_true]; exact hA⟩
    · next hq =>
      have hd := h.dis q p' s0 peer p s e hp hq
      have hin := h.ins.2.2 q p' s0 e
      refine ⟨(h.acc q p' s0 e).1, ?_⟩
      simp only [BSt.put, if_neg hq]
      refine (h.acc q p' s0 e).2.mod hm (fun e => e.elim hd.1 fun e => e.elim hd.2.2.1 (hT _ hin.1)) fun x hx e => e.elim (fun e => hd.2.1 (by rw [hx, e])) fun e => e.elim (hd.2.2.2 x hx) (hT _ (hin.2 x hx))
  · intro q e
    unfold Pl.put at e
    split at e
    · cases e
    · next hq => simp only [BSt.put, if_neg hq]; exact h.non q e
  · intro q p1 s1 q' p2 s2 e1 e2 hne
    unfold Pl.put at e1 e2
    split at e1
    · next hq =>
      cases e1
      subst hq
      rw [if_neg (Ne.symm hne)] at e2
      have hd := h.dis q p s q' p2 s2 hp e2 hne
      have hin := h.ins.2.2 q' p2 s2 e2
      exact ⟨hd.1, hnew _ hin.1 hd.2.1, hd.2.2.1, fun x hx hc => hnew x (hin.2 x hc) (fun e => hd.2.2.2 x e hc) hx⟩
    · split at e2
      · next hq hq' =>
        cases e2
        subst hq'
        have hd := h.dis q p1 s1 q' p s e1 hp hne
        have hin := h.ins.2.2 q p1 s1 e1
        exact ⟨hd.1, hd.2.1, hnew _ hin.1 hd.2.2.1, fun x hx => hnew x (hin.2 x hx) (hd.2.2.2 x hx)⟩
      · exact h.dis q p1 s1 q' p2 s2 e1 e2 hne
  · intro q p' s0 e
    unfold Pl.put at e
    split at e
    · cases e
      exact ⟨ho.1, ho.2.1, hnew _ h.ins.1 ho.2.2.1, hnew _ h.ins.2.1 ho.2.2.2⟩
    · exact h.off q p' s0 e
  · intro q p' s0 e
    unfold Pl.put at e
    split at e
    · cases e
      exact ⟨.inl hi.1, fun x hx => .inr hx⟩
    · exact ⟨.inl (h.ins.2.2 q p' s0 e).1, fun x hx => .inl ((h.ins.2.2 q p' s0 e).2 x hx)⟩
  · intro x hx
    rcases hx with hx | hx
    · exact Nat.lt_of_lt_of_le (h.low x hx) hm.size
    · exact hA.own.lt hx

/-- an empty account goes -/
theorem BRep.del {w w' : World} {b : Nat} {S : Nat → Prop} {st : BSt} {m : Nat} {es es' : List MapEntry} {clock : Nat} {pl : Pl} (h : BRep w b S st m es clock pl) {peer : Int} (h0 : st.acc peer = ([], 0))
    (he : ∀ x, x ∈ es' ↔ x ∈ es ∧ x.key ≠ .int .i64 peer) (hM : MapB (.int .i64) w' m es' clock) (hm : Mod (fun x => x = m) w w') (hsz : w'.heap.size = w.heap.size) : BRep w' b S st m es' clock (pl.put peer none) := by
  refine ⟨h.blk.mod hm h.bm, hM, ?_, ?_, ?_, ?_, ?_, ⟨h.ins.1, h.ins.2.1, ?_⟩, fun x hx => by rw [hsz]; exact h.low x hx, h.bm⟩
  · intro e hx
    obtain ⟨hx, hk⟩ := (he e).1 hx
    obtain ⟨q, p', s0, e1, e2, e3⟩ := h.ent e hx
    refine ⟨q, p', s0, e1, ?_, e3⟩
    unfold Pl.put
    rw [if_neg]
    · exact e2
    · rintro rfl; exact hk e1
  · intro q p' s0 e
    unfold Pl.put at e
    split at e
    · cases e
    · next hq =>
      obtain ⟨⟨e0, he0, e1, e2⟩, h3⟩ := h.acc q p' s0 e
      have ho := h.off q p' s0 e
      exact ⟨⟨e0, (he e0).2 ⟨he0, by rw [e1]; simpa using hq⟩, e1, e2⟩, h3.mod hm ho.2.1 fun x hx e => ho.2.2.2 (by rw [hx, e])⟩
  · intro q e
    unfold Pl.put at e
    split at e
    · next hq => subst hq; exact h0
    · exact h.non q e
  · intro q p1 s1 q' p2 s2 e1 e2 hne
    unfold Pl.put at e1 e2
    split at e1
    · cases e1
    · split at e2
      · cases e2
      · exact h.dis q p1 s1 q' p2 s2 e1 e2 hne
  · intro q p' s0 e
    unfold Pl.put at e
    split at e
    · cases e
    · exact h.off q p' s0 e
  · intro q p' s0 e
    unfold Pl.put at e
    split at e
    · cases e
    · exact h.ins.2.2 q p' s0 e
end Go.Proofs.Ytnecbkjpijiopaa
