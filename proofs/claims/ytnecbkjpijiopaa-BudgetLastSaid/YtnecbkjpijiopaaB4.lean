/- Budget: the contracts of its methods. -/
import Derived.Test.YtnecbkjpijiopaaB3
set_option linter.unusedSimpArgs false
set_option linter.unusedVariables false
namespace Go.Proofs.Ytnecbkjpijiopaa
open Go Go.Sh Go.MapKept

def BH (w : World) (b : Nat) (S : Nat → Prop) (st : BSt) : Prop := ∃ m es clock pl, BRep w b S st m es clock pl
def Post (S : Nat → Prop) (w w' : World) (b : Nat) (st : BSt) : Prop := ∃ S', BH w' b S' st ∧ (∀ x, S' x → S x ∨ w.heap.size ≤ x) ∧ Mod S w w'
theorem BH.mod {w w' : World} {b : Nat} {S : Nat → Prop} {st : BSt} {T : Nat → Prop} (h : BH w b S st) (hm : Mod T w w') (hT : ∀ x, S x → ¬ T x) : BH w' b S st := by
  obtain ⟨m, es, clock, pl, h⟩ := h
  exact ⟨m, es, clock, pl, h.mod hm hT⟩
theorem BH.low {w : World} {b : Nat} {S : Nat → Prop} {st : BSt} (h : BH w b S st) : ∀ x, S x → x < w.heap.size := by
  obtain ⟨m, es, clock, pl, h⟩ := h
  exact h.low
theorem Post.of {S T S' : Nat → Prop} {w w1 w2 w' : World} {b : Nat} {st : BSt} (hm : Mod NoB w w1) (hB : BH w2 b S' st) (h1 : ∀ x, S' x → S x ∨ w1.heap.size ≤ x) (hm2 : Mod (fun x => S x ∨ T x) w1 w2) (hT : ∀ x, T x → w.heap.size ≤ x) (hw : w' = w2) : Post S w w' b st := by
  subst hw
  refine ⟨S', hB, fun x hx => (h1 x hx).imp id fun e => Nat.le_trans hm.size e, (hm.no hm2).trans (Mod.refl NoB w') (fun x hx e => e.elim id fun e => absurd hx (by have := hT x e; omega)) (fun _ _ e => e.elim)⟩
theorem put_self {st : BSt} {peer : Int} : st.put peer (st.acc peer) = st := by
  unfold BSt.put
  congr
  funext q
  split
  · next h => rw [h]
  · rfl

/-! ## the closures -/
theorem d31 {b : Nat} {x : List Int × Int} (hb : -1000000 ≤ x.2 ∧ x.2 ≤ 1000000) : Does 31 #[] b NoB (fun _ => True) (fun _ => True) x (x.1, x.2 + 1) := by
  intro w1 p s _ hA _ _ _ _
  refine call31 _ ?_
  unfold sh31
  refine ⟨x.2, hA.blk.rd1 rfl, ?_⟩
  rw [wrap_i64 (by omega)]
  refine semU_store1 (o := 1) (by kernel_rfl) (by kernel_rfl) rfl hA.blk (by simp) fun w2 hu hb => ⟨rfl, ⟨s, ⟨hb, hA.own.mod hu.mod fun b e e' => hA.ne (by rw [e, e']), hA.ne⟩, .inl rfl, hu.mod.mono fun _ _ e => .inl e⟩, trivial⟩
theorem d33 {b : Nat} {x : List Int × Int} : Does 33 #[] b NoB (fun _ => True) (fun _ => True) x (x.1, 0) := by
  intro w1 p s _ hA _ _ _ _
  refine call33 _ ?_
  unfold sh33
  refine semU_store1 (o := 1) (by kernel_rfl) (by kernel_rfl) rfl hA.blk (by simp) fun w2 hu hb => ⟨rfl, ⟨s, ⟨hb, hA.own.mod hu.mod fun b e e' => hA.ne (by rw [e, e']), hA.ne⟩, .inl rfl, hu.mod.mono fun _ _ e => .inl e⟩, trivial⟩
theorem d29 {b : Nat} {x : List Int × Int} {c : Nat} {n : Int} {T : TypeId} (hn : x.1.length ≤ 1000000) : Does 29 #[.pointer (some ⟨c, 0, none⟩)] b (fun y => y = c) (fun w => Blk w c [.int .i64 n] T) (fun _ => True) x (x.1.erase n, x.2) := by
  intro w1 p s hc hA hp hs hpb hsb
  refine call29 _ _ ?_
  unfold sh29
  refine ⟨fun w => Blk w c [.int .i64 n] T, hc, n, fun w' h => h.rd1 rfl, ?_, trivial⟩
  refine callK_ret (c30 (hA.mod (Mod.drew NoB w1) (fun h => h) fun _ _ h => h) hn) ?_
  rintro v w2 ⟨rfl, s', hA', hs', hm⟩
  refine ⟨rfl, hc.mod ((Mod.drew _ w1).tr hm) (fun e => e.elim (fun e => hp e.symm) fun e => e.elim (fun e => hs c e rfl) fun e => e), rfl, ⟨s', hA', hs', ((Mod.drew _ w1).tr hm).mono fun x _ e => e.imp id fun e => e.imp id fun e => e.elim⟩, trivial⟩
theorem place_ge {xs : List Int} {n : Int} : decide (place xs n ≥ 0) = decide (n ∈ xs) := by
  unfold place
  by_cases h : n ∈ xs
  · simp [h]
  · simp [h]
theorem d37 {b : Nat} {x : List Int × Int} {c r : Nat} {n : Int} {T : TypeId} (hn : x.1.length ≤ 1000000) (hcr : c ≠ r) : Does 37 #[.pointer (some ⟨c, 0, none⟩), .pointer (some ⟨r, 0, none⟩)] b (fun y => y = c ∨ y = r)
    (fun w => Blk w c [.int .i64 n] T ∧ Blk w r [.bool false] 4) (fun w => Blk w r [.bool (decide (n ∈ x.1))] 4) x x := by
  intro w1 p s hc hA hp hs hpb hsb
  refine call37 _ _ _ ?_
  unfold sh37
  refine ⟨fun w => Blk w c [.int .i64 n] T, hc.1, n, fun w' h => h.rd1 rfl, ?_, trivial⟩
  have hA1 : AccAt w1.drew p s x.1 x.2 := hA.mod (Mod.drew NoB w1) (fun h => h) fun _ _ h => h
  refine callK_ret (c35 hA1.blk hA1.own.rd hn) ?_
  rintro v w2 ⟨rfl, hm⟩
  refine ⟨_, rfl, hc.1.mod ((Mod.drew NoB w1).no hm) (fun h => h), ?_, trivial⟩
  refine semU_store1 (o := 0) (by kernel_rfl) (by kernel_rfl) rfl (hc.2.mod ((Mod.drew NoB w1).no hm) (fun h => h)) (by simp) fun w3 hu hb => ⟨hc.1.mod (((Mod.drew NoB w1).no hm).no hu.mod) hcr, rfl, ⟨s, ?_, .inl rfl, ?_⟩, ?_⟩
  · exact hA.mod (((Mod.drew NoB w1).no hm).no hu.mod) (fun e => hp (.inr e)) fun b e e' => hs b e (.inr e')
  · exact (((Mod.drew NoB w1).no hm).no hu.mod).mono fun _ _ e => .inr (.inr (.inr e))
  · rw [place_ge] at hb; exact hb
theorem d38 {x : List Int × Int} {c r b : Nat} {m : Option Nat} {most worst : Int} {T : TypeId} (hcr : c ≠ r) (hbr : b ≠ r) : Does 38 #[.pointer (some ⟨c, 0, none⟩), .pointer (some ⟨r, 0, none⟩)] b (fun y => y = c ∨ y = r)
    (fun w => Blk w c [.pointer (some ⟨b, 0, none⟩)] T ∧ Blk w r [.bool false] 4 ∧ Blk w b [.map m, .int .i64 most, .int .i64 worst] 41) (fun w => Blk w r [.bool (decide (x.2 < worst))] 4) x x := by
  intro w1 p s hc hA hp hs hpb hsb
  refine call38 _ _ _ ?_
  unfold sh38
  have hpr : p ≠ r := fun e => hp (.inr e)
  refine ⟨fun w => Blk w p [s.val, .int .i64 x.2] 59 ∧ Blk w c [.pointer (some ⟨b, 0, none⟩)] T ∧ Blk w b [.map m, .int .i64 most, .int .i64 worst] 41, ⟨hA.blk, hc.1, hc.2.2⟩, x.2, fun w' h => h.1.rd1 rfl, _, fun w' h => h.2.1.rd1 rfl, worst, fun w' h => h.2.2.rd1 rfl, ?_, trivial⟩
  refine semU_store1 (o := 0) (by kernel_rfl) (by kernel_rfl) rfl (hc.2.1.mod (Mod.drew NoB w1) (fun h => h)) (by simp) fun w3 hu hb => ⟨⟨hA.blk.mod ((Mod.drew NoB w1).no hu.mod) hpr, hc.1.mod ((Mod.drew NoB w1).no hu.mod) hcr, hc.2.2.mod ((Mod.drew NoB w1).no hu.mod) hbr⟩, rfl, ⟨s, ?_, .inl rfl, ?_⟩, hb⟩
  · exact hA.mod ((Mod.drew NoB w1).no hu.mod) hpr fun b e e' => hs b e (.inr e')
  · exact ((Mod.drew NoB w1).no hu.mod).mono fun _ _ e => .inr (.inr (.inr e))

/-- what Open tells, and what it leaves -/
def openTells (xs : List Int) (n most : Int) : Int × Bool × Int := if n ∈ xs then (0, false, 7) else ((opened xs n most).2.1, (opened xs n most).2.2, 0)
def openLeaves (xs : List Int) (n most : Int) : List Int := if n ∈ xs then xs else (opened xs n most).1
structure OpenCells (w : World) (c e b1 g i b : Nat) (n : Int) (m : Option Nat) (most worst : Int) (vg : Int) (vi : Bool) (ve : Int) : Prop where
  c : Blk w c [.int .i64 n] 3
  b1 : Blk w b1 [.pointer (some ⟨b, 0, none⟩)] 24
  b : Blk w b [.map m, .int .i64 most, .int .i64 worst] 41
  g : Blk w g [.int .i64 vg] 3
  i : Blk w i [.bool vi] 4
  e : Blk w e [.int .i64 ve] 33
theorem OpenCells.mod {w w' : World} {c e b1 g i b : Nat} {n : Int} {m : Option Nat} {most worst : Int} {vg : Int} {vi : Bool} {ve : Int} {S : Nat → Prop} (h : OpenCells w c e b1 g i b n m most worst vg vi ve) (hm : Mod S w w') (hS : ∀ y, y = c ∨ y = e ∨ y = b1 ∨ y = g ∨ y = i → ¬ S y) (hb : ¬ S b) : OpenCells w' c e b1 g i b n m most worst vg vi ve :=
  ⟨h.c.mod hm (hS _ (by simp)), h.b1.mod hm (hS _ (by simp)), h.b.mod hm hb, h.g.mod hm (hS _ (by simp)), h.i.mod hm (hS _ (by simp)), h.e.mod hm (hS _ (by simp))⟩
theorem d34 {x : List Int × Int} {c e b1 g i b : Nat} {n : Int} {m : Option Nat} {most worst : Int} (hn : x.1.length ≤ 1000000)
    (hd : [c, e, b1, g, i].Nodup) (hb : b ∉ [c, e, b1, g, i]) :
    Does 34 #[.pointer (some ⟨c, 0, none⟩), .pointer (some ⟨e, 0, none⟩), .pointer (some ⟨b1, 0, none⟩), .pointer (some ⟨g, 0, none⟩), .pointer (some ⟨i, 0, none⟩)] b (fun y => y = c ∨ y = e ∨ y = b1 ∨ y = g ∨ y = i)
    (fun w => OpenCells w c e b1 g i b n m most worst 0 false 1)
    (fun w => Blk w g [.int .i64 (openTells x.1 n most).1] 3 ∧ Blk w i [.bool (openTells x.1 n most).2.1] 4 ∧ Blk w e [.int .i64 (openTells x.1 n most).2.2] 33) x (openLeaves x.1 n most, x.2) := by
  intro w1 p s hc hA hp hs hpb hsb
  refine call34 _ _ _ _ _ _ ?_
  unfold sh34
  simp only [List.nodup_cons, List.mem_cons, List.not_mem_nil, or_false, not_or, List.nodup_nil, and_true, not_false_eq_true] at hd hb
  obtain ⟨⟨n1, n2, n3, n4⟩, ⟨n5, n6, n7⟩, ⟨n8, n9⟩, n10⟩ := hd
  obtain ⟨b1', b2', b3', b4', b5'⟩ := hb
  have hmd : Mod NoB w1 w1.drew := Mod.drew NoB w1
  refine ⟨fun w => Blk w c [.int .i64 n] 3, hc.c, n, fun w' h => h.rd1 rfl, ?_, trivial⟩
  have hA1 : AccAt w1.drew p s x.1 x.2 := hA.mod hmd (fun h => h) fun _ _ h => h
  refine callK_ret (c35 hA1.blk hA1.own.rd hn) ?_
  rintro v w2 ⟨rfl, hm⟩
  have hm12 : Mod NoB w1 w2 := hmd.no hm
  have hc2 := hc.mod hm12 (fun _ _ h => h) (fun h => h)
  refine ⟨_, rfl, hc2.c, ?_⟩
  rw [place_ge]
  refine condK_i (fun hi => ?_) (fun hi => ?_)
  · have hi' : n ∈ x.1 := by simpa using hi
    refine semU_store1 (o := 0) (by kernel_rfl) (by kernel_rfl) rfl hc2.e (by simp) fun w3 hu hb3 => ⟨rfl, ⟨s, ?_, .inl rfl, ?_⟩, ?_⟩
    · simp only [openLeaves, if_pos hi']
      exact hA.mod (hm12.no hu.mod) (fun e => hp (by simp [e])) fun y hy e => hs y hy (by simp [e])
    · exact (hm12.no hu.mod).mono fun _ _ e => .inr (.inr (by simp [e]))
    · simp only [openTells, if_pos hi']
      exact ⟨hc2.g.mod hu.mod (Ne.symm n6), hc2.i.mod hu.mod (Ne.symm n7), hb3⟩
  · have hi' : n ∉ x.1 := by simpa using hi
    have hA2 : AccAt w2.drew p s x.1 x.2 := hA.mod (hm12.no (Mod.drew NoB w2)) (fun h => h) fun _ _ h => h
    refine ⟨fun w => Blk w c [.int .i64 n] 3 ∧ Blk w b1 [.pointer (some ⟨b, 0, none⟩)] 24 ∧ Blk w b [.map m, .int .i64 most, .int .i64 worst] 41, ⟨hc2.c, hc2.b1, hc2.b⟩, n, fun w' h => h.1.rd1 rfl, _, fun w' h => h.2.1.rd1 rfl, most, fun w' h => h.2.2.rd1 rfl, ?_, trivial⟩
    refine callK_ret (c36 hA2 hn) ?_
    rintro v w3 ⟨rfl, s', hA', hs', hm3⟩
    have hmm : Mod (fun x => x = p ∨ s.blk = some x) w2 w3 := ((Mod.drew _ w2).tr hm3).mono fun _ _ e => e.elim .inl fun e => e.elim .inr fun e => e.elim
    have hc3 := hc2.mod hmm (fun y hy e => e.elim (fun e => hp (e ▸ hy)) fun e => hs y e hy) (fun e => e.elim (fun e => hpb e.symm) hsb)
    have hs'T : ∀ y, s'.blk = some y → ¬ (y = c ∨ y = e ∨ y = b1 ∨ y = g ∨ y = i) := by
      intro y hy
      rcases hs' with e' | ⟨z, e', hz⟩
      · exact hs y (by rw [← e', hy])
      · rw [e'] at hy; cases hy
        have l1 := hc2.c.lt; have l2 := hc2.e.lt; have l3 := hc2.b1.lt; have l4 := hc2.g.lt; have l5 := hc2.i.lt
        have : w2.drew.heap.size = w2.heap.size := rfl
        omega
    refine ⟨_, _, rfl, ⟨hc3.c, hc3.b1, hc3.b⟩, ?_, trivial⟩
    refine semU_store1 (o := 0) (by kernel_rfl) (by kernel_rfl) rfl hc3.g (by simp) fun w4 hu4 hg4 => ⟨⟨hc3.c.mod hu4.mod n3, hc3.b1.mod hu4.mod n8, hc3.b.mod hu4.mod b4'⟩, ?_, trivial⟩
    refine semU_store1 (o := 0) (by kernel_rfl) (by kernel_rfl) rfl (hc3.i.mod hu4.mod (Ne.symm n10)) (by simp) fun w5 hu5 hi5 => ⟨⟨(hc3.c.mod hu4.mod n3).mod hu5.mod n4, (hc3.b1.mod hu4.mod n8).mod hu5.mod n9, (hc3.b.mod hu4.mod b4').mod hu5.mod b5'⟩, ?_⟩
    refine semU_store1 (o := 0) (by kernel_rfl) (by kernel_rfl) rfl ((hc3.e.mod hu4.mod n6).mod hu5.mod n7) (by simp) fun w6 hu6 he6 => ⟨rfl, ⟨s', ?_, ?_, ?_⟩, ?_⟩
    · simp only [openLeaves, if_neg hi']
      have hpT : ∀ y, y = c ∨ y = e ∨ y = b1 ∨ y = g ∨ y = i → p ≠ y := fun y hy e => hp (e ▸ hy)
      exact ((hA'.mod hu4.mod (hpT g (by simp)) fun y hy e => hs'T y hy (by simp [e])).mod hu5.mod (hpT i (by simp)) fun y hy e => hs'T y hy (by simp [e])).mod hu6.mod (hpT e (by simp)) fun y hy e => hs'T y hy (by simp [e])
    · rcases hs' with e' | ⟨z, e', hz⟩
      · exact .inl e'
      · exact .inr ⟨z, e', Nat.le_trans hm12.size hz⟩
    · exact hm12.no ((((hmm.mono fun _ _ e => e.imp id .inl).tr (hu4.mod.mono fun _ _ e => .inr (.inr (by simp [e])))).tr (hu5.mod.mono fun _ _ e => .inr (.inr (by simp [e])))).tr (hu6.mod.mono fun _ _ e => .inr (.inr (by simp [e]))))
    · simp only [openTells, if_neg hi']
      exact ⟨(hg4.mod hu5.mod n10).mod hu6.mod (Ne.symm n6), hi5.mod hu6.mod (Ne.symm n7), he6⟩
end Go.Proofs.Ytnecbkjpijiopaa
