/- SHA: steps of the laws: writing rows at hand, their sum. -/
import Derived.Test.YtbbfcamopdckmaaDoorS8
set_option linter.unusedSimpArgs false
set_option linter.unusedVariables false
namespace Go.Proofs.YtbbfcamopdckmaaDoor
open Go Go.Sh

/-- the blocks of a hash -/
def HSet (p : Nat) (s : Slc) (x : Nat) : Prop := x = p ∨ s.blk = some x
theorem HashAt.low {w : World} {p : Nat} {s : Slc} {b : List UInt8} (h : HashAt w p s b) {x : Nat} (hx : HSet p s x) : x < w.heap.size := by
  rcases hx with rfl | hx
  · exact h.blk.lt
  · exact h.own.lt hx
theorem HashAt.keep {w w' : World} {p : Nat} {s : Slc} {b : List UInt8} {S : Nat → Prop} (h : HashAt w p s b) (hm : Mod S w w') (hd : ∀ x, HSet p s x → ¬ S x) : HashAt w' p s b :=
  h.mod hm (hd p (.inl rfl)) fun x hx => hd x (.inr hx)
/-- a row of bytes that lay there when the law began -/
def Row (W w : World) (s : Slc) (l : List UInt8) : Prop := SlRd w s 1 (bys l) ∧ ∀ x, s.blk = some x → x < W.heap.size ∧ ¬ isG x ∨ False
theorem disj_sub {p p' : Nat} {s s' t : Slc} {n : Nat} (hd : ∀ x, HSet p s x → ¬ HSet p' t x) (h : ∀ x, HSet p s' x → HSet p s x ∨ n ≤ x) (hl : ∀ x, HSet p' t x → x < n) : ∀ x, HSet p s' x → ¬ HSet p' t x := fun x hx ht => by
  rcases h x hx with h | h
  · exact hd x h ht
  · have := hl x ht; omega

/-- rows at hand are laid into a slice, and written -/
theorem step_write {W w : World} {p : Nat} {s : Slc} {b : List UInt8} {ss : List Slc} {pl : List (List UInt8)} {n : Nat} {ps : Array (Nat × Value)} {pan : List PanicEntry → World → Prop} {K : Int → World → Prop}
    (h : HashAt w p s b) (hg : Glob w) (hf : ∀ x, HSet p s x → W.heap.size ≤ x) (hm : Mod NoB W w)
    (hps : ps.toList = ((ss.map Slc.val).zipIdx 0).map fun x => (x.2, x.1)) (hn : n = ss.length) (h0 : 0 < n) (hs : n ≤ 10000) (hl : ss.length = pl.length)
    (hr : ∀ i (h : i < ss.length) (h' : i < pl.length), SlRd W ss[i] 1 (bys pl[i]) ∧ ∀ x, ss[i].blk = some x → x < W.heap.size) (hb : b.length + (pl.flatten).length ≤ 900000000)
    (hK : ∀ s' w', HashAt w' p s' (b ++ pl.flatten) → Glob w' → (∀ x, HSet p s' x → W.heap.size ≤ x) → (∀ x, HSet p s' x → HSet p s x ∨ w.heap.size ≤ x) → Mod (HSet p s) w w' → Mod NoB W w' → w.heap.size ≤ w'.heap.size → K 0 w') :
    semK Tryd.prog (Instr.buildSlice 22 n ps) w fun v w2 => ∃ x : Slc, v = (.slice x.a x.len x.cap) ∧ callK Tryd.prog 24 [.pointer (some ⟨p, 0, none⟩), (.slice x.a x.len x.cap)] w2 pan fun v w3 => ∃ r : Int, v = .int .i64 r ∧ K r w3 := by
  refine sem_rows ss hps hn h0 hs fun x e w1 hN hx hbz hox => ⟨x, rfl, ?_⟩
  have hat := hN.at_; have hsz := hN.size
  have hm1 := hm.tr hN.mod
  have hWw := hm.size
  have hxe := blk_of_eq hx
  have hX : ∀ y, (y = e ∨ y < W.heap.size) → ¬ HSet p s y := fun y hy hh => by
    have h1 := h.low hh
    have h2 := hf y hh
    omega
  refine callK_ret (c_write (h.no hN.mod) (hg.no hN.mod) (parts_of (pl := pl) (X := fun y => y = e ∨ y < W.heap.size) hox.rd (fun y hy => .inl (hxe y hy)) hl fun i hi hi' => ⟨(hr i hi hi').1.no hm1, fun y hy => .inr ((hr i hi hi').2 y hy)⟩)
    (fun hp => hX p hp (.inl rfl)) (fun y hy hh => hX y hh (.inr hy)) (fun y hy => by omega) (by omega) (by omega)) ?_
  rintro v w2 ⟨rfl, s', hh, hb', hm2⟩
  have hm2' : Mod (HSet p s) w w2 := hN.mod.no hm2
  have hsub : ∀ x, HSet p s' x → HSet p s x ∨ w.heap.size ≤ x := fun y hy => by
    rcases hy with rfl | hy
    · exact .inl (.inl rfl)
    · rcases hb' with h1 | h1 | ⟨z, h1, hz⟩
      · exact .inl (.inr (by rw [← h1]; exact hy))
      · rw [h1] at hy; cases hy
      · rw [h1] at hy; cases hy; exact .inr (by omega)
  refine ⟨0, rfl, hK s' w2 hh (hg.mod hm2' fun x hx hh => hh.elim (fun e => h.pg (by rw [← e]; exact hx)) fun e => h.sg x e hx) (fun y hy => ?_) hsub hm2' (hm.fresh hm2' hf) hm2'.size⟩
  rcases hsub y hy with h1 | h1
  · exact hf y h1
  · omega

/-- rows at hand are laid into a slice; the digest of all -/
theorem step_sum {W w : World} {ss : List Slc} {pl : List (List UInt8)} {n : Nat} {ps : Array (Nat × Value)} {pan : List PanicEntry → World → Prop} {K : Slc → World → Prop}
    (hg : Glob w) (hm : Mod NoB W w)
    (hps : ps.toList = ((ss.map Slc.val).zipIdx 0).map fun x => (x.2, x.1)) (hn : n = ss.length) (h0 : 0 < n) (hs : n ≤ 10000) (hl : ss.length = pl.length)
    (hr : ∀ i (h : i < ss.length) (h' : i < pl.length), SlRd W ss[i] 1 (bys pl[i]) ∧ ∀ x, ss[i].blk = some x → x < W.heap.size) (hb : (pl.flatten).length ≤ 900000000)
    (hK : ∀ x w', Sh.Own w' x 1 (bys (sha pl.flatten)) → FB w x → Mod NoB w w' → K x w') :
    semK Tryd.prog (Instr.buildSlice 22 n ps) w fun v w2 => ∃ x : Slc, v = (.slice x.a x.len x.cap) ∧ callK Tryd.prog 16 [(.slice x.a x.len x.cap)] w2 pan fun v w3 => ∃ x : Slc, v = (.slice x.a x.len x.cap) ∧ K x w3 := by
  refine sem_rows ss hps hn h0 hs fun x e w1 hN hx hbz hox => ⟨x, rfl, ?_⟩
  have hat := hN.at_; have hsz := hN.size
  have hm1 := hm.tr hN.mod
  have hWw := hm.size
  have hxe := blk_of_eq hx
  refine callK_ret (c_sum (hg.no hN.mod) (parts_of (pl := pl) (X := fun y => y = e ∨ y < W.heap.size) hox.rd (fun y hy => .inl (hxe y hy)) hl fun i hi hi' => ⟨(hr i hi hi').1.no hm1, fun y hy => .inr ((hr i hi hi').2 y hy)⟩)
    (fun y hy => by omega) hb (by omega)) ?_
  rintro v w2 ⟨y, rfl, ho, hf, hm2⟩
  exact ⟨y, rfl, hK y w2 ho (hf.le hN.mod.size) (hN.mod.tr hm2)⟩
theorem c_newF {W w : World} (hg : Glob w) (hm : Mod NoB W w) : Calls Tryd.prog 22 #[] w (Ret fun v w' => ∃ p, v = .pointer (some ⟨p, 0, none⟩) ∧ HashAt w' p ⟨none, 0, 0⟩ [] ∧ (∀ x, HSet p ⟨none, 0, 0⟩ x → w.heap.size ≤ x) ∧ Mod NoB w w') :=
  (c_new hg).mono fun e w' h => by
    cases e with
    | returned v =>
      obtain ⟨p, rfl, h1, h2, h3, h4⟩ := h
      exact ⟨p, rfl, h1, fun x hx => hx.elim (fun e => by omega) fun e => by simp at e, h4⟩
    | panicked c => exact h.elim
    | outgrown => exact h.elim
/-- one row -/
theorem rows1 {W : World} {a : Slc} {l : List UInt8} (h : SlRd W a 1 (bys l)) (hl : ∀ x, a.blk = some x → x < W.heap.size) :
    ∀ i (h : i < [a].length) (h' : i < [l].length), SlRd W [a][i] 1 (bys [l][i]) ∧ ∀ x, [a][i].blk = some x → x < W.heap.size := by
  intro i hi hi'
  match i, hi with
  | 0, _ => exact ⟨h, hl⟩
theorem rows2 {W : World} {a b : Slc} {l m : List UInt8} (h : SlRd W a 1 (bys l)) (hl : ∀ x, a.blk = some x → x < W.heap.size) (h' : SlRd W b 1 (bys m)) (hl' : ∀ x, b.blk = some x → x < W.heap.size) :
    ∀ i (h : i < [a, b].length) (h' : i < [l, m].length), SlRd W [a, b][i] 1 (bys [l, m][i]) ∧ ∀ x, [a, b][i].blk = some x → x < W.heap.size := by
  intro i hi hi'
  match i, hi with
  | 0, _ => exact ⟨h, hl⟩
  | 1, _ => exact ⟨h', hl'⟩
theorem rows3 {W : World} {a b c : Slc} {l m n : List UInt8} (h : SlRd W a 1 (bys l)) (hl : ∀ x, a.blk = some x → x < W.heap.size) (h' : SlRd W b 1 (bys m)) (hl' : ∀ x, b.blk = some x → x < W.heap.size) (h'' : SlRd W c 1 (bys n)) (hl'' : ∀ x, c.blk = some x → x < W.heap.size) :
    ∀ i (h : i < [a, b, c].length) (h' : i < [l, m, n].length), SlRd W [a, b, c][i] 1 (bys [l, m, n][i]) ∧ ∀ x, [a, b, c][i].blk = some x → x < W.heap.size := by
  intro i hi hi'
  match i, hi with
  | 0, _ => exact ⟨h, hl⟩
  | 1, _ => exact ⟨h', hl'⟩
  | 2, _ => exact ⟨h'', hl''⟩
theorem sha_len (b : List UInt8) : (sha b).length = 64 := by rw [sha, shaBy_eq]; exact digest_len (st_len _)
/-- the digest of a hash is held against bytes -/
theorem step_same {w : World} {p : Nat} {s x : Slc} {b m : List UInt8} {pan pan' : List PanicEntry → World → Prop} {K : Bool → World → Prop} (h : HashAt w p s b) (hg : Glob w) (hx : SlRd w x 1 (bys m)) (hb : b.length ≤ 900000000)
    (hK : ∀ w', Mod NoB w w' → K (decide (sha b = m)) w') :
    callK Tryd.prog 28 [.pointer (some ⟨p, 0, none⟩)] w pan fun v w1 => ∃ y : Slc, v = (.slice y.a y.len y.cap) ∧ callK Tryd.prog 17 [(.slice y.a y.len y.cap), (.slice x.a x.len x.cap)] w1 pan' fun v w2 => ∃ z : Bool, v = .bool z ∧ K z w2 := by
  refine callK_ret (c_sumH h hg hb) ?_
  rintro v w1 ⟨y, rfl, ho, hf, hm⟩
  refine ⟨y, rfl, callK_ret (c_same ho.rd (hx.no hm) (by rw [sha_len]; omega)) ?_⟩
  rintro v w2 ⟨rfl, hm2⟩
  exact ⟨_, rfl, hK w2 (hm.tr hm2)⟩
end Go.Proofs.YtbbfcamopdckmaaDoor
