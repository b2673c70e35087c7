/- strings.Builder: a byte is written, the text is told; signs. -/
import Derived.Test.YtbbfcamopdckmaaDoorS20
import Derived.Test.YtbbfcamopdckmaaDoorS9
set_option linter.unusedSimpArgs false
set_option linter.unusedVariables false
set_option maxRecDepth 100000
namespace Go.Proofs.YtbbfcamopdckmaaDoor
open Go Go.Sh

theorem BuilderAt.mod {w w' : World} {b : Nat} {s : Slc} {l : List UInt8} {S : Nat → Prop} (h : BuilderAt w b s l) (hm : Mod S w w') (hb : ¬ S b) (hs : ∀ x, s.blk = some x → ¬ S x) : BuilderAt w' b s l := by
  obtain ⟨p, hp, h1⟩ := h.blk
  exact ⟨⟨p, hp, h1.mod hm hb⟩, h.row.mod hm hs, h.ne⟩
theorem BuilderAt.lt {w : World} {b : Nat} {s : Slc} {l : List UInt8} (h : BuilderAt w b s l) : b < w.heap.size := by
  obtain ⟨p, hp, h1⟩ := h.blk
  exact h1.lt
theorem Row0.lt {T : TypeId} {w : World} {s : Slc} {vs : List Value} (h : Row0 T w s vs) : ∀ x, s.blk = some x → x < w.heap.size := by
  intro x hx
  rcases h with ⟨rfl, rfl⟩ | ⟨g, n, c, l, rfl, hc, hb, h1, h2, h3⟩
  · cases hx
  · rw [Slc.blk_mk, if_neg (by omega)] at hx
    cases hx
    exact hb.lt
/-- a byte is written -/
theorem c_writeByte {w : World} {b : Nat} {s : Slc} {l : List UInt8} {c : UInt8} (h : BuilderAt w b s l) (hn : l.length ≤ 2000000000) :
    Calls Tryd.prog 87 #[.pointer (some ⟨b, 0, none⟩), .int .u8 c.toNat] w (Ret fun v w' => v = .nilIface ∧ ∃ s', BuilderAt w' b s' (l ++ [c]) ∧ (s'.blk = s.blk ∨ ∃ x, s'.blk = some x ∧ w.heap.size ≤ x) ∧ Mod (fun x => x = b ∨ s.blk = some x) w w') := by
  refine call87 _ _ ?_
  unfold sh87
  obtain ⟨i5', h51, h52, h53, h54⟩ := i5
  refine callK_ret (c_copyCheck h) ?_
  rintro v w1 ⟨rfl, hb1, hm1⟩
  have hr1 : Row0 5 w1 s (bys l) := h.row.mod hm1 fun x hx e => h.ne (by rw [hx, e])
  have hbl := hb1.lt
  have hsl := rd_len8 hr1.own.rd
  refine ⟨rfl, s, by rw [addl]; exact hb1.rd1 rfl, ?_⟩
  refine sem_lit (l := [.int .u8 c.toNat]) [.int .u8 c.toNat] u26 h51 h52 h53 (by decide) rfl (by decide) (by decide) rfl (by simp [Value.cells]) rfl fun e w2 hN hbe => ⟨⟨_, _, _⟩, rfl, ?_⟩
  refine sem_append_row u26 h51 h52 h53 rfl h54 (hr1.mod hN.mod fun _ _ h => h) (own_whole (n := 1) (k := 1) hbe rfl).rd (bys_one [c]) (by simp) (by simp only []; omega) (by simp only []; omega) fun s' w3 hr' hlen hblk hm3 => ⟨s', rfl, ?_⟩
  have hsb : ∀ x, s.blk = some x → x ≠ b := fun x hx e => h.ne (by rw [hx, e])
  have hb3 : Blk w3 b [.pointer (some ⟨b, 0, none⟩), s.val] TBuilder := (hb1.no hN.mod).mod hm3 fun e => hsb b e rfl
  show semU _ (storeVar _ ((⟨b, 0, none⟩ : Addr).add 1) _) _ _
  rw [addl]
  have hat := hN.at_; have hsz := hN.size
  have hs'b : s'.blk ≠ some b := by
    rcases hblk with e | e
    · rw [e]; exact h.ne
    · rw [e]; intro e'; cases e'; omega
  refine semU_store1 (b := b) (o := 0 + 1) (l := [.pointer (some ⟨b, 0, none⟩), s.val]) (by kernel_rfl) (by kernel_rfl) rfl hb3 (by simp) fun w4 ht4 hb4 => ⟨rfl, s', ⟨⟨_, .inr rfl, hb4⟩, ?_, hs'b⟩, ?_, ?_⟩
  · have := hr'.mod ht4.mod fun x hx e => hs'b (by rw [hx, e])
    rw [bys_app]
    exact this
  · rcases hblk with e | e
    · exact .inl e
    · exact .inr ⟨_, e, by have := hm1.size; omega⟩
  · have e1 : Mod (fun x => x = b ∨ s.blk = some x) w w1 := hm1.mono fun x _ e => .inl e
    have e3 : Mod (fun x => x = b ∨ s.blk = some x) w2 w3 := hm3.mono fun x _ e => .inr e
    have e4 : Mod (fun x => x = b ∨ s.blk = some x) w3 w4 := ht4.mod.mono fun x _ e => .inl e
    exact ((e1.no' hN.mod).tr e3).tr e4

theorem freeze_tch {w : World} {b n : Nat} {l : List Value} {T : TypeId} (h : Blk w b l T) : Mod (fun x => x = b) w (w.freeze ⟨b, 0, none⟩ n) := by
  have hlt := h.lt
  unfold World.freeze
  split
  · exact Mod.refl _ _
  · exact ⟨rfl, rfl, rfl, by simp, fun x hx hne => by
      simp only [Array.getElem?_modify]
      rw [if_neg (fun e => hne e.symm)]⟩
theorem uPB : Tryd.prog.underlying 142 = some (.pointer 5) := by kernel_rfl
/-- what was written -/
theorem c_string {w : World} {b : Nat} {s : Slc} {l : List UInt8} (h : BuilderAt w b s l) (hn : l.length ≤ 2000000000) :
    Calls Tryd.prog 54 #[.pointer (some ⟨b, 0, none⟩)] w (Ret fun v w' => v = .string ⟨l.toArray⟩ ∧ Mod (fun x => s.blk = some x) w w') := by
  refine call54 _ ?_
  unfold sh54
  obtain ⟨p, hp, hb⟩ := h.blk
  have hrd : ∀ w', Mod (fun x => s.blk = some x) w w' → Rd w' ((⟨b, 0, none⟩ : Addr).add 1) [s.val] := fun w' hm => by rw [addl]; exact (hb.mod hm h.ne).rd1 rfl
  refine ⟨fun w' => Mod (fun x => s.blk = some x) w w', Mod.drew _ _, s, hrd, s, hrd, ?_, trivial⟩
  have hlen := rd_len8 h.row.own.rd
  rcases h.row with ⟨rfl, e2⟩ | ⟨g, n, c, r, rfl, hc, hg, e1, e2, e3⟩
  · obtain rfl : l = [] := bys_inj (b := []) e2
    refine ⟨_, _, Lib.run_unsafeSliceData_nil _ _ _ _ _, none, rfl, Mod.drew _ _, ?_, trivial⟩
    refine ⟨_, _, Lib.run_unsafeString_none _ _ _ _ _, [], rfl, Mod.drew _ _, rfl, Mod.drew _ _⟩
  · have hgb : Slc.blk ⟨some ⟨g, 0, none⟩, n, c⟩ = some g := by rw [Slc.blk_mk, if_neg (by omega)]
    refine ⟨_, _, Lib.run_unsafeSliceData_row _ _ _ _ _ _ (show c ≠ 0 by omega), some ⟨g, 0, none⟩, rfl, Mod.drew _ _, ?_, trivial⟩
    have hln : l.length = n := hlen
    by_cases h0 : l = []
    · subst h0
      obtain rfl : n = 0 := by simpa using hln.symm
      refine ⟨_, _, Lib.run_unsafeString_none _ _ _ _ _, [], rfl, Mod.drew _ _, rfl, Mod.drew _ _⟩
    · subst hln
      have hm : Mod (fun x => Slc.blk ⟨some ⟨g, 0, none⟩, l.length, c⟩ = some x) w (w.drew.freeze ⟨g, 0, none⟩ l.length) :=
        (Mod.drew _ w).tr ((freeze_tch hg.drew).mono fun x _ e => by rw [hgb, e])
      refine ⟨_, _, Lib.run_unsafeString_row _ 142 3 9 5 uPB (by kernel_rfl) g r.length (shape_of hg.drew) l h0 (by omega) (by omega) (fun j x hj => ?_), l, rfl, hm, rfl, hm⟩
      rw [addl, Nat.zero_add, hg.drew.cell]
      have hlt : j < l.length := (List.getElem?_eq_some_iff.1 hj).1
      have : (r.take l.length)[j]? = some (.int .u8 x.toNat) := by rw [e2]; simp [bys, hj]
      rwa [List.getElem?_take, if_pos hlt] at this

/-- signs of bits are written -/
theorem c_sign {w : World} {b : Nat} {s : Slc} {l : List UInt8} {bits : Slc} {bs : List UInt8} (h : BuilderAt w b s l) (hbs : SlRd w bits 1 (bys bs)) (hbb : ∀ x, bits.blk = some x → x < w.heap.size ∧ x ≠ b ∧ s.blk ≠ some x) (hn : l.length + bs.length ≤ 1000000000) :
    Calls Tryd.prog 53 #[.pointer (some ⟨b, 0, none⟩), .slice bits.a bits.len bits.cap] w (Ret fun v w' => v = .tuple #[] ∧ ∃ s', BuilderAt w' b s' (l ++ bs.map (48 + ·)) ∧ (s'.blk = s.blk ∨ ∃ x, s'.blk = some x ∧ w.heap.size ≤ x) ∧ Mod (fun x => x = b ∨ s.blk = some x) w w') := by
  refine call53 _ _ ?_
  unfold sh53
  have hbl := rd_len8 hbs
  refine ⟨fun l' w' => match l' with | [.i _ x] => ∃ (k : Nat) (s' : Slc), x = k ∧ k ≤ bs.length ∧ BuilderAt w' b s' (l ++ (bs.take k).map (48 + ·)) ∧ (s'.blk = s.blk ∨ ∃ x, s'.blk = some x ∧ w.heap.size ≤ x) ∧ Mod (fun x => x = b ∨ s.blk = some x) w w' | _ => False,
    fun l' _ => match l' with | [.i _ x] => (bs.length - x).toNat | _ => 0, ⟨0, s, rfl, by omega, by simpa using h, .inl rfl, Mod.refl _ _⟩, ?_⟩
  rintro x w1 ⟨k, s1, rfl, hk, hb1, hs1, hm1⟩
  refine condK_i (fun hlt => ?_) fun hge => ?_
  · have hk' : k < bs.length := by simp at hlt; omega
    have hbs1 : SlRd w1 bits 1 (bys bs) := hbs.mod hm1 fun x hx e => e.elim (hbb x hx).2.1 (hbb x hx).2.2
    obtain ⟨a, ea, hra⟩ := rd_u8 hbs1 hk'
    rw [ea]
    refine ⟨⟨by omega, by omega⟩, _, hra, ?_⟩
    refine callK_ret (c_writeByte hb1 (by simp; omega)) ?_
    rintro v w2 ⟨rfl, s2, hb2, hs2, hm2⟩
    refine ⟨_, rfl, ⟨k + 1, s2, wrap_nat (by omega), by omega, ?_, ?_, ?_⟩, ?_⟩
    · rw [take_snoc hk', List.map_append, ← List.append_assoc]; exact hb2
    · rcases hs2 with e | ⟨y, e, hy⟩
      · rw [e]; exact hs1
      · exact .inr ⟨y, e, Nat.le_trans hm1.size hy⟩
    · refine hm1.trans hm2 (fun _ _ h => h) fun x hx e => ?_
      rcases e with e | e
      · exact .inl e
      · rcases hs1 with h1 | ⟨y, h1, hy⟩
        · exact .inr (by rw [← h1]; exact e)
        · rw [h1] at e; cases e; omega
    · rw [wrap_nat (by omega)]; (try simp only []); omega
  · have hk' : k = bs.length := by simp at hge; omega
    subst hk'
    rw [List.take_length] at hb1
    exact ⟨rfl, s1, hb1, hs1, hm1⟩
end Go.Proofs.YtbbfcamopdckmaaDoor
