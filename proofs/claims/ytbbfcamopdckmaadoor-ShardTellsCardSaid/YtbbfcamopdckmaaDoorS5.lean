/- SHA: a hash in memory; writing. -/
import Derived.Test.YtbbfcamopdckmaaDoorS4
set_option linter.unusedSimpArgs false
set_option linter.unusedVariables false
namespace Go.Proofs.YtbbfcamopdckmaaDoor
open Go Go.Sh

theorem u26 : Tryd.prog.underlying 26 = some (.slice 5) := by kernel_rfl
theorem i5 : ∃ i, Tryd.prog.info? 5 = some i ∧ i.zero = some (.int .u8 0) ∧ i.size = 1 ∧ i.bytes = 1 := info_of (by kernel_rfl) (by kernel_rfl) (by kernel_rfl)
theorem u22 : Tryd.prog.underlying 22 = some (.slice 26) := by kernel_rfl
theorem i26 : ∃ i, Tryd.prog.info? 26 = some i ∧ i.zero = some (.slice none 0 0) ∧ i.size = 1 ∧ i.bytes = 24 := info_of (by kernel_rfl) (by kernel_rfl) (by kernel_rfl)

/-- the cells of a hash -/
def HW (st : List UInt64) (s : Slc) (n : UInt64) : List Value := us st ++ [s.val, .int .u64 n.toNat, .bool true]
section
variable {st : List UInt64} {s : Slc} {n : UInt64}
theorem hw8 (h : st.length = 8) : (HW st s n)[8]? = some s.val := by unfold HW; rw [List.getElem?_append_right (by simp [h])]; simp [h]
theorem hw9 (h : st.length = 8) : (HW st s n)[9]? = some (.int .u64 n.toNat) := by unfold HW; rw [List.getElem?_append_right (by simp [h])]; simp [h]
theorem hw10 (h : st.length = 8) : (HW st s n)[10]? = some (.bool true) := by unfold HW; rw [List.getElem?_append_right (by simp [h])]; simp [h]
theorem hw_len (h : st.length = 8) : (HW st s n).length = 11 := by simp [HW, h]
theorem hw_set8 (h : st.length = 8) (s' : Slc) : (HW st s n).set 8 s'.val = HW st s' n := by
  unfold HW; rw [List.set_append_right _ _ (by simp [h])]; simp [h]
theorem hw_set9 (h : st.length = 8) (n' : UInt64) : (HW st s n).set 9 (.int .u64 n'.toNat) = HW st s n' := by
  unfold HW; rw [List.set_append_right _ _ (by simp [h])]; simp [h]
end
abbrev THash : TypeId := 48
structure HashAt (w : World) (p : Nat) (s : Slc) (b : List UInt8) : Prop where
  blk : Blk w p (HW (state KS H0 b) s (UInt64.ofNat b.length)) THash
  own : Sh.Own w s 1 (bys (rest b))
  ne : s.blk ≠ some p
  pg : ¬ isG p
  sg : ∀ x, s.blk = some x → ¬ isG x
theorem HashAt.mod {w w' : World} {p : Nat} {s : Slc} {b : List UInt8} {S : Nat → Prop} (h : HashAt w p s b) (hm : Mod S w w') (hp : ¬ S p) (hs : ∀ x, s.blk = some x → ¬ S x) : HashAt w' p s b :=
  ⟨h.blk.mod hm hp, h.own.mod hm hs, h.ne, h.pg, h.sg⟩
theorem HashAt.no {w w' : World} {p : Nat} {s : Slc} {b : List UInt8} (h : HashAt w p s b) (hm : Mod NoB w w') : HashAt w' p s b := h.mod hm (fun h => h) fun _ _ h => h
theorem st_len (b : List UInt8) : (state KS H0 b).length = 8 := state_len H0_len

/-- rows of bytes that are read; their blocks are in X -/
def PartsAt (w : World) (parts : Slc) (pl : List (List UInt8)) (X : Nat → Prop) : Prop :=
  ∃ ss : List Slc, SlRd w parts 1 (ss.map Slc.val) ∧ (∀ x, parts.blk = some x → X x) ∧ ss.length = pl.length ∧ ∀ i (h : i < ss.length) (h' : i < pl.length), SlRd w ss[i] 1 (bys pl[i]) ∧ ∀ x, ss[i].blk = some x → X x
theorem PartsAt.mod {w w' : World} {parts : Slc} {pl : List (List UInt8)} {X S : Nat → Prop} (h : PartsAt w parts pl X) (hm : Mod S w w') (hs : ∀ x, X x → ¬ S x) : PartsAt w' parts pl X := by
  obtain ⟨ss, h1, h2, h3, h4⟩ := h
  exact ⟨ss, h1.mod hm fun b hb => hs b (h2 b hb), h2, h3, fun i hi hi' => ⟨(h4 i hi hi').1.mod hm fun b hb => hs b ((h4 i hi hi').2 b hb), (h4 i hi hi').2⟩⟩
theorem rd_slc {w : World} {s : Slc} {l : List Slc} (h : SlRd w s 1 (l.map Slc.val)) {i : Nat} (hi : i < l.length) : ∃ a, s.a = some a ∧ Rd w (a.add (i * 1)) [l[i].val] :=
  h.at (by have := h.1; simp at this; omega) (by omega) fun j u hu => by
    cases j with
    | zero => simp at hu; subst hu; simp [hi]
    | succ j => simp at hu

/-- a slice that is that one or lies in a new block -/
def BO (w0 : World) (s0 s : Slc) : Prop := s.blk = s0.blk ∨ s.blk = none ∨ ∃ x, s.blk = some x ∧ w0.heap.size ≤ x
theorem BO.refl (w0 : World) (s : Slc) : BO w0 s s := .inl rfl
theorem BO.not {w0 : World} {s0 s : Slc} {Y : Nat → Prop} (h : BO w0 s0 s) (h1 : ∀ x, s0.blk = some x → ¬ Y x) (h2 : ∀ x, Y x → x < w0.heap.size) : ∀ x, s.blk = some x → ¬ Y x := by
  intro x hx hy
  rcases h with h | h | ⟨z, h, hz⟩
  · exact h1 x (by rw [← h]; exact hx) hy
  · rw [h] at hx; cases hx
  · rw [h] at hx; cases hx; have := h2 _ hy; omega
theorem BO.step {w0 w : World} {s0 s s' : Slc} (h : BO w0 s0 s) (hsz : w0.heap.size ≤ w.heap.size) (h' : s'.blk = s.blk ∨ s'.blk = some w.heap.size) : BO w0 s0 s' := by
  rcases h' with h' | h'
  · unfold BO; rw [h']; exact h
  · exact .inr (.inr ⟨_, h', hsz⟩)
theorem BO.mod {w0 w w' : World} {s0 s : Slc} {M : Nat → Prop} (h : BO w0 s0 s) (hm : Mod M w0 w) (hs0 : ∀ x, s0.blk = some x → M x) (hm' : Mod (fun x => s.blk = some x) w w') : Mod M w0 w' :=
  hm.trans hm' (fun _ _ e => e) fun x hx e => by
    rcases h with h | h | ⟨z, h, hz⟩
    · exact hs0 x (by rw [← h]; exact e)
    · rw [h] at e; cases e
    · rw [h] at e; cases e; omega
theorem BO.cut {w0 : World} {s0 s : Slc} (h : BO w0 s0 s) {k l n m : Nat} (hm : m ≤ s.cap) : BO w0 s0 (cutSl s k l n m) := by
  cases hb : (cutSl s k l n m).blk with
  | none => exact .inr (.inl hb)
  | some x =>
    have := blk_cut hb hm
    rcases h with h | h | ⟨z, h, hz⟩
    · exact .inl (by rw [hb, ← this, h])
    · rw [h] at this; cases this
    · rw [h] at this; cases this; exact .inr (.inr ⟨_, hb, hz⟩)

theorem c_there {w : World} {p : Nat} {st : List UInt64} {s : Slc} {n : UInt64} (h : Blk w p (HW st s n) THash) (hst : st.length = 8) :
    Calls Tryd.prog 42 #[.pointer (some ⟨p, 0, none⟩)] w (Ret fun v w' => v = .bool true ∧ w' = w) := by
  refine call42 _ ?_
  unfold sh42
  refine ps_neq_ptr (e := THash) (by kernel_rfl) ⟨_, rfl, true, ?_, rfl, rfl⟩
  exact h.rd1 (o := 10) (hw10 hst)

/-- what writing some bytes has come to -/
structure Mid (w0 w' : World) (p : Nat) (s0 : Slc) (X : Nat → Prop) (b' c : List UInt8) (n' : UInt64) (q : Slc) : Prop where
  ex : ∃ (s3 : Slc) (c1 c2 : List UInt8), c = c1 ++ c2 ∧ (rest b' ++ c1).length % 128 = 0 ∧ SlRd w' q 1 (bys c2) ∧ (∀ x, q.blk = some x → X x) ∧
    Blk w' p (HW (absorb KS (state KS H0 b') (rest b' ++ c1) ((rest b' ++ c1).length / 128)) s3 n') THash ∧ Sh.Own w' s3 1 (bys []) ∧ BO w0 s0 s3
  mod : Mod (fun x => x = p ∨ s0.blk = some x) w0 w'

set_option maxRecDepth 10000 in
theorem c_write {w : World} {p : Nat} {s : Slc} {b : List UInt8} {parts : Slc} {pl : List (List UInt8)} {X : Nat → Prop} (h : HashAt w p s b) (hg : Glob w) (hp : PartsAt w parts pl X)
    (hXp : ¬ X p) (hXs : ∀ x, s.blk = some x → ¬ X x) (hXl : ∀ x, X x → x < w.heap.size) (hn : b.length + (pl.flatten).length ≤ 1000000000) (hm : pl.length ≤ 1000000000) :
    Calls Tryd.prog 24 #[.pointer (some ⟨p, 0, none⟩), .slice parts.a parts.len parts.cap] w (Ret fun v w' => v = .int .i64 0 ∧ ∃ s', HashAt w' p s' (b ++ pl.flatten) ∧ BO w s s' ∧ Mod (fun x => x = p ∨ s.blk = some x) w w') := by
  refine call24 _ _ ?_
  unfold sh24
  refine callK_ret (c_there h.blk (st_len b)) ?_
  rintro v w1 ⟨rfl, rfl⟩
  refine ⟨true, rfl, ?_⟩
  show condK false _ _
  refine condK_i (fun e => by cases e) fun _ => ?_
  obtain ⟨i5', h51, h52, h53, h54⟩ := i5
  have hpl := h.blk.lt
  -- what no left part may lie in
  have hY : ∀ x, s.blk = some x → ¬ (x = p ∨ isG x ∨ X x) := fun x hx e => e.elim (fun e => h.ne (by rw [hx, e])) fun e => e.elim (h.sg x hx) (hXs x hx)
  have hYl : ∀ x, (x = p ∨ isG x ∨ X x) → x < w1.heap.size := fun x e => e.elim (fun e => by omega) fun e => e.elim hg.lt (hXl x)
  have hBs : ∀ x, s.blk = some x → (x = p ∨ s.blk = some x) := fun x hx => .inr hx
  have hXn : ∀ x, X x → ¬ (x = p ∨ s.blk = some x) := fun x hx e => e.elim (fun e => hXp (by rw [← e]; exact hx)) fun e => hXs x e hx
  have hGn : ∀ x, isG x → ¬ (x = p ∨ s.blk = some x) := fun x hx e => e.elim (fun e => h.pg (by rw [← e]; exact hx)) fun e => h.sg x e hx
  obtain ⟨ss, hr10, hr2, hr3, hr4⟩ := hp
  refine ⟨fun l w' => match l with | [.i _ x] => ∃ i : Nat, x = i ∧ i ≤ pl.length ∧ (∃ s', HashAt w' p s' (b ++ (pl.take i).flatten) ∧ BO w1 s s') ∧ Mod (fun x => x = p ∨ s.blk = some x) w1 w' | _ => False,
    fun l _ => match l with | [.i _ x] => (pl.length - x).toNat | _ => 0, ⟨0, rfl, by omega, ⟨s, by simpa using h, BO.refl _ _⟩, Mod.refl _ _⟩, ?_⟩
  rintro x w2 ⟨i, rfl, hi, ⟨s2, h2, hb2⟩, hm2⟩
  have hr1 := hr10.mod hm2 fun x hx => hXn x (hr2 x hx)
  have hpn : parts.len = pl.length := by have := hr1.1; simp at this; omega
  refine condK_i (fun hc => ?_) (fun hc => ?_)
  · have hi' : i < pl.length := by simp at hc; omega
    obtain ⟨a, ha, hrd⟩ := rd_slc hr1 (i := i) (by omega)
    obtain ⟨hrs0, hrx⟩ := hr4 i (by omega) hi'
    have hrs := hrs0.mod hm2 fun x hx => hXn x (hrx x hx)
    obtain ⟨q, hq⟩ : ∃ q, q = ss[i]'(by omega) := ⟨_, rfl⟩
    rw [← hq] at hrd hrs hrx hrs0
    obtain ⟨c, hcd⟩ : ∃ c, c = pl[i] := ⟨_, rfl⟩
    rw [← hcd] at hrs hrs0
    obtain ⟨b', hbd⟩ : ∃ b', b' = b ++ (pl.take i).flatten := ⟨_, rfl⟩
    rw [← hbd] at h2
    have hb'n : b'.length + c.length ≤ 1000000000 := by
      have e1 : pl.flatten = (pl.take i).flatten ++ c ++ (pl.drop (i + 1)).flatten := by
        conv => lhs; rw [← List.take_append_drop (i + 1) pl]
        rw [List.flatten_append, take_snoc hi', List.flatten_append, hcd]
        simp
      have := congrArg List.length e1
      simp only [List.length_append] at this
      rw [hbd, List.length_append]; omega
    have hnx : b ++ (pl.take (i + 1)).flatten = b' ++ c := by rw [take_snoc hi', List.flatten_append, hbd, hcd]; simp
    have hcl := rd_len8 hrs
    have hqc := hrs.2.1
    rw [ha]
    have hst := st_len b'
    have hrl := rest_len b'
    refine ⟨⟨by omega, by omega⟩, q, hrd, UInt64.ofNat b'.length, h2.blk.rd1 (o := 9) (hw9 hst), ?_⟩
    have hmany : UInt64.ofNat b'.length + u64OfInt (q.len : Int) = UInt64.ofNat (b' ++ c).length := by
      rw [List.length_append, hcl]
      apply UInt64.toNat_inj.1
      have hu : (u64OfInt (q.len : Int)).toNat = q.len := by unfold u64OfInt; simp [UInt64.toNat_ofNat']; omega
      rw [UInt64.toNat_add, hu]
      simp [UInt64.toNat_ofNat']
    rw [hmany]
    refine semU_store1 (b := p) (o := 9) (by kernel_rfl) (by kernel_rfl) rfl h2.blk (by rw [hw_len hst]; omega) fun w3 ht3 hB3 => ?_
    rw [hw_set9 hst] at hB3
    have hm3 : Mod (fun x => x = p ∨ s.blk = some x) w1 w3 := hm2.tr (ht3.mod.mono fun _ _ e => .inl e)
    have ho3 : Sh.Own w3 s2 1 (bys (rest b')) := h2.own.mod ht3.mod fun x hx e => h2.ne (by rw [hx, e])
    have hrs3 : SlRd w3 q 1 (bys c) := hrs.mod ht3.mod fun x hx e => hXp (by rw [← e]; exact hrx x hx)
    have hol : (rest b').length = s2.len := by have := ho3.1; simpa using this
    -- the whole round's end
    have hend : ∀ (w' : World) (s' : Slc), HashAt w' p s' (b' ++ c) → BO w1 s s' → Mod (fun x => x = p ∨ s.blk = some x) w1 w' →
        ∃ i' : Nat, IntKind.i64.wrap ((i : Int) + (1 : Int)) = i' ∧ i' ≤ pl.length ∧ (∃ s', HashAt w' p s' (b ++ (pl.take i').flatten) ∧ BO w1 s s') ∧ Mod (fun x => x = p ∨ s.blk = some x) w1 w' := fun w' s' ha hb hm =>
      ⟨i + 1, wrap_nat (by omega), by omega, ⟨s', by rw [hnx]; exact ha, hb⟩, hm⟩
    have hmu : (pl.length - IntKind.i64.wrap ((i : Int) + (1 : Int))).toNat < ((pl.length : Int) - i).toNat := by rw [wrap_nat (by omega)]; omega
    refine ⟨fun l w' => match l with | [.sl q'] => Mid w1 w' p s X b' c (UInt64.ofNat (b' ++ c).length) q' | _ => False, ⟨s2, hB3.rd1 (o := 8) (hw8 hst), s2, hB3.rd1 (o := 8) (hw8 hst), ?_⟩, ?_⟩
    · refine condK_i (fun hl => ?_) (fun hl => ?_)
      · have hs2 : 0 < s2.len := by simpa using hl
        -- how many bytes go to the left part
        have e1 : IntKind.i64.wrap ((128 : Int) - (s2.len : Int)) = ((128 - s2.len : Nat) : Int) := by rw [wrap_i64 (by omega)]; omega
        rw [e1]
        obtain ⟨n0, hn0⟩ : ∃ n0, n0 = min (128 - s2.len) q.len := ⟨_, rfl⟩
        have e2 : (if (q.len : Int) < ((128 - s2.len : Nat) : Int) then (q.len : Int) else ((128 - s2.len : Nat) : Int)) = (n0 : Int) := by split <;> omega
        rw [e2]
        simp only [Int.toNat_natCast]
        have hcut := SlRd.cut (SlRd.drew hrs3) (l := 0) (n := n0) (m := q.cap) (by omega) (by omega) (by omega) (Nat.le_refl _)
        rw [Nat.sub_zero, bys_cut, List.drop_zero] at hcut
        refine ⟨fun w' => Blk w' p (HW (state KS H0 b') s2 (UInt64.ofNat (b' ++ c).length)) THash, hB3, ⟨by omega, by omega⟩, ⟨by omega, by omega⟩, s2, fun w' h => h.rd1 (o := 8) (hw8 hst), ?_, trivial⟩
        refine sem_append u26 h51 h52 h53 rfl h54 (w := w3.drew) ho3 hcut (bys_one _) (by simp only [cutSl]; omega) (by simp only [cutSl]; omega) fun s4 w4 ho4 hlen4 hblk4 hm4 => ⟨s4, rfl, ?_⟩
        rw [← bys_app] at ho4
        have hlen4' : s4.len = s2.len + n0 := by simpa [cutSl] using hlen4
        have hm3d : Mod (fun x => x = p ∨ s.blk = some x) w1 w3.drew := Mod.dr hm3
        have hm4' := hb2.mod hm3d hBs hm4
        have hb4 : BO w1 s s4 := hb2.step hm3d.size hblk4
        have hB4 : Blk w4 p (HW (state KS H0 b') s2 (UInt64.ofNat (b' ++ c).length)) THash := Blk.mod (w := w3.drew) hB3 hm4 h2.ne
        have hno4 := hb4.not hY hYl
        refine ⟨semU_store1 (b := p) (o := 8) (by kernel_rfl) (by kernel_rfl) rfl hB4 (by rw [hw_len hst]; omega) fun w5 ht5 hB5 => ?_, trivial⟩
        have hB5 : Blk w5 p (HW (state KS H0 b') s4 (UInt64.ofNat (b' ++ c).length)) THash := by rw [← hw_set8 hst s4]; exact hB5
        have ho5 : Sh.Own w5 s4 1 (bys (rest b' ++ c.take n0)) := ho4.mod ht5.mod fun x hx e => hno4 x hx (.inl e)
        have hm5 := hm4'.tr (ht5.mod.mono fun _ _ e => .inl e)
        refine ⟨s4, hB5.rd1 (o := 8) (hw8 hst), condK_i (fun h128 => ?_) (fun h128 => ?_)⟩
        · have h128' : s4.len < 128 := by simp at h128; omega
          have hn0c : n0 = c.length := by omega
          rw [hn0c, List.take_length] at ho5
          have hdiv : (rest b' ++ c).length / 128 = 0 := by rw [List.length_append]; omega
          have hs5 : state KS H0 (b' ++ c) = state KS H0 b' := by rw [state_app, hdiv]; rfl
          have hr5 : rest (b' ++ c) = rest b' ++ c := by rw [rest_app, hdiv]; simp
          exact ⟨hend w5 s4 ⟨by rw [hs5]; exact hB5, by rw [hr5]; exact ho5, fun e => hno4 p e (.inl rfl), h.pg, fun x hx e => hno4 x hx (.inr (.inl e))⟩ hb4 hm5, hmu⟩
        · have h128' : s4.len = 128 := by simp at h128; omega
          have hlb : (rest b' ++ c.take n0).length = 128 := by have := ho5.1; simp at this ⊢; omega
          have hg5 : Glob w5 := hg.mod hm5 hGn
          refine ⟨fun w' => Blk w' p (HW (state KS H0 b') s4 (UInt64.ofNat (b' ++ c).length)) THash, hB5, s4, fun w' h => h.rd1 (o := 8) (hw8 hst), ?_, trivial⟩
          have hcb := c_block (w := w5.drew) (p := p) (h := state KS H0 b') (T := THash) (r := [s4.val, .int .u64 (UInt64.ofNat (b' ++ c).length).toNat, .bool true]) hB5 hst (SlRd.drew ho5.rd) hlb hg5.drew h.pg
          refine callK_ret hcb ?_
          rintro v w6 ⟨rfl, hB6, hm6⟩
          have hB6 : Blk w6 p (HW (comp KS (state KS H0 b') (rest b' ++ c.take n0)) s4 (UInt64.ofNat (b' ++ c).length)) THash := hB6
          have hcl8 : (comp KS (state KS H0 b') (rest b' ++ c.take n0)).length = 8 := comp_len hst
          refine ⟨rfl, s4, hB6.rd1 (o := 8) (hw8 hcl8), ⟨by omega, by omega⟩, ?_⟩
          have ho6 : Sh.Own w6 s4 1 (bys (rest b' ++ c.take n0)) := Own.mod (w := w5.drew) ho5 hm6 fun x hx e => hno4 x hx (.inl e)
          have ho6c := ho6.cut (l := 0) (n := 0) (m := s4.cap) (by omega) (by omega) (by omega) (Nat.le_refl _)
          refine semU_store1 (b := p) (o := 8) (by kernel_rfl) (by kernel_rfl) rfl hB6 (by rw [hw_len hcl8]; omega) fun w7 ht7 hB7 => ?_
          have hB7 : Blk w7 p (HW (comp KS (state KS H0 b') (rest b' ++ c.take n0)) (cutSl s4 1 0 0 s4.cap) (UInt64.ofNat (b' ++ c).length)) THash := by rw [← hw_set8 hcl8 (cutSl s4 1 0 0 s4.cap)]; exact hB7
          have hno5 := (hb4.cut (k := 1) (l := 0) (n := 0) (m := s4.cap) (Nat.le_refl _)).not hY hYl
          have hm7 := ((Mod.dr hm5).tr (hm6.mono fun _ _ e => .inl e)).tr (ht7.mod.mono fun _ _ e => .inl e)
          have hrs5 : SlRd w7 q 1 (bys c) := hrs0.mod hm7 fun x hx => hXn x (hrx x hx)
          · have hcut7 := hrs5.cut (l := n0) (n := q.len) (m := q.cap) (by omega) (Nat.le_refl _) (by omega) (Nat.le_refl _)
            rw [bys_cut] at hcut7
            refine ⟨⟨cutSl s4 1 0 0 s4.cap, c.take n0, c.drop n0, (List.take_append_drop n0 c).symm, by omega, ?_, fun x hx => hrx x (blk_cut hx (Nat.le_refl _)), ?_, ?_, hb4.cut (Nat.le_refl _)⟩, hm7⟩
            · rw [List.take_of_length_le (by rw [List.length_drop]; omega)] at hcut7
              exact hcut7
            · have : (rest b' ++ c.take n0).length / 128 = 1 := by omega
              rw [this]
              have ha1 : absorb KS (state KS H0 b') (rest b' ++ c.take n0) 1 = comp KS (state KS H0 b') (rest b' ++ c.take n0) := by
                show comp KS (absorb KS (state KS H0 b') (rest b' ++ c.take n0) 0) _ = _
                simp only [absorb, Nat.mul_zero, List.drop_zero]
                rw [List.take_of_length_le (by omega)]
              rw [ha1]
              exact hB7
            · have := ho6c.mod ht7.mod fun x hx e => hno5 x hx (.inl e)
              simpa [bys] using this
      · have hs2 : s2.len = 0 := by simp at hl; omega
        have hr0 : rest b' = [] := List.eq_nil_of_length_eq_zero (by omega)
        rw [hr0] at ho3
        refine ⟨⟨s2, [], c, rfl, by rw [hr0]; rfl, hrs3, hrx, ?_, ho3, hb2⟩, hm3⟩
        rw [hr0]
        exact hB3
    · rintro q1 w8 hmid
      refine ⟨fun l w' => match l with | [.sl q'] => Mid w1 w' p s X b' c (UInt64.ofNat (b' ++ c).length) q' | _ => False, fun l _ => match l with | [.sl q'] => q'.len | _ => 0, hmid, ?_⟩
      rintro q2 w9 ⟨⟨s3, c1, c2, hcc, hmod, hrq, hqx, hB9, ho9, hb9⟩, hm9⟩
      have hal : (absorb KS (state KS H0 b') (rest b' ++ c1) ((rest b' ++ c1).length / 128)).length = 8 := absorb_len hst _
      have hc2 := rd_len8 hrq
      have hno9 := hb9.not hY hYl
      refine condK_i (fun hl => ?_) (fun hl => ?_)
      · have hq128 : 128 ≤ q2.len := by simp at hl; omega
        have hqc2 := hrq.2.1
        have hcut := SlRd.cut (SlRd.drew hrq) (l := 0) (n := 128) (m := q2.cap) (by omega) (by omega) (by omega) (Nat.le_refl _)
        rw [Nat.sub_zero, bys_cut, List.drop_zero] at hcut
        have hg9 : Glob w9 := hg.mod hm9 hGn
        refine ⟨⟨by omega, by omega⟩, ?_, trivial⟩
        refine callK_ret (c_block (w := w9.drew) (p := p) (h := absorb KS (state KS H0 b') (rest b' ++ c1) ((rest b' ++ c1).length / 128)) (T := THash) (r := [s3.val, .int .u64 (UInt64.ofNat (b' ++ c).length).toNat, .bool true]) hB9 hal hcut (by rw [List.length_take]; omega) hg9.drew h.pg) ?_
        rintro v w10 ⟨rfl, hB10, hm10⟩
        have hrq10 : SlRd w10 q2 1 (bys c2) := SlRd.mod (w := w9.drew) hrq hm10 fun x hx e => hXp (by rw [← e]; exact hqx x hx)
        have hcut2 := hrq10.cut (l := 128) (n := q2.len) (m := q2.cap) (by omega) (Nat.le_refl _) (by omega) (Nat.le_refl _)
        rw [bys_cut, List.take_of_length_le (by rw [List.length_drop]; omega)] at hcut2
        refine ⟨rfl, ⟨by omega, by omega⟩, ⟨⟨s3, c1 ++ c2.take 128, c2.drop 128, by rw [hcc, List.append_assoc, List.take_append_drop], ?_, hcut2, fun x hx => hqx x (blk_cut hx (Nat.le_refl _)), ?_, Own.mod (w := w9.drew) ho9 hm10 fun x hx e => hno9 x hx (.inl e), hb9⟩, (Mod.dr hm9).tr (hm10.mono fun _ _ e => .inl e)⟩, by simp only [cutSl]; omega⟩
        · rw [← List.append_assoc, List.length_append, List.length_take]; omega
        · have hl2 : (rest b' ++ (c1 ++ c2.take 128)).length / 128 = (rest b' ++ c1).length / 128 + 1 := by rw [← List.append_assoc, List.length_append, List.length_take]; omega
          rw [hl2, ← List.append_assoc]
          have e3 := absorb_add (ks := KS) (h := state KS H0 b') (a := rest b' ++ c1) (b := c2.take 128) (m := (rest b' ++ c1).length / 128) (by omega) 1
          rw [e3]
          have ha1 : ∀ st, absorb KS st (c2.take 128) 1 = comp KS st (c2.take 128) := fun st => by
            show comp KS (absorb KS st (c2.take 128) 0) _ = _
            simp only [absorb, Nat.mul_zero, List.drop_zero, List.take_take, Nat.min_self]
          rw [ha1]
          exact hB10
      · have hq128 : q2.len < 128 := by simp at hl; omega
        refine ⟨s3, hB9.rd1 (o := 8) (hw8 hal), ?_⟩
        have hs3 : s3.len = 0 := by have := ho9.1; simp [bys] at this; omega
        refine sem_append u26 h51 h52 h53 rfl h54 ho9 hrq (bys_one _) (by omega) (by omega) fun s4 w10 ho10 hlen10 hblk10 hm10 => ⟨s4, rfl, ?_⟩
        rw [← bys_app, List.nil_append] at ho10
        have hm10' := hb9.mod hm9 hBs hm10
        have hb10 : BO w1 s s4 := hb9.step hm9.size hblk10
        have hno10 := hb10.not hY hYl
        have hB10 := hB9.mod hm10 fun e => hno9 p e (.inl rfl)
        refine semU_store1 (b := p) (o := 8) (by kernel_rfl) (by kernel_rfl) rfl hB10 (by rw [hw_len hal]; omega) fun w11 ht11 hB11 => ⟨hend w11 s4 ⟨?_, ?_, fun e => hno10 p e (.inl rfl), h.pg, fun x hx e => hno10 x hx (.inr (.inl e))⟩ hb10 (hm10'.tr (ht11.mod.mono fun _ _ e => .inl e)), hmu⟩
        · have hdiv : (rest b' ++ c).length / 128 = (rest b' ++ c1).length / 128 := by rw [hcc, ← List.append_assoc, List.length_append]; omega
          have : state KS H0 (b' ++ c) = absorb KS (state KS H0 b') (rest b' ++ c1) ((rest b' ++ c1).length / 128) := by
            rw [state_app, hdiv]
            conv => lhs; rw [hcc, ← List.append_assoc]
            exact absorb_eq _ (by omega)
          rw [this, ← hw_set8 hal s4]
          exact hB11
        · have hdiv : (rest b' ++ c).length / 128 = (rest b' ++ c1).length / 128 := by rw [hcc, ← List.append_assoc, List.length_append]; omega
          have : rest (b' ++ c) = c2 := by
            rw [rest_app, hdiv, hcc, ← List.append_assoc, List.drop_append, List.drop_eq_nil_of_le (by omega), List.nil_append]
            have : 128 * ((rest b' ++ c1).length / 128) - (rest b' ++ c1).length = 0 := by omega
            rw [this, List.drop_zero]
          rw [this]
          exact ho10.mod ht11.mod fun x hx e => hno10 x hx (.inl e)
  · have hi' : i = pl.length := by simp at hc; omega
    subst hi'
    rw [List.take_length] at h2
    exact ⟨rfl, s2, h2, hb2, hm2⟩
end Go.Proofs.YtbbfcamopdckmaaDoor
