/- Scalars: the ring's laws, the bits' sum, the halves. -/
import Derived.Test.YtknbihogadcnpaaS33
set_option linter.unusedSimpArgs false
set_option linter.unusedVariables false
set_option maxRecDepth 100000
namespace Go.Proofs.Ytknbihogadcnpaa
open Go Go.Sh

theorem mulT_32 {a b c : List UInt8} (ha : a.length = 32) (hb : b.length = 32) (hc : c.length = 32) : mulT a b c = redN (le a * le b + le c) := by rw [mulT, if_pos ⟨ha, hb, hc⟩]
theorem redN_eq {u v : Nat} (h : u % LO = v % LO) : redN u = redN v := by unfold redN; rw [h]
theorem redT_redN (v : Nat) : redT (redN v) = redN v := by
  rw [redT, if_neg (by simp), le_redN, redN_mod]
theorem redN_zero : redN 0 = oneB 0 := by decide +kernel
theorem redT_small {l : List UInt8} (h : l.length ≤ 64) : redT l = redN (le l) := by rw [redT, if_neg (by omega)]
section
variable {w : World} {a b : Slc} {u v : Nat}
theorem c_sumS (ha : SlRd w a 1 (bys (redN u))) (hal : ∀ x, a.blk = some x → x < w.heap.size) (hb : SlRd w b 1 (bys (redN v))) (hbl : ∀ x, b.blk = some x → x < w.heap.size) :
    Calls Try.prog 8 #[.slice a.a a.len a.cap, .slice b.a b.len b.cap] w (Ret (NewB w (redN (u + v)))) := by
  refine call8 _ _ ?_
  unfold sh8
  refine callK_ret c_one ?_
  rintro v' w1 ⟨x, rfl, hox, -, hfx, hm1⟩
  refine ⟨x, rfl, callK_ret (c_mulN hox.rd (own_lt hox) (ha.no hm1) (fun y hy => Nat.lt_of_lt_of_le (hal y hy) hm1.size) (hb.no hm1) (fun y hy => Nat.lt_of_lt_of_le (hbl y hy) hm1.size)) ?_⟩
  rintro v' w2 ⟨y, rfl, hoy, hyc, hfy, hm2⟩
  refine ⟨y, rfl, y, rfl, ?_, hyc, hfy.le hm1.size, hm1.tr hm2⟩
  rw [mulT_32 (oneB_len 1) (redN_len u) (redN_len v), le_oneB, le_redN, le_redN] at hoy
  rw [show redN (u + v) = redN ((1 : UInt8).toNat * (u % LO) + v % LO) from redN_eq (by show _ = (1 * (u % LO) + v % LO) % LO; rw [Nat.one_mul, ← Nat.add_mod])]
  exact hoy
theorem c_prodS (ha : SlRd w a 1 (bys (redN u))) (hal : ∀ x, a.blk = some x → x < w.heap.size) {lb : List UInt8} (hlb : lb.length = 32) (hb : SlRd w b 1 (bys lb)) (hbl : ∀ x, b.blk = some x → x < w.heap.size) :
    Calls Try.prog 9 #[.slice a.a a.len a.cap, .slice b.a b.len b.cap] w (Ret (NewB w (redN (u * le lb)))) := by
  refine call9 _ _ ?_
  unfold sh9
  refine callK_ret c_one ?_
  rintro v' w1 ⟨x, rfl, hox, -, hfx, hm1⟩
  refine ⟨x, rfl, callK_ret (c_mulN (ha.no hm1) (fun y hy => Nat.lt_of_lt_of_le (hal y hy) hm1.size) (hb.no hm1) (fun y hy => Nat.lt_of_lt_of_le (hbl y hy) hm1.size) hox.rd (own_lt hox)) ?_⟩
  rintro v' w2 ⟨y, rfl, hoy, hyc, hfy, hm2⟩
  refine ⟨y, rfl, y, rfl, ?_, hyc, hfy.le hm1.size, hm1.tr hm2⟩
  rw [mulT_32 (redN_len u) hlb (oneB_len 0), le_oneB, le_redN] at hoy
  rw [show redN (u * le lb) = redN ((u % LO) * le lb + (0 : UInt8).toNat) from redN_eq (by show _ = ((u % LO) * le lb + 0) % LO; rw [Nat.add_zero, Nat.mod_mul_mod])]
  exact hoy
theorem c_prodN (ha : SlRd w a 1 (bys (redN u))) (hal : ∀ x, a.blk = some x → x < w.heap.size) (hb : SlRd w b 1 (bys (redN v))) (hbl : ∀ x, b.blk = some x → x < w.heap.size) :
    Calls Try.prog 9 #[.slice a.a a.len a.cap, .slice b.a b.len b.cap] w (Ret (NewB w (redN (u * v)))) := by
  have := c_prodS ha hal (redN_len v) hb hbl
  rw [le_redN, show redN (u * (v % LO)) = redN (u * v) from redN_eq (by rw [Nat.mul_mod_mod])] at this
  exact this
/-- two that stand for the same -/
theorem c_sameN {x y : Slc} {m n : Nat} (hx : SlRd w x 1 (bys (redN m))) (hy : SlRd w y 1 (bys (redN n))) (h : m % LO = n % LO) :
    Calls Try.prog 12 #[.slice x.a x.len x.cap, .slice y.a y.len y.cap] w (Ret fun v w' => v = .bool true ∧ Mod NoB w w') := by
  have := c_same hx hy (by simp)
  rw [redN_eq h] at this
  simpa using this
end

/-- the law: the bits of a scalar -/
theorem law_bits {W : World} {b : Slc} {l : List UInt8} (hb : SlRd W b 1 (bys l)) (hbl : ∀ x, b.blk = some x → x < W.heap.size) :
    Calls Try.prog 4 #[.slice b.a b.len b.cap] W (Ret fun v w' => v = .bool true ∧ Mod NoB W w') := by
  refine call4 _ ?_
  unfold sh4
  have hn := rd_len8 hb
  refine callK_ret c_awake03 ?_
  rintro v w1 ⟨rfl, hm1⟩
  refine ⟨_, rfl, condK_i (fun e => by cases e) fun _ => ?_⟩
  have hlt : ∀ {w'}, Mod NoB W w' → ∀ x, b.blk = some x → x < w'.heap.size := fun hm x hx => Nat.lt_of_lt_of_le (hbl x hx) hm.size
  refine callK_ret (c_bitsS (hb.no hm1) (hlt hm1)) ?_
  rintro v w2 ⟨y, rfl, hoy, hfy, hm2⟩
  have hM2 := hm1.tr hm2
  have hyl := rd_lenB hoy.rd
  refine ⟨y, rfl, condK_i (fun h => ⟨?_, hM2⟩) fun h => ?_⟩
  · have : ¬ l.length = 32 := by simp at h; omega
    rw [bitsT, if_neg this] at hyl
    simp at hyl; simp [← hyl]
  have h32 : l.length = 32 := by simp at h; omega
  have hbt : bitsT l = (List.range 256).map (bitOf l) := by rw [bitsT, if_pos h32]
  have hyl : y.len = 256 := by rw [hbt] at hyl; simp at hyl; omega
  refine callK_ret c_one ?_
  rintro v w3 ⟨x2, rfl, ho3, -, hf3, hm3⟩
  have hM3 := hM2.tr hm3
  refine ⟨x2, rfl, fun l' w' => match l' with | [.sl q, .i _ i] => ∃ k : Nat, i = (k : Int) - 1 ∧ k ≤ 256 ∧ SlRd w' q 1 (bys (redN (le l / 2 ^ k))) ∧ (∀ x, q.blk = some x → x < w'.heap.size) ∧ Mod NoB w3 w' | _ => False, fun l' _ => match l' with | [.sl q, .i _ i] => (i + 1).toNat | _ => 0,
    ⟨256, by rw [hyl, wrap_i64 (by omega)], by omega, ?_, own_lt ho3, Mod.refl _ _⟩, ?_⟩
  · have h0 : le l / 2 ^ 256 = 0 := by
      have := le_lt l
      rw [h32] at this
      exact Nat.div_eq_of_lt (by rw [show (2 : Nat) ^ 256 = 256 ^ 32 from by decide +kernel]; exact this)
    rw [h0, redN_zero]; exact ho3.rd
  rintro q i w4 ⟨k, rfl, hk, hq4, hql4, hm4⟩
  have hM4 := hM3.tr hm4
  refine condK_i (fun hge => ?_) fun hlt' => ?_
  · have hk0 : 0 < k := by simp at hge; omega
    refine callK_ret c_one ?_
    rintro v w5 ⟨x3, rfl, ho5, -, hf5, hm5⟩
    have hM5 := hm4.tr hm5
    have hy5 := (hoy.rd.no hm3).no hM5
    have e1 : ((k : Int) - 1).toNat = k - 1 := by omega
    rw [e1]
    obtain ⟨a, ea, hra⟩ := rd_bool hy5 (i := k - 1) (by rw [hbt]; simp; omega)
    have hbit : (bitsT l)[k - 1]'(by rw [hbt]; simp; omega) = bitOf l (k - 1) := by simp [hbt]
    rw [hbit] at hra
    rw [ea]
    refine ⟨x3, rfl, fun l' w' => match l' with | [.sl z] => Sh.SlRd w' z 1 (bys (oneB (if bitOf l (k - 1) then 1 else 0))) ∧ (∀ x, z.blk = some x → x < w'.heap.size) ∧ Mod NoB w5 w' | _ => False, ⟨⟨by omega, by omega⟩, bitOf l (k - 1), hra, condK_i (fun hbt' => ?_) fun hbf => ?_⟩, ?_⟩
    · refine callK_ret c_one ?_
      rintro v w6 ⟨x5, rfl, ho6, -, hf6, hm6⟩
      refine ⟨x5, rfl, ?_, own_lt ho6, hm6⟩
      rw [hbt']; exact ho6.rd
    · refine ⟨?_, own_lt ho5, Mod.refl _ _⟩
      rw [hbf]; exact ho5.rd
    rintro z w7 ⟨hz7, hzl7, hm7⟩
    refine callK_ret c_one ?_
    rintro v w8 ⟨x6, rfl, ho8, -, hf8, hm8⟩
    have hM8 := (hm5.tr hm7).tr hm8
    refine ⟨x6, rfl, callK_ret (c_mulN (hq4.no hM8) (fun x hx => Nat.lt_of_lt_of_le (hql4 x hx) hM8.size) ho8.rd (own_lt ho8) (hz7.no hm8) (fun x hx => Nat.lt_of_lt_of_le (hzl7 x hx) hm8.size)) ?_⟩
    rintro v w9 ⟨x7, rfl, ho9, -, hf9, hm9⟩
    refine ⟨x7, rfl, ⟨k - 1, by rw [wrap_i64 (by omega)]; omega, by omega, ?_, own_lt ho9, (hm4.tr hM8).tr hm9⟩, ?_⟩
    · rw [mulT_32 (redN_len _) (oneB_len 2) (oneB_len _), le_oneB, le_oneB, le_redN] at ho9
      have e2 : redN (le l / 2 ^ (k - 1)) = redN (le l / 2 ^ k % LO * (2 : UInt8).toNat + (if bitOf l (k - 1) = true then (1 : UInt8) else 0).toNat) := by
        refine redN_eq ?_
        have e3 : (if bitOf l (k - 1) = true then (1 : UInt8) else 0).toNat = le l / 2 ^ (k - 1) % 2 := by
          rw [bitOf_le]
          by_cases hc : le l / 2 ^ (k - 1) % 2 = 1
          · rw [if_pos (by simpa using hc), hc]; rfl
          · rw [if_neg (by simpa using hc)]; show 0 = _; omega
        have e4 : le l / 2 ^ k = le l / 2 ^ (k - 1) / 2 := by
          rw [Nat.div_div_eq_div_mul, ← Nat.pow_succ]
          show _ = le l / 2 ^ (k - 1 + 1)
          rw [Nat.sub_add_cancel hk0]
        rw [e3, e4]
        show _ = (le l / 2 ^ (k - 1) / 2 % LO * 2 + le l / 2 ^ (k - 1) % 2) % LO
        generalize le l / 2 ^ (k - 1) = y
        rw [Nat.add_mod, Nat.mod_mul_mod, ← Nat.add_mod]
        congr 1; omega
      rw [e2]; exact ho9.rd
    · rw [wrap_i64 (by omega)]; (try simp only []); omega
  · have hk0 : k = 0 := by simp at hlt'; omega
    subst hk0
    rw [Nat.pow_zero, Nat.div_one] at hq4
    refine condK_i (fun _ => ?_) fun h => by simp [hyl] at h
    refine callK_ret (c_redNB (hb.no hM4) (hlt hM4)) ?_
    rintro v w10 ⟨x8, rfl, ho10, -, hf10, hm10⟩
    rw [redT_small (by omega)] at ho10
    refine ⟨x8, rfl, callK_ret (c_sameN (hq4.no hm10) ho10.rd rfl) ?_⟩
    rintro v w11 ⟨rfl, hm11⟩
    exact ⟨_, rfl, rfl, (hM4.tr hm10).tr hm11⟩

/-- the law: the halves -/
theorem law_halves {W : World} {b : Slc} {l : List UInt8} {cut : Int} (hb : SlRd W b 1 (bys l)) (hbl : ∀ x, b.blk = some x → x < W.heap.size) :
    Calls Try.prog 5 #[.slice b.a b.len b.cap, .int .i64 cut] W (Ret fun v w' => v = .bool true ∧ Mod NoB W w') := by
  refine call5 _ _ ?_
  unfold sh5
  obtain ⟨i5', h51, h52, h53, h54⟩ := i5
  have hn := rd_len8 hb
  have hcap := hb.2.1
  refine callK_ret c_awake03 ?_
  rintro v w1 ⟨rfl, hm1⟩
  refine ⟨_, rfl, condK_i (fun e => by cases e) fun _ => ?_⟩
  refine condK_i (fun _ => ⟨rfl, hm1⟩) fun h => ?_
  have hn64 : b.len ≤ 64 := by simp at h; omega
  rw [wrap_nat (by omega)]
  refine callK_ret (c_pick (by omega) (by omega)) ?_
  rintro v w2 ⟨k, rfl, hk, rfl⟩
  have e0 : (if (63 : Int) < (k : Int) then (63 : Int) else k) = ((min k 63 : Nat) : Int) := by split <;> omega
  refine ⟨_, rfl, ?_⟩
  rw [e0]
  refine sem_makeSlice (l := min k 63) (c := min k 63) u26 h51 h52 h53 rfl h54 rfl rfl (by omega) (by omega) (by omega) fun e w3 hN3 hbe hoe => ⟨⟨_, _, _⟩, rfl, ?_⟩
  rw [bys_rep] at hoe
  have hat := hN3.at_
  refine sem_byte (w0 := w2) (s := ⟨some ⟨e, 0, none⟩, min k 63, min k 63⟩) (c := 1) hoe (FB.new (by omega)) hN3.mod (by simp; omega) fun p w5 hop hfp hm5 hpl => ?_
  have hM5 := hm1.tr hm5
  refine condK_i (fun _ => ⟨rfl, hM5⟩) fun hk63 => ?_
  have hk63 : k ≤ 63 := by simp at hk63; omega
  have emin : min k 63 = k := by omega
  rw [emin] at hop
  have hlt : ∀ {w'}, Mod NoB W w' → ∀ x, b.blk = some x → x < w'.heap.size := fun hm x hx => Nat.lt_of_lt_of_le (hbl x hx) hm.size
  refine ⟨⟨by omega, by omega⟩, ⟨by omega, by omega⟩, ?_, trivial⟩
  simp only [Int.toNat_natCast]
  have cuts : ∀ {w' : World}, Mod NoB W w' → ∀ {i j : Nat}, i ≤ j → j ≤ b.len → SlRd w' (cutSl b 1 i j b.cap) 1 (bys ((l.drop i).take (j - i))) ∧ ∀ x, (cutSl b 1 i j b.cap).blk = some x → x < w'.heap.size := fun hm i j h1 h2 =>
    cut_row (hb.no hm) (hlt hm) h1 h2
  have hD5 := hM5.dr
  refine callK_ret (c_redNB (hb.no hD5) (hlt hD5)) ?_
  rintro v w6 ⟨x5, rfl, ho6, -, hf6, hm6⟩
  have hM6 := hD5.tr hm6
  refine ⟨x5, rfl, ?_, trivial⟩
  have c1 := cuts hM6 (i := k) (j := b.len) (by omega) (by omega)
  refine callK_ret (c_redNB c1.1 c1.2) ?_
  rintro v w7 ⟨x6, rfl, ho7, -, hf7, hm7⟩
  refine ⟨x6, rfl, ?_, trivial⟩
  have hop7 := ((hop.no (Mod.drew NoB w5)).no hm6).no hm7
  refine callK_ret (c_redNB hop7.rd (own_lt hop7)) ?_
  rintro v w8 ⟨x7, rfl, ho8, -, hf8, hm8⟩
  refine ⟨x7, rfl, ?_, trivial⟩
  have hM8 := (hM6.tr hm7).tr hm8
  have c2 := cuts hM8 (i := 0) (j := k) (by omega) (by omega)
  refine callK_ret (c_redNB c2.1 c2.2) ?_
  rintro v w9 ⟨x8, rfl, ho9, -, hf9, hm9⟩
  refine ⟨x8, rfl, ?_, trivial⟩
  rw [redT_small (by simp; omega)] at ho7 ho8 ho9
  rw [redT_small (by omega)] at ho6
  have g7 := (ho7.no hm8).no hm9; have g8 := ho8.no hm9
  refine callK_ret (c_mulN g7.rd (own_lt g7) g8.rd (own_lt g8) ho9.rd (own_lt ho9)) ?_
  rintro v w10 ⟨x9, rfl, ho10, -, hf10, hm10⟩
  refine ⟨x9, rfl, ?_, trivial⟩
  rw [mulT_32 (redN_len _) (redN_len _) (redN_len _), le_redN, le_redN, le_redN] at ho10
  have g6 := (((ho6.no hm7).no hm8).no hm9).no hm10
  refine callK_ret (c_sameN g6.rd ho10.rd ?_) ?_
  · rw [le_append, le_zeros, List.length_replicate, List.drop_zero]
    have e1 : (l.drop k).take (b.len - k) = l.drop k := List.take_of_length_le (by simp; omega)
    have e2 : l.take (k - 0) = l.take k := rfl
    rw [e1, e2]
    have e3 : le l = le (l.take k) + 256 ^ k * le (l.drop k) := by
      conv => lhs; rw [← List.take_append_drop k l]
      rw [le_append, List.length_take, Nat.min_eq_left (by omega)]
    have e4 : le [1] = 1 := rfl
    have e5 : ∀ x y z : Nat, (x % LO * (y % LO) + z % LO) % LO = (x * y + z) % LO := fun x y z => by rw [Nat.add_mod, ← Nat.mul_mod, Nat.mod_mod, ← Nat.add_mod]
    rw [e4, Nat.zero_add, Nat.mul_one, e5, e3, Nat.mul_comm (le (l.drop k)), Nat.add_comm]
  · rintro v w11 ⟨rfl, hm11⟩
    exact ⟨_, rfl, rfl, ((hM8.tr hm9).tr hm10).tr hm11⟩
end Go.Proofs.Ytknbihogadcnpaa
