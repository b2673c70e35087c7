/- A product and a sum, byte by byte; bits of a number. No program in sight. -/
import Derived.Test.YtknbihogadcnpaaGreatM3
set_option linter.unusedSimpArgs false
set_option linter.unusedVariables false
set_option maxRecDepth 100000
namespace Go.Sh
open Go

theorem le_take_succ {l : List UInt8} {k : Nat} (h : k < l.length) : le (l.take (k + 1)) = le (l.take k) + 256 ^ k * l[k].toNat := by
  rw [List.take_succ_eq_append_getElem h, le_append, List.length_take, Nat.min_eq_left (by omega)]
  simp [le]
theorem val256_take_succ {l : List UInt64} {k : Nat} (h : k < l.length) : val256 (l.take (k + 1)) = val256 (l.take k) + 256 ^ k * l[k].toNat := by
  rw [List.take_succ_eq_append_getElem h, val256_append, List.length_take, Nat.min_eq_left (by omega)]
  simp [val256]
/-- a word that grows -/
theorem val256_add {t : List UInt64} {k d : Nat} {x : UInt64} (h : k < t.length) (hx : x.toNat = (t.getD k 0).toNat + d) : val256 (t.set k x) = val256 t + 256 ^ k * d := by
  have := val256_set t k x h
  rw [hx, Nat.mul_add] at this
  omega
theorem u64_add_small {x : UInt64} {y : UInt64} (h : x.toNat + y.toNat < 18446744073709551616) : (x + y).toNat = x.toNat + y.toNat := by
  rw [UInt64.toNat_add]; exact Nat.mod_eq_of_lt h
theorem u8_mul (x y : UInt8) : (x.toUInt64 * y.toUInt64).toNat = x.toNat * y.toNat := by
  have hx := x.toNat_lt; have hy := y.toNat_lt
  have : x.toNat * y.toNat ≤ 255 * 255 := Nat.mul_le_mul (by omega) (by omega)
  rw [UInt64.toNat_mul]
  simp only [UInt8.toNat_toUInt64]
  exact Nat.mod_eq_of_lt (by omega)
/-- what the words come to while they are laid -/
structure Words (t : List UInt64) (i k : Nat) (la lb lc : List UInt8) : Prop where
  len : t.length = 66
  val : val256 t = le (lc.take i) + le (la.take i) * le lb + 256 ^ i * ((lc.getD i 0).toNat + (la.getD i 0).toNat * le (lb.take k))
  bound : ∀ j, (t.getD j 0).toNat ≤ if j < i + k then (i + 1) * 65280 else i * 65280 + 255
structure Words0 (t : List UInt64) (i : Nat) (la lb lc : List UInt8) : Prop where
  len : t.length = 66
  val : val256 t = le (lc.take i) + le (la.take i) * le lb
  bound : ∀ j, (t.getD j 0).toNat ≤ i * 65280
theorem getD_zeros (n j : Nat) : (List.replicate n (0 : UInt64)).getD j 0 = 0 := by
  rw [List.getD, List.getElem?_replicate]; split <;> rfl
theorem words0_start (la lb lc : List UInt8) : Words0 (List.replicate 66 0) 0 la lb lc :=
  ⟨by simp, by rw [val256_zeros]; simp [le], fun j => by rw [getD_zeros]; exact Nat.zero_le _⟩
theorem getD_set_same {t : List UInt64} {k : Nat} {x : UInt64} (h : k < t.length) : (t.set k x).getD k 0 = x := by simp [List.getD, h]
theorem getD_set_other {t : List UInt64} {k j : Nat} {x : UInt64} (h : k ≠ j) : (t.set k x).getD j 0 = t.getD j 0 := by simp [List.getD, List.getElem?_set_ne h]
/-- the third one's byte -/
theorem words_c {t : List UInt64} {i : Nat} {la lb lc : List UInt8} (h : Words0 t i la lb lc) (hi : i < 32) : Words (t.set i (t.getD i 0 + (lc.getD i 0).toUInt64)) i 0 la lb lc := by
  have hb := h.bound i
  have hc := (lc.getD i 0).toNat_lt
  have hx : (t.getD i 0 + (lc.getD i 0).toUInt64).toNat = (t.getD i 0).toNat + (lc.getD i 0).toNat := by
    rw [u64_add_small (by simp only [UInt8.toNat_toUInt64]; omega), UInt8.toNat_toUInt64]
  have hlen := h.len
  refine ⟨by rw [List.length_set]; exact hlen, ?_, fun j => ?_⟩
  · rw [val256_add (by omega) hx, h.val, List.take_zero]; simp only [le, Nat.mul_zero, Nat.add_zero]
  · by_cases hj : i = j
    · subst hj
      rw [getD_set_same (by omega), hx, if_neg (by omega)]; omega
    · rw [getD_set_other hj]
      have := h.bound j
      split
      · exact Nat.le_trans this (Nat.mul_le_mul_right _ (Nat.le_succ i))
      · exact Nat.le_trans this (Nat.le_add_right _ _)
/-- a product's byte -/
theorem words_ab {t : List UInt64} {i k : Nat} {la lb lc : List UInt8} (h : Words t i k la lb lc) (hi : i < 32) (hk : k < 32) (hlb : lb.length = 32) :
    Words (t.set (i + k) (t.getD (i + k) 0 + (la.getD i 0).toUInt64 * (lb.getD k 0).toUInt64)) i (k + 1) la lb lc := by
  have hb := h.bound (i + k)
  rw [if_neg (by omega)] at hb
  have hm : (la.getD i 0).toNat * (lb.getD k 0).toNat ≤ 255 * 255 := Nat.mul_le_mul (by have := (la.getD i 0).toNat_lt; omega) (by have := (lb.getD k 0).toNat_lt; omega)
  have hx : (t.getD (i + k) 0 + (la.getD i 0).toUInt64 * (lb.getD k 0).toUInt64).toNat = (t.getD (i + k) 0).toNat + (la.getD i 0).toNat * (lb.getD k 0).toNat := by
    rw [u64_add_small (by rw [u8_mul]; omega), u8_mul]
  have hlen := h.len
  refine ⟨by rw [List.length_set]; exact hlen, ?_, fun j => ?_⟩
  · rw [val256_add (by omega) hx, h.val, le_take_succ (by omega)]
    have e : lb[k]'(by omega) = lb.getD k 0 := by rw [List.getD, List.getElem?_eq_getElem (by omega)]; rfl
    rw [e, Nat.pow_add, Nat.mul_add, Nat.mul_add, Nat.mul_add]
    have e2 : 256 ^ i * 256 ^ k * ((la.getD i 0).toNat * (lb.getD k 0).toNat) = 256 ^ i * ((la.getD i 0).toNat * (256 ^ k * (lb.getD k 0).toNat)) := by
      rw [Nat.mul_assoc]; congr 1; rw [← Nat.mul_assoc, Nat.mul_comm (256 ^ k), Nat.mul_assoc]
    rw [e2, Nat.mul_add]
    omega
  · by_cases hj : i + k = j
    · subst hj
      rw [getD_set_same (by omega), hx, if_pos (by omega)]; omega
    · rw [getD_set_other hj]
      have := h.bound j
      by_cases h1 : j < i + k
      · rw [if_pos h1] at this; rw [if_pos (by omega)]; exact this
      · rw [if_neg h1] at this; rw [if_neg (by omega)]; exact this
theorem words_row {t : List UInt64} {i : Nat} {la lb lc : List UInt8} (h : Words t i 32 la lb lc) (hi : i < 32) (hla : la.length = 32) (hlb : lb.length = 32) (hlc : lc.length = 32) : Words0 t (i + 1) la lb lc := by
  refine ⟨h.len, ?_, fun j => ?_⟩
  · have e1 : la[i]'(by omega) = la.getD i 0 := by rw [List.getD, List.getElem?_eq_getElem (by omega)]; rfl
    have e2 : lc[i]'(by omega) = lc.getD i 0 := by rw [List.getD, List.getElem?_eq_getElem (by omega)]; rfl
    rw [h.val, le_take_succ (l := lc) (k := i) (by omega), le_take_succ (l := la) (k := i) (by omega), e1, e2, List.take_of_length_le (l := lb) (by omega), Nat.add_mul, Nat.mul_add, Nat.mul_assoc]
    omega
  · have := h.bound j
    split at this <;> omega
/-- the bytes told, and what is carried -/
theorem carry_step {t : List UInt64} {k : Nat} {ob : List UInt8} {c : UInt64} (hk : k < t.length) (ho : ob.length = k) (hv : le ob + 256 ^ k * c.toNat = val256 (t.take k)) (hc : c.toNat ≤ 4194304) (hb : (t.getD k 0).toNat ≤ 4194304) :
    le (ob ++ [(c + t.getD k 0).toUInt8]) + 256 ^ (k + 1) * (shrU64 (c + t.getD k 0) 8).toNat = val256 (t.take (k + 1)) ∧ (shrU64 (c + t.getD k 0) 8).toNat ≤ 4194304 := by
  have e1 : (c + t.getD k 0).toNat = c.toNat + (t.getD k 0).toNat := u64_add_small (by omega)
  have e2 : (shrU64 (c + t.getD k 0) 8).toNat = (c.toNat + (t.getD k 0).toNat) / 256 := by
    have : shrU64 (c + t.getD k 0) 8 = (c + t.getD k 0) >>> 8 := rfl
    rw [this, UInt64.toNat_shiftRight, e1, Nat.shiftRight_eq_div_pow]; rfl
  have e3 : (c + t.getD k 0).toUInt8.toNat = (c.toNat + (t.getD k 0).toNat) % 256 := by rw [UInt64.toNat_toUInt8, e1]
  have e4 : t[k] = t.getD k 0 := by rw [List.getD, List.getElem?_eq_getElem hk]; rfl
  refine ⟨?_, by omega⟩
  rw [le_append, val256_take_succ hk, e4, ho, ← hv, e2]
  simp only [le, e3, Nat.mul_zero, Nat.add_zero, Nat.pow_succ, Nat.mul_assoc]
  have h := Nat.mod_add_div (c.toNat + (t.getD k 0).toNat) 256
  have h2 := congrArg (256 ^ k * ·) h
  simp only [Nat.mul_add] at h2
  omega
theorem carry_end {t : List UInt64} {ob : List UInt8} {c : UInt64} {la lb lc : List UInt8} (h : Words0 t 32 la lb lc) (hla : la.length = 32) (hlb : lb.length = 32) (hlc : lc.length = 32) (ho : ob.length = 66) (hv : le ob + 256 ^ 66 * c.toNat = val256 t) : le ob = le la * le lb + le lc := by
  have h1 := h.val
  rw [List.take_of_length_le (by omega), List.take_of_length_le (by omega)] at h1
  have a1 := le_lt la; have a2 := le_lt lb; have a3 := le_lt lc
  rw [hla] at a1; rw [hlb] at a2; rw [hlc] at a3
  have h2 : le la * le lb < 256 ^ 32 * 256 ^ 32 := Nat.mul_lt_mul'' a1 a2
  have h3 : (256 : Nat) ^ 66 = 65536 * (256 ^ 32 * 256 ^ 32) := by decide +kernel
  have h4 : (256 : Nat) ^ 32 ≤ 256 ^ 32 * 256 ^ 32 := by decide +kernel
  rw [h3] at hv
  generalize (256 : Nat) ^ 32 * 256 ^ 32 = Q at *
  rcases Nat.eq_zero_or_pos c.toNat with e | e
  · rw [e] at hv; omega
  · have h5 : 65536 * Q ≤ 65536 * Q * c.toNat := Nat.le_mul_of_pos_right _ e
    omega

/-! bits -/
def bitOf (l : List UInt8) (i : Nat) : Bool := (shrU8 (l.getD (i / 8) 0) (i % 8) &&& 1) == 1
def bitsT (l : List UInt8) : List Bool := if l.length = 32 then (List.range 256).map (bitOf l) else []
/-- the sum and product told -/
def mulT (a b c : List UInt8) : List UInt8 := if a.length = 32 ∧ b.length = 32 ∧ c.length = 32 then redN (le a * le b + le c) else []
theorem le_byte : ∀ (l : List UInt8) (i : Nat), le l / 256 ^ i % 256 = (l.getD i 0).toNat
  | [], i => by simp [le]
  | x :: l, 0 => by have := x.toNat_lt; simp [le]
  | x :: l, i + 1 => by
    have := le_byte l i
    have hx := x.toNat_lt
    rw [Nat.pow_succ, Nat.mul_comm (256 ^ i), ← Nat.div_div_eq_div_mul]
    have e : le (x :: l) / 256 = le l := by simp only [le]; omega
    rw [e, this]
    simp [List.getD]
theorem bitOf_le (l : List UInt8) (i : Nat) : bitOf l i = decide (le l / 2 ^ i % 2 = 1) := by
  have h1 := le_byte l (i / 8)
  have e0 : (2 : Nat) ^ i = 256 ^ (i / 8) * 2 ^ (i % 8) := by
    rw [show (256 : Nat) = 2 ^ 8 from rfl, ← Nat.pow_mul, ← Nat.pow_add]; congr 1; omega
  rw [e0, ← Nat.div_div_eq_div_mul]
  generalize le l / 256 ^ (i / 8) = v at h1
  unfold bitOf
  generalize l.getD (i / 8) 0 = x at h1
  have hj : i % 8 < 8 := Nat.mod_lt _ (by omega)
  generalize i % 8 = j at hj
  have e1 : (shrU8 x j &&& 1).toNat = x.toNat / 2 ^ j % 2 := by
    have : shrU8 x j = x >>> UInt8.ofNat j := by unfold shrU8; rw [if_pos hj]
    rw [this, UInt8.toNat_and, UInt8.toNat_shiftRight, Nat.shiftRight_eq_div_pow]
    have : (UInt8.ofNat j).toNat % 8 = j := by rw [UInt8.toNat_ofNat']; omega
    rw [this]
    exact Nat.and_one_is_mod _
  have e2 : ((shrU8 x j &&& 1) == 1) = decide ((shrU8 x j &&& 1).toNat = 1) := by
    rw [Bool.eq_iff_iff]
    simp only [beq_iff_eq, decide_eq_true_eq]
    rw [← UInt8.toNat_inj]; rfl
  rw [e2, e1, ← h1]
  congr 2
  match j, hj with
  | 0, _ => simp only [Nat.pow_zero, Nat.div_one]; omega
  | 1, _ => simp only [Nat.pow_one]; omega
  | 2, _ => show v % 256 / 4 % 2 = v / 4 % 2; omega
  | 3, _ => show v % 256 / 8 % 2 = v / 8 % 2; omega
  | 4, _ => show v % 256 / 16 % 2 = v / 16 % 2; omega
  | 5, _ => show v % 256 / 32 % 2 = v / 32 % 2; omega
  | 6, _ => show v % 256 / 64 % 2 = v / 64 % 2; omega
  | 7, _ => show v % 256 / 128 % 2 = v / 128 % 2; omega
end Go.Sh
