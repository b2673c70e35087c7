/- Numbers as limbs and as bytes, modulo the order of the curve's points. No program in sight. -/
import Derived.Test.YtknbihogadcnpaaGreatH7
set_option linter.unusedSimpArgs false
set_option linter.unusedVariables false
namespace Go.Sh
open Go

/-- limbs of 64 bits, the lowest first -/
def val64 : List UInt64 → Nat
  | [] => 0
  | x :: l => x.toNat + 18446744073709551616 * val64 l
/-- bytes, the lowest first -/
def le : List UInt8 → Nat
  | [] => 0
  | x :: l => x.toNat + 256 * le l
/-- so many bytes of a number -/
def leb : Nat → Nat → List UInt8
  | 0, _ => []
  | k + 1, v => UInt8.ofNat (v % 256) :: leb k (v / 256)
/-- L -/
def LO : Nat := 7237005577332262213973186563042994240857116359379907606001950938285454250989
theorem LO_pos : 0 < LO := by decide +kernel
theorem LO_lt : LO < 256 ^ 32 := by decide +kernel
@[simp] theorem leb_len : ∀ k v, (leb k v).length = k
  | 0, _ => rfl
  | k + 1, v => by simp [leb, leb_len k]
theorem le_lt : ∀ l : List UInt8, le l < 256 ^ l.length
  | [] => by simp [le]
  | x :: l => by
    have := le_lt l
    have := x.toNat_lt
    simp only [le, List.length_cons, Nat.pow_succ]
    omega
theorem le_leb : ∀ k v, le (leb k v) = v % 256 ^ k
  | 0, v => by simp [leb, le, Nat.mod_one]
  | k + 1, v => by
    have h : (UInt8.ofNat (v % 256)).toNat = v % 256 := by simp
    rw [leb, le, le_leb k, h, Nat.pow_succ, Nat.mul_comm (256 ^ k) 256, Nat.mod_mul]
theorem leb_le : ∀ l : List UInt8, leb l.length (le l) = l
  | [] => rfl
  | x :: l => by
    have := x.toNat_lt
    have e1 : (x.toNat + 256 * le l) % 256 = x.toNat := by omega
    have e2 : (x.toNat + 256 * le l) / 256 = le l := by omega
    simp only [le, List.length_cons, leb, e1, e2, leb_le l]
    simp
theorem le_inj {a b : List UInt8} (hl : a.length = b.length) (h : le a = le b) : a = b := by rw [← leb_le a, ← leb_le b, hl, h]
theorem leb_at : ∀ k v i, i < k → (leb k v)[i]? = some (UInt8.ofNat (v / 256 ^ i % 256))
  | 0, v, i, h => by omega
  | k + 1, v, 0, h => by simp [leb]
  | k + 1, v, i + 1, h => by
    simp only [leb, List.getElem?_cons_succ, leb_at k (v / 256) i (by omega), Nat.div_div_eq_div_mul]
    rw [Nat.pow_succ, Nat.mul_comm 256]
theorem le_append : ∀ a b : List UInt8, le (a ++ b) = le a + 256 ^ a.length * le b
  | [], b => by simp [le]
  | x :: a, b => by
    simp only [List.cons_append, le, le_append a b, List.length_cons, Nat.pow_succ]
    rw [Nat.mul_comm (256 ^ a.length) 256, Nat.mul_assoc]; omega
theorem le_zeros (n : Nat) : le (List.replicate n 0) = 0 := by
  induction n with
  | zero => rfl
  | succ n ih => simp [List.replicate_succ, le, ih]
theorem val64_lt : ∀ l : List UInt64, val64 l < 18446744073709551616 ^ l.length
  | [] => by simp [val64]
  | x :: l => by
    have := val64_lt l
    have := x.toNat_lt
    simp only [val64, List.length_cons, Nat.pow_succ]
    omega
theorem val64_append : ∀ a b : List UInt64, val64 (a ++ b) = val64 a + 18446744073709551616 ^ a.length * val64 b
  | [], b => by simp [val64]
  | x :: a, b => by
    simp only [List.cons_append, val64, val64_append a b, List.length_cons, Nat.pow_succ]
    rw [Nat.mul_comm (_ ^ a.length) 18446744073709551616, Nat.mul_assoc]; omega

/-! comparing, from the highest one -/
theorem val_cmp : ∀ (n m : List UInt64) (i : Nat), n.length = m.length → (h : i < n.length) → (h' : i < m.length) → n.drop (i + 1) = m.drop (i + 1) → n[i] ≠ m[i] → (val64 n < val64 m ↔ n[i] < m[i])
  | [], _, i, _, h, _, _, _ => by simp at h
  | x :: n, [], i, hl, _, _, _, _ => by simp at hl
  | x :: n, y :: m, 0, hl, h, h', hd, hne => by
    simp only [Nat.zero_add, List.drop_succ_cons, List.drop_zero] at hd
    subst hd
    simp only [val64, List.getElem_cons_zero, UInt64.lt_iff_toNat_lt]
    omega
  | x :: n, y :: m, i + 1, hl, h, h', hd, hne => by
    simp only [List.length_cons] at hl h h'
    simp only [List.drop_succ_cons] at hd
    simp only [List.getElem_cons_succ] at hne ⊢
    have h1 := val_cmp n m i (by omega) (by omega) (by omega) hd hne
    have h2 := val_cmp m n i (by omega) (by omega) (by omega) hd.symm (Ne.symm hne)
    have a1 := x.toNat_lt; have a2 := y.toNat_lt
    simp only [val64]
    rw [UInt64.lt_iff_toNat_lt] at h1 h2 ⊢
    have hne' : n[i].toNat ≠ m[i].toNat := fun e => hne (UInt64.toNat_inj.1 e)
    omega

/-! a difference, with its borrow -/
theorem sub_step {x y b d b' : Nat} (hb : b ≤ 1) (hx : x < 18446744073709551616) (hy : y < 18446744073709551616) (hd : d = (x + 18446744073709551616 - y - b) % 18446744073709551616) (hb' : b' = if x < y + b then 1 else 0) : x + b' * 18446744073709551616 = d + y + b ∧ b' ≤ 1 := by
  subst hd hb'
  split <;> omega
theorem sub_keep {n m q : List UInt64} {k b b' : Nat} {d : UInt64} (hk : k < n.length) (hk' : k < m.length) (hq : q.length = k) (h : val64 (n.take k) + b * 18446744073709551616 ^ k = val64 q + val64 (m.take k))
    (hs : n[k].toNat + b' * 18446744073709551616 = d.toNat + m[k].toNat + b) : val64 (n.take (k + 1)) + b' * 18446744073709551616 ^ (k + 1) = val64 (q ++ [d]) + val64 (m.take (k + 1)) := by
  rw [List.take_succ_eq_append_getElem hk, List.take_succ_eq_append_getElem hk', val64_append, val64_append, val64_append]
  have e1 : (n.take k).length = k := by rw [List.length_take]; omega
  have e2 : (m.take k).length = k := by rw [List.length_take]; omega
  rw [e1, e2, hq]
  simp only [val64, Nat.mul_zero, Nat.add_zero, Nat.pow_succ]
  generalize 18446744073709551616 ^ k = Q at h ⊢
  have := congrArg (Q * ·) hs
  simp only [Nat.mul_add] at this
  rw [Nat.mul_comm b Q] at h
  have e3 : b' * (Q * 18446744073709551616) = Q * (b' * 18446744073709551616) := by rw [← Nat.mul_assoc, ← Nat.mul_assoc, Nat.mul_comm b' Q]
  rw [e3]
  omega
theorem sub_end {n m q : List UInt64} {b : Nat} (hl : n.length = m.length) (hq : q.length = n.length) (h : val64 n + b * 18446744073709551616 ^ n.length = val64 q + val64 m) (hge : val64 m ≤ val64 n) : val64 q = val64 n - val64 m := by
  have hq' := val64_lt q
  rw [hq] at hq'
  rcases Nat.eq_zero_or_pos b with rfl | hb
  · omega
  · have : 18446744073709551616 ^ n.length ≤ b * 18446744073709551616 ^ n.length := Nat.le_mul_of_pos_left _ hb
    omega

/-! 256 times, and a byte -/
theorem or_low (x s : Nat) (hs : s < 256) : ((x <<< 8) % 18446744073709551616) ||| s = (x % 72057594037927936) * 256 + s := by
  have e : (x <<< 8) % 18446744073709551616 = (x % 72057594037927936) <<< 8 := by
    rw [Nat.shiftLeft_eq, Nat.shiftLeft_eq, show (18446744073709551616 : Nat) = 72057594037927936 * 2 ^ 8 from rfl, Nat.mul_mod_mul_right]
  rw [e, ← Nat.shiftLeft_add_eq_or_of_lt (by simpa using hs), Nat.shiftLeft_eq]
theorem shl8_byte (x : UInt64) (c : UInt8) : (shlU64 x 8 ||| c.toUInt64).toNat = (x.toNat % 72057594037927936) * 256 + c.toNat := by
  have : shlU64 x 8 = x <<< 8 := rfl
  rw [this, UInt64.toNat_or, UInt64.toNat_shiftLeft]
  exact or_low _ _ c.toNat_lt
theorem shl8_limb (x y : UInt64) : (shlU64 x 8 ||| shrU64 y 56).toNat = (x.toNat % 72057594037927936) * 256 + y.toNat / 72057594037927936 := by
  have e1 : shlU64 x 8 = x <<< 8 := rfl
  have e2 : shrU64 y 56 = y >>> 56 := rfl
  have hy := y.toNat_lt
  rw [e1, e2, UInt64.toNat_or, UInt64.toNat_shiftLeft, UInt64.toNat_shiftRight]
  have e3 : y.toNat >>> ((56 : UInt64).toNat % 64) = y.toNat / 72057594037927936 := by
    rw [show (56 : UInt64).toNat % 64 = 56 from rfl, Nat.shiftRight_eq_div_pow]
  rw [e3]
  exact or_low _ _ (by omega)
/-- 256 times it, and a byte -/
def times256 (n : List UInt64) (c : UInt8) : List UInt64 :=
  (List.range 5).map fun i => if i = 0 then shlU64 (n.getD 0 0) 8 ||| c.toUInt64 else shlU64 (n.getD i 0) 8 ||| shrU64 (n.getD (i - 1) 0) 56
theorem times256_len (n : List UInt64) (c : UInt8) : (times256 n c).length = 5 := by simp [times256]
theorem times256_val {n : List UInt64} {c : UInt8} (hl : n.length = 5) (hv : val64 n < 2 ^ 312) : val64 (times256 n c) = 256 * val64 n + c.toNat := by
  match n, hl with
  | [a, b, d, g, f], _ =>
    have e : times256 [a, b, d, g, f] c = [shlU64 a 8 ||| c.toUInt64, shlU64 b 8 ||| shrU64 a 56, shlU64 d 8 ||| shrU64 b 56, shlU64 g 8 ||| shrU64 d 56, shlU64 f 8 ||| shrU64 g 56] := rfl
    rw [e]
    simp only [val64, shl8_byte, shl8_limb] at hv ⊢
    have := a.toNat_lt; have := b.toNat_lt; have := d.toNat_lt; have := g.toNat_lt; have := f.toNat_lt; have := c.toNat_lt
    omega

/-! the order, shifted -/
def lLimbs : List UInt64 := [6346243789798364141, 1503914060200516822, 0, 1152921504606846976, 0]
def lShift (k : Nat) : List UInt64 := (List.range 5).map fun i => if 0 < i ∧ 0 < k then shlU64 (lLimbs.getD i 0) k ||| shrU64 (lLimbs.getD (i - 1) 0) (64 - k) else shlU64 (lLimbs.getD i 0) k
theorem lShift_len (k : Nat) : (lShift k).length = 5 := by simp [lShift]
theorem lShift_all : ∀ k : Fin 9, val64 (lShift k.val) = LO * 2 ^ k.val := by decide +kernel
theorem lShift_val {k : Nat} (h : k < 9) : val64 (lShift k) = LO * 2 ^ k := lShift_all ⟨k, h⟩
theorem mod_step {v V k : Nat} (h : v % LO = V % LO) (hv : v < LO * 2 ^ (k + 1)) {u : Nat} (hu : u = if v < LO * 2 ^ k then v else v - LO * 2 ^ k) : u % LO = V % LO ∧ u < LO * 2 ^ k := by
  subst hu
  rw [Nat.pow_succ, ← Nat.mul_assoc] at hv
  split
  · exact ⟨h, by omega⟩
  · refine ⟨?_, by omega⟩
    rw [← h]
    exact Nat.sub_mul_mod (by omega)

/-! a limb's byte -/
theorem val64_limb : ∀ (l : List UInt64) (k : Nat), k < l.length → val64 l / 18446744073709551616 ^ k % 18446744073709551616 = (l.getD k 0).toNat
  | [], k, h => by simp at h
  | x :: l, 0, h => by have := x.toNat_lt; simp [val64]
  | x :: l, k + 1, h => by
    have := val64_limb l k (by simpa using h)
    have hx := x.toNat_lt
    rw [Nat.pow_succ, Nat.mul_comm (_ ^ k), ← Nat.div_div_eq_div_mul]
    have e : val64 (x :: l) / 18446744073709551616 = val64 l := by simp only [val64]; omega
    rw [e, this]
    simp [List.getD]
theorem limb_byte {l : List UInt64} {i : Nat} (h : i < 8 * l.length) : (shrU64 (l.getD (i / 8) 0) (8 * (i % 8))).toUInt8 = UInt8.ofNat (val64 l / 256 ^ i % 256) := by
  apply UInt8.toNat_inj.1
  have h1 := val64_limb l (i / 8) (by omega)
  have e0 : (256 : Nat) ^ i = 18446744073709551616 ^ (i / 8) * 256 ^ (i % 8) := by
    rw [show (18446744073709551616 : Nat) = 256 ^ 8 from rfl, ← Nat.pow_mul, ← Nat.pow_add]
    congr 1; omega
  have e1 : shrU64 (l.getD (i / 8) 0) (8 * (i % 8)) = l.getD (i / 8) 0 >>> UInt64.ofNat (8 * (i % 8)) := by unfold shrU64; rw [if_pos (by omega)]
  have e2 : (UInt64.ofNat (8 * (i % 8))).toNat % 64 = 8 * (i % 8) := by
    rw [UInt64.toNat_ofNat', Nat.mod_eq_of_lt (by omega : 8 * (i % 8) < 2 ^ 64)]; omega
  rw [e1, UInt64.toNat_toUInt8, UInt64.toNat_shiftRight, e2, ← h1, Nat.shiftRight_eq_div_pow, UInt8.toNat_ofNat', e0, ← Nat.div_div_eq_div_mul]
  generalize val64 l / 18446744073709551616 ^ (i / 8) = v
  have e3 : (2 : Nat) ^ (8 * (i % 8)) = 256 ^ (i % 8) := by rw [Nat.pow_mul]
  rw [e3]
  have hj : i % 8 < 8 := Nat.mod_lt _ (by omega)
  generalize i % 8 = j at hj
  rw [Nat.mod_mod]
  match j, hj with
  | 0, _ => simp only [Nat.pow_zero, Nat.div_one]; omega
  | 1, _ => simp only [Nat.pow_one]; omega
  | 2, _ => show v % 18446744073709551616 / 65536 % 2 ^ 8 = v / 65536 % 256; omega
  | 3, _ => show v % 18446744073709551616 / 16777216 % 2 ^ 8 = v / 16777216 % 256; omega
  | 4, _ => show v % 18446744073709551616 / 4294967296 % 2 ^ 8 = v / 4294967296 % 256; omega
  | 5, _ => show v % 18446744073709551616 / 1099511627776 % 2 ^ 8 = v / 1099511627776 % 256; omega
  | 6, _ => show v % 18446744073709551616 / 281474976710656 % 2 ^ 8 = v / 281474976710656 % 256; omega
  | 7, _ => show v % 18446744073709551616 / 72057594037927936 % 2 ^ 8 = v / 72057594037927936 % 256; omega

/-! words, each times a power of 256 -/
def val256 : List UInt64 → Nat
  | [] => 0
  | x :: l => x.toNat + 256 * val256 l
theorem val256_set : ∀ (l : List UInt64) (k : Nat) (x : UInt64), k < l.length → val256 (l.set k x) + 256 ^ k * (l.getD k 0).toNat = val256 l + 256 ^ k * x.toNat
  | [], k, x, h => by simp at h
  | y :: l, 0, x, h => by simp [val256, List.getD]; omega
  | y :: l, k + 1, x, h => by
    have := val256_set l k x (by simpa using h)
    have e : (y :: l).getD (k + 1) 0 = l.getD k 0 := rfl
    rw [e]
    simp only [List.set_cons_succ, val256, Nat.pow_succ, Nat.mul_comm (256 ^ k) 256, Nat.mul_assoc]
    omega
theorem val256_append : ∀ a b : List UInt64, val256 (a ++ b) = val256 a + 256 ^ a.length * val256 b
  | [], b => by simp [val256]
  | x :: a, b => by
    simp only [List.cons_append, val256, val256_append a b, List.length_cons, Nat.pow_succ]
    rw [Nat.mul_comm (256 ^ a.length) 256, Nat.mul_assoc]; omega
theorem val256_zeros (n : Nat) : val256 (List.replicate n 0) = 0 := by
  induction n with
  | zero => rfl
  | succ n ih => simp [List.replicate_succ, val256, ih]
/-- the number modulo L, as 32 bytes -/
def redN (v : Nat) : List UInt8 := leb 32 (v % LO)
@[simp] theorem redN_len (v : Nat) : (redN v).length = 32 := by simp [redN]
theorem le_redN (v : Nat) : le (redN v) = v % LO := by
  rw [redN, le_leb, Nat.mod_eq_of_lt]
  exact Nat.lt_trans (Nat.mod_lt _ LO_pos) LO_lt
theorem redN_le (b : List UInt8) (h : b.length = 32) : (redN (le b) = b) ↔ le b < LO := by
  constructor
  · intro e
    have := le_redN (le b)
    rw [e] at this
    rw [this]; exact Nat.mod_lt _ LO_pos
  · intro h'
    rw [redN, Nat.mod_eq_of_lt h', ← h, leb_le]
theorem redN_mod (v : Nat) : redN (v % LO) = redN v := by simp [redN]
end Go.Sh
