/- Soundness of the shallow form: numbers. -/
import Derived.Test.YtknbihogadcnpaaGreatSh1a
set_option linter.unusedSimpArgs false
set_option linter.unusedVariables false
namespace Go.Sh
open Go

theorem w64 (n : Int) : IntKind.u64.wrap n = n % 18446744073709551616 := by simp [IntKind.wrap, IntKind.bits, IntKind.signed]
theorem w8 (n : Int) : IntKind.u8.wrap n = n % 256 := by simp [IntKind.wrap, IntKind.bits, IntKind.signed]
theorem lt64 (x : UInt64) : x.toNat < 18446744073709551616 := x.toNat_lt
theorem lt8 (x : UInt8) : x.toNat < 256 := x.toNat_lt

section
variable (x y : UInt64)
theorem add64 : IntKind.u64.wrap ((x.toNat : Int) + y.toNat) = ((x + y).toNat : Int) := by
  rw [w64, UInt64.toNat_add]; omega
theorem sub64 : IntKind.u64.wrap ((x.toNat : Int) - y.toNat) = ((x - y).toNat : Int) := by
  have := lt64 x; have := lt64 y
  rw [w64, UInt64.toNat_sub]; omega
theorem mul64 : IntKind.u64.wrap ((x.toNat : Int) * y.toNat) = ((x * y).toNat : Int) := by
  rw [w64, UInt64.toNat_mul]; simp
theorem ofInt64 : BitVec.ofInt 64 (x.toNat : Int) = x.toBitVec := by
  apply BitVec.eq_of_toNat_eq
  have := lt64 x
  simp [BitVec.toNat_ofInt]
theorem back64 (r : BitVec 64) : IntKind.u64.wrap (r.toNat : Int) = r.toNat := by
  have := r.isLt
  rw [w64]; omega
theorem and64 : IntKind.u64.wrap ((BitVec.ofInt 64 (x.toNat : Int) &&& BitVec.ofInt 64 (y.toNat : Int)).toNat : Int) = ((x &&& y).toNat : Int) := by
  rw [back64, ofInt64, ofInt64]; rfl
theorem or64 : IntKind.u64.wrap ((BitVec.ofInt 64 (x.toNat : Int) ||| BitVec.ofInt 64 (y.toNat : Int)).toNat : Int) = ((x ||| y).toNat : Int) := by
  rw [back64, ofInt64, ofInt64]; rfl
theorem xor64 : IntKind.u64.wrap ((BitVec.ofInt 64 (x.toNat : Int) ^^^ BitVec.ofInt 64 (y.toNat : Int)).toNat : Int) = ((x ^^^ y).toNat : Int) := by
  rw [back64, ofInt64, ofInt64]; rfl
theorem andNot64 : IntKind.u64.wrap ((BitVec.ofInt 64 (x.toNat : Int) &&& ~~~BitVec.ofInt 64 (y.toNat : Int)).toNat : Int) = ((x &&& ~~~y).toNat : Int) := by
  rw [back64, ofInt64, ofInt64]; rfl
theorem quo64 : IntKind.u64.wrap ((x.toNat : Int).tdiv y.toNat) = ((x / y).toNat : Int) := by
  have := lt64 x
  have h : x.toNat / y.toNat ≤ x.toNat := Nat.div_le_self _ _
  have e : (x.toNat : Int).tdiv y.toNat = ((x.toNat / y.toNat : Nat) : Int) := rfl
  rw [w64, UInt64.toNat_div, e]
  generalize x.toNat / y.toNat = q at *
  clear e
  omega
theorem rem64 : (x.toNat : Int).tmod y.toNat = ((x % y).toNat : Int) := by
  rw [UInt64.toNat_mod]; rfl
theorem eq64 : ((x.toNat : Int) == y.toNat) = (x == y) := by
  rw [Bool.eq_iff_iff]; simp only [beq_iff_eq, ← UInt64.toNat_inj]; omega
theorem ne64 : ((x.toNat : Int) != y.toNat) = (x != y) := by
  simp only [bne, eq64]
theorem lss64 : decide ((x.toNat : Int) < y.toNat) = decide (x < y) := by
  rw [Bool.eq_iff_iff]; simp [UInt64.lt_iff_toNat_lt]
theorem leq64 : decide ((x.toNat : Int) ≤ y.toNat) = decide (x ≤ y) := by
  rw [Bool.eq_iff_iff]; simp [UInt64.le_iff_toNat_le]
theorem shl64 (c : Int) : IntKind.u64.wrap ((x.toNat : Int) * 2 ^ (min c.toNat 64)) = ((shlU64 x c.toNat).toNat : Int) := by
  rw [w64]
  unfold shlU64
  by_cases h : c.toNat < 64
  · rw [if_pos h, Nat.min_eq_left (by omega)]
    rw [UInt64.toNat_shiftLeft]
    have e : (UInt64.ofNat c.toNat).toNat % 64 = c.toNat := by simp [UInt64.toNat_ofNat']; omega
    rw [e, Nat.shiftLeft_eq]
    simp
  · rw [if_neg h, Nat.min_eq_right (by omega)]
    simp
theorem shr64 (c : Int) : (x.toNat : Int).fdiv (2 ^ (min c.toNat 64)) = ((shrU64 x c.toNat).toNat : Int) := by
  unfold shrU64
  by_cases h : c.toNat < 64
  · rw [if_pos h, Nat.min_eq_left (by omega)]
    rw [UInt64.toNat_shiftRight]
    have e : (UInt64.ofNat c.toNat).toNat % 64 = c.toNat := by simp [UInt64.toNat_ofNat']; omega
    rw [e, Nat.shiftRight_eq_div_pow]
    rw [Int.fdiv_eq_ediv_of_nonneg _ (by exact Int.le_of_lt (Int.pow_pos (by decide)))]
    simp
  · rw [if_neg h, Nat.min_eq_right (by omega)]
    rw [Int.fdiv_eq_ediv_of_nonneg _ (by decide)]
    have := lt64 x
    simp
    omega
theorem not64 : IntKind.u64.wrap ((BitVec.ofInt 64 (IntKind.u64.max) ^^^ BitVec.ofInt 64 (x.toNat : Int)).toNat : Int) = ((~~~x).toNat : Int) := by
  rw [back64, ofInt64]
  have : BitVec.ofInt 64 (IntKind.u64.max) = BitVec.allOnes 64 := by decide
  rw [this, BitVec.allOnes_xor]; rfl
end

section
variable (x y : UInt8)
theorem add8 : IntKind.u8.wrap ((x.toNat : Int) + y.toNat) = ((x + y).toNat : Int) := by
  rw [w8, UInt8.toNat_add]; omega
theorem sub8 : IntKind.u8.wrap ((x.toNat : Int) - y.toNat) = ((x - y).toNat : Int) := by
  have := lt8 x; have := lt8 y
  rw [w8, UInt8.toNat_sub]; omega
theorem mul8 : IntKind.u8.wrap ((x.toNat : Int) * y.toNat) = ((x * y).toNat : Int) := by
  rw [w8, UInt8.toNat_mul]; simp
theorem ofInt8 : BitVec.ofInt 8 (x.toNat : Int) = x.toBitVec := by
  apply BitVec.eq_of_toNat_eq
  have := lt8 x
  simp [BitVec.toNat_ofInt]
theorem back8 (r : BitVec 8) : IntKind.u8.wrap (r.toNat : Int) = r.toNat := by
  have := r.isLt
  rw [w8]; omega
theorem and8 : IntKind.u8.wrap ((BitVec.ofInt 8 (x.toNat : Int) &&& BitVec.ofInt 8 (y.toNat : Int)).toNat : Int) = ((x &&& y).toNat : Int) := by
  rw [back8, ofInt8, ofInt8]; rfl
theorem or8 : IntKind.u8.wrap ((BitVec.ofInt 8 (x.toNat : Int) ||| BitVec.ofInt 8 (y.toNat : Int)).toNat : Int) = ((x ||| y).toNat : Int) := by
  rw [back8, ofInt8, ofInt8]; rfl
theorem xor8 : IntKind.u8.wrap ((BitVec.ofInt 8 (x.toNat : Int) ^^^ BitVec.ofInt 8 (y.toNat : Int)).toNat : Int) = ((x ^^^ y).toNat : Int) := by
  rw [back8, ofInt8, ofInt8]; rfl
theorem andNot8 : IntKind.u8.wrap ((BitVec.ofInt 8 (x.toNat : Int) &&& ~~~BitVec.ofInt 8 (y.toNat : Int)).toNat : Int) = ((x &&& ~~~y).toNat : Int) := by
  rw [back8, ofInt8, ofInt8]; rfl
theorem eq8 : ((x.toNat : Int) == y.toNat) = (x == y) := by
  rw [Bool.eq_iff_iff]; simp only [beq_iff_eq, ← UInt8.toNat_inj]; omega
theorem ne8 : ((x.toNat : Int) != y.toNat) = (x != y) := by
  simp only [bne, eq8]
theorem lss8 : decide ((x.toNat : Int) < y.toNat) = decide (x < y) := by
  rw [Bool.eq_iff_iff]; simp [UInt8.lt_iff_toNat_lt]
theorem leq8 : decide ((x.toNat : Int) ≤ y.toNat) = decide (x ≤ y) := by
  rw [Bool.eq_iff_iff]; simp [UInt8.le_iff_toNat_le]
theorem shl8 (c : Int) : IntKind.u8.wrap ((x.toNat : Int) * 2 ^ (min c.toNat 8)) = ((shlU8 x c.toNat).toNat : Int) := by
  rw [w8]
  unfold shlU8
  by_cases h : c.toNat < 8
  · rw [if_pos h, Nat.min_eq_left (by omega)]
    rw [UInt8.toNat_shiftLeft]
    have e : (UInt8.ofNat c.toNat).toNat % 8 = c.toNat := by simp [UInt8.toNat_ofNat']; omega
    rw [e, Nat.shiftLeft_eq]
    simp
  · rw [if_neg h, Nat.min_eq_right (by omega)]
    simp
theorem shr8 (c : Int) : (x.toNat : Int).fdiv (2 ^ (min c.toNat 8)) = ((shrU8 x c.toNat).toNat : Int) := by
  unfold shrU8
  by_cases h : c.toNat < 8
  · rw [if_pos h, Nat.min_eq_left (by omega)]
    rw [UInt8.toNat_shiftRight]
    have e : (UInt8.ofNat c.toNat).toNat % 8 = c.toNat := by simp [UInt8.toNat_ofNat']; omega
    rw [e, Nat.shiftRight_eq_div_pow]
    rw [Int.fdiv_eq_ediv_of_nonneg _ (by exact Int.le_of_lt (Int.pow_pos (by decide)))]
    simp
  · rw [if_neg h, Nat.min_eq_right (by omega)]
    rw [Int.fdiv_eq_ediv_of_nonneg _ (by decide)]
    have := lt8 x
    simp
    omega
theorem not8 : IntKind.u8.wrap ((BitVec.ofInt 8 (IntKind.u8.max) ^^^ BitVec.ofInt 8 (x.toNat : Int)).toNat : Int) = ((~~~x).toNat : Int) := by
  rw [back8, ofInt8]
  have : BitVec.ofInt 8 (IntKind.u8.max) = BitVec.allOnes 8 := by decide
  rw [this, BitVec.allOnes_xor]; rfl
end

theorem conv8 (n : Int) : IntKind.u8.wrap n = ((u8OfInt n).toNat : Int) := by
  rw [w8]; unfold u8OfInt
  have : (n % 256).toNat < 256 := by omega
  simp [UInt8.toNat_ofNat']; omega
theorem conv64 (n : Int) : IntKind.u64.wrap n = ((u64OfInt n).toNat : Int) := by
  rw [w64]; unfold u64OfInt
  have : (n % 18446744073709551616).toNat < 18446744073709551616 := by omega
  simp [UInt64.toNat_ofNat']; omega
theorem conv88 (x : UInt8) : IntKind.u8.wrap (x.toNat : Int) = x.toNat := by have := lt8 x; rw [w8]; omega
theorem conv6464 (x : UInt64) : IntKind.u64.wrap (x.toNat : Int) = x.toNat := by have := lt64 x; rw [w64]; omega
theorem conv648 (x : UInt64) : IntKind.u8.wrap (x.toNat : Int) = (x.toUInt8.toNat : Int) := by rw [w8, UInt64.toNat_toUInt8]; omega
theorem conv864 (x : UInt8) : IntKind.u64.wrap (x.toNat : Int) = (x.toUInt64.toNat : Int) := by have := lt8 x; rw [w64, UInt8.toNat_toUInt64]; omega
theorem conv8i (x : UInt8) : IntKind.i64.wrap (x.toNat : Int) = x.toNat := by
  have := lt8 x
  simp [IntKind.wrap, IntKind.bits, IntKind.signed]; omega

theorem toL (l : List UInt8) : (⟨l.toArray⟩ : ByteArray).toList = l := by
  have h : ∀ (bs : ByteArray), bs.toList = bs.data.toList := by
    intro bs; exact ByteArray.toList_eq bs
  simp [h]

end Go.Sh
