/- The document's reckoning of bytes, bit by bit. No program in sight. -/
import Derived.Test.YtknbihogadcnpaaGreatM4
set_option linter.unusedSimpArgs false
set_option linter.unusedVariables false
set_option maxRecDepth 100000
namespace Go.Sh
open Go

theorem le_snoc (l : List UInt8) (x : UInt8) : le (l ++ [x]) = le l + 256 ^ l.length * x.toNat := by rw [le_append]; simp [le]
theorem le_cmp : ∀ (n m : List UInt8) (i : Nat), n.length = m.length → (h : i < n.length) → (h' : i < m.length) → n.drop (i + 1) = m.drop (i + 1) → n[i] ≠ m[i] → (le n < le m ↔ n[i] < m[i])
  | [], _, i, _, h, _, _, _ => by simp at h
  | x :: n, [], i, hl, _, _, _, _ => by simp at hl
  | x :: n, y :: m, 0, hl, h, h', hd, hne => by
    simp only [Nat.zero_add, List.drop_succ_cons, List.drop_zero] at hd
    subst hd
    simp only [le, List.getElem_cons_zero, UInt8.lt_iff_toNat_lt]
    omega
  | x :: n, y :: m, i + 1, hl, h, h', hd, hne => by
    simp only [List.length_cons] at hl h h'
    simp only [List.drop_succ_cons] at hd
    simp only [List.getElem_cons_succ] at hne ⊢
    have h1 := le_cmp n m i (by omega) (by omega) (by omega) hd hne
    have h2 := le_cmp m n i (by omega) (by omega) (by omega) hd.symm (Ne.symm hne)
    have a1 := x.toNat_lt; have a2 := y.toNat_lt
    simp only [le]
    rw [UInt8.lt_iff_toNat_lt] at h1 h2 ⊢
    have hne' : n[i].toNat ≠ m[i].toNat := fun e => hne (UInt8.toNat_inj.1 e)
    omega
/-- a byte, twice, and a bit -/
theorem dbl_byte (x c : UInt8) (hc : c = 0 ∨ c = 1) : (shlU8 x 1 ||| c).toNat + 256 * (shrU8 x 7).toNat = 2 * x.toNat + c.toNat ∧ (shrU8 x 7 = 0 ∨ shrU8 x 7 = 1) := by
  have key : ∀ n : Fin 256, ∀ b : Bool, (shlU8 (UInt8.ofNat n.val) 1 ||| (if b then 1 else 0)).toNat + 256 * (shrU8 (UInt8.ofNat n.val) 7).toNat = 2 * (UInt8.ofNat n.val).toNat + (if b then (1 : UInt8) else 0).toNat ∧ (shrU8 (UInt8.ofNat n.val) 7 = 0 ∨ shrU8 (UInt8.ofNat n.val) 7 = 1) := by decide +kernel
  have e : UInt8.ofNat x.toNat = x := by simp
  rcases hc with rfl | rfl
  · have := key ⟨x.toNat, x.toNat_lt⟩ false; rw [e] at this; exact this
  · have := key ⟨x.toNat, x.toNat_lt⟩ true; rw [e] at this; exact this
theorem dbl_step {a ob : List UInt8} {k : Nat} {c bit : UInt8} (hk : k < a.length) (ho : ob.length = k) (hc : c = 0 ∨ c = 1) (hv : le ob + 256 ^ k * c.toNat = 2 * le (a.take k) + bit.toNat) :
    le (ob ++ [shlU8 a[k] 1 ||| c]) + 256 ^ (k + 1) * (shrU8 a[k] 7).toNat = 2 * le (a.take (k + 1)) + bit.toNat ∧ (shrU8 a[k] 7 = 0 ∨ shrU8 a[k] 7 = 1) := by
  obtain ⟨h1, h2⟩ := dbl_byte a[k] c hc
  refine ⟨?_, h2⟩
  rw [le_snoc, le_take_succ hk, ho, Nat.pow_succ, Nat.mul_assoc]
  have := congrArg (256 ^ k * ·) h1
  simp only [Nat.mul_add] at this
  have e : 256 ^ k * (2 * a[k].toNat) = 2 * (256 ^ k * a[k].toNat) := by rw [← Nat.mul_assoc, Nat.mul_comm (256 ^ k) 2, Nat.mul_assoc]
  rw [e] at this
  omega
/-- a byte less another one, and what was borrowed -/
theorem sub_byte {x y : Nat} {b : Nat} (hx : x < 256) (hy : y < 256) (hb : b ≤ 1) : ∃ b' d : Nat, b' ≤ 1 ∧ d < 256 ∧ x + 256 * b' = d + y + b ∧ (((x : Int) - y - b < 0 → b' = 1 ∧ (d : Int) = x - y - b + 256) ∧ (¬ ((x : Int) - y - b < 0) → b' = 0 ∧ (d : Int) = x - y - b)) := by
  rcases Nat.lt_or_ge x (y + b) with h | h
  · exact ⟨1, x + 256 - y - b, by omega, by omega, by omega, fun _ => ⟨rfl, by omega⟩, fun h' => by omega⟩
  · exact ⟨0, x - y - b, by omega, by omega, by omega, fun h' => by omega, fun _ => ⟨rfl, by omega⟩⟩
theorem subB_step {a b ob : List UInt8} {k w w' : Nat} {d : UInt8} (hk : k < a.length) (hk' : k < b.length) (ho : ob.length = k) (hv : le (a.take k) + 256 ^ k * w = le ob + le (b.take k)) (hs : a[k].toNat + 256 * w' = d.toNat + b[k].toNat + w) :
    le (a.take (k + 1)) + 256 ^ (k + 1) * w' = le (ob ++ [d]) + le (b.take (k + 1)) := by
  rw [le_snoc, le_take_succ hk, le_take_succ hk', ho, Nat.pow_succ, Nat.mul_assoc]
  have := congrArg (256 ^ k * ·) hs
  simp only [Nat.mul_add] at this
  omega
theorem subB_end {a b ob : List UInt8} {w : Nat} (hl : a.length = b.length) (ho : ob.length = a.length) (hv : le a + 256 ^ a.length * w = le ob + le b) (hge : le b ≤ le a) : le ob = le a - le b := by
  have h1 := le_lt ob
  rw [ho] at h1
  rcases Nat.eq_zero_or_pos w with rfl | hw
  · omega
  · have : 256 ^ a.length ≤ 256 ^ a.length * w := Nat.le_mul_of_pos_right _ hw
    omega
theorem mod_dbl {v w bit : Nat} (hb : bit < 2) (hv : v = w % LO) : (if 2 * v + bit < LO then 2 * v + bit else 2 * v + bit - LO) = (2 * w + bit) % LO := by
  subst hv
  have h0 := Nat.mod_lt w LO_pos
  have e : (2 * w + bit) % LO = (2 * (w % LO) + bit) % LO := by
    rw [Nat.add_mod, Nat.mul_mod, ← Nat.mod_mod_of_dvd, Nat.add_mod (2 * (w % LO)), Nat.mul_mod 2 (w % LO), Nat.mod_mod]
    all_goals simp
  rw [e]
  generalize w % LO = u at h0
  split
  · next h => rw [Nat.mod_eq_of_lt h]
  · next h => rw [Nat.mod_eq_sub_mod (by omega), Nat.mod_eq_of_lt (by omega)]
def ordB : List UInt8 := lB0 where
  lB0 : List UInt8 := [0xed, 0xd3, 0xf5, 0x5c, 0x1a, 0x63, 0x12, 0x58, 0xd6, 0x9c, 0xf7, 0xa2, 0xde, 0xf9, 0xde, 0x14, 0, 0, 0, 0, 0, 0, 0, 0, 0, 0, 0, 0, 0, 0, 0, 0x10]
theorem le_ord0 : le (ordB ++ [0]) = LO := by decide +kernel
theorem ordB_len : ordB.length = 32 := rfl
theorem bit_at (l : List UInt8) (i : Nat) : ((shrU8 (l.getD (i / 8) 0) (i % 8)) &&& 1 = 0 ∨ (shrU8 (l.getD (i / 8) 0) (i % 8)) &&& 1 = 1) ∧ ((shrU8 (l.getD (i / 8) 0) (i % 8)) &&& 1).toNat = le l / 2 ^ i % 2 := by
  have h := bitOf_le l i
  unfold bitOf at h
  generalize hx : (shrU8 (l.getD (i / 8) 0) (i % 8)) &&& 1 = x at h ⊢
  have h01 : x = 0 ∨ x = 1 := by
    rw [← hx]
    generalize shrU8 _ _ = y
    have key : ∀ n : Fin 256, UInt8.ofNat n.val &&& 1 = 0 ∨ UInt8.ofNat n.val &&& 1 = 1 := by decide +kernel
    have := key ⟨y.toNat, y.toNat_lt⟩
    simpa using this
  refine ⟨h01, ?_⟩
  rcases h01 with rfl | rfl
  · have : ¬ (le l / 2 ^ i % 2 = 1) := by simpa using h.symm
    show 0 = _; omega
  · have : le l / 2 ^ i % 2 = 1 := by simpa using h.symm
    show 1 = _; omega
end Go.Sh
