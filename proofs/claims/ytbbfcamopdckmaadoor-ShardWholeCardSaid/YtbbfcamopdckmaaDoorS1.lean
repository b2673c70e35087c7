/- The digest in plain words: SHA-512 on lists. No program in sight. -/
import Derived.Test.YtbbfcamopdckmaaDoorH7
set_option linter.unusedSimpArgs false
set_option linter.unusedVariables false
namespace Go.Sh
open Go

/-- turned right -/
def rr (x : UInt64) (n : Nat) : UInt64 := shrU64 x n ||| shlU64 x (64 - n)
def bsg1 (e : UInt64) : UInt64 := (rr e 14 ^^^ rr e 18) ^^^ rr e 41
def bsg0 (a : UInt64) : UInt64 := (rr a 28 ^^^ rr a 34) ^^^ rr a 39
def ssg1 (x : UInt64) : UInt64 := (rr x 19 ^^^ rr x 61) ^^^ shrU64 x 6
def ssg0 (x : UInt64) : UInt64 := (rr x 1 ^^^ rr x 8) ^^^ shrU64 x 7
def be64 (l : List UInt8) : UInt64 := l.foldl (fun x c => shlU64 x 8 ||| c.toUInt64) 0
def word (b : List UInt8) (t : Nat) : UInt64 := be64 ((b.drop (8 * t)).take 8)
def wnext (b : List UInt8) (l : List UInt64) (t : Nat) : UInt64 :=
  if t < 16 then word b t else ((ssg1 (l.getD (t - 2) 0) + l.getD (t - 7) 0) + ssg0 (l.getD (t - 15) 0)) + l.getD (t - 16) 0
def sched (b : List UInt8) : Nat → List UInt64
  | 0 => []
  | t + 1 => let l := sched b t; l ++ [wnext b l t]
def rnd (v : List UInt64) (k x : UInt64) : List UInt64 :=
  match v with
  | [a, b, c, d, e, f, g, h] =>
    let t1 := (((h + bsg1 e) + ((e &&& f) ^^^ ((~~~e) &&& g))) + k) + x
    let t2 := bsg0 a + (((a &&& b) ^^^ (a &&& c)) ^^^ (b &&& c))
    [t1 + t2, a, b, c, d + t1, e, f, g]
  | v => v
def rounds (ks ws v : List UInt64) : Nat → List UInt64
  | 0 => v
  | t + 1 => rnd (rounds ks ws v t) (ks.getD t 0) (ws.getD t 0)
def comp (ks h : List UInt64) (b : List UInt8) : List UInt64 := List.zipWith (fun x y => x + y) h (rounds ks (sched b 80) h 80)
def absorb (ks h : List UInt64) (b : List UInt8) : Nat → List UInt64
  | 0 => h
  | n + 1 => comp ks (absorb ks h b n) ((b.drop (128 * n)).take 128)
def be8 (x : UInt64) : List UInt8 := [(shrU64 x 56).toUInt8, (shrU64 x 48).toUInt8, (shrU64 x 40).toUInt8, (shrU64 x 32).toUInt8, (shrU64 x 24).toUInt8, (shrU64 x 16).toUInt8, (shrU64 x 8).toUInt8, (shrU64 x 0).toUInt8]
def digest (h : List UInt64) : List UInt8 := h.flatMap be8
def padZ (n : Nat) : Nat := (239 - n % 128) % 128
def padEnd (n : Nat) : List UInt8 := [128] ++ List.replicate (padZ n) 0 ++ List.replicate 8 0 ++ be8 (8 * UInt64.ofNat n)
def pad (b : List UInt8) : List UInt8 := b ++ padEnd b.length
def shaBy (h ks : List UInt64) (b : List UInt8) : List UInt8 := digest (absorb ks h (pad b) ((pad b).length / 128))

theorem sched_len (b : List UInt8) : ∀ t, (sched b t).length = t
  | 0 => rfl
  | t + 1 => by simp [sched, sched_len b t]
theorem rnd_len {v : List UInt64} {k x : UInt64} (h : v.length = 8) : (rnd v k x).length = 8 := by
  unfold rnd
  split
  · rfl
  · exact h
theorem rounds_len {ks ws v : List UInt64} (h : v.length = 8) : ∀ t, (rounds ks ws v t).length = 8
  | 0 => h
  | t + 1 => rnd_len (rounds_len h t)
theorem comp_len {ks h : List UInt64} {b : List UInt8} (hh : h.length = 8) : (comp ks h b).length = 8 := by simp [comp, hh, rounds_len hh]
theorem absorb_len {ks h : List UInt64} {b : List UInt8} (hh : h.length = 8) : ∀ n, (absorb ks h b n).length = 8
  | 0 => hh
  | n + 1 => comp_len (absorb_len hh n)
@[simp] theorem be8_len (x : UInt64) : (be8 x).length = 8 := rfl
theorem digest_len {h : List UInt64} (hh : h.length = 8) : (digest h).length = 64 := by
  match h, hh with
  | [a, b, c, d, e, f, g, k], _ => rfl
theorem absorb_eq {ks h : List UInt64} {a b : List UInt8} : ∀ n, 128 * n ≤ a.length → absorb ks h (a ++ b) n = absorb ks h a n
  | 0, _ => rfl
  | n + 1, hn => by
    simp only [absorb]
    rw [absorb_eq n (by omega), List.drop_append_of_le_length (by omega), List.take_append_of_le_length (by rw [List.length_drop]; omega)]
/-- blocks of a text behind whole blocks -/
theorem absorb_add {ks h : List UInt64} {a b : List UInt8} {m : Nat} (ha : a.length = 128 * m) : ∀ n, absorb ks h (a ++ b) (m + n) = absorb ks (absorb ks h a m) b n
  | 0 => absorb_eq m (by omega)
  | n + 1 => by
    rw [show m + (n + 1) = (m + n) + 1 from rfl]
    simp only [absorb]
    rw [absorb_add ha n, List.drop_append, List.drop_eq_nil_of_le (by omega), List.nil_append]
    congr 3
    omega
/-- what is not a block yet -/
def rest (b : List UInt8) : List UInt8 := b.drop (128 * (b.length / 128))
/-- the words so far -/
def state (ks h : List UInt64) (b : List UInt8) : List UInt64 := absorb ks h b (b.length / 128)
theorem rest_len (b : List UInt8) : (rest b).length = b.length % 128 := by simp [rest]; omega
theorem state_len {ks h : List UInt64} {b : List UInt8} (hh : h.length = 8) : (state ks h b).length = 8 := absorb_len hh _
/-- bytes behind: the rest and they -/
theorem state_app {ks h : List UInt64} {b c : List UInt8} : state ks h (b ++ c) = absorb ks (state ks h b) (rest b ++ c) ((rest b ++ c).length / 128) := by
  have e : b ++ c = b.take (128 * (b.length / 128)) ++ (rest b ++ c) := by
    rw [← List.append_assoc]; simp [rest]
  have hl : (b.take (128 * (b.length / 128))).length = 128 * (b.length / 128) := by rw [List.length_take]; omega
  have hn : (b ++ c).length / 128 = b.length / 128 + (rest b ++ c).length / 128 := by
    rw [List.length_append, List.length_append, rest_len]; omega
  unfold state
  rw [hn]
  conv => lhs; rw [e]
  rw [absorb_add hl]
  congr 1
  have := absorb_eq (ks := ks) (h := h) (a := b.take (128 * (b.length / 128))) (b := b.drop (128 * (b.length / 128))) (b.length / 128) (by omega)
  rw [List.take_append_drop] at this
  exact this.symm
theorem rest_app {b c : List UInt8} : rest (b ++ c) = (rest b ++ c).drop (128 * ((rest b ++ c).length / 128)) := by
  have e : b ++ c = b.take (128 * (b.length / 128)) ++ (rest b ++ c) := by
    rw [← List.append_assoc]; simp [rest]
  have hl : (b.take (128 * (b.length / 128))).length = 128 * (b.length / 128) := by rw [List.length_take]; omega
  have hn : (b ++ c).length / 128 = b.length / 128 + (rest b ++ c).length / 128 := by
    rw [List.length_append, List.length_append, rest_len]; omega
  show (b ++ c).drop (128 * ((b ++ c).length / 128)) = _
  rw [hn]
  conv => lhs; rw [e]
  rw [List.drop_append, List.drop_eq_nil_of_le (by omega), List.nil_append]
  congr 1
  omega
theorem pad_len (b : List UInt8) : (pad b).length % 128 = 0 ∧ (padEnd b.length).length ≤ 256 := by
  simp [pad, padEnd, padZ]; omega
theorem shaBy_eq (h ks : List UInt64) (b : List UInt8) : shaBy h ks b = digest (state ks h (pad b)) := rfl

/-- a sum with a byte behind eight zeros is an or -/
theorem shl8_or (x : UInt64) (c : UInt8) : shlU64 x 8 + c.toUInt64 = shlU64 x 8 ||| c.toUInt64 := by
  have h8 : shlU64 x 8 = x <<< 8 := by simp [shlU64]
  rw [h8]
  apply UInt64.toNat_inj.1
  rw [UInt64.toNat_or, UInt64.toNat_add]
  have hx : (x <<< 8).toNat = 2 ^ 8 * (x.toNat % 2 ^ 56) := by
    rw [UInt64.toNat_shiftLeft]
    simp [Nat.shiftLeft_eq]
    omega
  have hc : c.toUInt64.toNat < 2 ^ 8 := by rw [UInt8.toNat_toUInt64]; exact c.toNat_lt
  rw [hx, ← Nat.two_pow_add_eq_or_of_lt hc]
  have : x.toNat % 2 ^ 56 < 2 ^ 56 := Nat.mod_lt _ (by decide)
  apply Nat.mod_eq_of_lt
  omega
end Go.Sh
