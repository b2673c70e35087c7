/- The reference's root of a prime. -/
import Derived.Test.YtbbfcamopdckmaaDoorD5
set_option linter.unusedSimpArgs false
set_option linter.unusedVariables false
set_option maxRecDepth 100000
namespace Go.Proofs.YtbbfcamopdckmaaDoor
open Go Go.Sh

theorem set_dg {l : List Nat} {i : Nat} (h : i < l.length) : l.set i (dg l i) = l := by
  apply List.ext_getElem?
  intro j
  rw [List.getElem?_set]
  split
  · next e => subst e; simp [dg, h]
  · rfl
theorem V_set0 {n i x : Nat} (h : i < n) : val ((List.replicate n 0).set i x) = x * 65536 ^ i := by
  have := V_set (l := List.replicate n 0) (i := i) (x := x) (by simpa using h) n h
  rw [dg_rep, V_zero (m := 0) (fun j _ => dg_rep _ _) n (by omega)] at this
  simp only [V, Nat.zero_mul, Nat.add_zero, Nat.zero_add] at this
  rw [val]
  simpa using this
/-- the words of a root's digits, from above -/
def nk (r : Nat) : Nat → Nat
  | 0 => 0
  | 1 => r / 281474976710656 % 65536
  | 2 => r / 4294967296 % 4294967296
  | 3 => r / 65536 % 281474976710656
  | _ => r % 18446744073709551616
theorem nk_step {r : Nat} : ∀ k, k < 4 → nk r (k + 1) = nk r k * 65536 + dg (toD r) (3 - k) ∧ nk r k < 281474976710656 ∧ dg (toD r) (3 - k) < 65536
  | 0, _ => by
    show r / 281474976710656 % 65536 = 0 * 65536 + r / 281474976710656 % 65536 ∧ 0 < 281474976710656 ∧ r / 281474976710656 % 65536 < 65536
    omega
  | 1, _ => by
    show r / 4294967296 % 4294967296 = r / 281474976710656 % 65536 * 65536 + r / 4294967296 % 65536 ∧ r / 281474976710656 % 65536 < 281474976710656 ∧ r / 4294967296 % 65536 < 65536
    omega
  | 2, _ => by
    show r / 65536 % 281474976710656 = r / 4294967296 % 4294967296 * 65536 + r / 65536 % 65536 ∧ r / 4294967296 % 4294967296 < 281474976710656 ∧ r / 65536 % 65536 < 65536
    omega
  | 3, _ => by
    show r % 18446744073709551616 = r / 65536 % 281474976710656 * 65536 + r % 65536 ∧ r / 65536 % 281474976710656 < 281474976710656 ∧ r % 65536 < 65536
    omega
  | n + 4, h => by omega
theorem shl16 {n d : Nat} (h : n < 281474976710656) (hd : d < 65536) : shlU64 (UInt64.ofNat n) 16 + UInt64.ofNat d = UInt64.ofNat (n * 65536 + d) := by
  have h8 : shlU64 (UInt64.ofNat n) 16 = (UInt64.ofNat n) <<< 16 := by simp [shlU64]
  rw [h8]
  apply UInt64.toNat_inj.1
  rw [UInt64.toNat_add, UInt64.toNat_shiftLeft]
  simp only [UInt64.toNat_ofNat', Nat.shiftLeft_eq, UInt64.reduceToNat, Nat.reduceMod, Nat.reducePow]
  omega
theorem root_one {g a b n : Nat} (hn : n ≠ 0) (h1 : a ^ n ≤ g) (h2 : g < (b + 1) ^ n) : a ≤ b := by
  have : a ^ n < (b + 1) ^ n := by omega
  have := (Nat.pow_lt_pow_iff_left hn).1 this
  omega

set_option maxHeartbeats 1000000 in
theorem c_root {w : World} {p wh R : Nat} (hp : p < 65536) (hw : wh = 2 ∨ wh = 3) (hR : R < 4722366482869645213696) (h1 : R ^ wh ≤ p * 65536 ^ (4 * wh)) (h2 : p * 65536 ^ (4 * wh) < (R + 1) ^ wh) :
    Calls Tryd.prog 47 #[.int .i64 p, .int .i64 wh] w (Ret fun v w' => v = .int .u64 (UInt64.ofNat R).toNat ∧ Mod NoB w w') := by
  refine call47 _ _ ?_
  unfold sh47
  obtain ⟨i', j1, j2, j3, j4⟩ := i32
  have hw0 : wh ≠ 0 := by omega
  have e4 : IntKind.i64.wrap ((4 : Int) * (wh : Int)) = ((4 * wh : Nat) : Int) := by rw [wrap_i64 (by omega)]; omega
  rw [e4]
  rw [show IntKind.i64.wrap (((4 * wh : Nat) : Int) + 1) = ((4 * wh + 1 : Nat) : Int) by rw [wrap_i64 (by omega)]; omega]
  refine sem_makeSlice (l := 4 * wh + 1) (c := 4 * wh + 1) uD j1 j2 j3 rfl j4 rfl rfl (by omega) (by omega) (by omega) fun m w1 hN hb1 ho1 => ⟨⟨some ⟨m, 0, none⟩, 4 * wh + 1, 4 * wh + 1⟩, rfl, ?_⟩
  obtain ⟨Y, hY⟩ : ∃ Y : Slc, Y = ⟨some ⟨m, 0, none⟩, 4 * wh + 1, 4 * wh + 1⟩ := ⟨_, rfl⟩
  have hYl : Y.len = 4 * wh + 1 := by rw [hY]
  have hYa : Y.a = some ⟨m, 0, none⟩ := by rw [hY]
  rw [rep_ds, ← hY] at ho1
  have hmf : FB w Y := by rw [hY]; exact FB.new (by rw [hN.at_]; exact Nat.le_refl _)
  rw [← hY]
  refine ⟨⟨by omega, by omega⟩, onSome_of hYa ?_⟩
  rw [wrap_u32 (show p < 4294967296 by omega)]
  refine semU_own1 (i := 4 * wh) (by kernel_rfl) (by kernel_rfl) rfl ho1 hYa (by omega) fun w2 ho2 hm2 hs2 => ?_
  rw [ds_set] at ho2
  have hM2 : Mod NoB w w2 := hN.mod.fresh hm2 fun x hx => hmf x hx
  obtain ⟨gl, hgl⟩ : ∃ gl, gl = (List.replicate (4 * wh + 1) 0).set (4 * wh) p := ⟨_, rfl⟩
  obtain ⟨G, hG⟩ : ∃ G, G = p * 65536 ^ (4 * wh) := ⟨_, rfl⟩
  have hgv : val gl = G := by rw [hgl, hG]; exact V_set0 (by omega)
  have hgd : ∀ j, dg gl j < 65536 := fun j => by
    rw [hgl, dg_set (by simp)]
    split
    · exact hp
    · rw [dg_rep]; decide
  have hgn : gl.length ≤ 1000 := by rw [hgl]; simp; omega
  rw [← hgl] at ho2
  rw [← hG] at h1 h2
  refine sem_makeSlice (l := 5) (c := 5) uD j1 j2 j3 rfl j4 rfl rfl (by omega) (by omega) (by omega) fun q w3 hN3 hb3 ho3 => ⟨⟨some ⟨q, 0, none⟩, 5, 5⟩, rfl, ?_⟩
  obtain ⟨X, hX⟩ : ∃ X : Slc, X = ⟨some ⟨q, 0, none⟩, 5, 5⟩ := ⟨_, rfl⟩
  have hXl : X.len = 5 := by rw [hX]
  have hXa : X.a = some ⟨q, 0, none⟩ := by rw [hX]
  have hXf : FB w2 X := by rw [hX]; exact FB.new (by rw [hN3.at_]; exact Nat.le_refl _)
  rw [← hX]
  have ho3 : Sh.Own w3 X 1 (ds (toD 0)) := by rw [hX]; exact ho3
  have h72 : G < (4722366482869645213696) ^ wh := Nat.lt_of_lt_of_le h2 (Nat.pow_le_pow_left (by omega) wh)
  refine ⟨fun l' w' => match l' with | [.i _ i] => ∃ t r m : Nat, i = (t : Int) - 1 ∧ t ≤ 72 ∧ Sh.Own w' X 1 (ds (toD r)) ∧ r = 2 ^ t * m ∧ r + 2 ^ t ≤ 4722366482869645213696 ∧ r ^ wh ≤ G ∧ G < (r + 2 ^ t) ^ wh ∧ Mod NoB w2 w' | _ => False,
    fun l' _ => match l' with | [.i _ i] => (i + 1).toNat | _ => 0, ⟨72, 0, 0, rfl, by omega, ho3, by simp, by simp, by rw [Nat.zero_pow (by omega)]; omega, by simpa using h72, hN3.mod⟩, ?_⟩
  rintro i w4 ⟨t, r, m4, rfl, ht, ho4, hrm, hrb, hr1, hr2, hm4⟩
  refine condK_i (fun hc => ?_) fun hc => ?_
  · obtain ⟨s, rfl⟩ : ∃ s, t = s + 1 := ⟨t - 1, by simp at hc; omega⟩
    have hs72 : s < 72 := by omega
    have hs2 : 2 ^ (s + 1) = 2 ^ s + 2 ^ s := by rw [Nat.pow_succ]; omega
    have hpos : 0 < 2 ^ s := Nat.pos_of_ne_zero (by simp)
    rw [show (((s + 1 : Nat) : Int) - 1) = (s : Int) by omega]
    have d1 : IntKind.i64.wrap (Int.tdiv (s : Int) 16) = ((s / 16 : Nat) : Int) := by
      rw [show Int.tdiv (s : Int) 16 = ((s / 16 : Nat) : Int) from rfl, wrap_i64 (by omega)]
    have d2 : (u64OfInt (Int.tmod (s : Int) 16)).toNat = s % 16 := by
      rw [show Int.tmod (s : Int) 16 = ((s % 16 : Nat) : Int) from rfl, u64_nat, UInt64.toNat_ofNat']; omega
    have hP : 2 ^ (s % 16) ≤ 2 ^ 15 := Nat.pow_le_pow_right (by omega) (by omega)
    have d3 : IntKind.u32.wrap ((1 : Int) * 2 ^ (min ((((u64OfInt (Int.tmod (s : Int) (16 : Int)))).toNat : Int)).toNat (IntKind.bits .u32))) = ((2 ^ (s % 16) : Nat) : Int) := by
      rw [Int.toNat_natCast, d2, show min (s % 16) (IntKind.bits .u32) = s % 16 from Nat.min_eq_left (by simp [IntKind.bits]; omega), Int.one_mul]
      rw [show ((2 : Int) ^ (s % 16)) = ((2 ^ (s % 16) : Nat) : Int) from (Int.natCast_pow 2 (s % 16)).symm, wrap_u32 (by omega)]
    simp only [d1, d3]
    obtain ⟨b1, b2⟩ := toD_bits s hs72 r m4 (by omega) hrm
    have htl : (toD r).length = 5 := rfl
    have hq5 : s / 16 < 5 := by omega
    refine ⟨by decide, by decide, ⟨by omega, by omega⟩, onSome_of hXa ⟨(dg (toD r) (s / 16) : Nat), rd_d ho4.rd hXa (by omega) (Mod.refl _ _), by decide, by omega, ⟨by omega, by omega⟩, onSome_of hXa ?_⟩⟩
    rw [← Int.natCast_add, wrap_u32 (by omega)]
    refine semU_own1 (i := s / 16) (by kernel_rfl) (by kernel_rfl) rfl ho4 hXa (by omega) fun w5 ho5 hm5 hs5 => ?_
    rw [ds_set, b1] at ho5
    have hM5 : Mod NoB w2 w5 := hm4.fresh hm5 fun x hx => hXf x hx
    have hv5 : val (toD (r + 2 ^ s)) = r + 2 ^ s := toD_val (by omega)
    refine callK_ret (c_times ho5.rd ho5.rd toD_lt toD_lt (by simp [toD]) (by simp [toD])) ?_
    rintro v w6 ⟨x3, ol, rfl, hx3, hol, hod, hov, _, hm6⟩
    rw [hv5] at hov
    refine ⟨x3, rfl, fun l' w' => ∃ x ol, l' = [.sl x] ∧ SlRd w' x 1 (ds ol) ∧ (∀ j, dg ol j < 65536) ∧ ol.length ≤ 1000 ∧ val ol = (r + 2 ^ s) ^ wh ∧ Mod NoB w5 w', condK_i (fun h3 => ?_) fun h3 => ?_, ?_⟩
    · have hw3 : wh = 3 := by simp at h3; omega
      refine callK_ret (c_times hx3.rd (ho5.no hm6).rd hod toD_lt (by rw [hol]; simp [toD]) (by simp [toD])) ?_
      rintro v w7 ⟨x4, ol4, rfl, hx4, hol4, hod4, hov4, _, hm7⟩
      refine ⟨x4, rfl, x4, ol4, rfl, hx4.rd, hod4, by rw [hol4, hol]; simp [toD], ?_, hm6.tr hm7⟩
      rw [hov4, hov, hv5, hw3, Nat.pow_succ, Nat.pow_two]
    · have hw2 : wh = 2 := by simp at h3; omega
      exact ⟨x3, ol, rfl, hx3.rd, hod, by rw [hol]; simp [toD], by rw [hov, hw2, Nat.pow_two], hm6⟩
    rintro pp w8 ⟨x, ol, he, hx, hod, hol, hov, hm8⟩
    simp at he; subst he
    have hM8 := hM5.tr hm8
    refine callK_ret (c_above hx (ho2.no hM8).rd hod hgd hol hgn) ?_
    rintro v w9 ⟨rfl, rfl⟩
    rw [hgv, hov]
    refine ⟨_, rfl, condK_i (fun hgt => ?_) fun hle => ?_⟩
    · have hgt : G < (r + 2 ^ s) ^ wh := by simpa using hgt
      have ho9 := ho5.no hm8
      have hdg : dg (toD (r + 2 ^ s)) (s / 16) = dg (toD r) (s / 16) + 2 ^ (s % 16) := by rw [← b1, dg_set (by omega), if_pos rfl]
      refine ⟨by decide, by decide, ⟨by omega, by omega⟩, onSome_of hXa ⟨(dg (toD (r + 2 ^ s)) (s / 16) : Nat), rd_d ho9.rd hXa (by simp [toD]; omega) (Mod.refl _ _), by decide, by omega, ⟨by omega, by omega⟩, onSome_of hXa ?_⟩⟩
      rw [hdg, show (((dg (toD r) (s / 16) + 2 ^ (s % 16) : Nat) : Int) - ((2 ^ (s % 16) : Nat) : Int)) = ((dg (toD r) (s / 16) : Nat) : Int) by omega, wrap_u32 (show dg (toD r) (s / 16) < 4294967296 by have := toD_lt (r := r) (s / 16); omega)]
      refine semU_own1 (i := s / 16) (by kernel_rfl) (by kernel_rfl) rfl ho9 hXa (by omega) fun w10 ho10 hm10 hs10 => ?_
      rw [ds_set, ← b1, List.set_set, set_dg (by omega)] at ho10
      rw [show IntKind.i64.wrap ((s : Int) - 1) = (s : Int) - 1 from wrap_i64 (by omega)]
      exact ⟨⟨s, r, 2 * m4, rfl, by omega, ho10, by rw [hrm, Nat.pow_succ, Nat.mul_assoc], by omega, hr1, hgt, hM8.fresh hm10 fun x hx => hXf x hx⟩, by (try simp only []); omega⟩
    · have hle : (r + 2 ^ s) ^ wh ≤ G := by simpa using hle
      rw [show IntKind.i64.wrap ((s : Int) - 1) = (s : Int) - 1 from wrap_i64 (by omega)]
      refine ⟨⟨s, r + 2 ^ s, 2 * m4 + 1, rfl, by omega, ho5.no hm8, ?_, by omega, hle, by rw [Nat.add_assoc, ← hs2]; exact hr2, hM8⟩, by (try simp only []); omega⟩
      rw [hrm, Nat.pow_succ, Nat.mul_assoc, Nat.mul_add, Nat.mul_one]
  · have ht0 : t = 0 := by simp at hc; omega
    subst ht0
    have hrR : r = R := by
      have g1 := root_one hw0 hr1 h2
      have g2 := root_one hw0 h1 (by simpa using hr2)
      omega
    subst hrR
    refine ⟨fun l' w' => match l' with | [.u64 n, .i _ i] => ∃ k : Nat, i = 3 - (k : Int) ∧ k ≤ 4 ∧ n = UInt64.ofNat (nk r k) ∧ w' = w4 | _ => False, fun l' _ => match l' with | [.u64 n, .i _ i] => (i + 1).toNat | _ => 0, ⟨0, rfl, by omega, rfl, rfl⟩, ?_⟩
    rintro n i w11 ⟨k, rfl, hk, rfl, rfl⟩
    refine condK_i (fun hc => ?_) fun hc => ?_
    · have hk4 : k < 4 := by simp at hc; omega
      obtain ⟨n1, n2, n3⟩ := nk_step (r := r) k hk4
      rw [show ((3 : Int) - (k : Int)) = ((3 - k : Nat) : Int) by omega]
      refine ⟨by omega, ⟨by omega, by omega⟩, onSome_of hXa ⟨(dg (toD r) (3 - k) : Nat), rd_d ho4.rd hXa (by simp [toD]; omega) (Mod.refl _ _), ?_⟩⟩
      rw [u64_nat, show (((16 : UInt64).toNat : Int)).toNat = 16 from rfl, shl16 n2 n3, ← n1, wrap_i64 (by omega)]
      exact ⟨⟨k + 1, by omega, by omega, rfl, rfl⟩, by (try simp only []); omega⟩
    · have hk4 : k = 4 := by simp at hc; omega
      subst hk4
      refine ⟨?_, hM2.tr hm4⟩
      congr 2
      show (UInt64.ofNat (r % 18446744073709551616)).toNat = _
      simp only [UInt64.toNat_ofNat']
      omega
end Go.Proofs.YtbbfcamopdckmaaDoor
