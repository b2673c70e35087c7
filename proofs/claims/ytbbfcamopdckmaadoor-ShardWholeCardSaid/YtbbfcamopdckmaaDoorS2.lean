/- SHA: the words' turns and a block. -/
import Derived.Test.YtbbfcamopdckmaaDoorFnA
import Derived.Test.YtbbfcamopdckmaaDoorS1
set_option linter.unusedSimpArgs false
set_option linter.unusedVariables false
namespace Go.Proofs.YtbbfcamopdckmaaDoor
open Go Go.Sh

def us (l : List UInt64) : List Value := l.map fun x => .int .u64 x.toNat
theorem us_one (l : List UInt64) : ∀ y ∈ us l, y.oneCell' = true := by
  intro y hy
  obtain ⟨x, _, rfl⟩ := List.mem_map.1 hy
  rfl
@[simp] theorem us_len (l : List UInt64) : (us l).length = l.length := by simp [us]
theorem us_app (a b : List UInt64) : us (a ++ b) = us a ++ us b := by simp [us]
theorem us_at {l : List UInt64} {i : Nat} (h : i < l.length) : (us l)[i]? = some (.int .u64 l[i].toNat) := by simp [us, h]
theorem us_getD {l : List UInt64} {i : Nat} (h : i < l.length) : (us l)[i]? = some (.int .u64 (l.getD i 0).toNat) := by simp [us, h]
theorem bys_at {l : List UInt8} {i : Nat} (h : i < l.length) : (bys l)[i]? = some (.int .u8 l[i].toNat) := by simp [bys, h]

/-- the count of a left turn by less than none -/
theorem turn_count : ∀ a : Fin 64, a.val ≠ 0 → (u64OfInt (IntKind.i64.wrap (0 - (a.val : Int)))) &&& 63 = UInt64.ofNat (64 - a.val) := by decide
theorem c_rot {w : World} {x : UInt64} {a : Nat} (h0 : 0 < a) (h1 : a < 64) {k : Int} (hk : k = IntKind.i64.wrap (0 - (a : Int))) :
    Calls Tryd.prog 119 #[.int .u64 x.toNat, .int .i64 k] w (Ret fun v w' => v = .int .u64 (rr x a).toNat ∧ w' = w) := by
  subst hk
  refine call119 _ _ ?_
  unfold sh119
  rw [turn_count ⟨a, h1⟩ (by simp only; omega)]
  have e1 : (UInt64.ofNat (64 - a)).toNat = 64 - a := by simp [UInt64.toNat_ofNat']; omega
  have e2 : ((64 : UInt64) - UInt64.ofNat (64 - a)).toNat = a := by
    rw [UInt64.toNat_sub, e1]
    simp; omega
  simp only [e1, e2, Int.toNat_natCast]
  refine ⟨by omega, by omega, ?_, rfl⟩
  show Value.int .u64 _ = Value.int .u64 _
  rw [UInt64.or_comm]
  rfl

theorem c_mix {w : World} {x : UInt64} {a b c : Nat} (ha : 0 < a ∧ a < 64) (hb : 0 < b ∧ b < 64) (hc : 0 < c ∧ c < 64) :
    Calls Tryd.prog 81 #[.int .u64 x.toNat, .int .i64 a, .int .i64 b, .int .i64 c] w (Ret fun v w' => v = .int .u64 ((rr x a ^^^ rr x b) ^^^ rr x c).toNat ∧ w' = w) := by
  refine call81 _ _ _ _ ?_
  unfold sh81
  refine callK_ret (c_rot ha.1 ha.2 rfl) ?_
  rintro v w1 ⟨rfl, rfl⟩
  refine ⟨_, rfl, callK_ret (c_rot hb.1 hb.2 rfl) ?_⟩
  rintro v w1 ⟨rfl, rfl⟩
  refine ⟨_, rfl, callK_ret (c_rot hc.1 hc.2 rfl) ?_⟩
  rintro v w1 ⟨rfl, rfl⟩
  exact ⟨_, rfl, rfl, rfl⟩

theorem c_small {w : World} {x : UInt64} {a b c : Nat} (ha : 0 < a ∧ a < 64) (hb : 0 < b ∧ b < 64) :
    Calls Tryd.prog 80 #[.int .u64 x.toNat, .int .i64 a, .int .i64 b, .int .i64 c] w (Ret fun v w' => v = .int .u64 ((rr x a ^^^ rr x b) ^^^ shrU64 x c).toNat ∧ w' = w.drew) := by
  refine call80 _ _ _ _ ?_
  unfold sh80
  refine ⟨by omega, callK_ret (c_rot ha.1 ha.2 rfl) ?_, trivial⟩
  rintro v w1 ⟨rfl, rfl⟩
  refine ⟨_, rfl, callK_ret (c_rot hb.1 hb.2 rfl) ?_, trivial⟩
  rintro v w1 ⟨rfl, rfl⟩
  exact ⟨_, rfl, rfl, rfl⟩

/-- the constants lie where the initialisers lay them -/
def H0 : List UInt64 := [0x6a09e667f3bcc908, 0xbb67ae8584caa73b, 0x3c6ef372fe94f82b, 0xa54ff53a5f1d36f1, 0x510e527fade682d1, 0x9b05688c2b3e6c1f, 0x1f83d9abfb41bd6b, 0x5be0cd19137e2179]
def KS : List UInt64 := [
  0x428a2f98d728ae22, 0x7137449123ef65cd, 0xb5c0fbcfec4d3b2f, 0xe9b5dba58189dbbc,
  0x3956c25bf348b538, 0x59f111f1b605d019, 0x923f82a4af194f9b, 0xab1c5ed5da6d8118,
  0xd807aa98a3030242, 0x12835b0145706fbe, 0x243185be4ee4b28c, 0x550c7dc3d5ffb4e2,
  0x72be5d74f27b896f, 0x80deb1fe3b1696b1, 0x9bdc06a725c71235, 0xc19bf174cf692694,
  0xe49b69c19ef14ad2, 0xefbe4786384f25e3, 0x0fc19dc68b8cd5b5, 0x240ca1cc77ac9c65,
  0x2de92c6f592b0275, 0x4a7484aa6ea6e483, 0x5cb0a9dcbd41fbd4, 0x76f988da831153b5,
  0x983e5152ee66dfab, 0xa831c66d2db43210, 0xb00327c898fb213f, 0xbf597fc7beef0ee4,
  0xc6e00bf33da88fc2, 0xd5a79147930aa725, 0x06ca6351e003826f, 0x142929670a0e6e70,
  0x27b70a8546d22ffc, 0x2e1b21385c26c926, 0x4d2c6dfc5ac42aed, 0x53380d139d95b3df,
  0x650a73548baf63de, 0x766a0abb3c77b2a8, 0x81c2c92e47edaee6, 0x92722c851482353b,
  0xa2bfe8a14cf10364, 0xa81a664bbc423001, 0xc24b8b70d0f89791, 0xc76c51a30654be30,
  0xd192e819d6ef5218, 0xd69906245565a910, 0xf40e35855771202a, 0x106aa07032bbd1b8,
  0x19a4c116b8d2d0c8, 0x1e376c085141ab53, 0x2748774cdf8eeb99, 0x34b0bcb5e19b48a8,
  0x391c0cb3c5c95a63, 0x4ed8aa4ae3418acb, 0x5b9cca4f7763e373, 0x682e6ff3d6b2b8a3,
  0x748f82ee5defb2fc, 0x78a5636f43172f60, 0x84c87814a1f0ab72, 0x8cc702081a6439ec,
  0x90befffa23631e28, 0xa4506cebde82bde9, 0xbef9a3f7b2c67915, 0xc67178f2e372532b,
  0xca273eceea26619c, 0xd186b8c721c0c207, 0xeada7dd6cde0eb1e, 0xf57d4f7fee6ed178,
  0x06f067aa72176fba, 0x0a637dc5a2c898a6, 0x113f9804bef90dae, 0x1b710b35131c471b,
  0x28db77f523047d84, 0x32caab7b40c72493, 0x3c9ebe0a15c9bebc, 0x431d67c49c100d4c,
  0x4cc5d4becb3e42b6, 0x597f299cfc657e2a, 0x5fcb6fab3ad6faec, 0x6c44198c4a475817]
def sha (b : List UInt8) : List UInt8 := shaBy H0 KS b
theorem H0_len : H0.length = 8 := rfl
theorem KS_len : KS.length = 80 := rfl
def isG (x : Nat) : Prop := x = 0 ∨ x = 1
structure Glob (w : World) : Prop where
  begin0 : Rd w ⟨0, 0, none⟩ (us H0)
  rest0 : Rd w ⟨1, 0, none⟩ (us KS)
theorem rd_lt {w : World} {a : Addr} {vs : List Value} (h : Rd w a vs) (hv : 0 < vs.length) : a.block < w.heap.size := by
  have h0 := h 0 vs[0] (by simp)
  rw [add0] at h0
  exact World.block_lt_of_cell? w _ h0
theorem Glob.lt {w : World} (h : Glob w) {x : Nat} (hx : isG x) : x < w.heap.size := by
  rcases hx with rfl | rfl
  · exact rd_lt h.begin0 (by simp [H0_len])
  · exact rd_lt h.rest0 (by simp [KS_len])
theorem Glob.mod {w w' : World} {S : Nat → Prop} (h : Glob w) (hm : Mod S w w') (hs : ∀ x, isG x → ¬ S x) : Glob w' :=
  ⟨h.begin0.mod hm (hs _ (.inl rfl)), h.rest0.mod hm (hs _ (.inr rfl))⟩
theorem Glob.no {w w' : World} (h : Glob w) (hm : Mod NoB w w') : Glob w' := h.mod hm fun _ _ h => h
theorem Glob.drew {w : World} (h : Glob w) : Glob w.drew := ⟨h.begin0, h.rest0⟩
theorem Glob.fresh {w : World} (h : Glob w) {x : Nat} (hx : w.heap.size ≤ x) : ¬ isG x := fun e => by have := h.lt e; omega
end Go.Proofs.YtbbfcamopdckmaaDoor
