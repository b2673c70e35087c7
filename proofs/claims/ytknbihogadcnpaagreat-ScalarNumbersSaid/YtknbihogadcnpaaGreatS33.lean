/- Scalars: what the statements call: one, L and more, sums and products; the chapter's examples. -/
import Derived.Test.YtknbihogadcnpaaGreatS32
set_option linter.unusedSimpArgs false
set_option linter.unusedVariables false
set_option maxRecDepth 100000
namespace Go.Proofs.YtknbihogadcnpaaGreat
open Go Go.Sh

theorem own_lt {w : World} {s : Slc} {k : Nat} {vs : List Value} (h : Sh.Own w s k vs) : ∀ x, s.blk = some x → x < w.heap.size := by
  intro x hx
  rcases h.owned with ⟨e1, e2, e3⟩ | ⟨hcp, b, o, l, E, e1, e2, e3, e4⟩
  · rw [Slc.blk_zero e1] at hx; cases hx
  · rw [Slc.blk_of e1 hcp] at hx; cases hx; exact e2.lt
def oneB (n : UInt8) : List UInt8 := n :: List.replicate 31 0
theorem oneB_len (n : UInt8) : (oneB n).length = 32 := by simp [oneB]
theorem le_oneB (n : UInt8) : le (oneB n) = n.toNat := by simp only [oneB, le, le_zeros]; omega
/-- a contract that hands back new bytes -/
def NewB (w : World) (l : List UInt8) (v : Value) (w' : World) : Prop := ∃ x : Slc, v = x.val ∧ Sh.Own w' x 1 (bys l) ∧ x.cap = x.len ∧ FB w x ∧ Mod NoB w w'

theorem c_one {w : World} {n : UInt8} : Calls Tryz.prog 22 #[.int .u8 n.toNat] w (Ret (NewB w (oneB n))) := by
  refine call22 _ ?_
  unfold sh22
  obtain ⟨i5', h51, h52, h53, h54⟩ := i5
  refine sem_makeSlice (l := 32) (c := 32) u26 h51 h52 h53 rfl h54 rfl rfl (by omega) (by omega) (by omega) fun e w1 hN1 hb1 ho1 => ⟨⟨_, _, _⟩, rfl, ⟨by omega, by show (0 : Int) < ((32 : Nat) : Int); omega⟩, ?_⟩
  rw [bys_rep] at hb1
  have hat := hN1.at_
  refine semU_at (b := e) (n := 0) (by kernel_rfl) (by kernel_rfl) rfl hb1 (by simp) fun w2 ht2 hb2 => ?_
  rw [bys_set] at hb2
  exact ⟨⟨some ⟨e, 0, none⟩, 32, 32⟩, rfl, own_whole (n := 32) (k := 1) hb2 (by simp [oneB]), rfl, FB.new (by omega), hN1.mod.fresh ht2.mod fun x hx => by omega⟩
def lRest : List UInt8 := [0xd3, 0xf5, 0x5c, 0x1a, 0x63, 0x12, 0x58, 0xd6, 0x9c, 0xf7, 0xa2, 0xde, 0xf9, 0xde, 0x14, 0, 0, 0, 0, 0, 0, 0, 0, 0, 0, 0, 0, 0, 0, 0, 0x10]
def lB (n : Int) : List UInt8 := u8OfInt (IntKind.i64.wrap ((237 : Int) + n)) :: lRest
theorem lB_len (n : Int) : (lB n).length = 32 := rfl
theorem le_lB {n : Int} (h : -200 ≤ n ∧ n ≤ 18) : (le (lB n) : Int) = LO + n := by
  have e : (u8OfInt (IntKind.i64.wrap ((237 : Int) + n))).toNat = (237 + n).toNat := by
    rw [wrap_i64 (by omega)]
    unfold u8OfInt
    rw [UInt8.toNat_ofNat']; omega
  have e2 : 256 * le lRest + 237 = LO := by decide +kernel
  simp only [lB, le, e]
  omega
theorem c_l {w : World} {n : Int} : Calls Tryz.prog 21 #[.int .i64 n] w (Ret (NewB w (lB n))) := by
  refine call21 _ ?_
  unfold sh21
  obtain ⟨i5', h51, h52, h53, h54⟩ := i5
  refine sem_makeSlice (l := 32) (c := 32) u26 h51 h52 h53 rfl h54 rfl rfl (by omega) (by omega) (by omega) fun e w1 hN1 hb1 ho1 => ⟨⟨_, _, _⟩, rfl, ?_⟩
  rw [bys_rep] at hb1
  have hat := hN1.at_; have hsz := hN1.size
  refine sem_bytes [237, 211, 245, 92, 26, 99, 18, 88, 214, 156, 247, 162, 222, 249, 222, 20] (by rfl) rfl (by decide) (by decide) fun x e2 w2 hN2 hx hbx hox => ⟨x, rfl, ?_⟩
  have hxl : x.len = 16 := by rw [hx]
  refine sem_copy (d := ⟨some ⟨e, 0, none⟩, 32, 32⟩) (b := e) (o := 0) u26 h51 h53 rfl (hb1.no hN2.mod) (by simp) hox.rd (bys_one _) fun w3 hb3 hm3 hs3 => ⟨_, rfl, ⟨by omega, by show (31 : Int) < ((32 : Nat) : Int); omega⟩, ?_⟩
  rw [hxl] at hb3
  refine semU_at (b := e) (n := 31) (by kernel_rfl) (by kernel_rfl) rfl hb3 (by show 31 < (putAt (bys (List.replicate 32 0)) 0 ((bys [237, 211, 245, 92, 26, 99, 18, 88, 214, 156, 247, 162, 222, 249, 222, 20]).take (min 16 32 * 1))).length; decide) fun w4 ht4 hb4 => ?_
  have e1 : (putAt (bys (List.replicate 32 0)) 0 ((bys [237, 211, 245, 92, 26, 99, 18, 88, 214, 156, 247, 162, 222, 249, 222, 20]).take (min 16 32 * 1))).set 31 (.int .u8 (16 : UInt8).toNat) = bys (237 :: lRest) := by rfl
  have hb4 : Blk w4 e (bys (237 :: lRest)) 5 := e1 ▸ hb4
  refine ⟨⟨by omega, by show (0 : Int) < ((32 : Nat) : Int); omega⟩, 237, rda (n := 0) hb4 rfl, ⟨by omega, by show (0 : Int) < ((32 : Nat) : Int); omega⟩, ?_⟩
  refine semU_at (b := e) (n := 0) (by kernel_rfl) (by kernel_rfl) rfl hb4 (by simp) fun w5 ht5 hb5 => ?_
  rw [bys_set] at hb5
  have hs2 := hN2.mod.size
  exact ⟨⟨some ⟨e, 0, none⟩, 32, 32⟩, rfl, own_whole (n := 32) (k := 1) hb5 (by rfl), rfl, FB.new (by omega), (((hN1.mod.tr hN2.mod).fresh hm3 fun x hx => by omega).fresh ht4.mod fun x hx => by omega).fresh ht5.mod fun x hx => by omega⟩
theorem c_mulN {w : World} {a b c : Slc} {la lb lc : List UInt8} (ha : SlRd w a 1 (bys la)) (hal : ∀ x, a.blk = some x → x < w.heap.size) (hb : SlRd w b 1 (bys lb)) (hbl : ∀ x, b.blk = some x → x < w.heap.size) (hc : SlRd w c 1 (bys lc)) (hcl : ∀ x, c.blk = some x → x < w.heap.size) :
    Calls Tryz.prog 19 #[.slice a.a a.len a.cap, .slice b.a b.len b.cap, .slice c.a c.len c.cap] w (Ret (NewB w (mulT la lb lc))) := c_mulAdd ha hal hb hbl hc hcl
theorem c_redNB {w : World} {s : Slc} {l : List UInt8} (hs : SlRd w s 1 (bys l)) (hsl : ∀ x, s.blk = some x → x < w.heap.size) :
    Calls Tryz.prog 8 #[.slice s.a s.len s.cap] w (Ret (NewB w (redT l))) := c_reduce hs hsl

theorem redT_one : redT [1] = oneB 1 := by decide +kernel
theorem redT_L : redT (lB 0) = oneB 0 := by decide +kernel
theorem mulT_10 : mulT (oneB 2) (oneB 3) (oneB 4) = oneB 10 := by decide +kernel
theorem bit_one0 : (bitsT (oneB 1))[0]? = some true := by decide +kernel
theorem bit_one1 : (bitsT (oneB 1))[1]? = some false := by decide +kernel
/-- the chapter's examples -/
theorem c_awake03 {w : World} : Calls Tryz.prog 6 #[] w (Ret fun v w' => v = .bool true ∧ Mod NoB w w') := by
  refine call6 ?_
  unfold sh6
  refine callK_ret c_one ?_
  rintro v w1 ⟨x, rfl, hox, -, hfx, hm1⟩
  refine ⟨x, rfl, callK_ret (c_bitsS hox.rd (own_lt hox)) ?_⟩
  rintro v w2 ⟨y, rfl, hoy, hfy, hm2⟩
  have hM2 := hm1.tr hm2
  refine ⟨y, rfl, ?_⟩
  refine sem_bytes [1] (by rfl) rfl (by decide) (by decide) fun z e w3 hN3 hz hbz hoz => ⟨z, rfl, callK_ret (c_redNB hoz.rd (own_lt hoz)) ?_⟩
  rintro v w4 ⟨x3, rfl, ho4, -, hf4, hm4⟩
  refine ⟨x3, rfl, callK_ret c_one ?_⟩
  rintro v w5 ⟨x4, rfl, ho5, -, hf5, hm5⟩
  refine ⟨x4, rfl, callK_ret (c_same (ho4.rd.no hm5) ho5.rd (by rw [redT_one, oneB_len]; omega)) ?_⟩
  rintro v w6 ⟨rfl, hm6⟩
  have hM6 := (((hM2.tr hN3.mod).tr hm4).tr hm5).tr hm6
  refine ⟨_, rfl, condK_i (fun _ => ?_) fun h => by rw [redT_one] at h; simp at h⟩
  refine callK_ret c_l ?_
  rintro v w7 ⟨x6, rfl, ho7, -, hf7, hm7⟩
  refine ⟨x6, rfl, callK_ret (c_redNB ho7.rd (own_lt ho7)) ?_⟩
  rintro v w8 ⟨x7, rfl, ho8, -, hf8, hm8⟩
  refine ⟨x7, rfl, callK_ret c_one ?_⟩
  rintro v w9 ⟨x8, rfl, ho9, -, hf9, hm9⟩
  refine ⟨x8, rfl, callK_ret (c_same (ho8.rd.no hm9) ho9.rd (by rw [redT_L, oneB_len]; omega)) ?_⟩
  rintro v w10 ⟨rfl, hm10⟩
  have hM10 := (((hM6.tr hm7).tr hm8).tr hm9).tr hm10
  refine ⟨_, rfl, condK_i (fun _ => ?_) fun h => by rw [redT_L] at h; simp at h⟩
  refine callK_ret c_one ?_
  rintro v w11 ⟨x10, rfl, ho11, -, hf11, hm11⟩
  refine ⟨x10, rfl, callK_ret c_one ?_⟩
  rintro v w12 ⟨x11, rfl, ho12, -, hf12, hm12⟩
  refine ⟨x11, rfl, callK_ret c_one ?_⟩
  rintro v w13 ⟨x12, rfl, ho13, -, hf13, hm13⟩
  have ha := ho11.no (hm12.tr hm13); have hb := ho12.no hm13
  refine ⟨x12, rfl, callK_ret (c_mulN ha.rd (own_lt ha) hb.rd (own_lt hb) ho13.rd (own_lt ho13)) ?_⟩
  rintro v w14 ⟨x13, rfl, ho14, -, hf14, hm14⟩
  refine ⟨x13, rfl, callK_ret c_one ?_⟩
  rintro v w15 ⟨x14, rfl, ho15, -, hf15, hm15⟩
  refine ⟨x14, rfl, callK_ret (c_same (ho14.rd.no hm15) ho15.rd (by rw [mulT_10, oneB_len]; omega)) ?_⟩
  rintro v w16 ⟨rfl, hm16⟩
  have hM16 := (((((hM10.tr hm11).tr hm12).tr hm13).tr hm14).tr hm15).tr hm16
  refine ⟨_, rfl, condK_i (fun _ => ?_) fun h => by rw [mulT_10] at h; simp at h⟩
  refine callK_ret c_l ?_
  rintro v w17 ⟨x16, rfl, ho17, -, hf17, hm17⟩
  refine ⟨x16, rfl, callK_ret (c_right ho17.rd (own_lt ho17)) ?_⟩
  rintro v w18 ⟨rfl, hm18⟩
  have l0 := le_lB (n := 0) (by omega)
  have r0 : ¬ ((lB 0).length = 32 ∧ le (lB 0) < LO) := by omega
  refine ⟨_, rfl, ?_⟩
  rw [decide_eq_false r0]
  refine condK_i (fun _ => ?_) fun h => by cases h
  refine callK_ret c_l ?_
  rintro v w19 ⟨x18, rfl, ho19, -, hf19, hm19⟩
  refine ⟨x18, rfl, callK_ret (c_right ho19.rd (own_lt ho19)) ?_⟩
  rintro v w20 ⟨rfl, hm20⟩
  have l1 := le_lB (n := -1) (by omega)
  have r1 : ((lB (-1)).length = 32 ∧ le (lB (-1)) < LO) := ⟨lB_len _, by omega⟩
  have hM20 := (((hM16.tr hm17).tr hm18).tr hm19).tr hm20
  refine ⟨_, rfl, ?_⟩
  rw [decide_eq_true r1]
  refine condK_i (fun _ => ?_) fun h => by cases h
  have hb : bitsT (oneB 1) = (List.range 256).map (bitOf (oneB 1)) := by rw [bitsT, if_pos (oneB_len 1)]
  have hyl : y.len = 256 := by have := rd_lenB hoy.rd; rw [hb] at this; simp at this; omega
  have hy20 := hoy.rd.no ((((((((((((((((((hN3.mod.tr hm4).tr hm5).tr hm6).tr hm7).tr hm8).tr hm9).tr hm10).tr hm11).tr hm12).tr hm13).tr hm14).tr hm15).tr hm16).tr hm17).tr hm18).tr hm19).tr hm20))
  refine condK_i (fun _ => ?_) fun h => by simp [hyl] at h
  obtain ⟨a, ea, hr0⟩ := rd_bool hy20 (i := 0) (by rw [hb]; simp)
  obtain ⟨a', ea', hr1⟩ := rd_bool hy20 (i := 1) (by rw [hb]; simp)
  have b0 : (bitsT (oneB 1))[0]'(by rw [hb]; simp) = true := by have := bit_one0; rw [List.getElem?_eq_getElem (by rw [hb]; simp)] at this; exact Option.some.inj this
  have b1 : (bitsT (oneB 1))[1]'(by rw [hb]; simp) = false := by have := bit_one1; rw [List.getElem?_eq_getElem (by rw [hb]; simp)] at this; exact Option.some.inj this
  rw [b0] at hr0; rw [b1] at hr1
  rw [ea] at ea' ⊢
  cases ea'
  refine ⟨⟨by omega, by omega⟩, true, hr0, condK_i (fun _ => ⟨⟨by omega, by omega⟩, false, hr1, rfl, hM20⟩) fun h => by cases h⟩
end Go.Proofs.YtknbihogadcnpaaGreat
