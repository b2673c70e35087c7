/- Scalars: the ring. -/
import Derived.Test.YtknbihogadcnpaaS34
set_option linter.unusedSimpArgs false
set_option linter.unusedVariables false
set_option maxRecDepth 100000
namespace Go.Proofs.Ytknbihogadcnpaa
open Go Go.Sh

/-- new bytes that stand for a number -/
structure Num (w : World) (x : Slc) (n : Nat) : Prop where
  rd : SlRd w x 1 (bys (redN n))
  lt : ∀ y, x.blk = some y → y < w.heap.size
theorem Num.no {w w' : World} {x : Slc} {n : Nat} (h : Num w x n) (hm : Mod NoB w w') : Num w' x n := ⟨h.rd.no hm, fun y hy => Nat.lt_of_lt_of_le (h.lt y hy) hm.size⟩
theorem Num.eq {w : World} {x : Slc} {n m : Nat} (h : Num w x n) (e : n % LO = m % LO) : Num w x m := ⟨redN_eq e ▸ h.rd, h.lt⟩
theorem Num.of {w : World} {x : Slc} {n : Nat} (h : Sh.Own w x 1 (bys (redN n))) : Num w x n := ⟨h.rd, own_lt h⟩
section
variable {w : World} {a b c : Slc} {u v t : Nat} {pan : List PanicEntry → World → Prop}
theorem step_sumN {K : Slc → World → Prop} (ha : Num w a u) (hb : Num w b v) (hK : ∀ x w', Num w' x (u + v) → Mod NoB w w' → K x w') :
    callK Try.prog 8 [.slice a.a a.len a.cap, .slice b.a b.len b.cap] w pan fun v w' => ∃ x : Slc, v = .slice x.a x.len x.cap ∧ K x w' :=
  callK_ret (c_sumS ha.rd ha.lt hb.rd hb.lt) fun v w' ⟨x, e, ho, _, _, hm⟩ => ⟨x, e, hK x w' (.of ho) hm⟩
theorem step_prodN {K : Slc → World → Prop} (ha : Num w a u) (hb : Num w b v) (hK : ∀ x w', Num w' x (u * v) → Mod NoB w w' → K x w') :
    callK Try.prog 9 [.slice a.a a.len a.cap, .slice b.a b.len b.cap] w pan fun v w' => ∃ x : Slc, v = .slice x.a x.len x.cap ∧ K x w' :=
  callK_ret (c_prodN ha.rd ha.lt hb.rd hb.lt) fun v w' ⟨x, e, ho, _, _, hm⟩ => ⟨x, e, hK x w' (.of ho) hm⟩
theorem step_sameN {K : Bool → World → Prop} (ha : Num w a u) (hb : Num w b v) (h : u % LO = v % LO) (hK : ∀ w', Mod NoB w w' → K true w') :
    callK Try.prog 12 [.slice a.a a.len a.cap, .slice b.a b.len b.cap] w pan fun v w' => ∃ x : Bool, v = .bool x ∧ K x w' :=
  callK_ret (c_sameN ha.rd hb.rd h) fun v w' ⟨e, hm⟩ => ⟨true, e, hK w' hm⟩
theorem step_oneN {n : UInt8} {K : Slc → World → Prop} (hK : ∀ x w', Num w' x n.toNat → SlRd w' x 1 (bys (oneB n)) → Mod NoB w w' → K x w') :
    callK Try.prog 13 [.int .u8 n.toNat] w pan fun v w' => ∃ x : Slc, v = .slice x.a x.len x.cap ∧ K x w' :=
  callK_ret c_one fun v w' ⟨x, e, ho, _, _, hm⟩ => ⟨x, e, hK x w' (.of (by
    have : redN n.toNat = oneB n := by
      have := n.toNat_lt
      have hb : LO > 256 := by decide +kernel
      rw [← le_oneB, redN_le _ (oneB_len n), le_oneB]; omega
    rw [this]; exact ho)) ho.rd hm⟩
theorem step_redN {l : List UInt8} {K : Slc → World → Prop} (ha : SlRd w a 1 (bys l)) (hal : ∀ y, a.blk = some y → y < w.heap.size) (hl : l.length ≤ 64) (hK : ∀ x w', Num w' x (le l) → Mod NoB w w' → K x w') :
    callK Try.prog 7 [.slice a.a a.len a.cap] w pan fun v w' => ∃ x : Slc, v = .slice x.a x.len x.cap ∧ K x w' :=
  callK_ret (c_redNB ha hal) fun v w' ⟨x, e, ho, _, _, hm⟩ => ⟨x, e, hK x w' (.of (by rw [redT_small hl] at ho; exact ho)) hm⟩
end
theorem modm (x y : Nat) : x * (y % LO) % LO = x * y % LO := by rw [Nat.mul_mod_mod]

/-- the law: the ring's -/
theorem law_ring {W : World} {a b c : Slc} {la lb lc : List UInt8} (ha : SlRd W a 1 (bys la)) (hal : ∀ x, a.blk = some x → x < W.heap.size) (hb : SlRd W b 1 (bys lb)) (hbl : ∀ x, b.blk = some x → x < W.heap.size) (hc : SlRd W c 1 (bys lc)) (hcl : ∀ x, c.blk = some x → x < W.heap.size) :
    Calls Try.prog 3 #[.slice a.a a.len a.cap, .slice b.a b.len b.cap, .slice c.a c.len c.cap] W (Ret fun v w' => v = .bool true ∧ Mod NoB W w') := by
  refine call3 _ _ _ ?_
  unfold sh3
  have hna := rd_len8 ha; have hnb := rd_len8 hb; have hnc := rd_len8 hc
  refine callK_ret c_awake03 ?_
  rintro v w1 ⟨rfl, hm1⟩
  refine ⟨_, rfl, condK_i (fun e => by cases e) fun _ => ?_⟩
  refine ⟨fun l' w' => match l' with | [.b x] => (x = false → la.length ≤ 64 ∧ lb.length ≤ 64 ∧ lc.length ≤ 64) ∧ w' = w1 | _ => False, condK_i (fun _ => ⟨fun e => (by cases e), rfl⟩) fun h1 => condK_i (fun _ => ⟨fun e => (by cases e), rfl⟩) fun h2 => ⟨fun h3 => ?_, rfl⟩, ?_⟩
  · simp at h1 h2 h3; omega
  rintro x1 w2 ⟨h, rfl⟩
  refine condK_i (fun _ => ⟨rfl, hm1⟩) fun hf => ?_
  obtain ⟨l1, l2, l3⟩ := h hf
  generalize hA : le la = A; generalize hB : le lb = B; generalize hC : le lc = C
  refine step_redN (ha.no hm1) (fun x hx => Nat.lt_of_lt_of_le (hal x hx) hm1.size) l1 fun x w3 nx hm3 => ?_
  have M3 := hm1.tr hm3
  refine step_redN (hb.no M3) (fun x hx => Nat.lt_of_lt_of_le (hbl x hx) M3.size) l2 fun y w4 ny hm4 => ?_
  have M4 := M3.tr hm4
  refine step_redN (hc.no M4) (fun x hx => Nat.lt_of_lt_of_le (hcl x hx) M4.size) l3 fun z w5 nz hm5 => ?_
  have M5 := M4.tr hm5
  rw [hA] at nx; rw [hB] at ny; rw [hC] at nz
  have nx5 := (nx.no hm4).no hm5; have ny5 := ny.no hm5
  refine step_sumN nx5 ny5 fun s w6 ns hm6 => ?_
  refine step_prodN (nx5.no hm6) (ny5.no hm6) fun p w7 np hm7 => ?_
  have m57 := hm6.tr hm7
  refine callK_ret (c_mulN (nx5.no m57).rd (nx5.no m57).lt (ny5.no m57).rd (ny5.no m57).lt (nz.no m57).rd (nz.no m57).lt) ?_
  rintro v w8 ⟨q, rfl, hoq, -, hfq, hm8⟩
  have nq : Num w8 q (A * B + C) := .of (by
    rw [mulT_32 (redN_len _) (redN_len _) (redN_len _), le_redN, le_redN, le_redN] at hoq
    rw [show redN (A * B + C) = redN (A % LO * (B % LO) + C % LO) from redN_eq (by rw [Nat.add_mod (A % LO * (B % LO)), ← Nat.mul_mod, Nat.mod_mod, ← Nat.add_mod])]
    exact hoq)
  refine ⟨q, rfl, ?_⟩
  have m58 := m57.tr hm8
  have nx8 := nx5.no m58; have ny8 := ny5.no m58; have nz8 := nz.no m58; have ns8 := (ns.no hm7).no hm8; have np8 := np.no hm8
  refine sem_rows [x, y, z, s, p, q] (by rfl) rfl (by decide) (by decide) fun r e w9 hN9 hr hbr hor => ⟨r, rfl, ?_⟩
  have M8 := M5.tr m58
  have M9 := M8.tr hN9.mod
  have hrl : r.len = 6 := by rw [hr]
  have hrow : ∀ i (h : i < [x, y, z, s, p, q].length), ∃ n, Num w9 [x, y, z, s, p, q][i] n := by
    intro i hi
    match i, hi with
    | 0, _ => exact ⟨_, nx8.no hN9.mod⟩
    | 1, _ => exact ⟨_, ny8.no hN9.mod⟩
    | 2, _ => exact ⟨_, nz8.no hN9.mod⟩
    | 3, _ => exact ⟨_, ns8.no hN9.mod⟩
    | 4, _ => exact ⟨_, np8.no hN9.mod⟩
    | 5, _ => exact ⟨_, nq.no hN9.mod⟩
  refine ⟨fun l' w' => match l' with | [.i _ i] => ∃ k : Nat, i = k ∧ k ≤ 6 ∧ Mod NoB w9 w' | _ => False, fun l' _ => match l' with | [.i _ i] => (6 - i).toNat | _ => 0, ⟨0, rfl, by omega, Mod.refl _ _⟩, ?_⟩
  rintro i w10 ⟨k, rfl, hk, hm10⟩
  refine condK_i (fun hlt => ?_) fun hge => ?_
  · have hk' : k < 6 := by simp [hrl] at hlt; omega
    obtain ⟨n, hn⟩ := hrow k hk'
    have hrd : ∀ w', Mod NoB w10 w' → ∃ ad, r.a = some ad ∧ Rd w' (ad.add (k * 1)) [[x, y, z, s, p, q][k].val] := fun w' hm => rd_slc (hor.rd.no (hm10.tr hm)) (i := k) hk'
    obtain ⟨ad, ea, -⟩ := hrd w10 (Mod.refl _ _)
    have hrd' : ∀ w', Mod NoB w10 w' → Rd w' (ad.add (k * 1)) [[x, y, z, s, p, q][k].val] := fun w' hm => by
      obtain ⟨ad', ea', h⟩ := hrd w' hm
      rw [ea] at ea'; cases ea'; exact h
    rw [ea]
    simp only [Int.toNat_natCast]
    refine ⟨fun w' => Mod NoB w10 w', Mod.drew _ _, ⟨by omega, by omega⟩, _, hrd', ?_, trivial⟩
    have hn10 := (hn.no hm10).no (Mod.drew NoB w10)
    refine callK_ret (c_right hn10.rd hn10.lt) ?_
    rintro v w11 ⟨rfl, hm11⟩
    have hT : (redN n).length = 32 ∧ le (redN n) < LO := ⟨redN_len n, by rw [le_redN]; exact Nat.mod_lt _ LO_pos⟩
    have hm11' : Mod NoB w10 w11 := (Mod.drew _ _).tr hm11
    refine ⟨_, rfl, hm11', ?_⟩
    rw [decide_eq_true hT]
    refine condK_i (fun e => by cases e) fun _ => ⟨⟨by omega, by omega⟩, ⟨by omega, by omega⟩, _, hrd', _, hrd', ?_, trivial⟩
    have hn11 := hn10.no hm11
    refine step_redN hn11.rd hn11.lt (by simp) fun u w12 nu hm12 => ?_
    refine ⟨hm11'.tr hm12, ?_, trivial⟩
    refine step_sameN nu (hn11.no hm12) (by rw [le_redN, Nat.mod_mod]) fun w13 hm13 => ⟨(hm11'.tr hm12).tr hm13, ?_⟩
    refine condK_i (fun e => by cases e) fun _ => ⟨⟨k + 1, wrap_nat (by omega), by omega, hm10.tr ((hm11'.tr hm12).tr hm13)⟩, ?_⟩
    rw [wrap_nat (by omega)]; (try simp only []); omega
  have m810 := hN9.mod.tr hm10
  have M10 := M8.tr m810
  have kx := nx8.no m810; have ky := ny8.no m810; have kz := nz8.no m810; have ks := ns8.no m810; have kp := np8.no m810; have kq := nq.no m810
  refine ⟨fun l' w' => l' = [.b false] ∧ Mod NoB w10 w', ?_, ?_⟩
  · refine step_sumN ky kx fun u w14 nu hm14 => ?_
    refine step_sameN (ks.no hm14) nu (by rw [Nat.add_comm]) fun w15 hm15 => condK_i (fun e => by cases e) fun _ => ?_
    have j15 := hm14.tr hm15
    refine step_prodN (ky.no j15) (kx.no j15) fun u2 w16 nu2 hm16 => ?_
    refine step_sameN ((kp.no j15).no hm16) nu2 (by rw [Nat.mul_comm]) fun w17 hm17 => condK_i (fun e => by cases e) fun _ => ?_
    have j17 := (j15.tr hm16).tr hm17
    refine step_sumN (ks.no j17) (kz.no j17) fun u3 w18 nu3 hm18 => ?_
    have j18 := j17.tr hm18
    refine step_sumN (ky.no j18) (kz.no j18) fun u4 w19 nu4 hm19 => ?_
    have j19 := j18.tr hm19
    refine step_sumN (kx.no j19) nu4 fun u5 w20 nu5 hm20 => ?_
    refine step_sameN ((nu3.no hm19).no hm20) nu5 (by rw [Nat.add_assoc]) fun w21 hm21 => condK_i (fun e => by cases e) fun _ => ?_
    have j21 := (j19.tr hm20).tr hm21
    refine step_prodN (kp.no j21) (kz.no j21) fun u6 w22 nu6 hm22 => ?_
    have j22 := j21.tr hm22
    refine step_prodN (ky.no j22) (kz.no j22) fun u7 w23 nu7 hm23 => ?_
    have j23 := j22.tr hm23
    refine step_prodN (kx.no j23) nu7 fun u8 w24 nu8 hm24 => ?_
    refine step_sameN ((nu6.no hm23).no hm24) nu8 (by rw [Nat.mul_assoc]) fun w25 hm25 => ⟨rfl, (j23.tr hm24).tr hm25⟩
  rintro x27 w26 ⟨e, hm26⟩
  cases e
  refine condK_i (fun e => by cases e) fun _ => ?_
  have gx := kx.no hm26; have gy := ky.no hm26; have gz := kz.no hm26; have gs := ks.no hm26; have gp := kp.no hm26; have gq := kq.no hm26
  refine ⟨fun l' w' => l' = [.b false] ∧ Mod NoB w26 w', ⟨fun w' => Mod NoB w26 w', Mod.drew _ _, ?_, trivial⟩, ?_⟩
  · have d26 := Mod.drew NoB w26
    refine step_prodN (gz.no d26) (gs.no d26) fun u1 w27 n1 hm27 => ?_
    have j27 := d26.tr hm27
    refine ⟨j27, ?_, trivial⟩
    refine step_prodN (gz.no j27) (gx.no j27) fun u2 w28 n2 hm28 => ?_
    have j28 := j27.tr hm28
    refine ⟨j28, ?_, trivial⟩
    refine step_prodN (gz.no j28) (gy.no j28) fun u3 w29 n3 hm29 => ?_
    have j29 := j28.tr hm29
    refine ⟨j29, ?_, trivial⟩
    refine step_sumN (n2.no hm29) n3 fun u4 w30 n4 hm30 => ?_
    have j30 := j29.tr hm30
    refine ⟨j30, ?_, trivial⟩
    refine step_sameN (((n1.no hm28).no hm29).no hm30) n4 (by rw [Nat.mul_add]) fun w31 hm31 => ?_
    have j31 := j30.tr hm31
    refine ⟨j31, condK_i (fun e => by cases e) fun _ => ?_⟩
    have hrd : ∀ w', Mod NoB w26 w' → ∃ ad, r.a = some ad ∧ Rd w' (ad.add (5 * 1)) [q.val] := fun w' hm => rd_slc ((hor.rd.no (hm10.tr hm26)).no hm) (i := 5) (by simp)
    obtain ⟨ad, ea, -⟩ := hrd w26 (Mod.refl _ _)
    have hrd' : ∀ w', Mod NoB w26 w' → Rd w' (ad.add (5 * 1)) [q.val] := fun w' hm => by
      obtain ⟨ad', ea', h⟩ := hrd w' hm
      rw [ea] at ea'; cases ea'; exact h
    rw [ea]
    refine ⟨⟨by omega, by omega⟩, q, hrd', ?_, trivial⟩
    refine step_sumN (gp.no j31) (gz.no j31) fun u5 w32 n5 hm32 => ?_
    have j32 := j31.tr hm32
    refine ⟨j32, ?_, trivial⟩
    refine step_sameN (gq.no j32) n5 rfl fun w33 hm33 => ?_
    have j33 := j32.tr hm33
    refine condK_i (fun e => by cases e) fun _ => ⟨?_, trivial⟩
    refine step_oneN fun u6 w34 n6 _ hm34 => ?_
    have j34 := j33.tr hm34
    refine ⟨j34, ?_, trivial⟩
    refine step_prodN (gx.no j34) n6 fun u7 w35 n7 hm35 => ?_
    have j35 := j34.tr hm35
    refine ⟨j35, ?_, trivial⟩
    refine step_sameN n7 (gx.no j35) (by rw [show (1 : UInt8).toNat = 1 from rfl, Nat.mul_one]) fun w36 hm36 => ⟨j35.tr hm36, rfl, j35.tr hm36⟩
  rintro x39 w37 ⟨e, hm37⟩
  cases e
  refine condK_i (fun e => by cases e) fun _ => ?_
  refine callK_ret c_l ?_
  rintro v w38 ⟨u1, rfl, ho38, -, -, hm38⟩
  refine ⟨u1, rfl, ?_⟩
  have fx := (gx.no hm37).no hm38
  refine callK_ret (c_prodS fx.rd fx.lt (lB_len (-1)) ho38.rd (own_lt ho38)) ?_
  rintro v w39 ⟨u2, rfl, ho39, -, -, hm39⟩
  refine ⟨u2, rfl, ?_⟩
  refine step_sumN (fx.no hm39) (.of ho39) fun u3 w40 n3 hm40 => ?_
  refine step_oneN fun u4 w41 n4 _ hm41 => ?_
  have hz : (A + A * le (lB (-1))) % LO = (0 : UInt8).toNat % LO := by
    have := le_lB (n := -1) (by omega)
    have e : le (lB (-1)) + 1 = LO := by omega
    have e2 : A + A * le (lB (-1)) = LO * A := by rw [← e, Nat.add_mul, Nat.one_mul, Nat.mul_comm A, Nat.add_comm]
    rw [e2, Nat.mul_mod_right]; rfl
  refine step_sameN (n3.no hm41) n4 hz fun w42 hm42 => ⟨rfl, ((((((M10.tr hm26).tr hm37).tr hm38).tr hm39).tr hm40).tr hm41).tr hm42⟩
end Go.Proofs.Ytknbihogadcnpaa
