/- Scalars: limbs in memory: the order, comparing, a shifted order taken away, a byte more. -/
import Derived.Test.YtknbihogadcnpaaGreatG2
import Derived.Test.YtknbihogadcnpaaGreatFnP
import Derived.Test.YtknbihogadcnpaaGreatM3
import Derived.Laws.Externs
set_option linter.unusedSimpArgs false
set_option linter.unusedVariables false
set_option maxRecDepth 100000
namespace Go.Proofs.YtknbihogadcnpaaGreat
open Go Go.Sh

theorem iNum : ∃ i, Tryz.prog.info? 79 = some i ∧ i.zero = some (.agg (us [0, 0, 0, 0, 0]).toArray) ∧ i.size = 5 ∧ i.bytes = 40 := info_of (by kernel_rfl) (by kernel_rfl) (by kernel_rfl)
theorem iRest : ∃ i, Tryz.prog.info? 81 = some i ∧ i.zero = some (.agg (us [0, 0, 0, 0, 0]).toArray) ∧ i.size = 5 ∧ i.bytes = 40 := info_of (by kernel_rfl) (by kernel_rfl) (by kernel_rfl)
theorem uNum : Tryz.prog.underlying 79 = some (.array 5 75) := by kernel_rfl
theorem list5 {α : Type} {l : List α} (h : l.length = 5) : ∃ a b c d e, l = [a, b, c, d, e] := by
  match l, h with
  | [a, b, c, d, e], _ => exact ⟨a, b, c, d, e, rfl⟩

/-- L's limbs -/
theorem c_order {w : World} : Calls Tryz.prog 104 #[] w (Ret fun v w' => v = .agg (us lLimbs).toArray ∧ Mod NoB w w') := by
  refine call104 ?_
  unfold sh104
  obtain ⟨i, h1, h2, h3, h4⟩ := iNum
  refine sem_alloc (l := us [0, 0, 0, 0, 0]) h1 h2 (by simp [Value.cells]) fun b w1 hN hb => ⟨_, rfl, ?_⟩
  refine semU_store (b := b) (o := 0) (vs := us lLimbs) (l := us [0, 0, 0, 0, 0]) (by kernel_rfl) (by kernel_rfl) rfl hb (by decide) (us_one _) fun w2 ht hb2 => ?_
  have e : putAt (us [0, 0, 0, 0, 0]) 0 (us lLimbs) = us lLimbs := rfl
  rw [e] at hb2
  have hat := hN.at_
  exact ⟨6346243789798364141, 1503914060200516822, 0, 1152921504606846976, 0, hb2.rd (o := 0) (fun j v hv => by simp only [Nat.zero_add]; exact hv), rfl, hN.mod.fresh ht.mod fun x hx => by omega⟩

/-- is a number below another one? -/
theorem c_less {w : World} {n m : List UInt64} (hn : n.length = 5) (hm : m.length = 5) {a0 a1 a2 a3 a4 b0 b1 b2 b3 b4 : UInt64} (en : n = [a0, a1, a2, a3, a4]) (em : m = [b0, b1, b2, b3, b4]) :
    Calls Tryz.prog 105 #[.agg #[.int .u64 a0.toNat, .int .u64 a1.toNat, .int .u64 a2.toNat, .int .u64 a3.toNat, .int .u64 a4.toNat], .agg #[.int .u64 b0.toNat, .int .u64 b1.toNat, .int .u64 b2.toNat, .int .u64 b3.toNat, .int .u64 b4.toNat]] w
      (Ret fun v w' => v = .bool (decide (val64 n < val64 m)) ∧ Mod NoB w w') := by
  refine call105 _ _ _ _ _ _ _ _ _ _ ?_
  unfold sh105
  obtain ⟨i, h1, h2, h3, h4⟩ := i44
  refine sem_box (l := us n) (by rw [en]; rfl) fun p w1 hN1 hb1 => ⟨_, rfl, ?_⟩
  refine sem_box (l := us m) (by rw [em]; rfl) fun q w2 hN2 hb2 => ⟨_, rfl, ?_⟩
  have hm2 : Mod NoB w w2 := hN1.mod.tr hN2.mod
  have hp2 := hb1.no hN2.mod
  refine ⟨a0, a1, a2, a3, a4, hp2.rd (o := 0) (fun j v hv => by rw [en]; simp only [Nat.zero_add]; exact hv), b0, b1, b2, b3, b4, hb2.rd (o := 0) (fun j v hv => by rw [em]; simp only [Nat.zero_add]; exact hv), ?_⟩
  refine ps_arr (k := .u64) (.inl rfl) uNum (by kernel_rfl) (by kernel_rfl) h1 (by kernel_rfl) (by kernel_rfl) (l := n.map fun x => (x.toNat : Int)) (l' := m.map fun x => (x.toNat : Int)) (by simpa using hn) (by simpa using hm) (by rw [en]; rfl) (by rw [em]; rfl) ⟨_, rfl, ?_⟩
  have hinj : (n.map fun x => (x.toNat : Int)) = (m.map fun x => (x.toNat : Int)) → n = m := fun h => List.map_inj_right (fun x y e => by rw [← UInt64.toNat_inj]; omega) |>.1 h
  refine condK_i (fun he => ⟨?_, hm2⟩) fun he => ?_
  · have : n = m := hinj (by simpa using he)
    rw [this]; simp
  have hne : n ≠ m := fun e => by rw [e] at he; simp at he
  refine ⟨fun l' w' => match l' with | [.i _ x] => ∃ k : Nat, x = (k : Int) - 1 ∧ k ≤ 5 ∧ n.drop k = m.drop k ∧ Mod NoB w2 w' | _ => False, fun l' _ => match l' with | [.i _ x] => (x + 1).toNat | _ => 0, ⟨5, rfl, by omega, by rw [List.drop_of_length_le (by omega), List.drop_of_length_le (by omega)], Mod.refl _ _⟩, ?_⟩
  rintro x w3 ⟨k, rfl, hk, hd, hm3⟩
  refine condK_i (fun hge => ?_) fun hlt => ?_
  · have hk1 : 0 < k := by simp at hge; omega
    have e1 : ((k : Int) - 1).toNat = k - 1 := by omega
    rw [e1]
    have hpd := (hp2.no hm3).drew; have hqd := (hb2.no hm3).drew
    refine ⟨⟨by omega, by omega⟩, ⟨by omega, by omega⟩, n[k - 1]'(by omega), rda hpd (us_at (by omega)), m[k - 1]'(by omega), rda hqd (us_at (by omega)), ?_⟩
    refine condK_i (fun hx => ?_) fun hx => ?_
    · refine ⟨⟨by omega, by omega⟩, ⟨by omega, by omega⟩, n[k - 1]'(by omega), rda hpd.drew (us_at (by omega)), m[k - 1]'(by omega), rda hqd.drew (us_at (by omega)), ?_, Mod.dr (Mod.dr (hm2.tr hm3))⟩
      have := val_cmp n m (k - 1) (by omega) (by omega) (by omega) (by rw [Nat.sub_add_cancel hk1]; exact hd) (by simpa using hx)
      simp only [this]
    · refine ⟨⟨k - 1, by rw [wrap_i64 (by omega)]; omega, by omega, ?_, Mod.dr hm3⟩, ?_⟩
      · have h' : n[k - 1]'(by omega) = m[k - 1]'(by omega) := by simpa using hx
        rw [List.drop_eq_getElem_cons (by omega : k - 1 < n.length), List.drop_eq_getElem_cons (by omega : k - 1 < m.length), h', Nat.sub_add_cancel hk1, hd]
      · rw [wrap_i64 (by omega)]; (try simp only []); omega
  · have : k = 0 := by simp at hlt; omega
    subst this
    exact absurd (by simpa using hd) hne

/-! ## a shifted order taken away -/
/-- limbs laid one by one -/
def fill5 (ws : List UInt64) : List Value := us ws ++ List.replicate (5 - ws.length) z64
theorem fill5_len {ws : List UInt64} (h : ws.length ≤ 5) : (fill5 ws).length = 5 := by simp [fill5]; omega
theorem fill5_next {ws : List UInt64} {x : UInt64} (h : ws.length < 5) : (fill5 ws).set ws.length (.int .u64 x.toNat) = fill5 (ws ++ [x]) := by
  unfold fill5
  rw [rep_succ (by omega), set_mid (by simp)]
  have : 5 - ws.length - 1 = 5 - (ws ++ [x]).length := by simp; omega
  rw [this]
  simp [us]
theorem fill5_at {ws : List UInt64} {x : UInt64} (h : ws.length < 5) : (fill5 (ws ++ [x]))[ws.length]? = some (.int .u64 x.toNat) := by
  unfold fill5
  rw [List.getElem?_append_left (by simp)]
  simp [us]
theorem fill5_put {ws : List UInt64} {x y : UInt64} (h : ws.length < 5) : (fill5 (ws ++ [x])).set ws.length (.int .u64 y.toNat) = fill5 (ws ++ [y]) := by
  unfold fill5
  rw [List.set_append_left _ _ (by simp)]
  simp [us]
theorem fill5_full {ws : List UInt64} (h : ws.length = 5) : fill5 ws = us ws := by simp [fill5, h]
theorem lShift_take {k i : Nat} (hi : i < 5) : (lShift k).take (i + 1) = (lShift k).take i ++ [if 0 < i ∧ 0 < k then shlU64 (lLimbs.getD i 0) k ||| shrU64 (lLimbs.getD (i - 1) 0) (64 - k) else shlU64 (lLimbs.getD i 0) k] := by
  rw [take_snoc (by rw [lShift_len]; omega)]
  simp [lShift]
theorem lLimbs_at {i : Nat} (hi : i < 5) : (us lLimbs)[i]? = some (.int .u64 (lLimbs.getD i 0).toNat) := us_getD (by show i < 5; omega)

/-- the model's entry -/
def sub64E : Array Value → Sem Value := (Extern.MathBitsCarry.rows.getD 1 ("", fun _ => pure .nilFunc)).2
theorem run_sub64E (x y b : Nat) (hb : b ≤ 1) (w : World) : (sub64E #[.int .u64 x, .int .u64 y, .int .u64 b]).run Tryz.prog w =
      .ok (.tuple #[.int .u64 (((x + 18446744073709551616 - y - b) % 18446744073709551616 : Nat) : Int), .int .u64 ((if x < y + b then 1 else 0 : Nat) : Int)]) w := by
  have : b = 0 ∨ b = 1 := by omega
  rcases this with rfl | rfl <;> rfl
theorem run_Sub64 {x y b : UInt64} (hb : b.toNat ≤ 1) (w : World) : ∃ d b' : UInt64, (callFunc 106 #[.int .u64 x.toNat, .int .u64 y.toNat, .int .u64 b.toNat]).run Tryz.prog w = .ok (.value (.tuple #[.int .u64 d.toNat, .int .u64 b'.toNat])) w ∧
    x.toNat + b'.toNat * 18446744073709551616 = d.toNat + y.toNat + b.toNat ∧ b'.toNat ≤ 1 := by
  have hx := x.toNat_lt; have hy := y.toNat_lt
  have e1 : (UInt64.ofNat ((x.toNat + 18446744073709551616 - y.toNat - b.toNat) % 18446744073709551616)).toNat = (x.toNat + 18446744073709551616 - y.toNat - b.toNat) % 18446744073709551616 := by
    rw [UInt64.toNat_ofNat']; omega
  have e2 : (UInt64.ofNat (if x.toNat < y.toNat + b.toNat then 1 else 0)).toNat = if x.toNat < y.toNat + b.toNat then 1 else 0 := by
    split <;> rfl
  refine ⟨UInt64.ofNat ((x.toNat + 18446744073709551616 - y.toNat - b.toNat) % 18446744073709551616), UInt64.ofNat (if x.toNat < y.toNat + b.toNat then 1 else 0), ?_, ?_⟩
  · rw [run_callFunc_extern Tryz.func106 (by kernel_rfl) (by kernel_rfl) (by kernel_rfl) (e := sub64E) (by kernel_rfl), run_sub64E _ _ _ hb, e1, e2]
    rfl
  · rw [e1, e2]
    exact sub_step hb hx hy rfl rfl

/-- L, so many times shifted, is taken away, if it is not above -/
theorem c_minus {w : World} {rb : Nat} {n : List UInt64} {T : TypeId} {k : Nat} (hr : Blk w rb (us n) T) (hn : n.length = 5) (hk : k ≤ 8) :
    Calls Tryz.prog 69 #[.pointer (some ⟨rb, 0, none⟩), .int .u64 (UInt64.ofNat k).toNat] w (Ret fun v w' => v = .tuple #[] ∧ ∃ n', Blk w' rb (us n') T ∧ n'.length = 5 ∧ val64 n' = (if val64 n < LO * 2 ^ k then val64 n else val64 n - LO * 2 ^ k) ∧ Mod (fun x => x = rb) w w') := by
  refine call69 _ _ ?_
  unfold sh69
  obtain ⟨i, h1, h2, h3, h4⟩ := iNum
  have ek : (UInt64.ofNat k).toNat = k := by rw [UInt64.toNat_ofNat']; omega
  have ek64 : ((64 : UInt64) - UInt64.ofNat k).toNat = 64 - k := by
    rw [UInt64.toNat_sub_of_le _ _ (by rw [UInt64.le_iff_toNat_le, ek]; show k ≤ 64; omega), ek]; rfl
  have ek0 : decide ((0 : UInt64) < UInt64.ofNat k) = decide (0 < k) := by
    simp only [UInt64.lt_iff_toNat_lt, ek]; rfl
  refine sem_alloc (l := us [0, 0, 0, 0, 0]) h1 h2 (by simp [Value.cells]) fun m w1 hN1 hm1 => ⟨_, rfl, ?_⟩
  refine callK_ret c_order ?_
  rintro v w2 ⟨rfl, hm2⟩
  refine ⟨6346243789798364141, 1503914060200516822, 0, 1152921504606846976, 0, rfl, ?_⟩
  refine sem_alloc (l := us [0, 0, 0, 0, 0]) h1 h2 (by simp [Value.cells]) fun l w3 hN3 hl3 => ⟨_, rfl, ?_⟩
  refine semU_store (b := l) (o := 0) (vs := us lLimbs) (l := us [0, 0, 0, 0, 0]) (by kernel_rfl) (by kernel_rfl) rfl hl3 (by decide) (us_one _) fun w4 ht4 hl4 => ?_
  have e0 : putAt (us [0, 0, 0, 0, 0]) 0 (us lLimbs) = us lLimbs := rfl
  rw [e0] at hl4
  have a1 := hN1.at_; have a2 := hN1.size; have a3 := hN3.at_; have a4 := hN3.size; have a5 := hm2.size; have a6 := ht4.size; have a7 := hr.lt
  have hM4 : Mod NoB w w4 := ((hN1.mod.tr hm2).tr hN3.mod).fresh ht4.mod fun x hx => by omega
  have hmb4 : Blk w4 m (us [0, 0, 0, 0, 0]) 79 := ((hm1.no hm2).no hN3.mod).mod ht4.mod (by omega)
  refine ⟨fun l' w' => match l' with | [.i _ x] => ∃ j : Nat, x = j ∧ j ≤ 5 ∧ Blk w' m (fill5 ((lShift k).take j)) 79 ∧ Mod (fun y => y = m) w4 w' | _ => False, fun l' _ => match l' with | [.i _ x] => (5 - x).toNat | _ => 0, ⟨0, rfl, by omega, hmb4, Mod.refl _ _⟩, ?_⟩
  rintro x w5 ⟨j, rfl, hj, hmb5, hm5⟩
  have hl5 : Blk w5 l (us lLimbs) 79 := hl4.mod hm5 (by omega)
  have htl : ((lShift k).take j).length = j := by rw [List.length_take, lShift_len]; omega
  refine condK_i (fun hlt => ?_) fun hge => ?_
  · have hj' : j < 5 := by simp at hlt; omega
    simp only [ek, Int.toNat_natCast]
    refine ⟨⟨by omega, by omega⟩, lLimbs.getD j 0, rda hl5 (lLimbs_at hj'), by omega, ⟨by omega, by omega⟩, ?_⟩
    refine semU_at (b := m) (n := j) (by kernel_rfl) (by kernel_rfl) rfl hmb5 (by rw [fill5_len (by omega)]; omega) fun w6 ht6 hmb6 => ?_
    have hq := fill5_next (ws := (lShift k).take j) (x := shlU64 (lLimbs.getD j 0) k) (by omega)
    rw [htl] at hq
    rw [hq] at hmb6
    have hm6 := hm5.tr ht6.mod
    refine ⟨fun l' w' => match l' with | [.b t] => t = decide (0 < j ∧ 0 < k) ∧ w' = w6 | _ => False, condK_i (fun h => ⟨?_, rfl⟩) fun h => ⟨?_, rfl⟩, ?_⟩
    · have : 0 < j := by simp at h; omega
      rw [ek0]; simp [this]
    · have : ¬ 0 < j := by simp at h; omega
      simp [this]
    rintro t w7 ⟨rfl, rfl⟩
    have hd := lShift_take (k := k) hj'
    refine condK_i (fun h => ?_) fun h => ?_
    · have h' : 0 < j ∧ 0 < k := by simpa using h
      rw [if_pos h'] at hd
      have e1 : IntKind.i64.wrap ((j : Int) - 1) = ((j - 1 : Nat) : Int) := by rw [wrap_i64 (by omega)]; omega
      rw [e1]
      simp only [ek64, Int.toNat_natCast]
      have hat := fill5_at (ws := (lShift k).take j) (x := shlU64 (lLimbs.getD j 0) k) (by omega)
      rw [htl] at hat
      have hl7 : Blk w7 l (us lLimbs) 79 := hl4.mod hm6 (by omega)
      refine ⟨fun w' => w' = w7.drew, rfl, ⟨by omega, by omega⟩, ⟨by omega, by omega⟩, _, fun w' hw => by rw [hw]; exact rda hmb6.drew hat, lLimbs.getD (j - 1) 0, fun w' hw => by rw [hw]; exact rda hl7.drew (lLimbs_at (by omega)), by omega, ⟨by omega, by omega⟩, ?_, trivial⟩
      refine semU_at (b := m) (n := j) (by kernel_rfl) (by kernel_rfl) rfl hmb6.drew (by rw [fill5_len (by simp; omega)]; omega) fun w8 ht8 hmb8 => ⟨⟨j + 1, wrap_nat (by omega), by omega, ?_, ?_⟩, ?_⟩
      · have hq2 := fill5_put (ws := (lShift k).take j) (x := shlU64 (lLimbs.getD j 0) k) (y := shlU64 (lLimbs.getD j 0) k ||| shrU64 (lLimbs.getD (j - 1) 0) (64 - k)) (by omega)
        rw [htl] at hq2
        rw [hq2, ← hd] at hmb8
        exact hmb8
      · exact hm6.dr.tr ht8.mod
      · rw [wrap_nat (by omega)]; (try simp only []); omega
    · have h' : ¬ (0 < j ∧ 0 < k) := by simpa using h
      rw [if_neg h'] at hd
      rw [← hd] at hmb6
      refine ⟨⟨j + 1, wrap_nat (by omega), by omega, hmb6, hm6⟩, ?_⟩
      rw [wrap_nat (by omega)]; (try simp only []); omega
  · have hj5 : j = 5 := by simp at hge; omega
    subst hj5
    rw [List.take_of_length_le (by rw [lShift_len]; omega), fill5_full (lShift_len k)] at hmb5
    have hM5 : Mod NoB w w5 := hM4.fresh hm5 fun x hx => by omega
    have hr5 := hr.no hM5
    obtain ⟨n0, n1, n2, n3, n4, en⟩ := list5 hn
    obtain ⟨m0, m1, m2, m3, m4, em⟩ := list5 (lShift_len k)
    have hrd : ∀ w', Mod NoB w5 w' → Rd w' ((⟨rb, 0, none⟩ : Addr).add 0) [.int .u64 n0.toNat, .int .u64 n1.toNat, .int .u64 n2.toNat, .int .u64 n3.toNat, .int .u64 n4.toNat] := fun w' hm => by
      rw [addl]; exact (hr5.no hm).rd (o := 0 + 0) (fun j v hv => by rw [en]; simp only [Nat.zero_add]; exact hv)
    refine ⟨fun w' => Mod NoB w5 w', Mod.drew _ _, n0, n1, n2, n3, n4, hrd, m0, m1, m2, m3, m4, fun w' hm => (hmb5.no hm).rd (o := 0) (fun j v hv => by rw [em]; simp only [Nat.zero_add]; exact hv), ?_, trivial⟩
    refine callK_ret (c_less hn (lShift_len k) en em) ?_
    rintro v w9 ⟨rfl, hm9⟩
    have hm9' : Mod NoB w5 w9 := (Mod.drew _ _).tr hm9
    have hM9 := hM5.tr hm9'
    rw [lShift_val (by omega)]
    refine ⟨_, rfl, condK_i (fun h => ⟨rfl, n, hr5.no hm9', hn, ?_, hM9.mono fun _ _ h => h.elim⟩) fun h => ?_⟩
    · rw [if_pos (by simpa using h)]
    have hge : ¬ val64 n < LO * 2 ^ k := by simpa using h
    refine ⟨fun l' w' => match l' with | [.u64 b, .i _ x] => ∃ (j : Nat) (q : List UInt64), x = j ∧ j ≤ 5 ∧ q.length = j ∧ Blk w' rb (us (q ++ n.drop j)) T ∧ b.toNat ≤ 1 ∧ val64 (n.take j) + b.toNat * 18446744073709551616 ^ j = val64 q + val64 ((lShift k).take j) ∧ Mod (fun y => y = rb) w9 w' | _ => False,
      fun l' _ => match l' with | [.u64 _, .i _ x] => (5 - x).toNat | _ => 0, ⟨0, [], rfl, by omega, rfl, by simpa using hr5.no hm9', by decide, by simp [val64], Mod.refl _ _⟩, ?_⟩
    rintro b x w10 ⟨j, q, rfl, hj, hq, hr10, hb, hv, hm10⟩
    have hmb10 : Blk w10 m (us (lShift k)) 79 := (hmb5.no hm9').mod hm10 (by omega)
    refine condK_i (fun hlt => ?_) fun hge' => ?_
    · have hj' : j < 5 := by simp at hlt; omega
      simp only [Int.toNat_natCast]
      have ha : (us (q ++ n.drop j))[j]? = some (.int .u64 (n[j]'(by omega)).toNat) := by
        rw [us_app, List.getElem?_append_right (by simp [hq]), us_len, hq, Nat.sub_self, us_at (by simp; omega)]
        simp
      have hb' : (us (lShift k))[j]? = some (.int .u64 ((lShift k)[j]'(by rw [lShift_len]; omega)).toNat) := us_at (by rw [lShift_len]; omega)
      obtain ⟨d, b', hrun, hs, hb1⟩ := run_Sub64 (x := n[j]'(by omega)) (y := (lShift k)[j]'(by rw [lShift_len]; omega)) hb w10.drew
      refine ⟨fun w' => w' = w10.drew, rfl, ⟨by omega, by omega⟩, ⟨by omega, by omega⟩, _, fun w' hw => by rw [hw]; exact rda0 hr10.drew ha, _, fun w' hw => by rw [hw]; exact rda hmb10.drew hb', ⟨_, _, hrun, d, b', rfl, ⟨by omega, by omega⟩, ?_, trivial⟩, trivial⟩
      refine semU_at0 (b := rb) (n := j) (by kernel_rfl) (by kernel_rfl) rfl hr10.drew (by simp [hq]; omega) fun w12 ht12 hr12 => ⟨⟨j + 1, q ++ [d], wrap_nat (by omega), by omega, by simp [hq], ?_, hb1, sub_keep (by omega) (by rw [lShift_len]; omega) hq hv hs, hm10.dr.tr ht12.mod⟩, ?_⟩
      · have : (us (q ++ n.drop j)).set j (.int .u64 d.toNat) = us (q ++ [d] ++ n.drop (j + 1)) := by
          rw [List.drop_eq_getElem_cons (by omega : j < n.length), us_app, us_app, us_app]
          have e : us (n[j]'(by omega) :: n.drop (j + 1)) = .int .u64 (n[j]'(by omega)).toNat :: us (n.drop (j + 1)) := rfl
          rw [e, set_mid (by simp [hq])]
          simp [us]
        rw [this] at hr12
        exact hr12
      · rw [wrap_nat (by omega)]; (try simp only []); omega
    · have hj5 : j = 5 := by simp at hge'; omega
      subst hj5
      rw [List.drop_of_length_le (by omega), List.append_nil] at hr10
      rw [List.take_of_length_le (by omega), List.take_of_length_le (by rw [lShift_len]; omega), ← hn] at hv
      refine ⟨rfl, q, hr10, hq, ?_, hM9.no hm10⟩
      rw [if_neg hge, ← lShift_val (by omega)]
      exact sub_end (by rw [lShift_len, hn]) (by omega) hv (by rw [lShift_val (by omega)]; omega)
end Go.Proofs.YtknbihogadcnpaaGreat
