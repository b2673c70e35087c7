/- Scalars: the document's product and sum; the law of any three. -/
import Derived.Test.YtknbihogadcnpaaGreatS36
import Derived.Test.YtknbihogadcnpaaGreatF5
set_option linter.unusedSimpArgs false
set_option linter.unusedVariables false
set_option maxRecDepth 100000
namespace Go.Proofs.YtknbihogadcnpaaGreat
open Go Go.Sh

/-- words as whole numbers -/
def usi (l : List UInt64) : List Value := l.map fun x => .int .i64 x.toNat
@[simp] theorem usi_len (l : List UInt64) : (usi l).length = l.length := by simp [usi]
theorem usi_set {l : List UInt64} {k : Nat} {x : UInt64} : (usi l).set k (.int .i64 x.toNat) = usi (l.set k x) := by simp [usi, List.map_set]
theorem usi_getD {l : List UInt64} {i : Nat} (h : i < l.length) : (usi l)[i]? = some (.int .i64 (l.getD i 0).toNat) := by simp [usi, h]
theorem uIntS : Tryz.prog.underlying 76 = some (.slice 3) := by kernel_rfl
theorem iInt : ∃ i, Tryz.prog.info? 3 = some i ∧ i.zero = some (.int .i64 0) ∧ i.size = 1 ∧ i.bytes = 8 := info_of (by kernel_rfl) (by kernel_rfl) (by kernel_rfl)

theorem c_rMulAdd {w : World} {a b c : Slc} {la lb lc : List UInt8} (ha : SlRd w a 1 (bys la)) (hal : ∀ x, a.blk = some x → x < w.heap.size) (hb : SlRd w b 1 (bys lb)) (hbl : ∀ x, b.blk = some x → x < w.heap.size) (hc : SlRd w c 1 (bys lc)) (hcl : ∀ x, c.blk = some x → x < w.heap.size) :
    Calls Tryz.prog 20 #[.slice a.a a.len a.cap, .slice b.a b.len b.cap, .slice c.a c.len c.cap] w (Ret fun v w' => ∃ x : Slc, v = x.val ∧ SlRd w' x 1 (bys (mulT la lb lc)) ∧ FB w x ∧ RB w' x ∧ (la.length = 32 ∧ lb.length = 32 ∧ lc.length = 32 → x.cap = 33) ∧ Mod NoB w w') := by
  refine call20 _ _ _ ?_
  unfold sh20
  obtain ⟨i5', h51, h52, h53, h54⟩ := i5
  obtain ⟨i44', h441, h442, h443, h444⟩ := iInt
  have hna := rd_len8 ha; have hnb := rd_len8 hb; have hnc := rd_len8 hc
  refine ⟨fun l' w' => match l' with | [.b x] => (x = decide (¬ (la.length = 32 ∧ lb.length = 32 ∧ lc.length = 32))) ∧ w' = w | _ => False, condK_i (fun h => ⟨?_, rfl⟩) fun h1 => condK_i (fun h => ⟨?_, rfl⟩) fun h2 => ⟨?_, rfl⟩, ?_⟩
  · have : ¬ la.length = 32 := by simp at h; omega
    simp [this]
  · have : ¬ lb.length = 32 := by simp at h; omega
    simp [this]
  · have e1 : la.length = 32 := by simp at h1; omega
    have e2 : lb.length = 32 := by simp at h2; omega
    by_cases e3 : lc.length = 32
    · have : c.len = 32 := by omega
      simp [e1, e2, e3, this]
    · have : ¬ (c.len : Int) = 32 := by omega
      simp [e1, e2, e3, this]
  rintro x0 w1 ⟨rfl, rfl⟩
  refine condK_i (fun h => ?_) fun h => ?_
  · have : ¬ (la.length = 32 ∧ lb.length = 32 ∧ lc.length = 32) := of_decide_eq_true h
    exact ⟨⟨none, 0, 0⟩, rfl, by rw [mulT, if_neg this]; exact rd_nil _ _, FB.nil _, ⟨Nat.le_refl _, .inl rfl⟩, fun h => absurd h this, Mod.refl _ _⟩
  have h32 : la.length = 32 ∧ lb.length = 32 ∧ lc.length = 32 := Decidable.not_not.1 (of_decide_eq_false h)
  obtain ⟨ha32, hb32, hc32⟩ := h32
  refine sem_makeSlice (l := 66) (c := 66) uIntS h441 h442 h443 rfl h444 rfl rfl (by omega) (by omega) (by omega) fun t w3 hN3 hbt hot => ⟨⟨_, _, _⟩, rfl, ?_⟩
  have a3 := hN3.at_; have a4 := hN3.size
  have hM3 := hN3.mod
  have hzero : List.replicate 66 (Value.int .i64 0) = usi (List.replicate 66 0) := by simp [usi]
  rw [hzero] at hbt
  have hra : ∀ w', Mod (fun y => y = t) w3 w' → SlRd w' a 1 (bys la) := fun w' hm => (ha.no hM3).mod hm fun x hx e => by have := hal x hx; omega
  have hrb : ∀ w', Mod (fun y => y = t) w3 w' → SlRd w' b 1 (bys lb) := fun w' hm => (hb.no hM3).mod hm fun x hx e => by have := hbl x hx; omega
  have hrc : ∀ w', Mod (fun y => y = t) w3 w' → SlRd w' c 1 (bys lc) := fun w' hm => (hc.no hM3).mod hm fun x hx e => by have := hcl x hx; omega
  refine ⟨fun l' w' => match l' with | [.i _ x] => ∃ (i : Nat) (tl : List UInt64), x = i ∧ i ≤ 32 ∧ Blk w' t (usi tl) 3 ∧ Words0 tl i la lb lc ∧ Mod (fun y => y = t) w3 w' | _ => False, fun l' _ => match l' with | [.i _ x] => (32 - x).toNat | _ => 0,
    ⟨0, _, rfl, by omega, hbt, words0_start la lb lc, Mod.refl _ _⟩, ?_⟩
  rintro x1 w4 ⟨i, tl, rfl, hi, hb4, hw4, hm4⟩
  have htl := hw4.len
  refine condK_i (fun hlt => ?_) fun hge => ?_
  · have hi' : i < 32 := by simp at hlt; omega
    simp only [Int.toNat_natCast]
    obtain ⟨ac, eac, hrac⟩ := rd_u8 ((hrc w4 hm4).drew) (i := i) (by omega)
    rw [getD_at (d := 0) (by omega : i < lc.length)] at hrac
    rw [eac]
    have hbd := hw4.bound i
    have hcb := (lc.getD i 0).toNat_lt
    have hsum : IntKind.i64.wrap (((tl.getD i 0).toNat : Int) + ((lc.getD i 0).toNat : Int)) = ((tl.getD i 0 + (lc.getD i 0).toUInt64).toNat : Int) := by
      rw [u64_add_small (by simp only [UInt8.toNat_toUInt64]; omega), UInt8.toNat_toUInt64, wrap_i64 (by omega)]; omega
    refine ⟨fun w' => w' = w4.drew, rfl, ⟨by omega, by show (i : Int) < ((66 : Nat) : Int); omega⟩, ⟨by omega, by omega⟩, _, fun w' hw => by rw [hw]; exact rda hb4.drew (usi_getD (by omega)), _, fun w' hw => by rw [hw]; exact hrac, ⟨by omega, by show (i : Int) < ((66 : Nat) : Int); omega⟩, ?_, trivial⟩
    rw [hsum]
    refine semU_at (b := t) (n := i) (by kernel_rfl) (by kernel_rfl) rfl hb4.drew (by simp; omega) fun w5 ht5 hb5 => ?_
    rw [usi_set] at hb5
    have hw5 := words_c hw4 hi'
    have hm5 := hm4.dr.tr ht5.mod
    refine ⟨fun l' w' => match l' with | [.i _ x] => ∃ (k : Nat) (tl : List UInt64), x = k ∧ k ≤ 32 ∧ Blk w' t (usi tl) 3 ∧ Words tl i k la lb lc ∧ Mod (fun y => y = t) w3 w' | _ => False, fun l' _ => match l' with | [.i _ x] => (32 - x).toNat | _ => 0,
      ⟨0, _, rfl, by omega, hb5, hw5, hm5⟩, ?_⟩
    rintro x2 w6 ⟨k, tk, rfl, hk, hb6, hw6, hm6⟩
    have htk := hw6.len
    refine condK_i (fun hlt2 => ?_) fun hge2 => ?_
    · have hk' : k < 32 := by simp at hlt2; omega
      have e1 : IntKind.i64.wrap ((i : Int) + (k : Int)) = ((i + k : Nat) : Int) := by rw [wrap_i64 (by omega)]; omega
      rw [e1]
      simp only [Int.toNat_natCast]
      obtain ⟨aa, eaa, hraa⟩ := rd_u8 ((hra w6 hm6).drew) (i := i) (by omega)
      obtain ⟨ab, eab, hrab⟩ := rd_u8 ((hrb w6 hm6).drew) (i := k) (by omega)
      rw [getD_at (d := 0) (by omega : i < la.length)] at hraa
      rw [getD_at (d := 0) (by omega : k < lb.length)] at hrab
      rw [eaa, eab]
      have hbd6 := hw6.bound (i + k)
      rw [if_neg (by omega)] at hbd6
      have hma := (la.getD i 0).toNat_lt; have hmb := (lb.getD k 0).toNat_lt
      have hm : (la.getD i 0).toNat * (lb.getD k 0).toNat ≤ 255 * 255 := Nat.mul_le_mul (by omega) (by omega)
      have hsum2 : IntKind.i64.wrap (((tk.getD (i + k) 0).toNat : Int) + IntKind.i64.wrap (((la.getD i 0).toNat : Int) * ((lb.getD k 0).toNat : Int))) = ((tk.getD (i + k) 0 + (la.getD i 0).toUInt64 * (lb.getD k 0).toUInt64).toNat : Int) := by
        rw [u64_add_small (by rw [u8_mul]; omega), u8_mul]
        have : ((la.getD i 0).toNat : Int) * ((lb.getD k 0).toNat : Int) = (((la.getD i 0).toNat * (lb.getD k 0).toNat : Nat) : Int) := by simp
        rw [this, show IntKind.i64.wrap (((la.getD i 0).toNat * (lb.getD k 0).toNat : Nat) : Int) = (((la.getD i 0).toNat * (lb.getD k 0).toNat : Nat) : Int) from wrap_i64 (by omega), wrap_i64 (by omega)]; omega
      refine ⟨fun w' => w' = w6.drew, rfl, ⟨by omega, by show ((i + k : Nat) : Int) < ((66 : Nat) : Int); omega⟩, ⟨by omega, by omega⟩, ⟨by omega, by omega⟩, _, fun w' hw => by rw [hw]; exact rda hb6.drew (usi_getD (by omega)), _, fun w' hw => by rw [hw]; exact hraa, _, fun w' hw => by rw [hw]; exact hrab, ⟨by omega, by show ((i + k : Nat) : Int) < ((66 : Nat) : Int); omega⟩, ?_, trivial⟩
      rw [hsum2]
      refine semU_at (b := t) (n := i + k) (by kernel_rfl) (by kernel_rfl) rfl hb6.drew (by simp; omega) fun w7 ht7 hb7 => ?_
      rw [usi_set] at hb7
      refine ⟨⟨k + 1, _, wrap_nat (by omega), by omega, hb7, words_ab hw6 hi' hk' hb32, hm6.dr.tr ht7.mod⟩, ?_⟩
      rw [wrap_nat (by omega)]; (try simp only []); omega
    · have hk' : k = 32 := by simp at hge2; omega
      subst hk'
      refine ⟨⟨i + 1, tk, wrap_nat (by omega), by omega, hb6, words_row hw6 hi' ha32 hb32 hc32, hm6⟩, ?_⟩
      rw [wrap_nat (by omega)]; (try simp only []); omega
  · have hi' : i = 32 := by simp at hge; omega
    subst hi'
    have hM4 : Mod NoB w1 w4 := hM3.fresh hm4 fun x hx => by omega
    refine sem_makeSlice (l := 66) (c := 66) u26 h51 h52 h53 rfl h54 rfl rfl (by omega) (by omega) (by omega) fun o w8 hN8 hbo hoo => ⟨⟨_, _, _⟩, rfl, ?_⟩
    have b1 := hN8.at_; have b2 := hN8.size
    have hb8 := hb4.no hN8.mod
    have hs4 := hM4.size
    rw [bys_rep] at hbo
    refine ⟨fun l' w' => match l' with | [.i _ cyi, .i _ x] => ∃ (k : Nat) (cy : UInt64) (ob : List UInt8), cyi = cy.toNat ∧ x = k ∧ k ≤ 66 ∧ ob.length = k ∧ Blk w' o (bys (ob ++ List.replicate (66 - k) 0)) 5 ∧ le ob + 256 ^ k * cy.toNat = val256 (tl.take k) ∧ cy.toNat ≤ 4194304 ∧ Mod (fun y => y = o) w8 w' | _ => False, fun l' _ => match l' with | [.i _ _, .i _ x] => (66 - x).toNat | _ => 0,
      ⟨0, 0, [], rfl, rfl, by omega, rfl, by simpa using hbo, by simp [le, val256], by decide, Mod.refl _ _⟩, ?_⟩
    rintro cyi x3 w9 ⟨k, cy, ob, rfl, rfl, hk, hob, hb9, hv9, hc9, hm9⟩
    have hb9t : Blk w9 t (usi tl) 3 := hb8.mod hm9 (by have := hb4.lt; omega)
    refine condK_i (fun hlt => ?_) fun hge => ?_
    · have hk' : k < 66 := by have h : (k : Int) < ((66 : Nat) : Int) := by simpa using hlt
                              omega
      simp only [Int.toNat_natCast]
      have hbd := hw4.bound k
      have esum : IntKind.i64.wrap ((cy.toNat : Int) + ((tl.getD k 0).toNat : Int)) = ((cy + tl.getD k 0).toNat : Int) := by
        rw [u64_add_small (by omega), wrap_i64 (by omega)]; omega
      refine ⟨⟨by omega, by show (k : Int) < ((66 : Nat) : Int); omega⟩, _, rda hb9t (usi_getD (by omega)), ⟨by omega, by show (k : Int) < ((66 : Nat) : Int); omega⟩, ?_⟩
      rw [esum]
      have eb : u8OfInt ((cy + tl.getD k 0).toNat : Int) = (cy + tl.getD k 0).toUInt8 := by
        apply UInt8.toNat_inj.1
        unfold u8OfInt
        rw [UInt8.toNat_ofNat', UInt64.toNat_toUInt8]; omega
      rw [eb]
      refine semU_at (b := o) (n := k) (by kernel_rfl) (by kernel_rfl) rfl hb9 (by simp [hob]; omega) fun w10 ht10 hb10 => ?_
      rw [bys_set] at hb10
      have hst := carry_step (t := tl) (k := k) (by omega) hob hv9 hc9 (by omega)
      have e2 : (ob ++ List.replicate (66 - k) 0).set k (cy + tl.getD k 0).toUInt8 = (ob ++ [(cy + tl.getD k 0).toUInt8]) ++ List.replicate (66 - (k + 1)) 0 := by
        rw [show 66 - k = (66 - (k + 1)) + 1 by omega, List.replicate_succ, set_mid hob.symm, List.append_assoc]; rfl
      rw [e2] at hb10
      have ec : IntKind.i64.wrap (Int.tdiv ((cy + tl.getD k 0).toNat : Int) 256) = ((shrU64 (cy + tl.getD k 0) 8).toNat : Int) := by
        have hq : (shrU64 (cy + tl.getD k 0) 8).toNat = (cy + tl.getD k 0).toNat / 256 := by
          have : shrU64 (cy + tl.getD k 0) 8 = (cy + tl.getD k 0) >>> 8 := rfl
          rw [this, UInt64.toNat_shiftRight, Nat.shiftRight_eq_div_pow]; rfl
        rw [hq, show Int.tdiv ((cy + tl.getD k 0).toNat : Int) 256 = (((cy + tl.getD k 0).toNat / 256 : Nat) : Int) from rfl, wrap_i64 (by have := (cy + tl.getD k 0).toNat_lt; omega)]
      rw [ec]
      refine ⟨by omega, ⟨k + 1, _, _, rfl, wrap_nat (by omega), by omega, by simp [hob], hb10, hst.1, hst.2, hm9.tr ht10.mod⟩, ?_⟩
      rw [wrap_nat (by omega)]; (try simp only []); omega
    · have hk' : k = 66 := by have h : ¬ (k : Int) < ((66 : Nat) : Int) := by simpa using hge
                              omega
      subst hk'
      rw [Nat.sub_self, List.replicate_zero, List.append_nil] at hb9
      rw [List.take_of_length_le (by omega)] at hv9
      have hM9 : Mod NoB w1 w9 := (hM4.tr hN8.mod).fresh hm9 fun x hx => by omega
      have hro : SlRd w9 ⟨some ⟨o, 0, none⟩, 66, 66⟩ 1 (bys ob) := (own_whole (n := 66) (k := 1) hb9 (by simp [hob])).rd
      refine callK_ret (c_rRest hro (fun x hx => by rw [Slc.blk_mk, if_neg (by omega)] at hx; cases hx; exact hb9.lt) (by omega)) ?_
      rintro v w11 ⟨y, rfl, hoy, hfy, hry, hcy, hm11⟩
      rw [carry_end hw4 ha32 hb32 hc32 hob hv9] at hoy
      exact ⟨y, rfl, y, rfl, by rw [mulT, if_pos ⟨ha32, hb32, hc32⟩]; exact hoy, hfy.le hM9.size, hry, fun _ => hcy, hM9.tr hm11⟩

/-- some lists of bytes that lie apart: each lies behind the world before it -/
theorem apart_chain {ws : List World} {ss : List Slc} (hlen : ws.length = ss.length + 1) (hsz : ∀ i j, i ≤ j → (hj : j < ws.length) → (hi : i < ws.length) → ws[i].heap.size ≤ ws[j].heap.size)
    (hf : ∀ i (h : i < ss.length) x, ss[i].blk = some x → (ws[i]'(by omega)).heap.size ≤ x ∧ x < (ws[i + 1]'(by omega)).heap.size) :
    ∀ i j, i < ss.length → j < ss.length → i ≠ j → ∀ x, (sl ss i).blk = some x → (sl ss j).blk ≠ some x := by
  intro i j hi hj hij x hx hx'
  rw [sl_eq hi] at hx; rw [sl_eq hj] at hx'
  have h1 := hf i hi x hx
  have h2 := hf j hj x hx'
  rcases Nat.lt_or_ge i j with h | h
  · have := hsz (i + 1) j (by omega) (by omega) (by omega); omega
  · have := hsz (j + 1) i (by omega) (by omega) (by omega); omega
theorem mulT_le (a b c : List UInt8) : (mulT a b c).length ≤ 32 := by
  unfold mulT; split <;> simp
theorem law_muls {W : World} {a b c : Slc} {la lb lc : List UInt8} (ha : SlRd W a 1 (bys la)) (hal : ∀ x, a.blk = some x → x < W.heap.size) (hb : SlRd W b 1 (bys lb)) (hbl : ∀ x, b.blk = some x → x < W.heap.size) (hc : SlRd W c 1 (bys lc)) (hcl : ∀ x, c.blk = some x → x < W.heap.size) :
    Calls Tryz.prog 4 #[.slice a.a a.len a.cap, .slice b.a b.len b.cap, .slice c.a c.len c.cap] W (Ret fun v w' => v = .bool true ∧ Mod NoB W w') := by
  refine call4 _ _ _ ?_
  unfold sh4
  have hna := rd_len8 ha; have hnb := rd_len8 hb; have hnc := rd_len8 hc
  refine ⟨fun l' w' => match l' with | [.b x] => (x = false → la.length ≤ 100 ∧ lb.length ≤ 100 ∧ lc.length ≤ 100) ∧ w' = W | _ => False, condK_i (fun _ => ⟨fun e => (by cases e), rfl⟩) fun h1 => condK_i (fun _ => ⟨fun e => (by cases e), rfl⟩) fun h2 => ⟨fun h3 => ?_, rfl⟩, ?_⟩
  · simp at h1 h2 h3; omega
  rintro x0 w1 ⟨h, rfl⟩
  refine condK_i (fun _ => ?_) fun hf => ?_
  · refine callK_ret c_awake03 ?_
    rintro v w2 ⟨rfl, hm⟩
    exact ⟨_, rfl, rfl, hm⟩
  obtain ⟨g1, g2, g3⟩ := h hf
  refine callK_ret (c_lentBytes ha (by omega)) ?_
  rintro v w3 ⟨x, rfl, hx, hfx, hm3⟩
  refine ⟨x, rfl, callK_ret (c_lentBytes (hb.no hm3) (by omega)) ?_⟩
  rintro v w4 ⟨y, rfl, hy, hfy, hm4⟩
  have M4 := hm3.tr hm4
  refine ⟨y, rfl, callK_ret (c_lentBytes (hc.no M4) (by omega)) ?_⟩
  rintro v w5 ⟨z, rfl, hz, hfz, hm5⟩
  have M5 := M4.tr hm5
  have hx5 := (hx.no hm4).no hm5; have hy5 := hy.no hm5
  refine ⟨z, rfl, callK_ret (c_mulAdd hx5.rd (fun _ h => hx5.lt h) hy5.rd (fun _ h => hy5.lt h) hz.rd (fun _ h => hz.lt h)) ?_⟩
  rintro v w6 ⟨r, rfl, hor, hcr, hfr, hm6⟩
  have hx6 := hx5.no hm6; have hy6 := hy5.no hm6; have hz6 := hz.no hm6
  refine ⟨r, rfl, callK_ret (c_mulAdd hx6.rd (fun _ h => hx6.lt h) hy6.rd (fun _ h => hy6.lt h) hz6.rd (fun _ h => hz6.lt h)) ?_⟩
  rintro v w7 ⟨s, rfl, hos, hcs, hfs, hm7⟩
  have M7 := (M5.tr hm6).tr hm7
  refine ⟨s, rfl, fun l' w' => l' = [.b false] ∧ Mod NoB w7 w', ?_, ?_⟩
  · have up : ∀ {t : Slc}, (∀ q, t.blk = some q → q < w1.heap.size) → ∀ q, t.blk = some q → q < w7.heap.size := fun h q hq => Nat.lt_of_lt_of_le (h q hq) M7.size
    refine callK_ret (c_rMulAdd (ha.no M7) (up hal) (hb.no M7) (up hbl) (hc.no M7) (up hcl)) ?_
    rintro v w8 ⟨t, rfl, ht, -, -, -, hm8⟩
    have hor8 := (hor.no hm7).no hm8
    refine ⟨t, rfl, callK_ret (c_same hor8.rd ht (by have := mulT_le la lb lc; omega)) ?_⟩
    rintro v w9 ⟨rfl, hm9⟩
    have k9 := hm8.tr hm9
    refine ⟨_, rfl, condK_i (fun e => by simp at e) fun _ => ?_⟩
    refine callK_ret (c_keptBytes ((hx6.no hm7).no k9) ((ha.no M7).no k9) (by omega)) ?_
    rintro v w10 ⟨rfl, hm10⟩
    have k10 := k9.tr hm10
    refine ⟨_, rfl, condK_i (fun e => by simp at e) fun _ => ?_⟩
    refine callK_ret (c_keptBytes ((hy6.no hm7).no k10) ((hb.no M7).no k10) (by omega)) ?_
    rintro v w11 ⟨rfl, hm11⟩
    have k11 := k10.tr hm11
    refine ⟨_, rfl, condK_i (fun e => by simp at e) fun _ => ?_⟩
    refine callK_ret (c_keptBytes ((hz6.no hm7).no k11) ((hc.no M7).no k11) (by omega)) ?_
    rintro v w12 ⟨rfl, hm12⟩
    exact ⟨_, rfl, rfl, k11.tr hm12⟩
  rintro x12 w13 ⟨e, hm13⟩
  cases e
  refine condK_i (fun e => by cases e) fun _ => ?_
  refine sem_rows [r, s, x, y, z] (by rfl) rfl (by decide) (by decide) fun o e w14 hN14 hro hbo hoo => ⟨o, rfl, ?_⟩
  have k14 := hm13.tr hN14.mod
  have q1 : Mod NoB w3 w14 := (((hm4.tr hm5).tr hm6).tr hm7).tr k14
  have q2 : Mod NoB w4 w14 := ((hm5.tr hm6).tr hm7).tr k14
  have q3 : Mod NoB w5 w14 := (hm6.tr hm7).tr k14
  have q4 : Mod NoB w6 w14 := hm7.tr k14
  have s3 := hm3.size; have s4 := hm4.size; have s5 := hm5.size; have s6 := hm6.size; have s7 := hm7.size
  have lenx : ∀ {w : World} {t : Slc} {l : List UInt8}, LentB w t l → ∃ vs, Sh.Own w t 1 vs := fun {w t l} h => ⟨_, by
    have := h.2.take (n := t.len) (by simp only []; omega)
    exact this⟩
  have bx : ∀ q, x.blk = some q → w1.heap.size ≤ q ∧ q < w3.heap.size := fun q hq => ⟨hfx q hq, hx.lt hq⟩
  have by' : ∀ q, y.blk = some q → w3.heap.size ≤ q ∧ q < w4.heap.size := fun q hq => ⟨hfy q hq, hy.lt hq⟩
  have bz : ∀ q, z.blk = some q → w4.heap.size ≤ q ∧ q < w5.heap.size := fun q hq => ⟨hfz q hq, hz.lt hq⟩
  have br : ∀ q, r.blk = some q → w5.heap.size ≤ q ∧ q < w6.heap.size := fun q hq => ⟨hfr q hq, own_lt hor q hq⟩
  have bs : ∀ q, s.blk = some q → w6.heap.size ≤ q ∧ q < w7.heap.size := fun q hq => ⟨hfs q hq, own_lt hos q hq⟩
  have hrl := rd_len8 hor.rd; have hsl := rd_len8 hos.rd
  have hml := mulT_le la lb lc
  refine callK_ret (c_apartBytes (ss := [r, s, x, y, z]) hoo.rd (fun k hk => ?_) (fun i j hi hj hij q h h' => ?_) (by simp)) ?_
  · match k, hk with
    | 0, _ => exact ⟨⟨_, hor.no q4⟩, by show r.len ≤ _; omega⟩
    | 1, _ => exact ⟨⟨_, hos.no k14⟩, by show s.len ≤ _; omega⟩
    | 2, _ => exact ⟨lenx (hx.no q1), by show x.len ≤ _; have := hx.1; omega⟩
    | 3, _ => exact ⟨lenx (hy.no q2), by show y.len ≤ _; have := hy.1; omega⟩
    | 4, _ => exact ⟨lenx (hz.no q3), by show z.len ≤ _; have := hz.1; omega⟩
  · have key : ∀ n, n < 5 → ∀ q, (sl [r, s, x, y, z] n).blk = some q → (n = 0 → w5.heap.size ≤ q ∧ q < w6.heap.size) ∧ (n = 1 → w6.heap.size ≤ q ∧ q < w7.heap.size) ∧ (n = 2 → w1.heap.size ≤ q ∧ q < w3.heap.size) ∧ (n = 3 → w3.heap.size ≤ q ∧ q < w4.heap.size) ∧ (n = 4 → w4.heap.size ≤ q ∧ q < w5.heap.size) := by
      intro n hn q hq
      match n, hn with
      | 0, _ => exact ⟨fun _ => br q hq, by omega, by omega, by omega, by omega⟩
      | 1, _ => exact ⟨by omega, fun _ => bs q hq, by omega, by omega, by omega⟩
      | 2, _ => exact ⟨by omega, by omega, fun _ => bx q hq, by omega, by omega⟩
      | 3, _ => exact ⟨by omega, by omega, by omega, fun _ => by' q hq, by omega⟩
      | 4, _ => exact ⟨by omega, by omega, by omega, by omega, fun _ => bz q hq⟩
    have h1 := key i hi q h
    have h2 := key j hj q h'
    simp only [List.length_cons, List.length_nil] at hi hj
    omega
  · rintro v w15 ⟨rfl, hm15⟩
    have k15 : Mod NoB w1 w15 := ((M7.tr hm13).tr hN14.mod).fresh hm15 (by
      rintro q ⟨k, hk, hq⟩
      match k, hk with
      | 0, _ => have := br q hq; omega
      | 1, _ => have := bs q hq; omega
      | 2, _ => have := bx q hq; omega
      | 3, _ => have := by' q hq; omega
      | 4, _ => have := bz q hq; omega)
    refine ⟨_, rfl, condK_i (fun _ => ?_) fun e => by cases e⟩
    refine callK_ret c_awake03 ?_
    rintro v w16 ⟨rfl, hm16⟩
    exact ⟨_, rfl, rfl, k15.tr hm16⟩
end Go.Proofs.YtknbihogadcnpaaGreat
