/- Scalars: truths held against each other; the law of any bytes. -/
import Derived.Test.YtknbihogadcnpaaGreatS37
import Derived.Test.YtknbihogadcnpaaGreatF5t
set_option linter.unusedSimpArgs false
set_option linter.unusedVariables false
set_option maxRecDepth 100000
namespace Go.Proofs.YtknbihogadcnpaaGreat
open Go Go.Sh

theorem c_sameT {w : World} {a b : Slc} {l m : List Bool} (ha : SlRd w a 1 (bls l)) (hb : SlRd w b 1 (bls m)) (hn : l.length ≤ 9000000000000000000) :
    Calls Tryz.prog 14 #[.slice a.a a.len a.cap, .slice b.a b.len b.cap] w (Ret fun v w' => v = .bool (decide (l = m)) ∧ Mod NoB w w') := by
  refine call14 _ _ ?_
  unfold sh14
  have hla := rd_lenB ha; have hlb := rd_lenB hb
  refine condK_i (fun h => ⟨?_, Mod.refl _ _⟩) (fun h => ?_)
  · have : l ≠ m := by rintro rfl; simp at h; omega
    simp [this]
  · have hlen : l.length = m.length := by simp at h; omega
    refine ⟨fun l' w' => match l' with | [.i _ x] => ∃ k : Nat, x = k ∧ k ≤ l.length ∧ l.take k = m.take k ∧ Mod NoB w w' | _ => False, fun l' _ => match l' with | [.i _ x] => (l.length - x).toNat | _ => 0, ⟨0, rfl, by omega, rfl, Mod.refl _ _⟩, ?_⟩
    rintro x w1 ⟨k, rfl, hk, hkk, hm1⟩
    refine condK_i (fun h => ?_) (fun h => ?_)
    · have hk' : k < l.length := by simp at h; omega
      obtain ⟨a1, ea, hra⟩ := rd_bool ha hk'
      obtain ⟨a2, eb, hrb⟩ := rd_bool hb (i := k) (by omega)
      rw [ea, eb]
      refine ⟨⟨by omega, by omega⟩, ⟨by omega, by omega⟩, _, Rd.drew (hra.mod hm1 fun h => h), _, Rd.drew (hrb.mod hm1 fun h => h), ps_neq_bool (by kernel_rfl) ⟨_, rfl, condK_i (fun hne => ⟨?_, Mod.dr hm1⟩) (fun hne => ⟨⟨k + 1, wrap_nat (by omega), by omega, ?_, Mod.dr hm1⟩, ?_⟩)⟩⟩
      · have : l ≠ m := by rintro rfl; simp at hne
        simp [this]
      · have : l[k] = m[k]'(by omega) := by simpa using hne
        rw [take_snoc hk', take_snoc (by omega), hkk, this]
      · rw [wrap_nat (by omega)]; (try simp only []); omega
    · have hk' : k = l.length := by simp at h; omega
      rw [hk', List.take_length, hlen, List.take_length] at hkk
      exact ⟨by simp [hkk], hm1⟩
theorem redT_le (l : List UInt8) : (redT l).length ≤ 32 := by unfold redT; split <;> simp
theorem bitsT_le (l : List UInt8) : (bitsT l).length ≤ 256 := by unfold bitsT; split <;> simp
theorem law_reduces {W : World} {b : Slc} {l : List UInt8} (hb : SlRd W b 1 (bys l)) (hbl : ∀ x, b.blk = some x → x < W.heap.size) :
    Calls Tryz.prog 3 #[.slice b.a b.len b.cap] W (Ret fun v w' => v = .bool true ∧ Mod NoB W w') := by
  refine call3 _ ?_
  unfold sh3
  have hn := rd_len8 hb
  refine condK_i (fun _ => ?_) fun h => ?_
  · refine callK_ret c_awake03 ?_
    rintro v w2 ⟨rfl, hm⟩
    exact ⟨_, rfl, rfl, hm⟩
  have hn200 : l.length ≤ 200 := by simp at h; omega
  refine callK_ret (c_lentBytes hb (by omega)) ?_
  rintro v w2 ⟨x, rfl, hx, hfx, hm2⟩
  refine ⟨x, rfl, callK_ret (c_redNB hx.rd fun _ h => hx.lt h) ?_⟩
  rintro v w3 ⟨r, rfl, hor, hcr, hfr, hm3⟩
  have hx3 := hx.no hm3
  refine ⟨r, rfl, callK_ret (c_redNB hx3.rd fun _ h => hx3.lt h) ?_⟩
  rintro v w4 ⟨s, rfl, hos, hcs, hfs, hm4⟩
  have hx4 := hx3.no hm4
  refine ⟨s, rfl, callK_ret (c_bitsS hx4.rd fun _ h => hx4.lt h) ?_⟩
  rintro v w5 ⟨t, rfl, hot, hft, hm5⟩
  have hx5 := hx4.no hm5
  refine ⟨t, rfl, callK_ret (c_bitsS hx5.rd fun _ h => hx5.lt h) ?_⟩
  rintro v w6 ⟨u, rfl, hou, hfu, hm6⟩
  have M6 := (((hm2.tr hm3).tr hm4).tr hm5).tr hm6
  have hx6 := hx5.no hm6
  have hb6 := hb.no M6
  have hbl6 : ∀ q, b.blk = some q → q < w6.heap.size := fun q hq => Nat.lt_of_lt_of_le (hbl q hq) M6.size
  refine ⟨u, rfl, fun l' w' => l' = [.b false] ∧ Mod NoB w6 w', ?_, ?_⟩
  · refine callK_ret (c_rReduce hb6 hbl6) ?_
    rintro v w7 ⟨y, rfl, hy, hm7⟩
    have r7 := (((hor.no hm4).no hm5).no hm6).no hm7
    refine ⟨y, rfl, callK_ret (c_same r7.rd hy (by have := redT_le l; omega)) ?_⟩
    rintro v w8 ⟨rfl, hm8⟩
    have k8 := hm7.tr hm8
    refine ⟨_, rfl, condK_i (fun e => by simp at e) fun _ => ?_⟩
    have x8 := hx6.no k8
    refine callK_ret (c_right x8.rd fun _ h => x8.lt h) ?_
    rintro v w9 ⟨rfl, hm9⟩
    have k9 := k8.tr hm9
    refine ⟨_, rfl, callK_ret (c_rRight (hb6.no k9) fun q hq => Nat.lt_of_lt_of_le (hbl6 q hq) k9.size) ?_⟩
    rintro v w10 ⟨rfl, hm10⟩
    have k10 := k9.tr hm10
    refine ⟨_, rfl, ps_neq_bool (by kernel_rfl) ⟨_, rfl, condK_i (fun e => by simp at e) fun _ => ?_⟩⟩
    refine callK_ret (c_rBits (hb6.no k10)) ?_
    rintro v w11 ⟨z, rfl, hz, hm11⟩
    have k11 := k10.tr hm11
    refine ⟨z, rfl, callK_ret (c_sameT (((hot.no hm6).no k11).rd) hz (by have := bitsT_le l; omega)) ?_⟩
    rintro v w12 ⟨rfl, hm12⟩
    have k12 := k11.tr hm12
    refine ⟨_, rfl, condK_i (fun e => by simp at e) fun _ => ?_⟩
    refine callK_ret (c_keptBytes (hx6.no k12) (hb6.no k12) (by omega)) ?_
    rintro v w13 ⟨rfl, hm13⟩
    exact ⟨_, rfl, rfl, k12.tr hm13⟩
  rintro x14 w14 ⟨e, hm14⟩
  cases e
  refine condK_i (fun e => by cases e) fun _ => ?_
  have s2 := hm2.size; have s3 := hm3.size; have s4 := hm4.size; have s5 := hm5.size; have s6 := hm6.size; have s14 := hm14.size
  have hrl := rd_len8 hor.rd; have hsl := rd_len8 hos.rd; have htl := rd_lenB hot.rd; have hul := rd_lenB hou.rd
  have g1 := redT_le l; have g2 := bitsT_le l
  have bx : ∀ q, x.blk = some q → W.heap.size ≤ q ∧ q < w2.heap.size := fun q hq => ⟨hfx q hq, hx.lt hq⟩
  have br : ∀ q, r.blk = some q → w2.heap.size ≤ q ∧ q < w3.heap.size := fun q hq => ⟨hfr q hq, own_lt hor q hq⟩
  have bs : ∀ q, s.blk = some q → w3.heap.size ≤ q ∧ q < w4.heap.size := fun q hq => ⟨hfs q hq, own_lt hos q hq⟩
  have bt : ∀ q, t.blk = some q → w4.heap.size ≤ q ∧ q < w5.heap.size := fun q hq => ⟨hft q hq, own_lt hot q hq⟩
  have bu : ∀ q, u.blk = some q → w5.heap.size ≤ q ∧ q < w6.heap.size := fun q hq => ⟨hfu q hq, own_lt hou q hq⟩
  refine sem_rows [r, s, x] (by rfl) rfl (by decide) (by decide) fun o e w15 hN15 hro hbo hoo => ⟨o, rfl, ?_⟩
  have k15 := hm14.tr hN15.mod
  have q2 : Mod NoB w2 w15 := (((hm3.tr hm4).tr hm5).tr hm6).tr k15
  have q3 : Mod NoB w3 w15 := ((hm4.tr hm5).tr hm6).tr k15
  have q4 : Mod NoB w4 w15 := (hm5.tr hm6).tr k15
  refine callK_ret (c_apartBytes (ss := [r, s, x]) hoo.rd (fun k hk => ?_) (fun i j hi hj hij q h h' => ?_) (by simp)) ?_
  · match k, hk with
    | 0, _ => exact ⟨⟨_, hor.no q3⟩, by show r.len ≤ _; omega⟩
    | 1, _ => exact ⟨⟨_, hos.no q4⟩, by show s.len ≤ _; omega⟩
    | 2, _ => exact ⟨⟨_, (hx.no q2).2.take (n := x.len) (by simp only []; omega)⟩, by show x.len ≤ _; have := hx.1; omega⟩
  · have key : ∀ n, n < 3 → ∀ q, (sl [r, s, x] n).blk = some q → (n = 0 → w2.heap.size ≤ q ∧ q < w3.heap.size) ∧ (n = 1 → w3.heap.size ≤ q ∧ q < w4.heap.size) ∧ (n = 2 → W.heap.size ≤ q ∧ q < w2.heap.size) := by
      intro n hn q hq
      match n, hn with
      | 0, _ => exact ⟨fun _ => br q hq, by omega, by omega⟩
      | 1, _ => exact ⟨by omega, fun _ => bs q hq, by omega⟩
      | 2, _ => exact ⟨by omega, by omega, fun _ => bx q hq⟩
    have h1 := key i hi q h
    have h2 := key j hj q h'
    simp only [List.length_cons, List.length_nil] at hi hj
    omega
  rintro v w16 ⟨rfl, hm16⟩
  have ub : ∀ q, UB [r, s, x] q → W.heap.size ≤ q ∧ q < w4.heap.size := by
    rintro q ⟨k, hk, hq⟩
    match k, hk with
    | 0, _ => have := br q hq; omega
    | 1, _ => have := bs q hq; omega
    | 2, _ => have := bx q hq; omega
  have K16 : Mod NoB W w16 := ((M6.tr hm14).tr hN15.mod).fresh hm16 fun q hq => (ub q hq).1
  refine ⟨_, rfl, condK_i (fun _ => ?_) fun e => by cases e⟩
  have ht16 : Sh.Own w16 t 1 (bls (bitsT l)) := ((hot.no hm6).no k15).mod hm16 fun q hq h => by have := ub q h; have := bt q hq; omega
  have hu16 : Sh.Own w16 u 1 (bls (bitsT l)) := (hou.no k15).mod hm16 fun q hq h => by have := ub q h; have := bu q hq; omega
  refine sem_rowsT [t, u] (by rfl) rfl (by decide) (by decide) fun o2 e2 w17 hN17 hro2 hbo2 hoo2 => ⟨o2, rfl, ?_⟩
  refine callK_ret (c_apartTruths (ss := [t, u]) hoo2.rd (fun k hk => ?_) (fun i j hi hj hij q h h' => ?_) (by simp)) ?_
  · match k, hk with
    | 0, _ => exact ⟨⟨_, ht16.no hN17.mod⟩, by show t.len ≤ _; omega⟩
    | 1, _ => exact ⟨⟨_, hu16.no hN17.mod⟩, by show u.len ≤ _; omega⟩
  · match i, j, hi, hj with
    | 0, 0, _, _ => exact hij rfl
    | 1, 1, _, _ => exact hij rfl
    | 0, 1, _, _ => have := bt q h; have := bu q h'; omega
    | 1, 0, _, _ => have := bt q h'; have := bu q h; omega
  rintro v w18 ⟨rfl, hm18⟩
  have K18 : Mod NoB W w18 := (K16.tr hN17.mod).fresh hm18 (by
    rintro q ⟨k, hk, hq⟩
    match k, hk with
    | 0, _ => have := bt q hq; omega
    | 1, _ => have := bu q hq; omega)
  refine ⟨_, rfl, condK_i (fun _ => ?_) fun e => by cases e⟩
  refine callK_ret c_awake03 ?_
  rintro v w19 ⟨rfl, hm19⟩
  exact ⟨_, rfl, rfl, K18.tr hm19⟩
end Go.Proofs.YtknbihogadcnpaaGreat
