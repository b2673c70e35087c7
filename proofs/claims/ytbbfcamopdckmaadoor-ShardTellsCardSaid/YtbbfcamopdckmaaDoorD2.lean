/- SHA by the document: the text made whole, the digest by constants, the table's. -/
import Derived.Test.YtbbfcamopdckmaaDoorD1
import Derived.Test.YtbbfcamopdckmaaDoorS8
set_option linter.unusedSimpArgs false
set_option linter.unusedVariables false
set_option maxRecDepth 100000
namespace Go.Proofs.YtbbfcamopdckmaaDoor
open Go Go.Sh

theorem u64_nat {n : Nat} : u64OfInt (n : Int) = UInt64.ofNat n := by
  apply UInt64.toNat_inj.1
  unfold u64OfInt
  simp only [UInt64.toNat_ofNat']
  omega
theorem c_whole {w : World} {b : Slc} {l : List UInt8} (hb : SlRd w b 1 (bys l)) (hn : l.length ≤ 900000000) :
    Calls Tryd.prog 48 #[.slice b.a b.len b.cap] w (Ret fun v w' => ∃ x : Slc, v = x.val ∧ Sh.Own w' x 1 (bys (pad l)) ∧ FB w x ∧ Mod NoB w w') := by
  refine call48 _ ?_
  unfold sh48
  obtain ⟨i5', h51, h52, h53, h54⟩ := i5
  have hL := rd_len8 hb
  refine sem_lit0 u26 h51 fun b0 w1 hN1 => ⟨⟨some ⟨b0, 0, none⟩, 0, 0⟩, rfl, ?_⟩
  refine sem_append (s := ⟨some ⟨b0, 0, none⟩, 0, 0⟩) u26 h51 h52 h53 rfl h54 (own_zero _ _ _) (hb.no hN1.mod) (bys_one _) (by simp only []; omega) (by simp only []; omega) fun s2 w2 ho2 hlen2 hblk2 hm2' => ⟨s2, rfl, ?_⟩
  have hm2 : Mod NoB w w2 := hN1.mod.fresh hm2' fun x e => by simp at e
  have hf2 : FB w s2 := fun x hx => by
    rcases hblk2 with e | e
    · rw [e] at hx; simp at hx
    · rw [e] at hx; cases hx; exact hN1.mod.size
  rw [List.nil_append] at ho2
  refine sem_byte (w0 := w) (c := 128) ho2 hf2 hm2 (by omega) fun s3 w3 ho3 hf3 hm3 hl3 => ?_
  have hpz : padZ l.length < 128 := Nat.mod_lt _ (by decide)
  have hpz2 : padZ l.length = (239 - l.length % 128) % 128 := rfl
  refine ⟨fun l' w' => match l' with | [.sl q] => ∃ j : Nat, j ≤ padZ l.length ∧ Sh.Own w' q 1 (bys (l ++ [128] ++ List.replicate j 0)) ∧ FB w q ∧ Mod NoB w w' | _ => False, fun l' _ => match l' with | [.sl q] => l.length + 1 + padZ l.length - q.len | _ => 0, ⟨0, by omega, by simpa using ho3, hf3, hm3⟩, ?_⟩
  rintro q w4 ⟨j, hj, hoq, hfq, hm4⟩
  have hql : q.len = l.length + 1 + j := by have := rd_len8 hoq.rd; simp at this; omega
  refine ⟨by decide, ?_⟩
  have htm : Int.tmod ((q.len : Nat) : Int) (128 : Int) = (q.len % 128 : Nat) := rfl
  rw [htm]
  refine condK_i (fun hc => ?_) (fun hc => ?_)
  · have hne : q.len % 128 ≠ 112 := by simp at hc; omega
    have hjlt : j < padZ l.length := by omega
    refine sem_byte (w0 := w) (c := 0) hoq hfq hm4 (by simp; omega) fun s5 w5 ho5 hf5 hm5 hl5 => ⟨⟨j + 1, by omega, ?_, hf5, hm5⟩, by (try simp only []); omega⟩
    rw [List.append_assoc, ← List.replicate_succ'] at ho5
    exact ho5
  · have heq : q.len % 128 = 112 := by simp at hc; omega
    have hjeq : j = padZ l.length := by omega
    subst hjeq
    obtain ⟨N, hNd⟩ : ∃ N, N = (8 : UInt64) * UInt64.ofNat l.length := ⟨_, rfl⟩
    refine ⟨fun l' w' => match l' with | [.sl q, .i _ s] => ∃ k : Nat, s = 15 - (k : Int) ∧ k ≤ 16 ∧ Sh.Own w' q 1 (bys (l ++ [128] ++ List.replicate (padZ l.length) 0 ++ (List.replicate 8 0 ++ be8 N).take k)) ∧ FB w q ∧ Mod NoB w w' | _ => False,
      fun l' _ => match l' with | [.sl q, .i _ s] => (s + 1).toNat | _ => 0, ⟨0, by omega, by omega, by simpa using hoq, hfq, hm4⟩, ?_⟩
    rintro q6 t w6 ⟨k, rfl, hk, ho6, hf6, hm6⟩
    have hw1 : IntKind.i64.wrap ((15 : Int) - (k : Int) - 1) = 15 - ((k + 1 : Nat) : Int) := by rw [wrap_i64 (by omega)]; omega
    have hl16 : (List.replicate 8 (0 : UInt8) ++ be8 N).length = 16 := by simp
    refine condK_i (fun hc => ?_) (fun hc => ?_)
    · have hk16 : k < 16 := by simp at hc; omega
      refine ⟨fun l' w' => l' = [.u8 ((List.replicate 8 (0 : UInt8) ++ be8 N)[k]'(by omega))] ∧ w' = w6, condK_i (fun h8 => ?_) fun h8 => ?_, ?_⟩
      · have hk8 : 8 ≤ k := by simp at h8; omega
        have e1 : IntKind.i64.wrap ((8 : Int) * (15 - (k : Int))) = ((8 * (15 - k) : Nat) : Int) := by rw [wrap_i64 (by omega)]; omega
        rw [e1, u64_nat, ← hL, u64_nat, ← hNd]
        have e2 : (UInt64.ofNat (8 * (15 - k))).toNat = 8 * (15 - k) := by rw [UInt64.toNat_ofNat']; omega
        refine ⟨by omega, ?_, rfl⟩
        rw [Int.toNat_natCast, e2]
        have := be8_at N (k - 8) (by omega)
        rw [show 56 - 8 * (k - 8) = 8 * (15 - k) by omega] at this
        congr 2
        rw [List.getElem_append_right (by simp; omega)]
        simp only [List.length_replicate]
        rw [List.getElem?_eq_getElem (by simp; omega)] at this
        exact (Option.some.inj this).symm
      · have hk8 : k < 8 := by simp at h8; omega
        refine ⟨?_, rfl⟩
        rw [List.getElem_append_left (by simpa using hk8), List.getElem_replicate]
      · rintro x w7 ⟨he, rfl⟩
        simp at he; subst he
        refine sem_byte (w0 := w) ho6 hf6 hm6 (by simp; omega) fun s7 w7 ho7 hf7 hm7 hl7 => ⟨⟨k + 1, hw1, by omega, ?_, hf7, hm7⟩, ?_⟩
        · rw [take_snoc (l := List.replicate 8 (0 : UInt8) ++ be8 N) (j := k) (by omega), ← List.append_assoc]; exact ho7
        · rw [hw1]; (try simp only []); omega
    · have hk16 : k = 16 := by simp at hc; omega
      subst hk16
      rw [List.take_of_length_le (by omega)] at ho6
      refine ⟨q6, rfl, ?_, hf6, hm6⟩
      have : l ++ [128] ++ List.replicate (padZ l.length) 0 ++ (List.replicate 8 0 ++ be8 N) = pad l := by
        simp [pad, padEnd, hNd]
      rw [← this]; exact ho6

theorem c_sumBy {w : World} {f k b : Slc} {h0 ks : List UInt64} {l : List UInt8} (hf : SlRd w f 1 (us h0)) (hfl : h0.length = 8) (hk : SlRd w k 1 (us ks)) (hkl : ks.length = 80) (hb : SlRd w b 1 (bys l)) (hn : l.length ≤ 900000000) :
    Calls Tryd.prog 30 #[.slice f.a f.len f.cap, .slice k.a k.len k.cap, .slice b.a b.len b.cap] w (Ret fun v w' => ∃ x : Slc, v = x.val ∧ Sh.Own w' x 1 (bys (shaBy h0 ks l)) ∧ FB w x ∧ Mod NoB w w') := by
  refine call30 _ _ _ ?_
  unfold sh30
  obtain ⟨i4', h41, h42, h43, h44⟩ := i44
  have hfL := rd_len64 hf
  refine sem_lit0 u40 h41 fun b0 w1 hN1 => ⟨⟨some ⟨b0, 0, none⟩, 0, 0⟩, rfl, ?_⟩
  refine sem_append (s := ⟨some ⟨b0, 0, none⟩, 0, 0⟩) u40 h41 h42 h43 rfl h44 (own_zero _ _ _) (hf.no hN1.mod) (us_one _) (by simp only []; omega) (by simp only []; omega) fun s2 w2 ho2 hlen2 hblk2 hm2' => ⟨s2, rfl, ?_⟩
  have hm2 : Mod NoB w w2 := hN1.mod.fresh hm2' fun x e => by simp at e
  rw [List.nil_append] at ho2
  refine callK_ret (c_whole (hb.no hm2) hn) ?_
  rintro v w3 ⟨x, rfl, hx3, hxf3, hm3⟩
  have hM3 := hm2.tr hm3
  have hxl := rd_len8 hx3.rd
  have hxc := hx3.rd.2.1
  have hpm := (pad_len l).1
  have hpl : (pad l).length ≤ 1000000000 := by have := (pad_len l).2; simp only [pad, List.length_append]; omega
  refine ⟨x, rfl, fun l' w' => match l' with | [.sl q, .i _ i] => ∃ n : Nat, i = ((128 * n : Nat) : Int) ∧ 128 * n ≤ (pad l).length ∧ SlRd w' q 1 (us (absorb ks h0 (pad l) n)) ∧ Mod NoB w3 w' | _ => False, fun l' _ => match l' with | [.sl q, .i _ i] => ((pad l).length - i).toNat | _ => 0,
    ⟨0, rfl, by omega, (ho2.no hm3).rd, Mod.refl _ _⟩, ?_⟩
  rintro q i w4 ⟨n, rfl, hnn, hq, hm4⟩
  have hal := absorb_len (ks := ks) (h := h0) (b := pad l) hfl n
  refine condK_i (fun hlt => ?_) fun hge => ?_
  · have hn1 : 128 * n < (pad l).length := by simp at hlt; omega
    have e1 : IntKind.i64.wrap (((128 * n : Nat) : Int) + 128) = ((128 * n + 128 : Nat) : Int) := by rw [wrap_i64 (by omega)]; omega
    rw [e1]
    simp only [Int.toNat_natCast]
    refine ⟨⟨by omega, by omega, by omega⟩, ?_⟩
    have hc := hx3.rd.cut (l := 128 * n) (n := 128 * n + 128) (m := x.cap) (by omega) (by omega) (by omega) (Nat.le_refl _)
    rw [bys_cut, show 128 * n + 128 - 128 * n = 128 by omega] at hc
    refine callK_ret (c_turn hq hal ((hk.no hM3).no hm4) hkl (hc.no hm4) (by rw [List.length_take, List.length_drop]; omega)) ?_
    rintro v w5 ⟨y, rfl, hy, hyf, hm5⟩
    refine ⟨y, rfl, ⟨n + 1, by omega, by omega, hy.rd, hm4.tr hm5⟩, ?_⟩
    (try simp only []); omega
  · have hn1 : 128 * n = (pad l).length := by simp at hge; omega
    have hst : absorb ks h0 (pad l) n = absorb ks h0 (pad l) ((pad l).length / 128) := by congr 1; omega
    obtain ⟨st, hstd⟩ : ∃ st, st = absorb ks h0 (pad l) n := ⟨_, rfl⟩
    rw [← hstd] at hq hal
    have hsha : shaBy h0 ks l = digest st := by unfold shaBy; rw [← hst, hstd]
    rw [hsha]
    obtain ⟨qa, eq⟩ := slc_a hq (by omega)
    have hqL := rd_len64 hq
    have hM4 := hM3.tr hm4
    refine ⟨fun l w' => match l with | [.sl q, .i _ x] => ∃ i : Nat, x = i ∧ i ≤ 8 ∧ Sh.Own w' q 1 (bys (digest (st.take i))) ∧ FB w4 q ∧ Mod NoB w4 w' | _ => False, fun l _ => match l with | [.sl q, .i _ x] => (8 - x).toNat | _ => 0,
      ⟨0, rfl, by omega, own_nil _ _, FB.nil _, Mod.refl _ _⟩, ?_⟩
    rintro out x w9 ⟨i, rfl, hi, ho9, hf9, hm9⟩
    have hdl : ∀ (l : List UInt64), (digest l).length = 8 * l.length := fun l => by
      induction l with
      | nil => rfl
      | cons a l ih => simp [digest] at ih ⊢; omega
    refine condK_i (fun hc => ?_) (fun hc => ?_)
    · have hi8 : i < 8 := by simp at hc; omega
      refine ⟨fun l w' => match l with | [.sl q, .i _ s] => ∃ k : Nat, s = 56 - 8 * (k : Int) ∧ k ≤ 8 ∧ Sh.Own w' q 1 (bys (digest (st.take i) ++ (be8 st[i]).take k)) ∧ FB w4 q ∧ Mod NoB w4 w' | _ => False,
        fun l _ => match l with | [.sl q, .i _ s] => (s + 8).toNat | _ => 0, ⟨0, by omega, by omega, by simpa using ho9, hf9, hm9⟩, ?_⟩
      rintro q10 t w10 ⟨k, rfl, hk, ho10, hf10, hm10⟩
      refine condK_i (fun hc => ?_) (fun hc => ?_)
      · have hk8 : k < 8 := by simp at hc; omega
        have hsN : (u64OfInt (56 - 8 * (k : Int))).toNat = 56 - 8 * k := by
          rw [show (56 - 8 * (k : Int)) = ((56 - 8 * k : Nat) : Int) by omega, u64_nat, UInt64.toNat_ofNat']; omega
        simp only [eq, hsN, Int.toNat_natCast]
        have hv : st.getD i 0 = st[i] := by rw [List.getD, List.getElem?_eq_getElem (by omega)]; rfl
        refine ⟨⟨by omega, by omega⟩, st[i], hv ▸ rdu hq eq (by omega) hm10, by omega, sem_byte (w0 := w4) ho10 hf10 hm10 (by simp [hdl]; omega) fun s7 w7 ho7 hf7 hm7 hl7 => ⟨⟨k + 1, ?_, by omega, ?_, hf7, hm7⟩, ?_⟩⟩
        · rw [wrap_i64 (by omega)]; omega
        · rw [be8_take hk8, ← List.append_assoc]; exact ho7
        · rw [wrap_i64 (by omega)]; (try simp only []); omega
      · have hk8 : k = 8 := by simp at hc; omega
        subst hk8
        rw [List.take_of_length_le (l := be8 (st[i]'(by omega))) (by rw [be8_len]; omega)] at ho10
        refine ⟨⟨i + 1, wrap_nat (by omega), by omega, ?_, hf10, hm10⟩, ?_⟩
        · rw [take_snoc (by omega)]
          have : digest (st.take i ++ [st[i]]) = digest (st.take i) ++ be8 st[i] := by simp only [digest, List.flatMap_append, List.flatMap_cons, List.flatMap_nil, List.append_nil]
          rw [this]; exact ho10
        · rw [wrap_nat (by omega)]; (try simp only []); omega
    · have hi8 : i = 8 := by simp at hc; omega
      subst hi8
      rw [List.take_of_length_le (by omega)] at ho9
      exact ⟨out, rfl, ho9, hf9.le hM4.size, hM4.tr hm9⟩

set_option maxRecDepth 100000 in
theorem c_table {w : World} : Calls Tryd.prog 39 #[] w (Ret fun v w' => ∃ x y : Slc, v = .tuple #[x.val, y.val] ∧ Sh.Own w' x 1 (us H0) ∧ Sh.Own w' y 1 (us KS) ∧ Mod NoB w w') := by
  refine call39 ?_
  unfold sh39
  refine sem_words H0 rfl rfl (by omega) (by omega) fun x b1 w1 hN1 hx hb1 ho1 => ⟨x, rfl, ?_⟩
  refine sem_words KS rfl rfl (by omega) (by omega) fun y b2 w2 hN2 hy hb2 ho2 => ⟨y, rfl, x, y, rfl, ho1.no hN2.mod, ho2, hN1.mod.tr hN2.mod⟩
theorem c_ref {w : World} {b : Slc} {l : List UInt8} (hb : SlRd w b 1 (bys l)) (hn : l.length ≤ 900000000) :
    Calls Tryd.prog 18 #[.slice b.a b.len b.cap] w (Ret fun v w' => ∃ x : Slc, v = x.val ∧ Sh.Own w' x 1 (bys (sha l)) ∧ FB w x ∧ Mod NoB w w') := by
  refine call18 _ ?_
  unfold sh18
  refine callK_ret c_table ?_
  rintro v w1 ⟨x, y, rfl, hx, hy, hm1⟩
  refine ⟨x, y, rfl, callK_ret (c_sumBy hx.rd H0_len hy.rd KS_len (hb.no hm1) hn) ?_⟩
  rintro v w2 ⟨z, rfl, hz, hf, hm2⟩
  exact ⟨z, rfl, z, rfl, hz, hf.le hm1.size, hm1.tr hm2⟩
end Go.Proofs.YtbbfcamopdckmaaDoor
