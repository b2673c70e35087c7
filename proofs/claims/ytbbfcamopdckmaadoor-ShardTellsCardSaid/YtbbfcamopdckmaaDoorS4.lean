/- SHA: a block turns the words, whole. -/
import Derived.Test.YtbbfcamopdckmaaDoorS3
set_option linter.unusedSimpArgs false
set_option linter.unusedVariables false
namespace Go.Proofs.YtbbfcamopdckmaaDoor
open Go Go.Sh

theorem rda {w : World} {b : Nat} {l : List Value} {T : TypeId} (h : Blk w b l T) {n : Nat} {v : Value} (hv : l[n]? = some v) : Rd w ((⟨b, 0, none⟩ : Addr).add (n * 1)) [v] := by
  rw [addl, Nat.zero_add, Nat.mul_one]; exact h.rd1 hv
theorem cellsL_us : ∀ l : List UInt64, cellsL (l.map TV.u64) = us l
  | [] => rfl
  | x :: l => by simp [cellsL, TV.cells, us, cellsL_us l]
theorem Mod.dr {S : Nat → Prop} {a b : World} (h : Mod S a b) : Mod S a b.drew := h.tr (Mod.drew _ _)
theorem Glob.k {w : World} (h : Glob w) {t : Nat} (ht : t < 80) : Rd w ((⟨1, 0, none⟩ : Addr).add (t * 1)) [.int .u64 (KS.getD t 0).toNat] := by
  intro j v hj
  cases j with
  | zero =>
    simp only [List.length_cons, List.length_nil, Nat.zero_add, Nat.lt_add_one, List.getElem?_cons_zero, Option.some.injEq] at hj
    subst hj
    have := h.rest0 t _ (us_getD (l := KS) (i := t) (by rw [KS_len]; exact ht))
    simpa using this
  | succ j => simp at hj
theorem list8 {α : Type} {l : List α} (h : l.length = 8) : ∃ a b c d e f g k, l = [a, b, c, d, e, f, g, k] := by
  match l, h with
  | [a, b, c, d, e, f, g, k], _ => exact ⟨a, b, c, d, e, f, g, k, rfl⟩
theorem u40 : Tryd.prog.underlying 40 = some (.slice 44) := by kernel_rfl
theorem i44 : ∃ i, Tryd.prog.info? 44 = some i ∧ i.zero = some z64 ∧ i.size = 1 ∧ i.bytes = 8 := info_of (by kernel_rfl) (by kernel_rfl) (by kernel_rfl)

theorem zip_step {h v : List UInt64} {i : Nat} (hh : h.length = 8) (hv : v.length = 8) (hi : i < 8) :
    (us (List.zipWith (fun x y => x + y) (h.take i) (v.take i) ++ h.drop i)).set i (.int .u64 (h[i] + v[i]).toNat) = us (List.zipWith (fun x y => x + y) (h.take (i + 1)) (v.take (i + 1)) ++ h.drop (i + 1)) := by
  have e1 : h.drop i = h[i] :: h.drop (i + 1) := List.drop_eq_getElem_cons (by omega)
  have hl : (List.zipWith (fun x y => x + y) (h.take i) (v.take i)).length = i := by simp; omega
  have e2 : List.zipWith (fun x y => x + y) (h.take (i + 1)) (v.take (i + 1)) = List.zipWith (fun x y => x + y) (h.take i) (v.take i) ++ [h[i] + v[i]] := by
    rw [take_snoc (by omega), take_snoc (by omega), List.zipWith_append (by simp; omega)]
    rfl
  rw [e1, e2, us_app, us_app, us_app]
  have : us (h[i] :: h.drop (i + 1)) = .int .u64 h[i].toNat :: us (h.drop (i + 1)) := rfl
  rw [this, set_mid (by simpa using hl.symm), List.append_assoc]
  rfl

theorem c_block {w : World} {p : Nat} {h : List UInt64} {r : List Value} {T : TypeId} {b : Slc} {bs : List UInt8} (hp : Blk w p (us h ++ r) T) (hh : h.length = 8) (hb : SlRd w b 1 (bys bs)) (hl : bs.length = 128)
    (hg : Glob w) (hpg : ¬ isG p) :
    Calls Tryd.prog 44 #[.pointer (some ⟨p, 0, none⟩), .slice b.a b.len b.cap] w (Ret fun v w' => v = .tuple #[] ∧ Blk w' p (us (comp KS h bs) ++ r) T ∧ Mod (fun x => x = p) w w') := by
  refine call44 _ _ ?_
  unfold sh44
  obtain ⟨i0, hi1, hi2, -, -⟩ := i640
  obtain ⟨i1, hj1, hj2, -, -⟩ := iwords
  have hbl := rd_len8 hb
  have hpl := hp.lt
  refine sem_alloc (l := List.replicate 80 z64) hi1 hi2 rfl fun m w1 hN hM0 => ⟨_, rfl, ?_⟩
  have hmat := hN.at_
  have hbm : ∀ x, b.blk = some x → x ≠ m := fun x hx => by
    rcases hb.2.2 with h0 | ⟨bb, e1, e2⟩
    · have := congrArg List.length h0; simp [hl] at this
    · have h1 := rd_lt e2 (by simp [hl])
      unfold Slc.blk at hx
      split at hx
      · cases hx
      · simp [e1] at hx; subst hx; omega
  refine ⟨fun l w' => match l with | [.i _ x] => ∃ t : Nat, x = t ∧ t ≤ 80 ∧ Blk w' m (fill (sched bs t)) 129 ∧ Mod NoB w w' | _ => False, fun l _ => match l with | [.i _ x] => (80 - x).toNat | _ => 0, ⟨0, rfl, by omega, hM0, hN.mod⟩, ?_⟩
  rintro x w2 ⟨t, rfl, ht, hM, hm2⟩
  refine condK_i (fun h80 => ?_) (fun h80 => ?_)
  · have ht80 : t < 80 := by simp at h80; omega
    refine condK_i (fun h16 => ?_) (fun h16 => ?_)
    · have ht16 : t < 16 := by simp at h16; omega
      have e1 : IntKind.i64.wrap ((8 : Int) * (t : Int)) = ((8 * t : Nat) : Int) := by rw [wrap_i64 (by omega)]; omega
      have e2 : IntKind.i64.wrap (((8 * t : Nat) : Int) + (8 : Int)) = ((8 * t + 8 : Nat) : Int) := by rw [wrap_i64 (by omega)]; omega
      simp only [e1, e2, Int.toNat_natCast]
      refine ⟨⟨by omega, by omega, by have := hb.2.1; omega⟩, ?_⟩
      refine c_block1 (R := True) hb hl ht16 hm2 hbm (by omega) hM fun w3 hm3 hM3 => ⟨?_, ?_⟩
      · rw [wrap_nat (by omega)]
        exact ⟨t + 1, rfl, by omega, hM3, hm3⟩
      · rw [wrap_nat (by omega)]
        (try simp only []); omega
    · have ht16 : 16 ≤ t := by simp at h16; omega
      have hsl := sched_len bs t
      have f2 : IntKind.i64.wrap ((t : Int) - (2 : Int)) = ((t - 2 : Nat) : Int) := by rw [wrap_i64 (by omega)]; omega
      have f7 : IntKind.i64.wrap ((t : Int) - (7 : Int)) = ((t - 7 : Nat) : Int) := by rw [wrap_i64 (by omega)]; omega
      have f15 : IntKind.i64.wrap ((t : Int) - (15 : Int)) = ((t - 15 : Nat) : Int) := by rw [wrap_i64 (by omega)]; omega
      have f16 : IntKind.i64.wrap ((t : Int) - (16 : Int)) = ((t - 16 : Nat) : Int) := by rw [wrap_i64 (by omega)]; omega
      simp only [f2, f7, f15, f16, Int.toNat_natCast]
      refine ⟨fun w' => Blk w' m (fill (sched bs t)) 129, hM, ⟨by omega, by omega⟩, ⟨by omega, by omega⟩, ⟨by omega, by omega⟩, ⟨by omega, by omega⟩,
        (sched bs t).getD (t - 2) 0, fun w' h => rda h (fill_at (by omega)), (sched bs t).getD (t - 7) 0, fun w' h => rda h (fill_at (by omega)), (sched bs t).getD (t - 15) 0, fun w' h => rda h (fill_at (by omega)), (sched bs t).getD (t - 16) 0, fun w' h => rda h (fill_at (by omega)), ?_, trivial⟩
      refine callK_ret (c_small (a := 19) (b := 61) (c := 6) (by omega) (by omega)) ?_
      rintro v w5 ⟨rfl, rfl⟩
      refine ⟨_, rfl, hM, ?_, trivial⟩
      refine callK_ret (c_small (a := 1) (b := 8) (c := 7) (by omega) (by omega)) ?_
      rintro v w5 ⟨rfl, rfl⟩
      refine ⟨_, rfl, hM, ⟨by omega, by omega⟩, ?_, trivial⟩
      rw [addl]
      refine semU_store1 (l := fill (sched bs t)) (by kernel_rfl) (by kernel_rfl) rfl (w := w2.drew.drew.drew) (E := 129) hM (by rw [fill_len (by omega)]; omega) fun w7 ht7 hM7 => ⟨?_, ?_⟩
      · rw [wrap_nat (by omega)]
        refine ⟨t + 1, rfl, by omega, ?_, (Mod.dr (Mod.dr (Mod.dr hm2))).fresh ht7.mod fun x e => by omega⟩
        rw [Nat.zero_add, Nat.mul_one] at hM7
        have e : sched bs (t + 1) = sched bs t ++ [wnext bs (sched bs t) t] := rfl
        rw [e, ← fill_next (by omega), hsl]
        unfold wnext
        rw [if_neg (by omega)]
        exact hM7
      · rw [wrap_nat (by omega)]
        (try simp only []); omega
  · have ht80 : t = 80 := by simp at h80; omega
    subst ht80
    obtain ⟨k0, k1, k2, k3, k4, k5, k6, k7, rfl⟩ := list8 hh
    have hp2 := hp.no hm2
    have hMf : fill (sched bs 80) = us (sched bs 80) := by unfold fill; rw [sched_len]; simp
    rw [hMf] at hM
    refine ⟨k0, k1, k2, k3, k4, k5, k6, k7, (hp2.rd (o := 0) (vs := us [k0, k1, k2, k3, k4, k5, k6, k7]) fun j v hj => by
      rw [Nat.zero_add, List.getElem?_append_left (List.getElem?_eq_some_iff.1 hj).1, hj]), ?_⟩
    refine sem_alloc (l := List.replicate 8 z64) hj1 hj2 rfl fun vB w8 hN8 hV8 => ⟨_, rfl, ?_⟩
    have hvat := hN8.at_
    refine semU_store (vs := us [k0, k1, k2, k3, k4, k5, k6, k7]) (by kernel_rfl) (by kernel_rfl) rfl hV8 (by simp) (us_one _) fun w9 ht9 hV9 => ?_
    have hM9 : Blk w9 m (us (sched bs 80)) 129 := (hM.no hN8.mod).mod ht9.mod (by have := hM.lt; omega)
    have hm9 : Mod NoB w w9 := (hm2.tr hN8.mod).fresh ht9.mod fun x e => by have := hm2.size; omega
    refine ⟨sched bs 80, sched_len bs 80, by rw [cellsL_us]; exact hM9.rd (o := 0) fun j v hj => by rw [Nat.zero_add]; exact hj, ?_⟩
    have hvg : w.heap.size ≤ vB := by have := hm2.size; omega
    refine ⟨fun l w' => match l with | [.i _ x] => ∃ t : Nat, x = t ∧ t ≤ 80 ∧ Blk w' vB (us (rounds KS (sched bs 80) [k0, k1, k2, k3, k4, k5, k6, k7] t)) 46 ∧ Mod NoB w w' | _ => False, fun l _ => match l with | [.i _ x] => (80 - x).toNat | _ => 0, ⟨0, rfl, by omega, hV9, hm9⟩, ?_⟩
    rintro x w10 ⟨t, rfl, ht, hV, hm10⟩
    have hg10 := hg.no hm10
    refine condK_i (fun h8 => ?_) (fun h8 => ?_)
    · have ht80 : t < 80 := by simp at h8; omega
      obtain ⟨a, b', c, d, e, f, g, k, hr⟩ := list8 (rounds_len (ks := KS) (ws := sched bs 80) (v := [k0, k1, k2, k3, k4, k5, k6, k7]) rfl t)
      have hnext : rounds KS (sched bs 80) [k0, k1, k2, k3, k4, k5, k6, k7] (t + 1) = rnd [a, b', c, d, e, f, g, k] (KS.getD t 0) ((sched bs 80).getD t 0) := by
        show rnd (rounds KS (sched bs 80) _ t) _ _ = _
        rw [hr]
      rw [hr] at hV
      refine ⟨⟨by omega, by omega⟩, ?_, (sched bs 80).getD t 0, ?_, ⟨by omega, by omega⟩, ⟨by omega, by omega⟩, a, rda (w := w10.drew) hV rfl, e, rda (w := w10.drew) hV rfl, ?_⟩
      · intro z hz
        obtain ⟨y, _, rfl⟩ := List.mem_map.1 hz
        rfl
      · rw [Int.toNat_natCast]
        have hlt : t < (sched bs 80).length := by rw [sched_len]; omega
        rw [List.getElem?_map, List.getElem?_eq_getElem hlt, List.getD_eq_getElem?_getD, List.getElem?_eq_getElem hlt]
        rfl
      refine ⟨fun w' => Blk w' vB (us [a, b', c, d, e, f, g, k]) 46 ∧ Glob w', ⟨hV, hg10.drew.drew⟩, ⟨by omega, by omega⟩, ⟨by omega, by omega⟩, ⟨by omega, by omega⟩, ⟨by omega, by omega⟩,
        k, fun w' h => rda h.1 rfl, f, fun w' h => rda h.1 rfl, g, fun w' h => rda h.1 rfl, KS.getD t 0, fun w' h => Glob.k h.2 ht80, ?_, trivial⟩
      refine callK_ret (c_mix (a := 14) (b := 18) (c := 41) (by omega) (by omega) (by omega)) ?_
      rintro v w5 ⟨rfl, rfl⟩
      refine ⟨_, rfl, ⟨hV, hg10.drew.drew⟩, fun w' => Blk w' vB (us [a, b', c, d, e, f, g, k]) 46, hV, ⟨by omega, by omega⟩, ⟨by omega, by omega⟩, ⟨by omega, by omega⟩, ⟨by omega, by omega⟩,
        b', fun w' h => rda h rfl, c, fun w' h => rda h rfl, b', fun w' h => rda h rfl, c, fun w' h => rda h rfl, ?_, trivial⟩
      refine callK_ret (c_mix (a := 28) (b := 34) (c := 39) (by omega) (by omega) (by omega)) ?_
      rintro v w5 ⟨rfl, rfl⟩
      refine ⟨_, rfl, hV, ⟨by omega, by omega⟩, ⟨by omega, by omega⟩, ?_, trivial⟩
      obtain ⟨i4, h41, h42, h43, h44⟩ := i44
      have hVo : Sh.Own w10.drew.drew.drew.drew ⟨some ⟨vB, 0, none⟩, 8, 8⟩ 1 (us [a, b', c, d, e, f, g, k]) := own_whole (n := 8) (k := 1) (T := 46) hV rfl
      have hsrc : SlRd w10.drew.drew.drew.drew (cutSl ⟨some ⟨vB, 0, none⟩, 8, 8⟩ 1 0 7 8) 1 (us [a, b', c, d, e, f, g]) := hVo.rd.cut (l := 0) (n := 7) (m := 8) (by omega) (by simp only []; omega) (by omega) (by simp only []; omega)
      refine sem_copy (d := cutSl ⟨some ⟨vB, 0, none⟩, 8, 8⟩ 1 1 8 8) (x := cutSl ⟨some ⟨vB, 0, none⟩, 8, 8⟩ 1 0 7 8) (b := vB) (o := 1) (T := 46) (l := us [a, b', c, d, e, f, g, k]) u40 h41 h43 rfl hV (by simp [cutSl]) hsrc (us_one _) fun w13 hV13 hm13 hs13 => ⟨_, rfl, ?_⟩
      have hV13' : Blk w13 vB (us [a, a, b', c, d, e, f, g]) 46 := hV13
      refine ⟨⟨by omega, by omega⟩, d, rda hV13' rfl, ⟨by omega, by omega⟩, ?_⟩
      refine semU_store1 (b := vB) (o := 0) (by kernel_rfl) (by kernel_rfl) rfl hV13' (by simp) fun w14 ht14 hV14 => ⟨⟨by omega, by omega⟩, ?_⟩
      refine semU_store1 (b := vB) (o := 4) (by kernel_rfl) (by kernel_rfl) rfl hV14 (by simp) fun w15 ht15 hV15 => ⟨?_, ?_⟩
      · rw [wrap_nat (by omega)]
        refine ⟨t + 1, rfl, by omega, ?_, ?_⟩
        · rw [hnext]
          exact hV15
        · exact (((Mod.dr (Mod.dr (Mod.dr (Mod.dr hm10)))).fresh hm13 fun x e => by omega).fresh ht14.mod fun x e => by omega).fresh ht15.mod fun x e => by omega
      · rw [wrap_nat (by omega)]
        (try simp only []); omega
    · have ht80 : t = 80 := by simp at h8; omega
      subst ht80
      obtain ⟨hv, hvl⟩ : ∃ hv, hv = rounds KS (sched bs 80) [k0, k1, k2, k3, k4, k5, k6, k7] 80 := ⟨_, rfl⟩
      have hvlen : hv.length = 8 := by rw [hvl]; exact rounds_len rfl 80
      rw [← hvl] at hV
      have hcomp : comp KS [k0, k1, k2, k3, k4, k5, k6, k7] bs = List.zipWith (fun x y => x + y) [k0, k1, k2, k3, k4, k5, k6, k7] hv := by rw [hvl]; rfl
      rw [hcomp]
      clear hcomp hvl
      obtain ⟨hk, hkl⟩ : ∃ hk, hk = [k0, k1, k2, k3, k4, k5, k6, k7] := ⟨_, rfl⟩
      rw [← hkl] at hp ⊢
      have hkn : hk.length = 8 := by rw [hkl]; rfl
      clear hkl
      have hpv : p ≠ vB := by omega
      refine ⟨fun l w' => match l with | [.i _ x] => ∃ i : Nat, x = i ∧ i ≤ 8 ∧ Blk w' p (us (List.zipWith (fun x y => x + y) (hk.take i) (hv.take i) ++ hk.drop i) ++ r) T ∧ Blk w' vB (us hv) 46 ∧ Mod (fun x => x = p) w w' | _ => False, fun l _ => match l with | [.i _ x] => (8 - x).toNat | _ => 0,
        ⟨0, rfl, by omega, by simpa using hp.no hm10, hV, hm10.mono fun _ _ e => e.elim⟩, ?_⟩
      rintro x w16 ⟨i, rfl, hi, hP, hV, hm16⟩
      refine condK_i (fun h8 => ?_) (fun h8 => ?_)
      · have hi8 : i < 8 := by simp at h8; omega
        have hzl : (List.zipWith (fun x y => x + y) (hk.take i) (hv.take i)).length = i := by simp; omega
        have hget : (us (List.zipWith (fun x y => x + y) (hk.take i) (hv.take i) ++ hk.drop i) ++ r)[i]? = some (.int .u64 hk[i].toNat) := by
          rw [List.getElem?_append_left (by simp; omega), us_app, List.getElem?_append_right (by simp; omega)]
          simp only [us_len, hzl, Nat.sub_self]
          rw [us_at (by simp; omega)]
          simp
        refine ⟨fun w' => Blk w' p (us (List.zipWith (fun x y => x + y) (hk.take i) (hv.take i) ++ hk.drop i) ++ r) T ∧ Blk w' vB (us hv) 46, ⟨hP, hV⟩, ⟨by omega, by omega⟩, ⟨by omega, by omega⟩,
          hk[i], fun w' h => rda h.1 hget, hv[i], fun w' h => rda h.2 (us_at (by omega)), ⟨by omega, by omega⟩, ?_, trivial⟩
        rw [addl]
        refine semU_store1 (l := us (List.zipWith (fun x y => x + y) (hk.take i) (hv.take i) ++ hk.drop i) ++ r) (w := w16.drew) (E := T) (by kernel_rfl) (by kernel_rfl) rfl hP (by simp; omega) fun w17 ht17 hP17 => ⟨?_, ?_⟩
        · rw [wrap_nat (by omega)]
          refine ⟨i + 1, rfl, by omega, ?_, Blk.mod (w := w16.drew) hV ht17.mod (fun e => hpv e.symm), (Mod.dr hm16).tr ht17.mod⟩
          rw [Nat.zero_add, Int.toNat_natCast, Nat.mul_one, List.set_append_left _ _ (by simp; omega), zip_step hkn hvlen hi8] at hP17
          exact hP17
        · rw [wrap_nat (by omega)]
          (try simp only []); omega
      · have hi8 : i = 8 := by simp at h8; omega
        subst hi8
        refine ⟨rfl, ?_, hm16⟩
        rw [List.take_of_length_le (by omega), List.take_of_length_le (by omega), List.drop_eq_nil_of_le (by omega), List.append_nil] at hP
        exact hP
end Go.Proofs.YtbbfcamopdckmaaDoor
