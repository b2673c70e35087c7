/- SHA by the document: the reference's block. -/
import Derived.Test.YtbbfcamopdckmaaDoorD0
import Derived.Test.YtbbfcamopdckmaaDoorS7
set_option linter.unusedSimpArgs false
set_option linter.unusedVariables false
namespace Go.Proofs.YtbbfcamopdckmaaDoor
open Go Go.Sh

theorem c_rrot {w : World} {x m : UInt64} {n : Nat} (hm : m.toNat = n) (h0 : 0 < n) (h1 : n < 64) :
    Calls Tryd.prog 85 #[.int .u64 x.toNat, .int .u64 m.toNat] w (Ret fun v w' => v = .int .u64 (rr x n).toNat ∧ w' = w) := by
  refine call85 _ _ ?_
  unfold sh85
  refine ⟨by omega, by omega, ?_, rfl⟩
  have h64 : ((64 : UInt64) - m).toNat = 64 - n := by
    rw [UInt64.toNat_sub_of_le]
    · rw [hm]; rfl
    · rw [UInt64.le_iff_toNat_le, hm]; show n ≤ 64; omega
  simp only [Int.toNat_natCast, h64, hm]
  rfl
theorem rdu {w w' : World} {s : Slc} {l : List UInt64} {a : Addr} (h : SlRd w s 1 (us l)) (ha : s.a = some a) {i : Nat} (hi : i < l.length) (hm : Mod NoB w w') : Rd w' (a.add (i * 1)) [.int .u64 (l.getD i 0).toNat] := by
  obtain ⟨a', e, hr⟩ := rd_u64 h hi
  rw [ha] at e; cases e
  rw [List.getD, List.getElem?_eq_getElem hi]
  exact hr.mod hm fun h => h
theorem slc_a {w : World} {s : Slc} {l : List UInt64} (h : SlRd w s 1 (us l)) (hl : 0 < l.length) : ∃ a, s.a = some a := by
  obtain ⟨a, e, _⟩ := rd_u64 h hl; exact ⟨a, e⟩

section
variable {K : Slc → World → Prop} {w : World}
/-- append(s, x): one word -/
theorem sem_word {w0 : World} {s : Slc} {l : List UInt64} {c : UInt64} (hs : Sh.Own w s 1 (us l)) (hf : FB w0 s) (hm : Mod NoB w0 w) (hn : l.length ≤ 2000000000)
    (hK : ∀ (s' : Slc) w', Sh.Own w' s' 1 (us (l ++ [c])) → FB w0 s' → Mod NoB w0 w' → s'.len = s.len + 1 → K s' w') :
    semK Tryd.prog (Instr.buildSlice 40 1 #[(0, (.int .u64 c.toNat))]) w fun v w2 => ∃ x1 : Slc, v = (.slice x1.a x1.len x1.cap) ∧ semK Tryd.prog (Builtin.append_ #[40, 40] 40 #[(.slice s.a s.len s.cap), (.slice x1.a x1.len x1.cap)]) w2 fun v1 w3 => ∃ x2 : Slc, v1 = (.slice x2.a x2.len x2.cap) ∧ K x2 w3 := by
  obtain ⟨i5', h51, h52, h53, h54⟩ := i44
  have hl := rd_len64 hs.rd
  refine sem_lit (l := [.int .u64 c.toNat]) [.int .u64 c.toNat] u40 h51 h52 h53 (by decide) rfl (by decide) (by decide) rfl (by simp [Value.cells]) rfl fun b w1 hN hb => ⟨⟨_, _, _⟩, rfl, ?_⟩
  have hm1 := hm.tr hN.mod
  refine sem_append u40 h51 h52 h53 rfl h54 (hs.no hN.mod) (own_whole (n := 1) (k := 1) hb rfl).rd (us_one [c]) (by simp only []; omega) (by simp only []; omega) fun s' w2 ho hlen hblk hm2 => ⟨s', rfl, hK s' w2 ?_ (hf.step hm1.size hblk) (hf.mod hm1 hm2) hlen⟩
  rw [us_app]; exact ho
end
/-- a literal of words -/
theorem sem_words {K : Value → World → Prop} {w : World} (l : List UInt64) {n : Nat} {ps : Array (Nat × Value)} (hps : ps.toList = ((us l).zipIdx 0).map fun x => (x.2, x.1)) (hn : n = l.length) (h0 : 0 < n) (hs : n ≤ 10000)
    (hK : ∀ (x : Slc) b w', New w w' b (.cells (us l).toArray 44) → x = ⟨some ⟨b, 0, none⟩, n, n⟩ → Blk w' b (us l) 44 → Sh.Own w' x 1 (us l) → K x.val w') : semK Tryd.prog (Instr.buildSlice 40 n ps) w K := by
  obtain ⟨i5', h51, h52, h53, h54⟩ := i44
  refine sem_lit (l := us l) (us l) u40 h51 h52 h53 (by decide) (by simpa using hn) h0 (by omega) hps (fun v hv => ?_) ?_ fun b w' hN hb => hK _ b w' hN rfl hb (own_whole hb (by simp [hn]))
  · obtain ⟨y, _, rfl⟩ := List.mem_map.1 hv; rfl
  · have : ∀ l : List UInt64, (us l).flatMap (fun v => v.cells.toList) = us l := by
      intro l
      induction l with
      | nil => rfl
      | cons a l ih => simp only [us, List.map_cons, List.flatMap_cons] at ih ⊢; rw [ih]; rfl
    exact this l

theorem zip_step2 {h v : List UInt64} {i : Nat} (hh : h.length = 8) (hv : v.length = 8) (hi : i < 8) :
    (us (List.zipWith (fun x y => x + y) (h.take i) (v.take i) ++ v.drop i)).set i (.int .u64 (v[i] + h[i]).toNat) = us (List.zipWith (fun x y => x + y) (h.take (i + 1)) (v.take (i + 1)) ++ v.drop (i + 1)) := by
  have e1 : v.drop i = v[i] :: v.drop (i + 1) := List.drop_eq_getElem_cons (by omega)
  have hl : (List.zipWith (fun x y => x + y) (h.take i) (v.take i)).length = i := by simp; omega
  have e2 : List.zipWith (fun x y => x + y) (h.take (i + 1)) (v.take (i + 1)) = List.zipWith (fun x y => x + y) (h.take i) (v.take i) ++ [h[i] + v[i]] := by
    rw [take_snoc (by omega), take_snoc (by omega), List.zipWith_append (by simp; omega)]
    rfl
  rw [e1, e2, us_app, us_app, us_app]
  have : us (v[i] :: v.drop (i + 1)) = .int .u64 v[i].toNat :: us (v.drop (i + 1)) := rfl
  rw [this, set_mid (by simpa using hl.symm), List.append_assoc, UInt64.add_comm]
  rfl

theorem c_turn {w : World} {h k block : Slc} {hl ks : List UInt64} {bs : List UInt8} (hh : SlRd w h 1 (us hl)) (hhl : hl.length = 8) (hk : SlRd w k 1 (us ks)) (hkl : ks.length = 80) (hb : SlRd w block 1 (bys bs)) (hbl : bs.length = 128) :
    Calls Tryd.prog 49 #[.slice h.a h.len h.cap, .slice k.a k.len k.cap, .slice block.a block.len block.cap] w (Ret fun v w' => ∃ x : Slc, v = x.val ∧ Sh.Own w' x 1 (us (comp ks hl bs)) ∧ FB w x ∧ Mod NoB w w') := by
  refine call49 _ _ _ ?_
  unfold sh49
  have hhL := rd_len64 hh; have hkL := rd_len64 hk; have hbL := rd_len8 hb
  obtain ⟨ha, eh⟩ := slc_a hh (by omega)
  obtain ⟨ka, ek⟩ := slc_a hk (by omega)
  have hblt : ∀ x, h.blk = some x → x < w.heap.size := fun x hx => by
    have := rd_lt (w := w) (a := ha) (vs := [.int .u64 (hl.getD 0 0).toNat]) (by have := rdu hh eh (i := 0) (by omega) (Mod.refl _ _); simpa using this) (by simp)
    unfold Slc.blk at hx
    split at hx
    · cases hx
    · simp [eh] at hx; omega
  refine ⟨fun l w' => match l with | [.sl q, .i _ x] => ∃ t : Nat, x = t ∧ t ≤ 80 ∧ Sh.Own w' q 1 (us (sched bs t)) ∧ FB w q ∧ Mod NoB w w' | _ => False, fun l _ => match l with | [.sl q, .i _ x] => (80 - x).toNat | _ => 0,
    ⟨0, rfl, by omega, own_nil _ _, FB.nil _, Mod.refl _ _⟩, ?_⟩
  rintro wv x w1 ⟨t, rfl, ht, hwv, hwf, hm1⟩
  have hsl := sched_len bs t
  have hwl := rd_len64 hwv.rd
  refine condK_i (fun h80 => ?_) fun h80 => ?_
  · have ht80 : t < 80 := by simp at h80; omega
    refine ⟨fun l w' => l = [.u64 (wnext bs (sched bs t) t)] ∧ Mod NoB w1 w', condK_i (fun h16 => ?_) fun h16 => ?_, ?_⟩
    · have ht16 : t < 16 := by simp at h16; omega
      refine ⟨fun l w' => match l with | [.u64 x, .i _ i] => ∃ j : Nat, i = j ∧ j ≤ 8 ∧ x = be64 (((bs.drop (8 * t)).take 8).take j) ∧ w' = w1 | _ => False, fun l _ => match l with | [.u64 x, .i _ i] => (8 - i).toNat | _ => 0, ⟨0, rfl, by omega, rfl, rfl⟩, ?_⟩
      rintro x i w2 ⟨j, rfl, hj, rfl, rfl⟩
      have hwl8 : ((bs.drop (8 * t)).take 8).length = 8 := by rw [List.length_take, List.length_drop]; omega
      refine condK_i (fun hlt => ?_) fun hge => ?_
      · have hj8 : j < 8 := by simp at hlt; omega
        have e1 : IntKind.i64.wrap (IntKind.i64.wrap ((8 : Int) * (t : Int)) + (j : Int)) = ((8 * t + j : Nat) : Int) := by
          rw [show IntKind.i64.wrap ((8 : Int) * (t : Int)) = 8 * (t : Int) from wrap_i64 (by omega), wrap_i64 (by omega)]; omega
        rw [e1]
        obtain ⟨a, ea, hr⟩ := rd_u8 hb (i := 8 * t + j) (by omega)
        rw [ea]
        refine ⟨by omega, ⟨by omega, by omega⟩, _, by rw [Int.toNat_natCast]; exact hr.mod hm1 fun h => h, ?_⟩
        rw [wrap_nat (by omega)]
        refine ⟨⟨j + 1, rfl, by omega, ?_, rfl⟩, by (try simp only []); omega⟩
        rw [take_snoc (l := (bs.drop (8 * t)).take 8) (j := j) (by omega), be64_snoc, ← shl8_or]
        have : ((bs.drop (8 * t)).take 8)[j]'(by omega) = bs[8 * t + j] := by rw [List.getElem_take, List.getElem_drop]
        rw [this]
        rfl
      · have hj8 : j = 8 := by simp at hge; omega
        subst hj8
        refine ⟨?_, Mod.refl _ _⟩
        rw [List.take_of_length_le (by omega)]
        unfold wnext
        rw [if_pos ht16]; rfl
    · have ht16 : 16 ≤ t := by simp at h16; omega
      obtain ⟨wa, ew⟩ := slc_a hwv.rd (by omega)
      have f2 : IntKind.i64.wrap ((t : Int) - (2 : Int)) = ((t - 2 : Nat) : Int) := by rw [wrap_i64 (by omega)]; omega
      have f7 : IntKind.i64.wrap ((t : Int) - (7 : Int)) = ((t - 7 : Nat) : Int) := by rw [wrap_i64 (by omega)]; omega
      have f15 : IntKind.i64.wrap ((t : Int) - (15 : Int)) = ((t - 15 : Nat) : Int) := by rw [wrap_i64 (by omega)]; omega
      have f16 : IntKind.i64.wrap ((t : Int) - (16 : Int)) = ((t - 16 : Nat) : Int) := by rw [wrap_i64 (by omega)]; omega
      simp only [f2, f7, f15, f16, Int.toNat_natCast, ew]
      have hr := fun (i : Nat) (hi : i < t) (w' : World) (hm : Mod NoB w1 w') => rdu hwv.rd ew (i := i) (by omega) hm
      refine ⟨⟨by omega, by omega⟩, ⟨by omega, by omega⟩, _, hr _ (by omega) _ (Mod.drew _ _), _, hr _ (by omega) _ (Mod.drew _ _), fun w' => Mod NoB w1 w', (Mod.drew _ _).dr, by omega, ⟨by omega, by omega⟩, by omega, ⟨by omega, by omega⟩,
        _, fun w' h => hr _ (by omega) _ h, _, fun w' h => hr _ (by omega) _ h, ?_, trivial⟩
      refine callK_ret (c_rrot (n := 19) rfl (by omega) (by omega)) ?_
      rintro v w3 ⟨rfl, rfl⟩
      refine ⟨_, rfl, (Mod.drew _ _).dr, ?_, trivial⟩
      refine callK_ret (c_rrot (n := 61) rfl (by omega) (by omega)) ?_
      rintro v w3 ⟨rfl, rfl⟩
      refine ⟨_, rfl, (Mod.drew _ _).dr, ?_, trivial⟩
      refine callK_ret (c_rrot (n := 1) rfl (by omega) (by omega)) ?_
      rintro v w3 ⟨rfl, rfl⟩
      refine ⟨_, rfl, (Mod.drew _ _).dr, ?_, trivial⟩
      refine callK_ret (c_rrot (n := 8) rfl (by omega) (by omega)) ?_
      rintro v w3 ⟨rfl, rfl⟩
      refine ⟨_, rfl, (Mod.drew _ _).dr, ?_, (Mod.drew _ _).dr⟩
      unfold wnext
      rw [if_neg (by omega)]
      rfl
    · rintro x10 w7 ⟨he, hm7⟩
      simp at he; subst he
      refine sem_word (w0 := w) (hwv.no hm7) hwf (hm1.tr hm7) (by omega) fun s' w8 ho8 hf8 hm8 hl8 => ?_
      rw [wrap_nat (by omega)]
      exact ⟨⟨t + 1, rfl, by omega, ho8, hf8, hm8⟩, by (try simp only []); omega⟩
  · have ht80 : t = 80 := by simp at h80; omega
    subst ht80
    obtain ⟨i5', h51, h52, h53, h54⟩ := i44
    obtain ⟨wa, ew⟩ := slc_a hwv.rd (by omega)
    refine sem_lit0 u40 h51 fun b0 w2 hN2 => ⟨⟨some ⟨b0, 0, none⟩, 0, 0⟩, rfl, ?_⟩
    have hm2 := hm1.tr hN2.mod
    refine sem_append (s := ⟨some ⟨b0, 0, none⟩, 0, 0⟩) u40 h51 h52 h53 rfl h54 (own_zero _ _ _) (hh.no hm2) (us_one _) (by simp only []; omega) (by simp only []; omega) fun v0 w3 ho3 hlen3 hblk3 hm3' => ⟨v0, rfl, ?_⟩
    rw [List.nil_append] at ho3
    have hm3 : Mod NoB w2 w3 := (Mod.refl NoB w2).fresh hm3' fun x e => by simp at e
    have hf3 : FB w v0 := fun x hx => by
      rcases hblk3 with e | e
      · rw [e] at hx; simp at hx
      · rw [e] at hx; cases hx; exact hm2.size
    have hM3 := hm2.tr hm3
    have hm13 : Mod NoB w1 w3 := hN2.mod.tr hm3
    refine ⟨fun l w' => match l with | [.sl q, .i _ x] => ∃ t : Nat, x = t ∧ t ≤ 80 ∧ Sh.Own w' q 1 (us (rounds ks (sched bs 80) hl t)) ∧ FB w q ∧ Mod NoB w1 w' | _ => False, fun l _ => match l with | [.sl q, .i _ x] => (80 - x).toNat | _ => 0,
      ⟨0, rfl, by omega, ho3, hf3, hm13⟩, ?_⟩
    rintro q x w4 ⟨t, rfl, ht, hq, hqf, hm4⟩
    have hrl := rounds_len (ks := ks) (ws := sched bs 80) (v := hl) hhl t
    have hql := rd_len64 hq.rd
    have hq8 : q.len = 8 := by omega
    obtain ⟨qa, eq⟩ := slc_a hq.rd (by omega)
    refine condK_i (fun hlt => ?_) fun hge => ?_
    · have ht80 : t < 80 := by simp at hlt; omega
      obtain ⟨a, b, c, d, e, f, g, kk, hr⟩ := list8 hrl
      have hnext : rounds ks (sched bs 80) hl (t + 1) = rnd [a, b, c, d, e, f, g, kk] (ks.getD t 0) ((sched bs 80).getD t 0) := by
        show rnd (rounds ks (sched bs 80) _ t) _ _ = _
        rw [hr]
      rw [hr] at hq
      simp only [eq, ek, ew, Int.toNat_natCast]
      have hrq := fun (i : Nat) (hi : i < 8) (w' : World) (hm : Mod NoB w4 w') => rdu hq.rd eq (i := i) (by simpa using hi) hm
      have hrk := fun (w' : World) (hm : Mod NoB w4 w') => rdu hk ek (i := t) (by omega) ((hm1.tr hm4).tr hm)
      have hrw := fun (w' : World) (hm : Mod NoB w4 w') => rdu hwv.rd ew (i := t) (by omega) (hm4.tr hm)
      have D : Mod NoB w4 w4.drew := Mod.drew _ _
      refine ⟨⟨by omega, by omega⟩, ⟨by omega, by omega⟩, a, hrq 0 (by omega) _ D, e, hrq 4 (by omega) _ D, fun w' => Mod NoB w4 w', D.dr, ⟨by omega, by omega⟩, ⟨by omega, by omega⟩, ⟨by omega, by omega⟩, ⟨by omega, by omega⟩, ⟨by omega, by omega⟩,
        kk, fun w' h => hrq 7 (by omega) _ h, f, fun w' h => hrq 5 (by omega) _ h, g, fun w' h => hrq 6 (by omega) _ h, _, fun w' h => hrk _ h, _, fun w' h => hrw _ h, ?_, trivial⟩
      refine callK_ret (c_rrot (n := 14) rfl (by omega) (by omega)) ?_
      rintro v w3 ⟨rfl, rfl⟩
      refine ⟨_, rfl, D.dr, ?_, trivial⟩
      refine callK_ret (c_rrot (n := 18) rfl (by omega) (by omega)) ?_
      rintro v w3 ⟨rfl, rfl⟩
      refine ⟨_, rfl, D.dr, ?_, trivial⟩
      refine callK_ret (c_rrot (n := 41) rfl (by omega) (by omega)) ?_
      rintro v w3 ⟨rfl, rfl⟩
      refine ⟨_, rfl, D.dr, fun w' => Mod NoB w4 w', D.dr.dr, ⟨by omega, by omega⟩, ⟨by omega, by omega⟩, ⟨by omega, by omega⟩, ⟨by omega, by omega⟩,
        b, fun w' h => hrq 1 (by omega) _ h, c, fun w' h => hrq 2 (by omega) _ h, b, fun w' h => hrq 1 (by omega) _ h, c, fun w' h => hrq 2 (by omega) _ h, ?_, trivial⟩
      refine callK_ret (c_rrot (n := 28) rfl (by omega) (by omega)) ?_
      rintro v w3 ⟨rfl, rfl⟩
      refine ⟨_, rfl, D.dr.dr, ?_, trivial⟩
      refine callK_ret (c_rrot (n := 34) rfl (by omega) (by omega)) ?_
      rintro v w3 ⟨rfl, rfl⟩
      refine ⟨_, rfl, D.dr.dr, ?_, trivial⟩
      refine callK_ret (c_rrot (n := 39) rfl (by omega) (by omega)) ?_
      rintro v w3 ⟨rfl, rfl⟩
      refine ⟨_, rfl, D.dr.dr, fun w' => Mod NoB w4 w', D.dr.dr.dr, ⟨by omega, by omega⟩, ⟨by omega, by omega⟩, ⟨by omega, by omega⟩, ⟨by omega, by omega⟩, ⟨by omega, by omega⟩, ⟨by omega, by omega⟩, ⟨by omega, by omega⟩,
        a, fun w' h => hrq 0 (by omega) _ h, b, fun w' h => hrq 1 (by omega) _ h, c, fun w' h => hrq 2 (by omega) _ h, d, fun w' h => hrq 3 (by omega) _ h, e, fun w' h => hrq 4 (by omega) _ h, f, fun w' h => hrq 5 (by omega) _ h, g, fun w' h => hrq 6 (by omega) _ h, ?_, trivial⟩
      refine sem_words (rnd [a, b, c, d, e, f, g, kk] (ks.getD t 0) ((sched bs 80).getD t 0)) rfl rfl (by omega) (by omega) fun x b6 w6 hN6 hx hb6 ho6 => ⟨x, rfl, D.dr.dr.dr.tr hN6.mod, ?_, ?_⟩
      · rw [wrap_nat (by omega)]
        refine ⟨t + 1, rfl, by omega, by rw [hnext]; exact ho6, ?_, hm4.tr (D.dr.dr.dr.tr hN6.mod)⟩
        subst hx
        exact FB.new (by rw [hN6.at_]; exact (hm1.tr (hm4.tr D.dr.dr.dr)).size)
      · rw [wrap_nat (by omega)]; (try simp only []); omega
    · have ht80 : t = 80 := by simp at hge; omega
      subst ht80
      have hm04 := hm1.tr hm4
      refine ⟨fun l w' => match l with | [.i _ x] => ∃ i : Nat, x = i ∧ i ≤ 8 ∧ Sh.Own w' q 1 (us (List.zipWith (fun x y => x + y) (hl.take i) ((rounds ks (sched bs 80) hl 80).take i) ++ (rounds ks (sched bs 80) hl 80).drop i)) ∧ Mod NoB w w' | _ => False,
        fun l _ => match l with | [.i _ x] => (8 - x).toNat | _ => 0, ⟨0, rfl, by omega, by simpa using hq, hm04⟩, ?_⟩
      rintro x w5 ⟨i, rfl, hi, hq5, hm5⟩
      obtain ⟨vl, hvl⟩ : ∃ vl, vl = rounds ks (sched bs 80) hl 80 := ⟨_, rfl⟩
      rw [← hvl] at hq5 hrl ⊢
      have hzl : (List.zipWith (fun x y => x + y) (hl.take i) (vl.take i) ++ vl.drop i).length = 8 := by simp; omega
      refine condK_i (fun hlt => ?_) fun hge => ?_
      · have hi8 : i < 8 := by simp at hlt; omega
        have D : Mod NoB w5 w5.drew := Mod.drew _ _
        simp only [eq, eh, Int.toNat_natCast]
        have hv : (List.zipWith (fun x y => x + y) (hl.take i) (vl.take i) ++ vl.drop i).getD i 0 = vl[i] := by
          have hl0 : (List.zipWith (fun x y => x + y) (hl.take i) (vl.take i)).length = i := by simp; omega
          rw [List.getD, List.getElem?_append_right (by omega), hl0, Nat.sub_self, List.getElem?_drop, Nat.add_zero, List.getElem?_eq_getElem (by omega)]; rfl
        have hhv : hl.getD i 0 = hl[i] := by rw [List.getD, List.getElem?_eq_getElem (by omega)]; rfl
        refine ⟨fun w' => Mod NoB w5 w', D, ⟨by omega, by omega⟩, ⟨by omega, by omega⟩, vl[i], fun w' h => hv ▸ rdu hq5.rd eq (by omega) h, hl[i], fun w' h => hhv ▸ rdu hh eh (by omega) (hm5.tr h), ⟨by omega, by omega⟩, ?_, trivial⟩
        refine semU_own1 (by kernel_rfl) (by kernel_rfl) rfl (hq5.no D) eq (by omega) fun w6 ho6 hm6 hs6 => ?_
        rw [wrap_nat (by omega)]
        rw [zip_step2 hhl hrl hi8] at ho6
        exact ⟨⟨i + 1, rfl, by omega, ho6, (hm5.tr D).fresh hm6 fun x hx => hqf x hx⟩, by (try simp only []); omega⟩
      · have hi8 : i = 8 := by simp at hge; omega
        subst hi8
        rw [List.take_of_length_le (by omega), List.take_of_length_le (by omega), List.drop_of_length_le (by omega), List.append_nil] at hq5
        refine ⟨q, rfl, ?_, hqf, hm5⟩
        rw [hvl] at hq5
        exact hq5
end Go.Proofs.YtbbfcamopdckmaaDoor
