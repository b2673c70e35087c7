/- Scalars: a byte more, bytes gone through from behind, what bytes are reduced to. -/
import Derived.Test.YtknbihogadcnpaaGreatS30
set_option linter.unusedSimpArgs false
set_option linter.unusedVariables false
set_option maxRecDepth 100000
namespace Go.Proofs.YtknbihogadcnpaaGreat
open Go Go.Sh

theorem times256_at {n : List UInt64} {c : UInt8} {i : Nat} (h0 : 0 < i) (h : i < 5) : (times256 n c)[i]'(by rw [times256_len]; omega) = shlU64 (n.getD i 0) 8 ||| shrU64 (n.getD (i - 1) 0) 56 := by
  have : i ≠ 0 := by omega
  simp [times256, this]
theorem getD_at {α : Type} {l : List α} {i : Nat} {d : α} (h : i < l.length) : l[i] = l.getD i d := by rw [List.getD, List.getElem?_eq_getElem h]; rfl
/-- 256 times it, and a byte, modulo L -/
theorem c_add {w : World} {rb : Nat} {n : List UInt64} {T : TypeId} {c : UInt8} (hr : Blk w rb (us n) T) (hn : n.length = 5) (hv : val64 n < LO) :
    Calls Tryz.prog 37 #[.pointer (some ⟨rb, 0, none⟩), .int .u8 c.toNat] w (Ret fun v w' => v = .tuple #[] ∧ ∃ n', Blk w' rb (us n') T ∧ n'.length = 5 ∧ val64 n' = (256 * val64 n + c.toNat) % LO ∧ Mod (fun x => x = rb) w w') := by
  refine call37 _ _ ?_
  unfold sh37
  have htl := times256_len n c
  refine ⟨fun l' w' => match l' with | [.i _ x] => ∃ k : Nat, x = k ∧ k ≤ 4 ∧ Blk w' rb (us (n.take (k + 1) ++ (times256 n c).drop (k + 1))) T ∧ Mod (fun y => y = rb) w w' | _ => False, fun l' _ => match l' with | [.i _ x] => x.toNat | _ => 0,
    ⟨4, rfl, by omega, by rw [List.take_of_length_le (by omega), List.drop_of_length_le (by omega), List.append_nil]; exact hr, Mod.refl _ _⟩, ?_⟩
  rintro x w1 ⟨k, rfl, hk, hr1, hm1⟩
  have hlen : (us (n.take (k + 1) ++ (times256 n c).drop (k + 1))).length = 5 := by simp [hn, htl]; omega
  have hat : ∀ i, i < k + 1 → (us (n.take (k + 1) ++ (times256 n c).drop (k + 1)))[i]? = some (.int .u64 (n.getD i 0).toNat) := fun i hi => by
    rw [us_app, List.getElem?_append_left (by simp; omega), us_getD (by simp; omega)]
    simp [List.getD, List.getElem?_take, hi]
  refine condK_i (fun hgt => ?_) fun hle => ?_
  · have hk0 : 0 < k := by simp at hgt; omega
    have e1 : IntKind.i64.wrap ((k : Int) - 1) = ((k - 1 : Nat) : Int) := by rw [wrap_i64 (by omega)]; omega
    rw [e1]
    simp only [Int.toNat_natCast]
    refine ⟨fun w' => w' = w1.drew, rfl, ⟨by omega, by omega⟩, ⟨by omega, by omega⟩, n.getD k 0, fun w' hw => by rw [hw]; exact rda0 hr1.drew (hat k (by omega)), by omega, n.getD (k - 1) 0, fun w' hw => by rw [hw]; exact rda0 hr1.drew (hat (k - 1) (by omega)), by omega, ⟨by omega, by omega⟩, ?_, trivial⟩
    refine semU_at0 (b := rb) (n := k) (by kernel_rfl) (by kernel_rfl) rfl hr1.drew (by omega) fun w2 ht2 hr2 => ⟨⟨k - 1, rfl, by omega, ?_, hm1.dr.tr ht2.mod⟩, by omega⟩
    have hr2' : Blk w2 rb ((us (n.take (k + 1) ++ (times256 n c).drop (k + 1))).set k (.int .u64 (shlU64 (n.getD k 0) 8 ||| shrU64 (n.getD (k - 1) 0) 56).toNat)) T := hr2
    rw [us_set, take_snoc (by omega : k < n.length), List.append_assoc, List.singleton_append, set_mid (by simp; omega), ← times256_at hk0 (by omega), ← List.drop_eq_getElem_cons (by omega : k < (times256 n c).length)] at hr2'
    rw [Nat.sub_add_cancel hk0]
    exact hr2'
  · have hk0 : k = 0 := by simp at hle; omega
    subst hk0
    refine ⟨fun w' => w' = w1.drew, rfl, ⟨by omega, by omega⟩, n.getD 0 0, fun w' hw => by rw [hw]; exact rda0 (n := 0) hr1.drew (hat 0 (by omega)), by omega, ⟨by omega, by omega⟩, ?_, trivial⟩
    refine semU_at0 (b := rb) (n := 0) (by kernel_rfl) (by kernel_rfl) rfl hr1.drew (by omega) fun w3 ht3 hr3 => ?_
    have e2 : (us (n.take (0 + 1) ++ (times256 n c).drop (0 + 1))).set 0 (.int .u64 (shlU64 (n.getD 0 0) 8 ||| c.toUInt64).toNat) = us (times256 n c) := by
      obtain ⟨a, b, d, g, f, rfl⟩ := list5 hn
      rfl
    have hr3 : Blk w3 rb (us (times256 n c)) T := e2 ▸ hr3
    have hM3 := hm1.dr.tr ht3.mod
    have hLO : LO * 2 ^ 9 < 2 ^ 312 := by decide +kernel
    have hval : val64 (times256 n c) = 256 * val64 n + c.toNat := times256_val hn (by omega)
    have hc := c.toNat_lt
    refine ⟨fun l' w' => match l' with | [.i _ x] => ∃ (k : Nat) (n' : List UInt64), x = (k : Int) - 1 ∧ k ≤ 9 ∧ Blk w' rb (us n') T ∧ n'.length = 5 ∧ val64 n' % LO = (256 * val64 n + c.toNat) % LO ∧ val64 n' < LO * 2 ^ k ∧ Mod (fun y => y = rb) w w' | _ => False, fun l' _ => match l' with | [.i _ x] => (x + 1).toNat | _ => 0,
      ⟨9, times256 n c, rfl, by omega, hr3, htl, by rw [hval], by rw [hval]; omega, hM3⟩, ?_⟩
    rintro x w4 ⟨k, n', rfl, hk, hr4, hn4, hv4, hb4, hm4⟩
    refine condK_i (fun hge => ?_) fun hlt => ?_
    · have hk0 : 0 < k := by simp at hge; omega
      have e4 : u64OfInt ((k : Int) - 1) = UInt64.ofNat (k - 1) := by rw [show ((k : Int) - 1) = ((k - 1 : Nat) : Int) by omega, u64_nat]
      rw [e4]
      refine callK_ret (c_minus hr4 hn4 (by omega)) ?_
      rintro v w5 ⟨rfl, n5, hr5, hn5, hv5, hm5⟩
      have := mod_step (k := k - 1) hv4 (by rw [Nat.sub_add_cancel hk0]; exact hb4) hv5
      refine ⟨rfl, ⟨k - 1, n5, by rw [wrap_i64 (by omega)]; omega, by omega, hr5, hn5, this.1, this.2, hm4.tr hm5⟩, ?_⟩
      rw [wrap_i64 (by omega)]; (try simp only []); omega
    · have hk0 : k = 0 := by simp at hlt; omega
      subst hk0
      refine ⟨rfl, n', hr4, hn4, ?_, hm4⟩
      rw [← hv4, Nat.mod_eq_of_lt (by simpa using hb4)]

/-! ## bytes from behind -/
theorem c_backFn {w : World} {s : Slc} : Calls Tryz.prog 36 #[.slice s.a s.len s.cap] w (Ret fun v w' => ∃ p, v = .func (.func 68) #[] #[.pointer (some ⟨p, 0, none⟩)] ∧ (∃ T, Blk w' p [s.val] T) ∧ w.heap.size ≤ p ∧ Mod NoB w w') := by
  refine call36 _ ?_
  unfold sh36
  refine sem_box (l := [s.val]) rfl fun p w1 hN1 hb1 => ⟨_, rfl, ?_⟩
  have h1 := hN1.at_
  exact ⟨p, rfl, ⟨_, hb1⟩, by omega, hN1.mod⟩
theorem c_back {w : World} {ll p : Nat} {s : Slc} {l : List UInt8} {I : Nat → World → Prop} (hl : l.length = s.len) (hn : l.length ≤ 1000000000000000) (hp : ∃ T, Blk w p [s.val] T) (h0 : I l.length w)
    (hI : ∀ k w1, k < l.length → I (k + 1) w1 → Rd w1 ⟨p, 0, none⟩ [s.val] ∧ SlRd w1 s 1 (bys l) ∧ ∀ h : k < l.length, yieldK Tryz.prog ll [.int .i64 k, .int .u8 l[k].toNat] w1 fun v w2 => v = .bool true ∧ I k w2) :
    Calls Tryz.prog 68 #[.func (.yield ll) #[] #[], .pointer (some ⟨p, 0, none⟩)] w (Ret fun v w' => v = .tuple #[] ∧ I 0 w') := by
  refine call68 _ _ ?_
  unfold sh68
  obtain ⟨T, hp⟩ := hp
  refine ⟨s, hp.rd1 rfl, ?_⟩
  refine ⟨fun l' w' => match l' with | [.i _ x] => ∃ k : Nat, x = (k : Int) - 1 ∧ k ≤ l.length ∧ I k w' | _ => False, fun l' _ => match l' with | [.i _ x] => (x + 1).toNat | _ => 0, ⟨l.length, by rw [wrap_i64 (by omega), hl], by omega, h0⟩, ?_⟩
  rintro i w1 ⟨k, rfl, hk, hI1⟩
  refine condK_i (fun hge => ?_) fun hlt => ?_
  · have hk0 : 0 < k := by simp at hge; omega
    obtain ⟨hr1, hr2, hy⟩ := hI (k - 1) w1 (by omega) (by rw [Nat.sub_add_cancel hk0]; exact hI1)
    obtain ⟨a, ea, hra⟩ := rd_u8 hr2 (i := k - 1) (by omega)
    have e1 : ((k : Int) - 1) = ((k - 1 : Nat) : Int) := by omega
    rw [e1]
    refine ⟨s, hr1, ⟨by omega, by omega⟩, ?_⟩
    rw [ea]
    refine ⟨_, hra, ?_⟩
    show yieldK _ _ _ _ _
    obtain ⟨f, tmps, assign, body, g1, g2⟩ := hy (by omega)
    refine ⟨f, tmps, assign, body, g1, RoundIn.mono g2 fun e w2 he => ?_⟩
    obtain ⟨v, rfl, rfl, hI2⟩ := he
    refine ⟨_, rfl, true, rfl, ?_⟩
    refine condK_i (fun e => by cases e) fun _ => ⟨⟨k - 1, by rw [wrap_i64 (by omega)], by omega, hI2⟩, ?_⟩
    rw [wrap_i64 (by omega)]; (try simp only []); omega
  · have : k = 0 := by simp at hlt; omega
    subst this
    exact ⟨rfl, hI1⟩

theorem le_cons_drop {l : List UInt8} {k : Nat} (h : k < l.length) : le (l.drop k) = l[k].toNat + 256 * le (l.drop (k + 1)) := by
  rw [List.drop_eq_getElem_cons h]; rfl
theorem mod_snoc (a b m : Nat) : (256 * (a % m) + b) % m = (b + 256 * a) % m := by
  rw [Nat.add_comm, Nat.add_mod, Nat.mul_mod, Nat.mod_mod, ← Nat.mul_mod, ← Nat.add_mod]
/-- what bytes are reduced to -/
theorem c_reduced {w : World} {s : Slc} {l : List UInt8} (hs : SlRd w s 1 (bys l)) (hsl : ∀ x, s.blk = some x → x < w.heap.size) (hn : l.length ≤ 1000000000000000) :
    Calls Tryz.prog 24 #[.slice s.a s.len s.cap] w (Ret fun v w' => ∃ x : Slc, v = x.val ∧ Sh.Own w' x 1 (bys (redN (le l))) ∧ x.len = 32 ∧ x.cap = 32 ∧ FB w x ∧ Mod NoB w w') := by
  refine call24 _ ?_
  unfold sh24
  obtain ⟨ir, hr1, hr2, hr3, hr4⟩ := iRest
  obtain ⟨i5', h51, h52, h53, h54⟩ := i5
  have hlen := rd_len8 hs
  refine sem_alloc (l := us [0, 0, 0, 0, 0]) hr1 hr2 (by simp [Value.cells]) fun rb w1 hN1 hb1 => ⟨_, rfl, ?_⟩
  have a1 := hN1.at_; have a2 := hN1.size
  refine callK_ret c_backFn ?_
  rintro v w2 ⟨p, rfl, ⟨T, hp⟩, hps, hm2⟩
  refine ⟨_, rfl, 68, #[], #[.pointer (some ⟨p, 0, none⟩)], rfl, by kernel_rfl, ?_⟩
  rintro rec dd ll w3 hdd hll hw3 hY
  have hM3 : Mod NoB w2 w3 := by rw [hw3]; exact (alloc_mod _ _).tr (alloc_mod _ _)
  have hsz3 : w3.heap.size = ll + 1 := by rw [hw3]; simp; omega
  have hld3 : w3.heap[ll]? = some (rec .ready none) := by
    rw [hw3, hll, hdd]
    have := heap_alloc_new (w2.alloc (.deferred (some []))) (rec .ready none)
    simpa using this
  have hdd3 : w3.heap[dd]? = some (.deferred (some [])) := by
    rw [hw3, hdd, heap_alloc_old _ _ (by simp)]
    exact heap_alloc_new _ _
  have hpl := hp.lt; have s2 := hm2.size
  have hMw3 : Mod NoB w w3 := (hN1.mod.tr hm2).tr hM3
  have hrb3 : Blk w3 rb (us [0, 0, 0, 0, 0]) 81 := (hb1.no hm2).no hM3
  let I : Nat → World → Prop := fun k w' => w'.heap[ll]? = some (rec .ready none) ∧ ∃ n, Blk w' rb (us n) 81 ∧ n.length = 5 ∧ val64 n = le (l.drop k) % LO ∧ Mod (fun x => x = rb ∨ x = ll) w3 w'
  have hseq := c_back (w := w3) (ll := ll) (p := p) (s := s) (l := l) (I := I) hlen hn ⟨T, hp.no hM3⟩
    ⟨hld3, [0, 0, 0, 0, 0], hrb3, rfl, by rw [List.drop_length]; rfl, Mod.refl _ _⟩ (by
      rintro k w4 hk ⟨hl4, n, hb4, hn4, hv4, hm4⟩
      refine ⟨((hp.no hM3).mod hm4 (by omega)).rd1 rfl, (hs.no hMw3).mod hm4 (fun x hx e => by have := hsl x hx; omega), fun hk' => ?_⟩
      refine hY _ _ w4 _ hl4 ⟨hl4, ?_⟩
      have hll4 := lt_of_get hl4
      obtain ⟨hmp, hgp, hsp⟩ := put_mod (o := rec .busy none) hll4
      have hrl := hb4.lt
      refine callK_ret (c_add (c := l[k]) (hb4.mod hmp (by omega)) hn4 (by rw [hv4]; exact Nat.mod_lt _ LO_pos)) ?_
      rintro v w5 ⟨rfl, n5, hb5, hn5, hv5, hm5⟩
      have hl5 : w5.heap[ll]? = some (rec .busy none) := by rw [hm5.block ll (by omega) (by omega)]; exact hgp
      refine ⟨rfl, hl5, rfl, ?_⟩
      have hll5 := lt_of_get hl5
      obtain ⟨hmq, hgq, hsq⟩ := put_mod (o := rec .ready none) hll5
      refine ⟨hgq, n5, hb5.mod hmq (by omega), hn5, ?_, ?_⟩
      · rw [hv5, hv4, mod_snoc, le_cons_drop hk]
      · exact ((hm4.tr (hmp.mono fun x _ e => .inr e)).tr (hm5.mono fun x _ e => .inl e)).tr (hmq.mono fun x _ e => .inr e))
  refine callK_of hseq ?_ (fun _ _ h => h.elim) (fun _ h => h)
  rintro v w4 ⟨rfl, hl4, n, hb4, hn4, hv4, hm4⟩
  left
  refine ⟨hl4, ?_⟩
  rw [List.drop_zero] at hv4
  have hll4 := lt_of_get hl4
  obtain ⟨hmp, hgp, hsp⟩ := put_mod (o := rec .exhausted none) hll4
  have hb5 := hb4.mod hmp (show ¬ rb = ll by omega)
  have hM5 : Mod NoB w (w4.putObj ll (rec .exhausted none)) := (hMw3.fresh hm4 fun x e => by omega).fresh hmp fun x e => by omega
  refine sem_makeSlice (l := 32) (c := 32) u26 h51 h52 h53 rfl h54 rfl rfl (by omega) (by omega) (by omega) fun e w7 hN7 hbe hoe => ⟨⟨_, _, _⟩, rfl, ?_⟩
  have b1 := hN7.at_; have b2 := hN7.size; have b3 := hM5.size
  have b4 : dd < (w4.putObj ll (rec .exhausted none)).heap.size := by omega
  have hdd5 : (w4.putObj ll (rec .exhausted none)).heap[dd]? = some (.deferred (some [])) := by
    rw [hmp.block dd (by omega) (by omega), hm4.block dd (by omega) (by omega)]; exact hdd3
  rw [bys_rep] at hoe
  refine ⟨fun l' w' => match l' with | [.i _ x] => ∃ k : Nat, x = k ∧ k ≤ 32 ∧ Sh.Own w' ⟨some ⟨e, 0, none⟩, 32, 32⟩ 1 (bys ((redN (le l)).take k ++ List.replicate (32 - k) 0)) ∧ Mod (fun y => y = e) w7 w' | _ => False, fun l' _ => match l' with | [.i _ x] => (32 - x).toNat | _ => 0,
    ⟨0, rfl, by omega, by simpa using hoe, Mod.refl _ _⟩, ?_⟩
  rintro x w8 ⟨k, rfl, hk, ho8, hm8⟩
  have hb8 : Blk w8 rb (us n) 81 := (hb5.no hN7.mod).mod hm8 (by have := hb5.lt; omega)
  refine condK_i (fun hlt => ?_) fun hge => ?_
  · have hk' : k < 32 := by simp at hlt; omega
    have e1 : IntKind.i64.wrap (Int.tdiv (k : Int) 8) = ((k / 8 : Nat) : Int) := by
      rw [show Int.tdiv (k : Int) 8 = ((k / 8 : Nat) : Int) from rfl, wrap_i64 (by omega)]
    have e2 : IntKind.i64.wrap (8 * Int.tmod (k : Int) 8) = ((8 * (k % 8) : Nat) : Int) := by
      rw [show Int.tmod (k : Int) 8 = ((k % 8 : Nat) : Int) from rfl, wrap_i64 (by omega)]; omega
    rw [e1, e2]
    refine ⟨by omega, ⟨by omega, by omega⟩, n.getD (k / 8) 0, rda0 hb8 (us_getD (by omega)), by omega, by omega, ⟨by omega, by show (k : Int) < ((32 : Nat) : Int); omega⟩, ?_⟩
    simp only [Int.toNat_natCast]
    have hbyte : (shrU64 (n.getD (k / 8) 0) (8 * (k % 8))).toUInt8 = (redN (le l))[k]'(by simp; omega) := by
      rw [limb_byte (by omega), hv4]
      have := leb_at 32 (le l % LO) k hk'
      rw [← redN, List.getElem?_eq_getElem (by simp; omega)] at this
      exact (Option.some.inj this).symm
    rw [hbyte]
    refine semU_own1 (by kernel_rfl) (by kernel_rfl) rfl ho8 rfl hk' fun w9 ho9 hm9 hs9 => ⟨⟨k + 1, wrap_nat (by omega), by omega, ?_, hm8.tr (hm9.mono fun x _ hx => by rw [Slc.blk_mk, if_neg (by omega)] at hx; cases hx; rfl)⟩, ?_⟩
    · rw [bys_set, fill_set (by simp; omega) hk'] at ho9
      exact ho9
    · rw [wrap_nat (by omega)]; (try simp only []); omega
  · have hk' : k = 32 := by simp at hge; omega
    subst hk'
    rw [List.take_of_length_le (by simp), Nat.sub_self, List.replicate_zero, List.append_nil] at ho8
    have hdd8 : w8.heap[dd]? = some (.deferred (some [])) := by rw [hm8.block dd (by omega) (by omega), hN7.mod.block dd b4 (fun h => h)]; exact hdd5
    have hddl := lt_of_get hdd8
    obtain ⟨hmd, -, -⟩ := put_mod (w := w8) (o := .deferred none) hddl
    have hM8 : Mod NoB w w8 := (hM5.tr hN7.mod).fresh hm8 fun x hx => by omega
    refine ⟨hdd8, ⟨some ⟨e, 0, none⟩, 32, 32⟩, rfl, ho8.mod hmd (fun x hx => by rw [Slc.blk_mk, if_neg (by omega)] at hx; cases hx; omega), rfl, rfl, FB.new (by omega), hM8.fresh hmd fun x hx => by omega⟩
/-- what any bytes are reduced to -/
def redT (l : List UInt8) : List UInt8 := if l.length > 64 then [] else redN (le l)
theorem c_reduce {w : World} {s : Slc} {l : List UInt8} (hs : SlRd w s 1 (bys l)) (hsl : ∀ x, s.blk = some x → x < w.heap.size) :
    Calls Tryz.prog 8 #[.slice s.a s.len s.cap] w (Ret fun v w' => ∃ x : Slc, v = x.val ∧ Sh.Own w' x 1 (bys (redT l)) ∧ x.cap = x.len ∧ FB w x ∧ Mod NoB w w') := by
  refine call8 _ ?_
  unfold sh8
  have hlen := rd_len8 hs
  refine condK_i (fun h => ?_) fun h => ?_
  · have : l.length > 64 := by simp at h; omega
    exact ⟨⟨none, 0, 0⟩, rfl, by rw [redT, if_pos this]; exact own_nil _ _, rfl, FB.nil _, Mod.refl _ _⟩
  · have h' : ¬ l.length > 64 := by simp at h; omega
    refine callK_ret (c_reduced hs hsl (by omega)) ?_
    rintro v w1 ⟨x, rfl, ho, hl, hc, hf, hm⟩
    exact ⟨x, rfl, x, rfl, by rw [redT, if_neg h']; exact ho, by omega, hf, hm⟩
/-- slices.Equal -/
theorem c_equal {w : World} {a b : Slc} {l m : List UInt8} (ha : SlRd w a 1 (bys l)) (hb : SlRd w b 1 (bys m)) (hn : l.length ≤ 9000000000000000000) :
    Calls Tryz.prog 28 #[.slice a.a a.len a.cap, .slice b.a b.len b.cap] w (Ret fun v w' => v = .bool (decide (l = m)) ∧ Mod NoB w w') := by
  refine call28 _ _ ?_
  unfold sh28
  have hla := rd_len8 ha; have hlb := rd_len8 hb
  refine condK_i (fun h => ⟨?_, Mod.refl _ _⟩) (fun h => ?_)
  · have : l ≠ m := by rintro rfl; simp at h; omega
    simp [this]
  · have hlen : l.length = m.length := by simp at h; omega
    refine ⟨fun l' w' => match l' with | [.i _ x] => ∃ k : Nat, x = k ∧ k ≤ l.length ∧ l.take k = m.take k ∧ Mod NoB w w' | _ => False, fun l' _ => match l' with | [.i _ x] => (l.length - x).toNat | _ => 0, ⟨0, rfl, by omega, rfl, Mod.refl _ _⟩, ?_⟩
    rintro x w1 ⟨k, rfl, hk, hkk, hm1⟩
    refine condK_i (fun h => ?_) (fun h => ?_)
    · have hk' : k < l.length := by simp at h; omega
      obtain ⟨a1, ea, hra⟩ := rd_u8 ha hk'
      obtain ⟨a2, eb, hrb⟩ := rd_u8 hb (i := k) (by omega)
      rw [ea, eb]
      refine ⟨⟨by omega, by omega⟩, ⟨by omega, by omega⟩, _, Rd.drew (hra.mod hm1 fun h => h), _, Rd.drew (hrb.mod hm1 fun h => h), condK_i (fun hne => ⟨?_, Mod.dr hm1⟩) (fun hne => ⟨⟨k + 1, wrap_nat (by omega), by omega, ?_, Mod.dr hm1⟩, ?_⟩)⟩
      · have : l ≠ m := by rintro rfl; simp at hne
        simp [this]
      · have : l[k] = m[k]'(by omega) := by simpa using hne
        rw [take_snoc hk', take_snoc (by omega), hkk, this]
      · rw [wrap_nat (by omega)]; (try simp only []); omega
    · have hk' : k = l.length := by simp at h; omega
      rw [hk', List.take_length, hlen, List.take_length] at hkk
      exact ⟨by simp [hkk], hm1⟩
/-- is a scalar right? -/
theorem c_right {w : World} {s : Slc} {l : List UInt8} (hs : SlRd w s 1 (bys l)) (hsl : ∀ x, s.blk = some x → x < w.heap.size) :
    Calls Tryz.prog 12 #[.slice s.a s.len s.cap] w (Ret fun v w' => v = .bool (decide (l.length = 32 ∧ le l < LO)) ∧ Mod NoB w w') := by
  refine call12 _ ?_
  unfold sh12
  have hlen := rd_len8 hs
  refine condK_i (fun h => ?_) fun h => ?_
  · have h32 : l.length = 32 := by simp at h; omega
    refine callK_ret (c_reduced hs hsl (by omega)) ?_
    rintro v w1 ⟨x, rfl, ho, hl, hc, hf, hm⟩
    refine ⟨x, rfl, callK_ret (c_equal ho.rd (hs.no hm) (by simp)) ?_⟩
    rintro v w2 ⟨rfl, hm2⟩
    refine ⟨_, rfl, ?_, hm.tr hm2⟩
    congr 1
    rw [decide_eq_decide, redN_le l h32]
    exact ⟨fun h => ⟨h32, h⟩, fun h => h.2⟩
  · have h32 : l.length ≠ 32 := by intro e; simp at h; omega
    exact ⟨by simp [h32], Mod.refl _ _⟩
end Go.Proofs.YtknbihogadcnpaaGreat
