/- Scalars: a product and a sum; bits. -/
import Derived.Test.YtknbihogadcnpaaGreatS31
import Derived.Test.YtknbihogadcnpaaGreatM4
set_option linter.unusedSimpArgs false
set_option linter.unusedVariables false
set_option maxRecDepth 100000
namespace Go.Proofs.YtknbihogadcnpaaGreat
open Go Go.Sh

/-- are all of that size? -/
theorem c_scalars {w : World} {x : Slc} {ss : List Slc} (hx : SlRd w x 1 (ss.map Slc.val)) (hn : ss.length ≤ 1000000000) :
    Calls Tryz.prog 34 #[.slice x.a x.len x.cap] w (Ret fun v w' => v = .bool (ss.all fun s => s.len == 32) ∧ w' = w) := by
  have hlen : ss.length = x.len := by have := hx.1; simp at this; omega
  refine call34 _ ?_
  unfold sh34
  have idx : Calls Tryz.prog 103 #[.slice x.a x.len x.cap, .func (.func 67) #[] #[]] w (Ret fun v w' => ∃ n : Int, v = .int .i64 n ∧ decide (n ≥ 0) = !(ss.all fun s => s.len == 32) ∧ w' = w) := by
    refine call103 _ _ ?_
    unfold sh103
    refine ⟨fun l' w' => match l' with | [.i _ y] => ∃ k : Nat, y = k ∧ k ≤ ss.length ∧ (ss.take k).all (fun s => s.len == 32) = true ∧ w' = w | _ => False, fun l' _ => match l' with | [.i _ y] => (ss.length - y).toNat | _ => 0, ⟨0, rfl, by omega, rfl, rfl⟩, ?_⟩
    rintro y w1 ⟨k, rfl, hk, hall, rfl⟩
    refine condK_i (fun hlt => ?_) fun hge => ?_
    · have hk' : k < ss.length := by simp at hlt; omega
      obtain ⟨a, ea, hra⟩ := rd_slc hx hk'
      rw [ea]
      refine ⟨⟨by omega, by omega⟩, _, hra, ?_⟩
      refine callFV_of (by kernel_rfl) ?_
      refine callK_ret (Q := fun v w' => v = .bool ((ss[k].len : Int) != 32) ∧ w' = w1) (call67 _ ⟨rfl, rfl⟩) ?_
      rintro v w2 ⟨rfl, rfl⟩
      refine ⟨_, rfl, condK_i (fun h => ⟨_, rfl, ?_, rfl⟩) fun h => ⟨⟨k + 1, wrap_nat (by omega), by omega, ?_, rfl⟩, ?_⟩⟩
      · have hne : ¬ ss[k].len = 32 := by simp at h; omega
        have : ss.all (fun s => s.len == 32) = false := by
          rw [List.all_eq_false]
          exact ⟨ss[k], List.getElem_mem hk', by simpa using hne⟩
        rw [this]; simp
      · rw [take_snoc hk', List.all_append, hall]
        have : ss[k].len = 32 := by simp at h; omega
        simp [this]
      · rw [wrap_nat (by omega)]; (try simp only []); omega
    · have : k = ss.length := by simp at hge; omega
      subst this
      rw [List.take_length] at hall
      exact ⟨-1, rfl, by rw [hall]; rfl, rfl⟩
  refine callK_ret (Q := fun v w' => v = .bool (!(ss.all fun s => s.len == 32)) ∧ w' = w) ?_ ?_
  · refine call66 _ _ ?_
    unfold sh66
    refine callK_ret idx ?_
    rintro v w1 ⟨n, rfl, h, rfl⟩
    exact ⟨_, rfl, by rw [h], rfl⟩
  · rintro v w1 ⟨rfl, rfl⟩
    exact ⟨_, rfl, by simp, rfl⟩

/-- a product and a third one -/
theorem c_mulAdd {w : World} {a b c : Slc} {la lb lc : List UInt8} (ha : SlRd w a 1 (bys la)) (hal : ∀ x, a.blk = some x → x < w.heap.size) (hb : SlRd w b 1 (bys lb)) (hbl : ∀ x, b.blk = some x → x < w.heap.size) (hc : SlRd w c 1 (bys lc)) (hcl : ∀ x, c.blk = some x → x < w.heap.size) :
    Calls Tryz.prog 19 #[.slice a.a a.len a.cap, .slice b.a b.len b.cap, .slice c.a c.len c.cap] w (Ret fun v w' => ∃ x : Slc, v = x.val ∧ Sh.Own w' x 1 (bys (mulT la lb lc)) ∧ x.cap = x.len ∧ FB w x ∧ Mod NoB w w') := by
  refine call19 _ _ _ ?_
  unfold sh19
  obtain ⟨i5', h51, h52, h53, h54⟩ := i5
  obtain ⟨i44', h441, h442, h443, h444⟩ := i44
  have hna := rd_len8 ha; have hnb := rd_len8 hb; have hnc := rd_len8 hc
  refine sem_rows [a, b, c] (by rfl) rfl (by decide) (by decide) fun x e w1 hN1 hx hbx hox => ⟨x, rfl, ?_⟩
  refine callK_ret (c_scalars hox.rd (by simp)) ?_
  rintro v w2 ⟨rfl, rfl⟩
  refine ⟨_, rfl, condK_i (fun h => ?_) fun h => ?_⟩
  · have : ¬ (la.length = 32 ∧ lb.length = 32 ∧ lc.length = 32) := by
      rintro ⟨h1, h2, h3⟩
      have e1 : a.len = 32 := by omega
      have e2 : b.len = 32 := by omega
      have e3 : c.len = 32 := by omega
      simp [e1, e2, e3] at h
    exact ⟨⟨none, 0, 0⟩, rfl, by rw [mulT, if_neg this]; exact own_nil _ _, rfl, FB.nil _, hN1.mod⟩
  have h32 : la.length = 32 ∧ lb.length = 32 ∧ lc.length = 32 := by
    simp at h; omega
  obtain ⟨ha32, hb32, hc32⟩ := h32
  have hM1 := hN1.mod
  refine sem_makeSlice (l := 66) (c := 66) u40 h441 h442 h443 rfl h444 rfl rfl (by omega) (by omega) (by omega) fun t w3 hN3 hbt hot => ⟨⟨_, _, _⟩, rfl, ?_⟩
  have a1 := hN1.at_; have a2 := hN1.size; have a3 := hN3.at_; have a4 := hN3.size
  have hM3 := hM1.tr hN3.mod
  have hzero : List.replicate 66 z64 = us (List.replicate 66 0) := by simp [us, z64]
  rw [hzero] at hbt
  -- what is read stays
  have hra : ∀ w', Mod (fun y => y = t) w3 w' → SlRd w' a 1 (bys la) := fun w' hm => (ha.no hM3).mod hm fun x hx e => by have := hal x hx; omega
  have hrb : ∀ w', Mod (fun y => y = t) w3 w' → SlRd w' b 1 (bys lb) := fun w' hm => (hb.no hM3).mod hm fun x hx e => by have := hbl x hx; omega
  have hrc : ∀ w', Mod (fun y => y = t) w3 w' → SlRd w' c 1 (bys lc) := fun w' hm => (hc.no hM3).mod hm fun x hx e => by have := hcl x hx; omega
  refine ⟨fun l' w' => match l' with | [.i _ x] => ∃ (i : Nat) (tl : List UInt64), x = i ∧ i ≤ 32 ∧ Blk w' t (us tl) 75 ∧ Words0 tl i la lb lc ∧ Mod (fun y => y = t) w3 w' | _ => False, fun l' _ => match l' with | [.i _ x] => (32 - x).toNat | _ => 0,
    ⟨0, _, rfl, by omega, hbt, words0_start la lb lc, Mod.refl _ _⟩, ?_⟩
  rintro x1 w4 ⟨i, tl, rfl, hi, hb4, hw4, hm4⟩
  have htl := hw4.len
  refine condK_i (fun hlt => ?_) fun hge => ?_
  · have hi' : i < 32 := by simp at hlt; omega
    simp only [Int.toNat_natCast]
    obtain ⟨ac, eac, hrac⟩ := rd_u8 ((hrc w4 hm4).drew) (i := i) (by omega)
    rw [getD_at (d := 0) (by omega : i < lc.length)] at hrac
    rw [eac]
    refine ⟨fun w' => w' = w4.drew, rfl, ⟨by omega, by show (i : Int) < ((66 : Nat) : Int); omega⟩, ⟨by omega, by omega⟩, tl.getD i 0, fun w' hw => by rw [hw]; exact rda hb4.drew (us_getD (by omega)), _, fun w' hw => by rw [hw]; exact hrac, ⟨by omega, by show (i : Int) < ((66 : Nat) : Int); omega⟩, ?_, trivial⟩
    refine semU_at (b := t) (n := i) (by kernel_rfl) (by kernel_rfl) rfl hb4.drew (by simp; omega) fun w5 ht5 hb5 => ?_
    rw [us_set] at hb5
    have hw5 := words_c hw4 hi'
    have hm5 := hm4.dr.tr ht5.mod
    refine ⟨fun l' w' => match l' with | [.i _ x] => ∃ (k : Nat) (tl : List UInt64), x = k ∧ k ≤ 32 ∧ Blk w' t (us tl) 75 ∧ Words tl i k la lb lc ∧ Mod (fun y => y = t) w3 w' | _ => False, fun l' _ => match l' with | [.i _ x] => (32 - x).toNat | _ => 0,
      ⟨0, _, rfl, by omega, hb5, hw5, hm5⟩, ?_⟩
    rintro x2 w6 ⟨k, tk, rfl, hk, hb6, hw6, hm6⟩
    have htk := hw6.len
    refine condK_i (fun hlt2 => ?_) fun hge2 => ?_
    · have hk' : k < 32 := by simp at hlt2; omega
      have e1 : IntKind.i64.wrap ((i : Int) + (k : Int)) = ((i + k : Nat) : Int) := by rw [wrap_i64 (by omega)]; omega
      rw [e1]
      simp only [Int.toNat_natCast]
      obtain ⟨aa, eaa, hraa⟩ := rd_u8 ((hra w6 hm6).drew) (i := i) (by omega)
      obtain ⟨ab, eab, hrab⟩ := rd_u8 ((hrb w6 hm6).drew) (i := k) (by omega)
      rw [getD_at (d := 0) (by omega : i < la.length)] at hraa
      rw [getD_at (d := 0) (by omega : k < lb.length)] at hrab
      rw [eaa, eab]
      refine ⟨fun w' => w' = w6.drew, rfl, ⟨by omega, by show ((i + k : Nat) : Int) < ((66 : Nat) : Int); omega⟩, ⟨by omega, by omega⟩, ⟨by omega, by omega⟩, tk.getD (i + k) 0, fun w' hw => by rw [hw]; exact rda hb6.drew (us_getD (by omega)), _, fun w' hw => by rw [hw]; exact hraa, _, fun w' hw => by rw [hw]; exact hrab, ⟨by omega, by show ((i + k : Nat) : Int) < ((66 : Nat) : Int); omega⟩, ?_, trivial⟩
      refine semU_at (b := t) (n := i + k) (by kernel_rfl) (by kernel_rfl) rfl hb6.drew (by simp; omega) fun w7 ht7 hb7 => ?_
      rw [us_set] at hb7
      refine ⟨⟨k + 1, _, wrap_nat (by omega), by omega, hb7, words_ab hw6 hi' hk' hb32, hm6.dr.tr ht7.mod⟩, ?_⟩
      rw [wrap_nat (by omega)]; (try simp only []); omega
    · have hk' : k = 32 := by simp at hge2; omega
      subst hk'
      refine ⟨⟨i + 1, tk, wrap_nat (by omega), by omega, hb6, words_row hw6 hi' ha32 hb32 hc32, hm6⟩, ?_⟩
      rw [wrap_nat (by omega)]; (try simp only []); omega
  · have hi' : i = 32 := by simp at hge; omega
    subst hi'
    have hM4 : Mod NoB w w4 := hM3.fresh hm4 fun x hx => by omega
    have hs4 := hm4.size
    refine sem_makeSlice (l := 66) (c := 66) u26 h51 h52 h53 rfl h54 rfl rfl (by omega) (by omega) (by omega) fun o w8 hN8 hbo hoo => ⟨⟨_, _, _⟩, rfl, ?_⟩
    have b1 := hN8.at_; have b2 := hN8.size
    have hb8 := hb4.no hN8.mod
    rw [bys_rep] at hbo
    refine ⟨fun l' w' => match l' with | [.u64 cy, .i _ x] => ∃ (k : Nat) (ob : List UInt8), x = k ∧ k ≤ 66 ∧ ob.length = k ∧ Blk w' o (bys (ob ++ List.replicate (66 - k) 0)) 5 ∧ le ob + 256 ^ k * cy.toNat = val256 (tl.take k) ∧ cy.toNat ≤ 4194304 ∧ Mod (fun y => y = o) w8 w' | _ => False, fun l' _ => match l' with | [.u64 _, .i _ x] => (66 - x).toNat | _ => 0,
      ⟨0, [], rfl, by omega, rfl, by simpa using hbo, by simp [le, val256], by decide, Mod.refl _ _⟩, ?_⟩
    rintro cy x3 w9 ⟨k, ob, rfl, hk, hob, hb9, hv9, hc9, hm9⟩
    have hb9t : Blk w9 t (us tl) 75 := hb8.mod hm9 (by have := hb4.lt; omega)
    refine condK_i (fun hlt => ?_) fun hge => ?_
    · have hk' : k < 66 := by have h : (k : Int) < ((66 : Nat) : Int) := by simpa using hlt
                              omega
      simp only [Int.toNat_natCast]
      refine ⟨⟨by omega, by show (k : Int) < ((66 : Nat) : Int); omega⟩, tl.getD k 0, rda hb9t (us_getD (by omega)), ⟨by omega, by show (k : Int) < ((66 : Nat) : Int); omega⟩, ?_⟩
      refine semU_at (b := o) (n := k) (by kernel_rfl) (by kernel_rfl) rfl hb9 (by simp [hob]; omega) fun w10 ht10 hb10 => ?_
      rw [bys_set] at hb10
      have hbd := hw4.bound k
      have hst := carry_step (t := tl) (k := k) (by omega) hob hv9 hc9 (by omega)
      have e2 : (ob ++ List.replicate (66 - k) 0).set k (cy + tl.getD k 0).toUInt8 = (ob ++ [(cy + tl.getD k 0).toUInt8]) ++ List.replicate (66 - (k + 1)) 0 := by
        rw [show 66 - k = (66 - (k + 1)) + 1 by omega, List.replicate_succ, set_mid hob.symm, List.append_assoc]; rfl
      rw [e2] at hb10
      refine ⟨by omega, ⟨k + 1, _, wrap_nat (by omega), by omega, by simp [hob], hb10, hst.1, hst.2, hm9.tr ht10.mod⟩, ?_⟩
      rw [wrap_nat (by omega)]; (try simp only []); omega
    · have hk' : k = 66 := by have h : ¬ (k : Int) < ((66 : Nat) : Int) := by simpa using hge
                              omega
      subst hk'
      rw [Nat.sub_self, List.replicate_zero, List.append_nil] at hb9
      rw [List.take_of_length_le (by omega)] at hv9
      have hM9 : Mod NoB w w9 := (hM4.tr hN8.mod).fresh hm9 fun x hx => by omega
      have hro : SlRd w9 ⟨some ⟨o, 0, none⟩, 66, 66⟩ 1 (bys ob) := (own_whole (n := 66) (k := 1) hb9 (by simp [hob])).rd
      refine callK_ret (c_reduced hro (fun x hx => by rw [Slc.blk_mk, if_neg (by omega)] at hx; cases hx; exact hb9.lt) (by omega)) ?_
      rintro v w11 ⟨y, rfl, hoy, hyl, hyc, hfy, hm11⟩
      rw [carry_end hw4 ha32 hb32 hc32 hob hv9] at hoy
      exact ⟨y, rfl, y, rfl, by rw [mulT, if_pos ⟨ha32, hb32, hc32⟩]; exact hoy, by omega, hfy.le hM9.size, hM9.tr hm11⟩

/-! ## bits -/
def bls (l : List Bool) : List Value := l.map .bool
@[simp] theorem bls_len (l : List Bool) : (bls l).length = l.length := by simp [bls]
theorem bls_one (l : List Bool) : ∀ y ∈ bls l, y.oneCell' = true := by
  intro y hy; obtain ⟨x, _, rfl⟩ := List.mem_map.1 hy; rfl
theorem bls_app (a b : List Bool) : bls (a ++ b) = bls a ++ bls b := by simp [bls]
theorem rd_bool {w : World} {s : Slc} {l : List Bool} (h : SlRd w s 1 (bls l)) {i : Nat} (hi : i < l.length) : ∃ a, s.a = some a ∧ Rd w (a.add (i * 1)) [.bool l[i]] :=
  h.at (by have := h.1; simp at this; omega) (by omega) fun j u hu => by
    cases j with
    | zero => simp at hu; subst hu; simp [bls, hi]
    | succ j => simp at hu
theorem rd_lenB {w : World} {s : Slc} {l : List Bool} (h : SlRd w s 1 (bls l)) : l.length = s.len := by have := h.1; simpa using this
theorem uBools : Tryz.prog.underlying 25 = some (.slice 4) := by kernel_rfl
theorem iBool : ∃ i, Tryz.prog.info? 4 = some i ∧ i.zero = some (.bool false) ∧ i.size = 1 ∧ i.bytes = 1 := info_of (by kernel_rfl) (by kernel_rfl) (by kernel_rfl)
theorem iBools : ∃ i, Tryz.prog.info? 25 = some i ∧ i.zero = some (.slice none 0 0) ∧ i.size = 1 ∧ i.bytes = 24 := info_of (by kernel_rfl) (by kernel_rfl) (by kernel_rfl)
section
variable {K : Slc → World → Prop} {w : World}
/-- append(s, truth) -/
theorem sem_truth {s : Slc} {l : List Bool} {c : Bool} (hs : Sh.Own w s 1 (bls l)) (hn : l.length ≤ 2000000000)
    (hK : ∀ (s' : Slc) w', Sh.Own w' s' 1 (bls (l ++ [c])) → s'.len = s.len + 1 → Mod (fun x => s.blk = some x) w w' → (s'.blk = s.blk ∨ ∃ x, s'.blk = some x ∧ w.heap.size ≤ x) → K s' w') :
    semK Tryz.prog (Instr.buildSlice 25 1 #[(0, (.bool c))]) w fun v w2 => ∃ x1 : Slc, v = (.slice x1.a x1.len x1.cap) ∧ semK Tryz.prog (Builtin.append_ #[25, 25] 25 #[(.slice s.a s.len s.cap), (.slice x1.a x1.len x1.cap)]) w2 fun v1 w3 => ∃ x2 : Slc, v1 = (.slice x2.a x2.len x2.cap) ∧ K x2 w3 := by
  obtain ⟨i5', h51, h52, h53, h54⟩ := iBool
  have hl := rd_lenB hs.rd
  refine sem_lit (l := [.bool c]) [.bool c] uBools h51 h52 h53 (by decide) rfl (by decide) (by decide) rfl (by simp [Value.cells]) rfl fun b w1 hN hb => ⟨⟨_, _, _⟩, rfl, ?_⟩
  have a1 := hN.at_; have a2 := hN.size
  refine sem_append uBools h51 h52 h53 rfl h54 (hs.no hN.mod) (own_whole (n := 1) (k := 1) hb rfl).rd (bls_one [c]) (by simp only []; omega) (by simp only []; omega) fun s' w2 ho hlen hblk hm2 => ⟨s', rfl, hK s' w2 ?_ hlen ((hN.mod.mono fun _ _ h => h.elim).tr hm2) ?_⟩
  · rw [bls_app]; exact ho
  · rcases hblk with h | h
    · exact .inl h
    · exact .inr ⟨_, h, by omega⟩
end

/-- a scalar's bits, the lowest one first -/
theorem c_bitsS {w : World} {b : Slc} {l : List UInt8} (hb : SlRd w b 1 (bys l)) (hbl : ∀ x, b.blk = some x → x < w.heap.size) :
    Calls Tryz.prog 9 #[.slice b.a b.len b.cap] w (Ret fun v w' => ∃ x : Slc, v = x.val ∧ Sh.Own w' x 1 (bls (bitsT l)) ∧ FB w x ∧ Mod NoB w w') := by
  refine call9 _ ?_
  unfold sh9
  have hn := rd_len8 hb
  refine condK_i (fun h => ?_) fun h => ?_
  · have : ¬ l.length = 32 := by simp at h; omega
    exact ⟨⟨none, 0, 0⟩, rfl, by rw [bitsT, if_neg this]; exact own_nil _ _, FB.nil _, Mod.refl _ _⟩
  have h32 : l.length = 32 := by simp at h; omega
  -- each
  refine callK_ret (Q := fun v w' => ∃ p, v = .func (.func 39) #[] #[.pointer (some ⟨p, 0, none⟩)] ∧ (∃ T, Blk w' p [b.val] T) ∧ w.heap.size ≤ p ∧ Mod NoB w w') ?_ ?_
  · refine call26 _ ?_
    unfold sh26
    refine sem_box (l := [b.val]) rfl fun p w1 hN1 hb1 => ⟨_, rfl, ?_⟩
    have h1 := hN1.at_
    exact ⟨p, rfl, ⟨_, hb1⟩, by omega, hN1.mod⟩
  rintro v w1 ⟨p, rfl, ⟨T, hp⟩, hps, hm1⟩
  refine ⟨_, rfl, ?_⟩
  -- Collect
  suffices hc : Calls Tryz.prog 38 #[.slice none 0 0, .func (.func 39) #[] #[.pointer (some ⟨p, 0, none⟩)]] w1 (Ret fun v w' => ∃ x : Slc, v = x.val ∧ Sh.Own w' x 1 (bls (bitsT l)) ∧ FB w1 x ∧ Mod NoB w1 w') by
    refine callK_ret (Q := fun v w' => ∃ x : Slc, v = x.val ∧ Sh.Own w' x 1 (bls (bitsT l)) ∧ FB w1 x ∧ Mod NoB w1 w') ?_ ?_
    · refine call25 _ ?_
      unfold sh25
      refine callK_ret hc ?_
      rintro v w2 ⟨x, rfl, h⟩
      exact ⟨x, rfl, x, rfl, h⟩
    · rintro v w2 ⟨x, rfl, ho, hf, hm2⟩
      exact ⟨x, rfl, x, rfl, ho, hf.le hm1.size, hm1.tr hm2⟩
  refine call38 ⟨none, 0, 0⟩ _ ?_
  unfold sh38
  refine sem_box (l := [.slice none 0 0]) rfl fun q w2 hN2 hq2 => ⟨_, rfl, 39, #[], #[.pointer (some ⟨p, 0, none⟩)], rfl, by kernel_rfl, ?_⟩
  rintro rec dd ll w3 hdd hll hw3 hY
  have a1 := hN2.at_; have a2 := hN2.size
  have hM3 : Mod NoB w2 w3 := by rw [hw3]; exact (alloc_mod _ _).tr (alloc_mod _ _)
  have hsz3 : w3.heap.size = ll + 1 := by rw [hw3]; simp; omega
  have hld3 : w3.heap[ll]? = some (rec .ready none) := by
    rw [hw3, hll, hdd]
    have := heap_alloc_new (w2.alloc (.deferred (some []))) (rec .ready none)
    simpa using this
  have hdd3 : w3.heap[dd]? = some (.deferred (some [])) := by
    rw [hw3, hdd, heap_alloc_old _ _ (by simp)]
    exact heap_alloc_new _ _
  have hpl := hp.lt
  have hM13 : Mod NoB w1 w3 := hN2.mod.tr hM3
  have hb3 : SlRd w3 b 1 (bys l) := (hb.no hm1).no hM13
  have hm1s := hm1.size
  let I : Nat → World → Prop := fun k w' => w'.heap[ll]? = some (rec .ready none) ∧ ∃ s, Blk w' q [s.val] 25 ∧ Sh.Own w' s 1 (bls ((List.range k).map (bitOf l))) ∧ FB w3 s ∧ Mod (fun x => x = q ∨ x = ll) w3 w'
  have hseq : Calls Tryz.prog 39 #[.func (.yield ll) #[] #[], .pointer (some ⟨p, 0, none⟩)] w3 (Ret fun v w' => I 256 w') := by
    refine call39 _ _ ?_
    unfold sh39
    have e0 : IntKind.i64.wrap (8 * (b.len : Int)) = 256 := by rw [wrap_i64 (by omega)]; omega
    refine ⟨b, (hp.no hM13).rd1 rfl, ?_⟩
    rw [e0]
    refine ⟨fun l' w' => match l' with | [.i _ x] => ∃ k : Nat, x = k ∧ k ≤ 256 ∧ I k w' | _ => False, fun l' _ => match l' with | [.i _ x] => (256 - x).toNat | _ => 0, ⟨0, rfl, by omega, hld3, ⟨none, 0, 0⟩, hq2.no hM3, own_nil _ _, FB.nil _, Mod.refl _ _⟩, ?_⟩
    rintro x w4 ⟨k, rfl, hk, hI4⟩
    refine condK_i (fun hlt => ?_) fun hge => ?_
    · have hk' : k < 256 := by simp at hlt; omega
      have hI4' := hI4
      obtain ⟨hl4, s, hq4, ho4, hf4, hm4⟩ := hI4
      have hne : ∀ x, x < w2.heap.size → x ≠ q → ¬ (x = q ∨ x = ll) := fun x hx hxq e => by omega
      have hp4 : Blk w4 p [b.val] T := (hp.no hM13).mod hm4 (hne p (by omega) (by omega))
      have hb4 : SlRd w4 b 1 (bys l) := hb3.mod hm4 fun x hx e => by have := hbl x hx; omega
      have e1 : IntKind.i64.wrap (Int.tdiv (k : Int) 8) = ((k / 8 : Nat) : Int) := by
        rw [show Int.tdiv (k : Int) 8 = ((k / 8 : Nat) : Int) from rfl, wrap_i64 (by omega)]
      have e2 : Int.tmod (k : Int) 8 = ((k % 8 : Nat) : Int) := rfl
      obtain ⟨ab, eab, hrb⟩ := rd_u8 hb4 (i := k / 8) (by omega)
      rw [e1, e2]
      refine ⟨b, hp4.rd1 rfl, by omega, ⟨by omega, by omega⟩, ?_⟩
      rw [eab]
      refine ⟨_, hrb, by omega, by omega, ?_⟩
      show yieldK _ _ _ _ _
      simp only [Int.toNat_natCast]
      have e3 : ((shrU8 l[k / 8] (k % 8) &&& 1) == 1) = bitOf l k := by
        unfold bitOf
        rw [← getD_at (d := 0) (by omega : k / 8 < l.length)]
      rw [e3]
      refine hY _ w4 _ hl4 ⟨hl4, ?_⟩
      have hll4 := lt_of_get hl4
      obtain ⟨hmp, hgp, hsp⟩ := put_mod (o := rec .busy none) hll4
      have hql := hq4.lt
      have hsl : ∀ x, s.blk = some x → x ≠ ll := fun x hx e => by have := hf4 x hx; omega
      have hq5 := hq4.mod hmp (show ¬ q = ll by omega)
      have ho5 := ho4.mod hmp hsl
      refine ⟨s, hq5.rd1 rfl, ?_⟩
      refine sem_truth (s := s) ho5 (by simp; omega) fun s' w5 ho6 hlen6 hm6 hbk6 => ?_
      have hsq : ∀ x, s.blk = some x → x ≠ q := fun x hx e => by have := hf4 x hx; omega
      have hq6 : Blk w5 q [s.val] 25 := hq5.mod hm6 fun e => hsq q e rfl
      refine semU_store1 (b := q) (o := 0) (l := [s.val]) (by kernel_rfl) (by kernel_rfl) rfl hq6 (by simp) fun w6 ht7 hq7 => ?_
      have hf6 : FB w3 s' := fun x hx => by
        rcases hbk6 with h | ⟨y, h, hy⟩
        · exact hf4 x (by rw [← h]; exact hx)
        · rw [h] at hx; cases hx; omega
      have hl7 : w6.heap[ll]? = some (rec .busy none) := by
        rw [ht7.mod.block ll (by have := hm6.size; omega) (by omega), hm6.block ll (by omega) (fun e => hsl ll e rfl)]; exact hgp
      refine ⟨hl7, ?_⟩
      have hll7 := lt_of_get hl7
      obtain ⟨hmr, hgr, hsr⟩ := put_mod (o := rec .ready none) hll7
      refine ⟨true, rfl, ?_⟩
      show condK false _ _
      refine condK_i (fun e => by cases e) fun _ => ⟨⟨k + 1, wrap_nat (by omega), by omega, hgr, s', ?_, ?_, hf6, ?_⟩, ?_⟩
      · have h7 : Blk w6 q [s'.val] 25 := hq7
        exact h7.mod hmr (by omega)
      · have h8 := (ho6.mod ht7.mod fun x hx e => by have := hf6 x hx; omega).mod hmr fun x hx e => by have := hf6 x hx; omega
        rw [List.range_succ, List.map_append]
        exact h8
      · have m1 : Mod (fun x => x = q ∨ x = ll) w3 (w4.putObj ll (rec .busy none)) := hm4.tr (hmp.mono fun x _ e => .inr e)
        have m2 : Mod (fun x => x = q ∨ x = ll) w3 w5 := m1.trans hm6 (fun _ _ h => h) fun x hx e => by have := hf4 x e; omega
        exact (m2.tr (ht7.mod.mono fun x _ e => .inl e)).tr (hmr.mono fun x _ e => .inr e)
      · rw [wrap_nat (by omega)]; (try simp only []); omega
    · have : k = 256 := by simp at hge; omega
      subst this
      exact hI4
  refine callK_of hseq ?_ (fun _ _ h => h.elim) (fun _ h => h)
  rintro v w4 ⟨hl4, s, hq4, ho4, hf4, hm4⟩
  left
  refine ⟨hl4, ?_⟩
  have hll4 := lt_of_get hl4
  obtain ⟨hmp, hgp, hsp⟩ := put_mod (o := rec .exhausted none) hll4
  have hql := hq4.lt
  have hq5 := hq4.mod hmp (show ¬ q = ll by omega)
  have ho5 := ho4.mod hmp fun x hx e => by have := hf4 x hx; omega
  have hm4s := hm4.size
  have hdd5 : (w4.putObj ll (rec .exhausted none)).heap[dd]? = some (.deferred (some [])) := by
    rw [hmp.block dd (by omega) (by omega), hm4.block dd (by omega) (by omega)]; exact hdd3
  refine ⟨s, hq5.rd1 rfl, hdd5, ?_⟩
  have hddl := lt_of_get hdd5
  obtain ⟨hmd, -, -⟩ := put_mod (w := w4.putObj ll (rec .exhausted none)) (o := .deferred none) hddl
  have hbt : (List.range 256).map (bitOf l) = bitsT l := by rw [bitsT, if_pos h32]
  rw [hbt] at ho5
  have hM4 := (hM13.fresh hm4 fun x e => by omega).fresh hmp fun x e => by omega
  exact ⟨s, rfl, ho5.mod hmd (fun x hx e => by have := hf4 x hx; omega), fun x hx => by have := hf4 x hx; have := hM13.size; omega, hM4.fresh hmd fun x e => by omega⟩
end Go.Proofs.YtknbihogadcnpaaGreat
