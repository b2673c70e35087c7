/- SHA: the sum of parts; comparing bytes; the chapter's examples. -/
import Derived.Test.YtbbfcamopdckmaaDoorS8c
set_option linter.unusedSimpArgs false
set_option linter.unusedVariables false
namespace Go.Proofs.YtbbfcamopdckmaaDoor
open Go Go.Sh

theorem c_sum {w : World} {parts : Slc} {pl : List (List UInt8)} {X : Nat → Prop} (hg : Glob w) (hp : PartsAt w parts pl X) (hXl : ∀ x, X x → x < w.heap.size) (hn : (pl.flatten).length ≤ 900000000) (hm : pl.length ≤ 1000000000) :
    Calls Tryd.prog 16 #[.slice parts.a parts.len parts.cap] w (Ret fun v w' => ∃ x : Slc, v = x.val ∧ Sh.Own w' x 1 (bys (sha pl.flatten)) ∧ FB w x ∧ Mod NoB w w') := by
  refine call16 _ ?_
  unfold sh16
  refine callK_ret (c_new hg) ?_
  rintro v w1 ⟨p, rfl, hh1, hp1, hs1, hm1⟩
  refine ⟨_, rfl, ?_⟩
  refine callK_ret (c_write hh1 (hg.no hm1) (hp.mod hm1 fun _ _ h => h) (fun e => by have := hXl _ e; omega) (fun x hx => by simp at hx) (fun x e => by have := hXl _ e; omega) (by rw [List.length_nil, Nat.zero_add]; omega) hm) ?_
  rintro v w2 ⟨rfl, s2, hh2, hb2, hm2⟩
  have hm2' : Mod NoB w w2 := hm1.fresh hm2 fun x e => e.elim (fun e => by omega) fun e => by simp at e
  refine ⟨_, rfl, callK_ret (c_sumH hh2 (hg.no hm2') (by simpa using hn)) ?_⟩
  rintro v w3 ⟨x, rfl, ho, hf, hm3⟩
  rw [List.nil_append] at ho
  exact ⟨x, rfl, x, rfl, ho, hf.le hm2'.size, hm2'.tr hm3⟩

theorem c_same {w : World} {a b : Slc} {l m : List UInt8} (ha : SlRd w a 1 (bys l)) (hb : SlRd w b 1 (bys m)) (hn : l.length ≤ 9000000000000000000) :
    Calls Tryd.prog 17 #[.slice a.a a.len a.cap, .slice b.a b.len b.cap] w (Ret fun v w' => v = .bool (decide (l = m)) ∧ Mod NoB w w') := by
  refine call17 _ _ ?_
  unfold sh17
  have hla := rd_len8 ha; have hlb := rd_len8 hb
  refine condK_i (fun h => ⟨?_, Mod.refl _ _⟩) (fun h => ?_)
  · have : l ≠ m := by rintro rfl; simp at h; omega
    simp [this]
  · have hlen : l.length = m.length := by simp at h; omega
    refine ⟨fun l' w' => match l' with | [.i _ x] => ∃ k : Nat, x = k ∧ k ≤ l.length ∧ l.take k = m.take k ∧ Mod NoB w w' | _ => False, fun l' _ => match l' with | [.i _ x] => (l.length - x).toNat | _ => 0, ⟨0, rfl, by omega, rfl, Mod.refl _ _⟩, ?_⟩
    rintro x w1 ⟨k, rfl, hk, hkk, hm1⟩
    refine condK_i (fun h => ?_) (fun h => ?_)
    · have hk' : k < l.length := by simp at h; omega
      obtain ⟨a1, ea, hra⟩ := rd_u8 ha hk'
      obtain ⟨a2, eb, hrb⟩ := rd_u8 hb (i := k) (by omega)
      rw [ea, eb]
      refine ⟨⟨by omega, by omega⟩, ⟨by omega, by omega⟩, _, Rd.drew (hra.mod hm1 fun h => h), _, Rd.drew (hrb.mod hm1 fun h => h), condK_i (fun hne => ⟨?_, Mod.dr hm1⟩) (fun hne => ⟨⟨k + 1, wrap_nat (by omega), by omega, ?_, Mod.dr hm1⟩, ?_⟩)⟩
      · have : l ≠ m := by rintro rfl; simp at hne
        simp [this]
      · have : l[k] = m[k]'(by omega) := by simpa using hne
        rw [take_snoc hk', take_snoc (by omega), hkk, this]
      · rw [wrap_nat (by omega)]; (try simp only []); omega
    · have hk' : k = l.length := by simp at h; omega
      rw [hk', List.take_length, hlen, List.take_length] at hkk
      exact ⟨by simp [hkk], hm1⟩

theorem c_begins {w : World} {a b : Slc} {l m : List UInt8} (ha : SlRd w a 1 (bys l)) (hb : SlRd w b 1 (bys m)) (hl : l.length = 64) (hm : m.length ≤ 64) :
    Calls Tryd.prog 37 #[.slice a.a a.len a.cap, .slice b.a b.len b.cap] w (Ret fun v w' => v = .bool (decide (l.take m.length = m)) ∧ Mod NoB w w') := by
  refine call37 _ _ ?_
  unfold sh37
  have hla := rd_len8 ha; have hlb := rd_len8 hb
  have hac := ha.2.1
  refine condK_i (fun h => ?_) (fun h => by simp at h; omega)
  refine ⟨⟨by omega, by omega⟩, ?_⟩
  simp only [Int.toNat_natCast]
  have hc := ha.cut (l := 0) (n := b.len) (m := a.cap) (by omega) (by omega) (by omega) (Nat.le_refl _)
  rw [Nat.sub_zero, bys_cut, List.drop_zero] at hc
  refine callK_ret (c_same hc hb (by rw [List.length_take]; omega)) ?_
  rintro v w1 ⟨rfl, hm1⟩
  exact ⟨_, rfl, by rw [hlb], hm1⟩

/-- a literal of bytes -/
theorem sem_bytes {K : Value → World → Prop} {w : World} (l : List UInt8) {n : Nat} {ps : Array (Nat × Value)} (hps : ps.toList = ((bys l).zipIdx 0).map fun x => (x.2, x.1)) (hn : n = l.length) (h0 : 0 < n) (hs : n ≤ 10000)
    (hK : ∀ (x : Slc) b w', New w w' b (.cells (bys l).toArray 5) → x = ⟨some ⟨b, 0, none⟩, n, n⟩ → Blk w' b (bys l) 5 → Sh.Own w' x 1 (bys l) → K x.val w') : semK Tryd.prog (Instr.buildSlice 26 n ps) w K := by
  obtain ⟨i5', h51, h52, h53, h54⟩ := i5
  refine sem_lit (l := bys l) (bys l) u26 h51 h52 h53 (by decide) (by simpa using hn) h0 (by omega) hps (fun v hv => ?_) ?_ fun b w' hN hb => hK _ b w' hN rfl hb (own_whole hb (by simp [hn]))
  · obtain ⟨y, _, rfl⟩ := List.mem_map.1 hv; rfl
  · have : ∀ l : List UInt8, (bys l).flatMap (fun v => v.cells.toList) = bys l := by
      intro l
      induction l with
      | nil => rfl
      | cons a l ih => simp only [bys, List.map_cons, List.flatMap_cons] at ih ⊢; rw [ih]; rfl
    exact this l
/-- a literal of rows -/
theorem sem_rows {K : Value → World → Prop} {w : World} (l : List Slc) {n : Nat} {ps : Array (Nat × Value)} (hps : ps.toList = ((l.map Slc.val).zipIdx 0).map fun x => (x.2, x.1)) (hn : n = l.length) (h0 : 0 < n) (hs : n ≤ 10000)
    (hK : ∀ (x : Slc) b w', New w w' b (.cells (l.map Slc.val).toArray 26) → x = ⟨some ⟨b, 0, none⟩, n, n⟩ → Blk w' b (l.map Slc.val) 26 → Sh.Own w' x 1 (l.map Slc.val) → K x.val w') : semK Tryd.prog (Instr.buildSlice 22 n ps) w K := by
  obtain ⟨i5', h51, h52, h53, h54⟩ := i26
  refine sem_lit (l := l.map Slc.val) (l.map Slc.val) u22 h51 h52 h53 (by decide) (by simpa using hn) h0 (by omega) hps (fun v hv => ?_) ?_ fun b w' hN hb => hK _ b w' hN rfl hb (own_whole hb (by simp [hn]))
  · obtain ⟨y, _, rfl⟩ := List.mem_map.1 hv; rfl
  · have : ∀ l : List Slc, (l.map Slc.val).flatMap (fun v => v.cells.toList) = l.map Slc.val := by
      intro l
      induction l with
      | nil => rfl
      | cons a l ih => simp only [List.map_cons, List.flatMap_cons] at ih ⊢; rw [ih]; rfl
    exact this l
theorem blk_of_eq {x : Slc} {b n : Nat} (h : x = ⟨some ⟨b, 0, none⟩, n, n⟩) : ∀ y, x.blk = some y → y = b := by
  subst h; intro y hy; rw [Slc.blk_mk] at hy; split at hy <;> simp_all

/-- rows out of slices at hand -/
theorem parts_of {w : World} {x : Slc} {ss : List Slc} {pl : List (List UInt8)} {X : Nat → Prop} (hx : SlRd w x 1 (ss.map Slc.val)) (hX : ∀ b, x.blk = some b → X b) (hl : ss.length = pl.length)
    (h : ∀ i (h : i < ss.length) (h' : i < pl.length), SlRd w ss[i] 1 (bys pl[i]) ∧ ∀ x, ss[i].blk = some x → X x) : PartsAt w x pl X := ⟨ss, hx, hX, hl, h⟩
theorem rd_blk_lt {w : World} {s : Slc} {l : List Value} (h : SlRd w s 1 l) (hl : 0 < l.length) : ∀ x, s.blk = some x → x < w.heap.size := by
  intro x hx
  rcases h.2.2 with h0 | ⟨a, e1, e2⟩
  · subst h0; simp at hl
  · have := rd_lt e2 hl
    unfold Slc.blk at hx
    split at hx
    · cases hx
    · simp [e1] at hx; omega

set_option maxRecDepth 100000 in
theorem c_awake {w : World} (hg : Glob w) : Calls Tryd.prog 13 #[] w (Ret fun v w' => v = .bool true ∧ Mod NoB w w') := by
  refine call13 ?_
  unfold sh13
  have hp0 : PartsAt w ⟨none, 0, 0⟩ [] NoB := ⟨[], rd_nil _ _, fun x hx => by simp at hx, rfl, fun i hi => by simp at hi⟩
  refine callK_ret (c_sum (parts := ⟨none, 0, 0⟩) hg hp0 (fun x e => e.elim) (by simp) (by simp)) ?_
  rintro v w1 ⟨x, rfl, ho1, hf1, hm1⟩
  have hd0 : (sha []).length = 64 := by rw [sha, shaBy_eq]; exact digest_len (st_len _)
  refine ⟨x, rfl, sem_bytes [207, 131, 225, 53] rfl rfl (by omega) (by omega) fun y b w2 hN2 hy hb2 ho2 => ⟨y, rfl, ?_⟩⟩
  refine callK_ret (c_begins (ho1.no hN2.mod).rd ho2.rd (by simpa using hd0) (by simp)) ?_
  rintro v w3 ⟨rfl, hm3⟩
  have hm3' := (hm1.tr hN2.mod).tr hm3
  refine ⟨_, rfl, condK_i (fun _ => ?_) (fun h => ?_)⟩
  · refine sem_bytes [97] rfl rfl (by omega) (by omega) fun y4 b4 w4 hN4 hy4 hb4 ho4 => ⟨y4, rfl, ?_⟩
    subst hy4
    refine sem_convLit u26 (by kernel_rfl) hb4 fun w5 hb5 ht5 => ⟨⟨_, _, _⟩, rfl, ?_⟩
    have hat4 := hN4.at_
    have hm5 : Mod NoB w w5 := (hm3'.tr hN4.mod).fresh ht5.mod fun x e => by have := hm3'.size; omega
    refine sem_bytes [98, 99] rfl rfl (by omega) (by omega) fun y6 b6 w6 hN6 hy6 hb6 ho6 => ⟨y6, rfl, ?_⟩
    subst hy6
    refine sem_convLit u26 (by kernel_rfl) hb6 fun w7 hb7 ht7 => ⟨⟨_, _, _⟩, rfl, ?_⟩
    have hat6 := hN6.at_
    have hm7 : Mod NoB w w7 := (hm5.tr hN6.mod).fresh ht7.mod fun x e => by have := hm5.size; omega
    have hb57 : Blk w7 b4 (bys [97]) 5 := (hb5.no hN6.mod).mod ht7.mod (by have := hb5.lt; omega)
    refine sem_rows [⟨some ⟨b4, 0, none⟩, 1, 1⟩, ⟨some ⟨b6, 0, none⟩, 2, 2⟩] rfl rfl (by omega) (by omega) fun z bz w8 hN8 hz hbz hoz => ⟨z, rfl, ?_⟩
    have hm8 := hm7.tr hN8.mod
    have hs8 := hN8.size
    have ha8 := hN8.at_
    have hl4 := hb57.lt
    have hl6 := hb7.lt
    refine callK_ret (c_sum (hg.no hm8) (parts_of (pl := [[97], [98, 99]]) (X := fun x => x < w8.heap.size) hoz.rd (fun x hx => hoz.lt hx) rfl fun i hi hi' => ?_) (fun x e => e) (by simp) (by simp)) ?_
    · match i, hi, hi' with
      | 0, _, _ =>
        have hoo := own_whole (n := 1) (k := 1) (hb57.no hN8.mod) rfl
        exact ⟨hoo.rd, fun x hx => hoo.lt hx⟩
      | 1, _, _ =>
        have hoo := own_whole (n := 2) (k := 1) (hb7.no hN8.mod) rfl
        exact ⟨hoo.rd, fun x hx => hoo.lt hx⟩
    rintro v w9 ⟨x9, rfl, ho9, hf9, hm9⟩
    have hd1 : (sha [97, 98, 99]).length = 64 := by rw [sha, shaBy_eq]; exact digest_len (st_len _)
    refine ⟨x9, rfl, sem_bytes [221, 175, 53, 161] rfl rfl (by omega) (by omega) fun y10 b10 w10 hN10 hy10 hb10 ho10 => ⟨y10, rfl, ?_⟩⟩
    refine callK_ret (c_begins (ho9.no hN10.mod).rd ho10.rd (by simpa using hd1) (by simp)) ?_
    rintro v w11 ⟨rfl, hm11⟩
    refine ⟨_, rfl, ?_, ((hm8.tr hm9).tr hN10.mod).tr hm11⟩
    have := sha1
    simp only [List.flatten_cons, List.flatten_nil, List.append_nil, List.cons_append, List.nil_append, List.length_cons, List.length_nil, Nat.zero_add, Nat.reduceAdd, this, decide_true]
  · have := sha0
    simp only [List.flatten_nil, List.length_cons, List.length_nil, Nat.zero_add, Nat.reduceAdd, this, decide_true] at h
    cases h
end Go.Proofs.YtbbfcamopdckmaaDoor
