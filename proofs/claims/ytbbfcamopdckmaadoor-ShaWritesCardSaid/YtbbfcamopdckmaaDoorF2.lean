/- The kit's rows of rows, lent and kept; parts small enough, together. -/
import Derived.Test.YtbbfcamopdckmaaDoorF1
set_option linter.unusedSimpArgs false
set_option linter.unusedVariables false
set_option maxRecDepth 100000
namespace Go.Proofs.YtbbfcamopdckmaaDoor
open Go Go.Sh

def minSum : List (List UInt8) → Nat
  | [] => 0
  | p :: l => min p.length 3001 + minSum l
theorem minSum_app : ∀ (a b : List (List UInt8)), minSum (a ++ b) = minSum a + minSum b
  | [], b => by simp [minSum]
  | p :: a, b => by simp [minSum, minSum_app a b]; omega
theorem minSum_small : ∀ l : List (List UInt8), minSum l ≤ 3000 → l.flatten.length = minSum l
  | [], _ => rfl
  | p :: l, h => by
    simp only [minSum] at h
    have := minSum_small l (by omega)
    simp only [List.flatten_cons, List.length_append, minSum]
    omega
theorem row_blk {w : World} {parts : Slc} {pl : List (List UInt8)} {X : Nat → Prop} (h : PartsAt w parts pl X) : pl.length = parts.len := by
  obtain ⟨ss, h1, _, h3, _⟩ := h
  have := h1.1
  simp at this; omega

theorem c_smallL {w : World} {parts : Slc} {pl : List (List UInt8)} {X : Nat → Prop} (h : PartsAt w parts pl X) (hn : parts.len ≤ 1000000000000000000) :
    Calls Tryd.prog 14 #[.slice parts.a parts.len parts.cap] w (Ret fun v w' => ∃ b : Bool, v = .bool b ∧ w' = w ∧ (b = true → parts.len ≤ 40 ∧ pl.flatten.length ≤ 3000)) := by
  refine call14 _ ?_
  unfold sh14
  have hL := row_blk h
  obtain ⟨ss, h1, h2, h3, h4⟩ := h
  refine ⟨fun l' w' => match l' with | [.i _ n, .i _ i] => ∃ k : Nat, i = k ∧ k ≤ pl.length ∧ k ≤ 41 ∧ n = (minSum (pl.take k) : Nat) ∧ minSum (pl.take k) ≤ 6001 ∧ w' = w | _ => False, fun l' _ => match l' with | [.i _ n, .i _ i] => (41 - i).toNat | _ => 0,
    ⟨0, rfl, by omega, by omega, by simp [minSum], by simp [minSum], rfl⟩, ?_⟩
  rintro n i w1 ⟨k, rfl, hk, hk41, rfl, hm, rfl⟩
  refine ⟨fun l' w' => w' = w1 ∧ ∃ b : Bool, l' = [.b b] ∧ (b = true → k < pl.length ∧ k < 41 ∧ minSum (pl.take k) ≤ 3000) ∧ (b = false → k = pl.length ∨ k = 41 ∨ 3000 < minSum (pl.take k)), ?_, ?_⟩
  · refine condK_i (fun ha => condK_i (fun hb => ?_) fun hb => ?_) fun ha => ?_
    · refine ⟨rfl, _, rfl, fun e => ?_, fun e => ?_⟩
      · simp at ha hb e; omega
      · simp at ha hb e; omega
    · exact ⟨rfl, _, rfl, fun e => (by cases e), fun _ => (by simp at hb; omega)⟩
    · exact ⟨rfl, _, rfl, fun e => (by cases e), fun _ => (by simp at ha; omega)⟩
  rintro b w2 ⟨rfl, b', he, hb1, hb2⟩
  simp at he; subst he
  refine condK_i (fun hb => ?_) fun hb => ?_
  · obtain ⟨c1, c2, c3⟩ := hb1 hb
    obtain ⟨a, ea, hr⟩ := rd_slc h1 (i := k) (by omega)
    simp only [ea, Int.toNat_natCast]
    refine ⟨⟨by omega, by omega⟩, ss[k], hr, ?_⟩
    have hlk := rd_len8 (h4 k (by omega) c1).1
    have e1 : minSum (pl.take (k + 1)) = minSum (pl.take k) + min ss[k].len 3001 := by
      rw [take_snoc c1, minSum_app]; simp [minSum, hlk]
    have e2 : IntKind.i64.wrap (((minSum (pl.take k) : Nat) : Int) + (if (3001 : Int) < (ss[k].len : Int) then (3001 : Int) else (ss[k].len : Int))) = ((minSum (pl.take (k + 1)) : Nat) : Int) := by
      rw [e1]
      split <;> rw [wrap_i64 (by omega)] <;> omega
    rw [e2, wrap_nat (by omega)]
    exact ⟨⟨k + 1, rfl, by omega, by omega, rfl, by omega, by trivial⟩, by (try simp only []); omega⟩
  · have hx := hb2 hb
    refine condK_i (fun h40 => ?_) fun h40 => ⟨_, rfl, rfl, fun e => by cases e⟩
    have h40 : parts.len ≤ 40 := by simp at h40; omega
    refine ⟨_, rfl, rfl, fun e => ⟨h40, ?_⟩⟩
    have e3 : minSum (pl.take k) ≤ 3000 := by simp at e; omega
    have hkl : k = pl.length := by omega
    rw [hkl, List.take_length] at e3
    rw [minSum_small _ e3]; exact e3

theorem take_flat {pl : List (List UInt8)} {k : Nat} (h : k < pl.length) : (pl.take (k + 1)).flatten = (pl.take k).flatten ++ pl[k] := by
  rw [take_snoc h, List.flatten_append, List.flatten_cons, List.flatten_nil, List.append_nil]
theorem flat_le : ∀ (pl : List (List UInt8)) (k : Nat), (pl.take k).flatten.length ≤ pl.flatten.length
  | [], k => by simp
  | p :: l, 0 => by simp
  | p :: l, k + 1 => by
    have := flat_le l k
    simp only [List.take_succ_cons, List.flatten_cons, List.length_append]; omega
theorem one_le {pl : List (List UInt8)} {k : Nat} (h : k < pl.length) : pl[k].length ≤ pl.flatten.length := by
  have h1 := flat_le pl (k + 1)
  rw [take_flat h, List.length_append] at h1
  omega

theorem c_together {w : World} {parts : Slc} {pl : List (List UInt8)} {X : Nat → Prop} (h : PartsAt w parts pl X) (hn : pl.flatten.length ≤ 1000000000) (hp : parts.len ≤ 1000000000) (hX : ∀ x, X x → x < w.heap.size) :
    Calls Tryd.prog 19 #[.slice parts.a parts.len parts.cap] w (Ret fun v w' => ∃ x : Slc, v = x.val ∧ Sh.Own w' x 1 (bys pl.flatten) ∧ FB w x ∧ Mod NoB w w') := by
  refine call19 _ ?_
  unfold sh19
  obtain ⟨i5', h51, h52, h53, h54⟩ := i5
  have hL := row_blk h
  obtain ⟨ss, h1, h2, h3, h4⟩ := h
  refine ⟨fun l' w' => match l' with | [.sl q, .i _ i] => ∃ k : Nat, i = k ∧ k ≤ pl.length ∧ Sh.Own w' q 1 (bys (pl.take k).flatten) ∧ FB w q ∧ Mod NoB w w' | _ => False, fun l' _ => match l' with | [.sl q, .i _ i] => (parts.len - i).toNat | _ => 0,
    ⟨0, rfl, by omega, own_nil _ _, FB.nil _, Mod.refl _ _⟩, ?_⟩
  rintro q i w1 ⟨k, rfl, hk, hq, hqf, hm1⟩
  refine condK_i (fun hlt => ?_) fun hge => ?_
  · have hk' : k < pl.length := by simp at hlt; omega
    obtain ⟨a, ea, hr⟩ := rd_slc h1 (i := k) (by omega)
    simp only [ea, Int.toNat_natCast]
    have hrow := (h4 k (by omega) hk').1
    have hlk := rd_len8 hrow
    have hql := rd_len8 hq.rd
    have g1 := flat_le pl k
    have g2 := one_le hk'
    refine ⟨⟨by omega, by omega⟩, ss[k], hr.mod hm1 fun h => h, sem_append u26 h51 h52 h53 rfl h54 hq (hrow.no hm1) (bys_one _) (by omega) (by omega) fun s2 w2 ho2 hl2 hb2 hm2 => ⟨s2, rfl, ?_⟩⟩
    rw [wrap_nat (by omega)]
    rw [← bys_app, ← take_flat hk'] at ho2
    exact ⟨⟨k + 1, rfl, by omega, ho2, hqf.step hm1.size hb2, hqf.mod hm1 hm2⟩, by (try simp only []); omega⟩
  · have hk' : k = pl.length := by simp at hge; omega
    subst hk'
    rw [List.take_length] at hq
    exact ⟨q, rfl, hq, hqf, hm1⟩

/-- rows that are lent: each is, and rows of marks lie behind them -/
def LentR (w0 w : World) (x : Slc) (pl : List (List UInt8)) : Prop :=
  ∃ ss ms : List Slc, ss.length = pl.length ∧ ms.length = 12 ∧ x.len = pl.length ∧ Sh.Own w ⟨x.a, x.len + 12, x.cap⟩ 1 ((ss ++ ms).map Slc.val) ∧ FB w0 x ∧
    (∀ i (h : i < ss.length) (h' : i < pl.length), LentB w ss[i] pl[i] ∧ FB w0 ss[i]) ∧ (∀ j (h : j < ms.length), SlRd w ms[j] 1 (bys (mt 1 j)) ∧ FB w0 ms[j] ∧ ∀ y, ms[j].blk = some y → y < w.heap.size)
theorem LentR.no {w0 w w' : World} {x : Slc} {pl : List (List UInt8)} (h : LentR w0 w x pl) (hm : Mod NoB w w') : LentR w0 w' x pl := by
  obtain ⟨ss, ms, h1, h2, h3, h4, h5, h6, h7⟩ := h
  exact ⟨ss, ms, h1, h2, h3, h4.no hm, h5, fun i hi hi' => ⟨(h6 i hi hi').1.no hm, (h6 i hi hi').2⟩, fun j hj => ⟨(h7 j hj).1.no hm, (h7 j hj).2.1, fun y hy => Nat.lt_of_lt_of_le ((h7 j hj).2.2 y hy) hm.size⟩⟩
theorem LentR.parts {w0 w : World} {x : Slc} {pl : List (List UInt8)} (h : LentR w0 w x pl) : PartsAt w x pl fun y => y < w.heap.size := by
  obtain ⟨ss, ms, h1, h2, h3, h4, h5, h6, h7⟩ := h
  have hr := h4.rd.take (n := x.len) (by simp only []; omega)
  have e : (((ss ++ ms).map Slc.val).take (x.len * 1)) = ss.map Slc.val := by rw [Nat.mul_one, List.map_append, List.take_append_of_le_length (by simp; omega), List.take_of_length_le (by simp; omega)]
  rw [e] at hr
  exact ⟨ss, hr, fun y hy => h4.lt hy, h1, fun i hi hi' => ⟨(h6 i hi hi').1.rd, fun y hy => (h6 i hi hi').1.lt hy⟩⟩

/-- one row behind others, in the room -/
theorem sem_rowIn {w : World} {b n c : Nat} {vs : List Slc} {x : Slc} {K : Slc → World → Prop} (ho : Sh.Own w ⟨some ⟨b, 0, none⟩, n, c⟩ 1 (vs.map Slc.val)) (hc : n + 1 ≤ c)
    (hK : ∀ w', Sh.Own w' ⟨some ⟨b, 0, none⟩, n + 1, c⟩ 1 ((vs ++ [x]).map Slc.val) → Mod (fun y => y = b) w w' → K ⟨some ⟨b, 0, none⟩, n + 1, c⟩ w') :
    semK Tryd.prog (Instr.buildSlice 22 1 #[(0, (.slice x.a x.len x.cap))]) w fun v w2 => ∃ x1 : Slc, v = (.slice x1.a x1.len x1.cap) ∧ semK Tryd.prog (Builtin.append_ #[22, 22] 22 #[(.slice (some ⟨b, 0, none⟩) n c), (.slice x1.a x1.len x1.cap)]) w2 fun v1 w3 => ∃ x2 : Slc, v1 = (.slice x2.a x2.len x2.cap) ∧ K x2 w3 := by
  obtain ⟨i26', h1, h2, h3, h4⟩ := i26
  refine sem_rows [x] rfl rfl (by omega) (by omega) fun y e w1 hN hy hb hoy => ⟨y, rfl, ?_⟩
  have hyl : y.len = 1 := by subst hy; rfl
  have hbw : b < w.heap.size := ho.lt (by rw [Slc.blk_mk, if_neg (by omega)])
  refine sem_append_in (s := ⟨some ⟨b, 0, none⟩, n, c⟩) u22 h1 h3 (ho.no hN.mod) hoy.rd (fun v hv => by obtain ⟨z, _, rfl⟩ := List.mem_map.1 hv; rfl) (by simp only []; omega) fun w2 ho2 hm2 hs2 => ⟨⟨some ⟨b, 0, none⟩, n + 1, c⟩, by simp only [hyl], ?_⟩
  rw [hyl] at ho2
  refine hK w2 (by rw [List.map_append]; exact ho2) (hN.mod.no (hm2.mono fun z _ hz => ?_))
  rw [Slc.blk_mk] at hz
  split at hz
  · cases hz
  · simpa using hz.symm

theorem c_lentRows {w : World} {s : Slc} {pl : List (List UInt8)} {X : Nat → Prop} (hp : PartsAt w s pl X) (hX : ∀ x, X x → x < w.heap.size) (hn : pl.flatten.length ≤ 1000000000) (hs : s.len ≤ 1000000000) :
    Calls Tryd.prog 15 #[.slice s.a s.len s.cap] w (Ret fun v w' => ∃ x : Slc, v = x.val ∧ LentR w w' x pl ∧ Mod NoB w w') := by
  refine call15 _ ?_
  unfold sh15
  obtain ⟨i26', h1, h2, h3, h4⟩ := i26
  have hL := row_blk hp
  rw [show IntKind.i64.wrap ((s.len : Int) + 12) = ((s.len + 12 : Nat) : Int) by rw [wrap_i64 (by omega)]; omega]
  refine sem_makeSlice (l := 0) (c := s.len + 12) u22 h1 h2 h3 rfl h4 rfl rfl (by omega) (by omega) (by omega) fun b w1 hN1 hb1 ho1 => ⟨⟨_, _, _⟩, rfl, ?_⟩
  have hat := hN1.at_; have hsz := hN1.size
  obtain ⟨ss0, p1, p2, p3, p4⟩ := hp
  refine ⟨fun l' w' => match l' with | [.sl q, .i _ i] => ∃ (k : Nat) (ss : List Slc), i = k ∧ k ≤ pl.length ∧ q = ⟨some ⟨b, 0, none⟩, k, s.len + 12⟩ ∧ ss.length = k ∧ Sh.Own w' q 1 (ss.map Slc.val) ∧ (∀ i (h : i < ss.length) (h' : i < pl.length), LentB w' ss[i] pl[i] ∧ FB w1 ss[i]) ∧ Mod NoB w w' ∧ w1.heap.size ≤ w'.heap.size | _ => False,
    fun l' _ => match l' with | [.sl q, .i _ i] => (s.len - i).toNat | _ => 0, ⟨0, [], rfl, by omega, rfl, rfl, ho1, fun i hi => by simp at hi, hN1.mod, Nat.le_refl _⟩, ?_⟩
  rintro q i w2 ⟨k, ss, rfl, hk, rfl, hss, ho2, hl2, hm2, hz2⟩
  refine condK_i (fun hlt => ?_) fun hge => ?_
  · have hk' : k < pl.length := by simp at hlt; omega
    obtain ⟨a, ea, hr⟩ := rd_slc p1 (i := k) (by omega)
    simp only [ea, Int.toNat_natCast]
    have hrow := (p4 k (by omega) hk').1
    have g2 := one_le hk'
    refine ⟨⟨by omega, by omega⟩, ss0[k], hr.mod hm2 fun h => h, callK_ret (c_lentBytes (hrow.no hm2) (by omega)) ?_⟩
    rintro v w3 ⟨x, rfl, hx, hxf, hm3⟩
    refine ⟨x, rfl, sem_rowIn (vs := ss) (ho2.no hm3) (by omega) fun w4 ho4 hm4 => ?_⟩
    rw [wrap_nat (by omega)]
    have hxb : ∀ y, x.blk = some y → ¬ y = b := fun y hy e => by have := hxf y hy; omega
    refine ⟨⟨k + 1, ss ++ [x], rfl, by omega, rfl, by simp [hss], ho4, fun i hi hi' => ?_, (hm2.tr hm3).fresh hm4 fun y hy => by omega, by have := hm3.size; have := hm4.size; omega⟩, by (try simp only []); omega⟩
    rcases Nat.lt_or_ge i ss.length with h | h
    · rw [List.getElem_append_left h]
      obtain ⟨g1, g3⟩ := hl2 i h hi'
      exact ⟨(g1.no hm3).mod hm4 fun y hy e => by have := g3 y hy; omega, g3⟩
    · have : i = k := by simp at hi; omega
      subst this
      rw [List.getElem_append_right (by omega)]
      simp only [hss, Nat.sub_self, List.getElem_cons_zero]
      exact ⟨hx.mod hm4 hxb, hxf.le hz2⟩
  · have hk' : k = pl.length := by simp at hge; omega
    subst hk'
    refine ⟨fun l' w' => match l' with | [.sl q, .i _ i] => ∃ (k : Nat) (ms : List Slc), i = k ∧ k ≤ 12 ∧ q = ⟨some ⟨b, 0, none⟩, pl.length + k, s.len + 12⟩ ∧ ms.length = k ∧ Sh.Own w' q 1 ((ss ++ ms).map Slc.val) ∧ (∀ i (h : i < ss.length) (h' : i < pl.length), LentB w' ss[i] pl[i] ∧ FB w1 ss[i]) ∧ (∀ j (h : j < ms.length), SlRd w' ms[j] 1 (bys (mt 1 j)) ∧ FB w1 ms[j] ∧ ∀ y, ms[j].blk = some y → y < w'.heap.size) ∧ Mod NoB w w' ∧ w1.heap.size ≤ w'.heap.size | _ => False,
      fun l' _ => match l' with | [.sl q, .i _ i] => (12 - i).toNat | _ => 0, ⟨0, [], rfl, by omega, rfl, rfl, by simpa using ho2, hl2, fun j hj => by simp at hj, hm2, hz2⟩, ?_⟩
    rintro q i w3 ⟨k, ms, rfl, hk, rfl, hms, ho3, hl3, hr3, hm3, hz3⟩
    refine condK_i (fun hlt => ?_) fun hge => ?_
    · have hk' : k < 12 := by simp at hlt; omega
      refine callK_ret c_markRow ?_
      rintro v w4 ⟨x, rfl, hx, hxf, hm4⟩
      refine ⟨x, rfl, sem_rowIn (vs := ss ++ ms) (ho3.no hm4) (by show pl.length + k + 1 ≤ s.len + 12; omega) fun w5 ho5 hm5 => ?_⟩
      rw [wrap_nat (by omega)]
      have hxb : ∀ y, x.blk = some y → ¬ y = b := fun y hy e => by have := hxf y hy; omega
      have h45 := hm5.size
      have h34 := hm4.size
      refine ⟨⟨k + 1, ms ++ [x], rfl, by omega, by rw [Nat.add_assoc], by simp [hms], by rw [← List.append_assoc]; exact ho5, fun i hi hi' => ?_, fun j hj => ?_, (hm3.tr hm4).fresh hm5 fun y hy => by omega, by omega⟩, by (try simp only []); omega⟩
      · obtain ⟨g1, g3⟩ := hl3 i hi hi'
        exact ⟨(g1.no hm4).mod hm5 fun y hy e => by have := g3 y hy; omega, g3⟩
      · rcases Nat.lt_or_ge j ms.length with h | h
        · obtain ⟨g1, g2, g3⟩ := hr3 j h
          simp only [List.getElem_append_left h]
          exact ⟨(g1.no hm4).mod hm5 fun y hy e => by have := g2 y hy; omega, g2, fun y hy => by have := g3 y hy; omega⟩
        · have : j = k := by simp at hj; omega
          subst this
          simp only [List.getElem_append_right h, hms, Nat.sub_self, List.getElem_cons_zero]
          exact ⟨(hx.mod hm5 hxb).rd, hxf.le hz3, fun y hy => by have := hx.lt hy; omega⟩
    · have hk' : k = 12 := by simp at hge; omega
      subst hk'
      refine ⟨⟨by omega, by simp only []; omega⟩, ?_⟩
      rw [Int.toNat_natCast, cutSl0 (by simp only []; omega) (by simp only []; omega)]
      refine ⟨_, rfl, ⟨ss, ms, hss, hms, by simp only []; omega, ?_, FB.new (by omega), fun i hi hi' => ⟨(hl3 i hi hi').1, (hl3 i hi hi').2.le (by omega)⟩, fun j hj => ⟨(hr3 j hj).1, (hr3 j hj).2.1.le (by omega), (hr3 j hj).2.2⟩⟩, hm3⟩
      simp only []
      rw [show s.len + 12 = pl.length + 12 by omega]
      rw [show s.len + 12 = pl.length + 12 by omega] at ho3
      exact ho3
end Go.Proofs.YtbbfcamopdckmaaDoor
