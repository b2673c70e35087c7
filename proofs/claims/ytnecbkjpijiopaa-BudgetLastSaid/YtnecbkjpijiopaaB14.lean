/- BudgetLast: the walk. -/
import Derived.Test.YtnecbkjpijiopaaB13
set_option linter.unusedSimpArgs false
set_option linter.unusedVariables false
namespace Go.Proofs.Ytnecbkjpijiopaa
open Go Go.Sh

theorem c6 {w : World} {sess bad peer : Int} {l : Slc} (hl : Dos w l) : Calls Try.prog 6 #[.int .i64 sess, .int .i64 bad, .int .i64 peer, .slice l.a l.len l.cap] w (Ret fun v w' => v = .bool true ∧ Mod NoB w w') := by
  refine call6 _ _ _ _ ?_
  unfold sh6
  refine callK_ret c7 ?_
  rintro v w1 ⟨rfl, hm1⟩
  refine ⟨_, rfl, condK_i (fun h => by simp at h) (fun _ => condK_i (fun _ => ⟨rfl, hm1⟩) (fun hle => ?_))⟩
  have hle' : l.len ≤ 500 := by have := of_decide_eq_false hle; omega
  obtain ⟨i3, h31, h32, h33, h34⟩ := i3
  obtain ⟨i29, g1, g2, g3, g4⟩ := i29
  refine callK_ret c10 ?_
  rintro v w2 ⟨rfl, rfl⟩
  have hpr := pick_range sess
  refine ⟨_, rfl, ?_⟩
  rw [wrap_i64 (e := 1 + pickv sess 6) (by omega)]
  obtain ⟨M, hM, hM1⟩ : ∃ M : Int, M = 1 + pickv sess 6 ∧ 1 ≤ M := ⟨_, rfl, by omega⟩
  rw [← hM]
  have hmax : max1 M = M := by unfold max1; rw [if_neg (by omega)]
  clear hM hpr
  refine callK_ret c8 ?_
  rintro v w3 ⟨a, Sa, rfl, hBa, hSa, hm3⟩
  refine ⟨_, rfl, callK_ret c8 ?_⟩
  rintro v w4 ⟨o, So, rfl, hBo, hSo, hm4⟩
  rw [hmax] at hBa hBo
  have hT0 : Tw none w w4 a o (bst0 M (max1 bad)) (bst0 M (max1 bad)) ⟨none, 0, 0⟩ [] :=
    ⟨Sa, So, hBa.mod hm4 fun _ _ h => h, hBo, fun x h1 h2 => by have := hBa.low x h1; have := hSo x h2; omega, fun x hx => by have := hSa x hx; have := hm1.size; omega,
      fun x hx => by have := hSo x hx; have := hm1.size; have := hm3.size; omega, (hm1.no hm3).no hm4, own_nil _ _, by simp [Slc.blk], by simp⟩
  refine ⟨_, rfl, fun l' w5 => match l' with
      | [.sl s, .i _ i] => ∃ k : Nat, i = k ∧ k ≤ l.len ∧ ∃ st st2, Tw none w w5 a o st st2 s (st.acc peer).1 ∧ st.acc peer = st2.acc peer ∧ st.most = M ∧ st2.most = M ∧ st.worst = st2.worst ∧ (st.acc peer).1.Nodup ∧ Small st k ∧ Small st2 k
      | _ => False, fun l' _ => match l' with | [.sl _, .i _ i] => (l.len - i).toNat | _ => 0,
    ⟨0, rfl, by omega, _, _, hT0, rfl, rfl, rfl, rfl, .nil, fun q => by simp [bst0], fun q => by simp [bst0]⟩, ?_⟩
  rintro s i w5 ⟨k, rfl, hk, st, st2, hT, hac, hmo, hmo2, hwo, hnd, hsm, hsm2⟩
  refine condK_i (fun hlt => ?_) (fun _ => ⟨rfl, hT.m⟩)
  have hlt' : k < l.len := by simpa using hlt
  obtain ⟨ad, x, y, z, ha, hrd, hab⟩ := (hl.mod hT.m) k hlt'
  refine ⟨⟨by omega, by omega⟩, ?_⟩
  rw [ha]
  refine ⟨x, y, z, hrd, sem_alloc (l := [.int .i64 0, .int .i64 0, .int .i64 0]) g1 g2 rfl fun d w6 hN hd => ⟨_, rfl, semU_store (o := 0) (vs := [.int .i64 x, .int .i64 y, .int .i64 z]) (by kernel_rfl) (by kernel_rfl) rfl hd (by simp) (by intro u hu; simp at hu; rcases hu with rfl | rfl | rfl <;> rfl) fun w7 hu hd7 => ?_⟩⟩
  have hT7 : Tw (some (d, [.int .i64 x, .int .i64 y, .int .i64 z])) w w7 a o st st2 s (st.acc peer).1 := hT.lay hN hu.mod hd7
  have rd3 : ∀ {w'}, Blk w' d [.int .i64 x, .int .i64 y, .int .i64 z] 29 → Rd w' ⟨d, 0, none⟩ [.int .i64 x, .int .i64 y, .int .i64 z] := fun h => h.rd (o := 0) fun j v hj => by simpa using hj
  refine ⟨_, hT7.d.rd1 rfl, callK_ret c10 ?_⟩
  rintro v w8 ⟨rfl, rfl⟩
  have hpk := pick_range x
  have hsy := hsm y; have hsy2 := hsm2 y
  refine ⟨_, rfl, x, y, z, rd3 hT7.d, callK_ret (w23a hT7 (by omega) (by omega)) ?_⟩
  rintro v w9 ⟨rfl, hT9⟩
  have hsm' := hsm.doL x y z
  refine ⟨_, _, _, rfl, fun l' w10 => w10 = w9 ∧ ∃ b, l' = [.b b] ∧ (b = true → y ≠ peer ∧ pickv x 6 ≠ 5) ∧ (b = false → y = peer ∨ pickv x 6 = 5), ?_, ?_⟩
  · refine ⟨_, hT9.d.rd1 rfl, condK_i (fun hc => ⟨rfl, _, rfl, fun e => ?_, fun e => ?_⟩) (fun hc => ⟨rfl, _, rfl, fun e => by simp at e, fun _ => ?_⟩)⟩
    · exact ⟨by simpa using hc, by simpa using e⟩
    · right; simpa using e
    · left; simpa using hc
  rintro x7 w10 ⟨rfl, b7, hb7, hyes, hno⟩
  cases hb7
  refine condK_i (fun hc => ?_) (fun hc => ?_)
  · obtain ⟨hy, h5⟩ := hyes hc
    have e := doL_other (st := st) (x := x) (z := z) hy h5
    rw [wrap_nat (by omega)]
    refine ⟨⟨k + 1, rfl, by omega, doLeaves st x y z, st2, ?_, by rw [e]; exact hac, by rw [doL_most.1]; exact hmo, hmo2, by rw [doL_most.2]; exact hwo, by rw [e]; exact hnd, hsm', fun q => by have := hsm2 q; omega⟩, by simp only []; omega⟩
    rw [e]; exact hT9.forget
  have hyp := hno hc
  obtain ⟨htell, hac'⟩ := do_same (z := z) hyp hac (hmo.trans hmo2.symm)
  have hsm2' := hsm2.doL x y z
  have hw' : (doLeaves st x y z).worst = (doLeaves st2 x y z).worst := by rw [doL_most.2, doL_most.2]; exact hwo
  have hmo' : (doLeaves st x y z).most = M := by rw [doL_most.1]; exact hmo
  have hmo2' : (doLeaves st2 x y z).most = M := by rw [doL_most.1]; exact hmo2
  refine ⟨x, y, z, rd3 hT9.d, callK_ret (w23o hT9 (by omega) (by omega)) ?_⟩
  rintro v w11 ⟨rfl, hT11⟩
  rw [← htell]
  refine ⟨_, _, _, rfl, fun l' w14 => l' = [.b false] ∧ Tw (some (d, [.int .i64 x, .int .i64 y, .int .i64 z])) w w14 a o (doLeaves st x y z) (doLeaves st2 x y z) s (st.acc peer).1, ?_, ?_⟩
  · refine condK_i (fun h => by simp at h) (fun _ => ps_neq_same ⟨_, rfl, condK_i (fun h => by simp at h) (fun _ => condK_i (fun h => by simp at h) (fun _ => ?_))⟩)
    refine callK_ret (w21a (peer := peer) hT11) ?_
    rintro v w12 ⟨rfl, hT12⟩
    refine ⟨_, rfl, callK_ret (w21o (peer := peer) hT12) ?_⟩
    rintro v w13 ⟨rfl, hT13⟩
    rw [hac', hw']
    exact ⟨_, rfl, ps_neq_same ⟨_, rfl, rfl, hT13⟩⟩
  rintro x12 w14 ⟨hx12, hT14⟩
  cases hx12
  refine condK_i (fun h => by simp at h) (fun _ => ?_)
  have hOl := (hsm peer).1
  refine ⟨fun l' w16 => ∃ s1, l' = [.sl s1] ∧ Tw (some (d, [.int .i64 x, .int .i64 y, .int .i64 z])) w w16 a o (doLeaves st x y z) (doLeaves st2 x y z) s1 (if pickv x 6 = 2 then (st.acc peer).1.filter (fun v => decide (v ≠ z)) else (st.acc peer).1), ?_, ?_⟩
  · refine condK_i (fun h2 => ?_) (fun h2 => ?_)
    · have h2' : pickv x 6 = 2 := by simpa using h2
      refine ⟨_, hT14.d.rd1 rfl, callK_ret (c24 (n := z) hT14.ow.rd (by omega)) ?_⟩
      rintro v w15 ⟨s', rfl, ho', hf', hm'⟩
      refine ⟨s', rfl, s', rfl, ?_⟩
      rw [if_pos h2']
      exact hT14.row (hm'.mono fun _ _ e => e.elim) ho' (.inr hf')
    · have h2' : pickv x 6 ≠ 2 := by simpa using h2
      refine ⟨s, rfl, ?_⟩
      rw [if_neg h2']
      exact hT14
  rintro s0 w16 ⟨s1, hs1, hT16⟩
  cases hs1
  refine condK_i (fun hk1 => ?_) (fun hk1 => ?_)
  · have hk1' : 1 < pickv x 6 := by simpa using hk1
    -- what is left of the peer's sessions
    have hO : (if pickv x 6 = 2 then (st.acc peer).1.filter (fun v => decide (v ≠ z)) else (st.acc peer).1) = ((doLeaves st x y z).acc peer).1 := by
      rcases hyp with rfl | h5
      · have hp : ∀ v, (st.put y v).acc y = v := fun v => by simp [BSt.put]
        unfold doLeaves
        split
        · rw [hp, hnd.erase_eq_filter]
          apply List.filter_congr
          intro v _
          simp only [bne, ne_eq, decide_not]
          congr 1
        · split
          · rw [hp]
          · split
            · rfl
            · omega
      · rw [if_neg (by omega)]
        simp [doLeaves, h5, BSt.tick]
    have hnd' : ((doLeaves st x y z).acc peer).1.Nodup := by
      rw [← hO]
      split
      · exact hnd.filter _
      · exact hnd
    rw [wrap_nat (by omega)]
    refine ⟨⟨k + 1, rfl, by omega, _, _, hO ▸ hT16.forget, hac', hmo', hmo2', hw', hnd', hsm', hsm2'⟩, by simp only []; omega⟩
  have hk1' : pickv x 6 = 0 ∨ pickv x 6 = 1 := by
    have : ¬ 1 < pickv x 6 := by simpa using hk1
    omega
  have hyp' : y = peer := hyp.elim id fun e => by omega
  subst hyp'
  rw [if_neg (by omega)] at hT16
  have htl : doTells st x y z = openTells (st.acc y).1 z M := by
    unfold doTells
    rw [if_neg (by omega), hmo]
  have hlv : (doLeaves st x y z).acc y = (openLeaves (st.acc y).1 z M, (st.acc y).2) := by
    unfold doLeaves
    rw [if_neg (by omega), if_neg (by omega), if_neg (by omega), hmo]
    simp [BSt.put]
  rw [htl]
  have hll := ow_len hT16.ow
  refine ⟨_, hT16.d.rd1 rfl, callK_ret (c24 (n := z) hT16.ow.rd (by omega)) ?_⟩
  rintro v w17 ⟨sw, rfl, how, hfw, hm17⟩
  have hT17 := hT16.mod hm17
  have hlw := ow_len how
  have ethere : decide ((sw.len : Int) < (s0.len : Int)) = decide (z ∈ (st.acc y).1) := by
    rw [decide_eq_decide, ← hlw, ← hll]
    constructor
    · intro h
      refine Classical.byContradiction fun hn => ?_
      rw [List.filter_eq_self.2 (fun v hv => by simp; rintro rfl; exact hn hv)] at h
      omega
    · intro h
      have : ((st.acc y).1.filter fun v => decide (v ≠ z)).length < (st.acc y).1.length := by
        rw [List.length_filter_lt_length_iff_exists]
        exact ⟨z, h, by simp⟩
      omega
  have e7 : ((openTells (st.acc y).1 z M).2.2 == (7 : Int)) = decide (z ∈ (st.acc y).1) := by
    unfold openTells
    by_cases h : z ∈ (st.acc y).1 <;> simp [h]
  refine ⟨sw, rfl, ?_⟩
  rw [ethere, e7]
  refine ps_neq_same ⟨_, rfl, condK_i (fun h => by simp at h) (fun _ => condK_i (fun hin => ?_) (fun hin => ?_))⟩
  · have hin' : z ∈ (st.acc y).1 := of_decide_eq_true hin
    have e : ((doLeaves st x y z).acc y).1 = (st.acc y).1 := by rw [hlv]; unfold openLeaves; rw [if_pos hin']
    rw [wrap_nat (by omega)]
    refine ⟨⟨k + 1, rfl, by omega, _, _, e.symm ▸ hT17.forget, hac', hmo', hmo2', hw', by rw [e]; exact hnd, hsm', hsm2'⟩, by simp only []; omega⟩
  have hin' : z ∉ (st.acc y).1 := of_decide_eq_false hin
  have hot : openTells (st.acc y).1 z M = ((opened (st.acc y).1 z M).2.1, (opened (st.acc y).1 z M).2.2, 0) := by unfold openTells; rw [if_neg hin']
  have hol : ((doLeaves st x y z).acc y).1 = (opened (st.acc y).1 z M).1 := by rw [hlv]; unfold openLeaves; rw [if_neg hin']
  rw [hot]
  have hndz : ((st.acc y).1 ++ [z]).Nodup := by
    rw [List.nodup_append]
    refine ⟨hnd, by simp, fun u hu' v hv e => ?_⟩
    simp at hv; exact hin' ((e.trans hv) ▸ hu')
  refine ⟨_, hT17.d.rd1 rfl, sem_lit [.int .i64 z] (l := [.int .i64 z]) u43 h31 h32 h33 (by decide) rfl (by decide) (by decide) rfl (by simp [Value.cells]) rfl fun b w18 hN18 hb18 => ⟨⟨_, _, _⟩, rfl, ?_⟩⟩
  have hT18 := hT17.mod hN18.mod
  refine sem_append u43 h31 h32 h33 rfl h34 hT18.ow (own_new (n := 1) (c := 1) (k := 1) hb18 rfl (by omega)).rd (by intro y hy; simp at hy; subst hy; rfl) (by simp only []; omega) (by simp only []; omega) ?_
  intro s2 w19 ho2 hlen2 hblk2 hm19
  have ho2' : Own w19 s2 1 (ints ((st.acc y).1 ++ [z])) := by rw [ints_app]; exact ho2
  have hT19 := hT18.row hm19 ho2' (hblk2.imp id fun e x hx => by rw [e] at hx; cases hx; exact Nat.le_refl _)
  have hl2 := ow_len ho2'
  have hl2' : s2.len = (st.acc y).1.length + 1 := by rw [← hl2]; simp
  have eis : (opened (st.acc y).1 z M).2.2 = decide ((s2.len : Int) > M) := by
    unfold opened
    rw [hl2']
    by_cases h : (((st.acc y).1.length + 1 : Nat) : Int) ≤ M
    · rw [if_pos h]; symm; exact decide_eq_false (by omega)
    · rw [if_neg h]; symm; exact decide_eq_true (by omega)
  have hne : (st.acc y).1 ++ [z] ≠ [] := by simp
  obtain ⟨g, rest, hg⟩ : ∃ g rest, (st.acc y).1 ++ [z] = g :: rest := by
    cases hc : (st.acc y).1 ++ [z] with
    | nil => exact absurd hc hne
    | cons g rest => exact ⟨g, rest, rfl⟩
  have hopen : opened (st.acc y).1 z M = if decide ((s2.len : Int) > M) = true then (rest, g, true) else (g :: rest, 0, false) := by
    unfold opened
    rw [hg, ← hl2']
    by_cases h : (s2.len : Int) ≤ M
    · rw [if_pos h, if_neg (by simp; omega)]
    · rw [if_neg h, if_pos (by simp; omega)]; rfl
  rw [hg] at hT19 ho2' hl2 hndz
  refine ⟨s2, rfl, ?_⟩
  rw [eis, hopen]
  rw [hopen] at hol
  clear hopen hot htl hlv e7 ethere eis hac
  generalize hB : decide ((s2.len : Int) > M) = B at hol ⊢
  refine ⟨fun l' w20 => l' = [.b false] ∧ w20 = w19, ?_, ?_⟩
  · refine ps_neq_same ⟨_, rfl, condK_i (fun h => by simp at h) (fun _ => condK_i (fun hb => ?_) (fun _ => ⟨rfl, rfl⟩))⟩
    obtain ⟨a9, ha9, hr9⟩ := sl_at ho2'.rd (i := 0) (by simp)
    refine ⟨⟨by omega, by omega⟩, ?_⟩
    rw [ha9]
    refine ⟨_, hr9, ?_, rfl⟩
    subst hb
    simp
  rintro x23 w20 ⟨hx23, rfl⟩
  cases hx23
  refine condK_i (fun h => by simp at h) (fun _ => ?_)
  refine ⟨fun l' w21 => ∃ s3, l' = [.sl s3] ∧ Tw (some (d, [.int .i64 x, .int .i64 y, .int .i64 z])) w w21 a o (doLeaves st x y z) (doLeaves st2 x y z) s3 ((doLeaves st x y z).acc y).1, ?_, ?_⟩
  · refine condK_i (fun hb => ?_) (fun hb => ?_)
    · subst hb
      refine ⟨⟨by omega, by omega⟩, cutSl s2 1 1 s2.len s2.cap, rfl, ?_⟩
      have hcap := ho2'.2.1
      have hcut := ho2'.cut (l := 1) (n := s2.len) (m := s2.cap) (by omega) (by omega) (by omega) (by omega)
      refine hT19.row (Mod.refl _ _) ?_ ?_
      · rw [hol]
        have e : ints rest = ((ints (g :: rest)).drop (1 * 1)).take ((s2.len - 1) * 1) := by
          simp only [ints, List.map_cons, Nat.mul_one, List.drop_succ_cons, List.drop_zero]
          rw [List.take_of_length_le]
          simp at hl2 ⊢; omega
        rw [if_pos rfl, e]
        exact hcut
      · unfold cutSl Slc.blk
        simp only []
        split
        · exact .inl rfl
        · left
          cases s2.a <;> simp [add_block]
    · subst hb
      refine ⟨s2, rfl, ?_⟩
      rw [hol]
      exact hT19
  rintro s3' w21 ⟨s3, hs3, hT21⟩
  cases hs3
  have hl3 := ow_len hT21.ow
  have hnd3 : ((doLeaves st x y z).acc y).1.Nodup := by
    rw [hol]
    have hc := List.nodup_cons.1 hndz
    split
    · exact hc.2
    · exact hndz
  have hsl := (hsm' y).1
  refine ⟨fun l' w22 => match l' with | [.i _ n] => ∃ j : Nat, n = j ∧ j ≤ s3'.len ∧ Tw (some (d, [.int .i64 x, .int .i64 y, .int .i64 z])) w w22 a o (doLeaves st x y z) (doLeaves st2 x y z) s3' ((doLeaves st x y z).acc y).1 | _ => False,
    fun l' _ => match l' with | [.i _ i] => (s3'.len - i).toNat | _ => 0, ⟨0, rfl, by omega, hT21⟩, ?_⟩
  rintro n w22 ⟨n, rfl, hn, hT22⟩
  refine condK_i (fun hc => ?_) (fun hc => ?_)
  · have hn' : n < s3'.len := by simpa using hc
    obtain ⟨a10, ha10, hr10⟩ := sl_at hT22.ow.rd (i := n) (by omega)
    refine ⟨⟨by omega, by omega⟩, ?_⟩
    rw [ha10]
    refine ⟨_, hr10, callK_ret (w19a (peer := y) hT22 (by omega)) ?_⟩
    rintro v w23 ⟨rfl, hT23⟩
    refine ⟨_, rfl, condK_i (fun h => ?_) (fun _ => condK_i (fun hb => ?_) (fun _ => ?_))⟩
    · have hmem : ((doLeaves st x y z).acc y).1[n]'(by omega) ∈ ((doLeaves st x y z).acc y).1 := List.getElem_mem _
      rw [decide_eq_true hmem] at h
      simp at h
    · subst hb
      simp only [if_true] at hol ⊢
      refine callK_ret (w19a (peer := y) hT23 (by omega)) ?_
      rintro v w24 ⟨rfl, hT24⟩
      refine ⟨_, rfl, condK_i (fun h => ?_) (fun _ => ?_)⟩
      · have := of_decide_eq_true h
        rw [hol] at this
        exact absurd this (List.nodup_cons.1 hndz).1
      · rw [wrap_nat (by omega)]
        exact ⟨⟨n + 1, rfl, by omega, hT24⟩, by omega⟩
    · rw [wrap_nat (by omega)]
      exact ⟨⟨n + 1, rfl, by omega, hT23⟩, by simp only []; omega⟩
  · rw [wrap_nat (by omega)]
    exact ⟨⟨k + 1, rfl, by omega, _, _, hT22.forget, hac', hmo', hmo2', hw', hnd3, hsm', hsm2'⟩, by simp only []; omega⟩
end Go.Proofs.Ytnecbkjpijiopaa
