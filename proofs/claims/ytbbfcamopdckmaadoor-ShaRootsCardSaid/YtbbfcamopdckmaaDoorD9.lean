/- SHA: the closed statement of roots. -/
import Derived.Test.YtbbfcamopdckmaaDoorD8
set_option linter.unusedSimpArgs false
set_option linter.unusedVariables false
set_option maxRecDepth 100000
namespace Go.Proofs.YtbbfcamopdckmaaDoor
open Go Go.Sh

set_option maxHeartbeats 4000000 in
theorem law_roots {W : World} (hg : Glob W) : Calls Tryd.prog 6 #[] W (Ret fun v w' => v = .bool true ∧ Mod NoB W w') := by
  refine call6 ?_
  unfold sh6
  refine callK_ret (c_awake hg) ?_
  rintro v w1 ⟨rfl, hm1⟩
  refine ⟨true, rfl, ?_⟩
  show condK false _ _
  refine condK_i (fun e => by cases e) fun _ => ?_
  refine callK_ret c_constants ?_
  rintro v w2 ⟨xa, xb, rfl, ha, hb, hm2⟩
  have hM2 := hm1.tr hm2
  refine ⟨xa, xb, rfl, JT w2, ?_, ?_⟩
  · have h0 : St w2 w2.drew none none none none none := ⟨Mod.drew _ _, (fun b e => by cases e), (fun b e => by cases e), (fun b e => by cases e), (fun b e => by cases e), (fun b e => by cases e)⟩
    clear ha hb hm1 hm2 hM2 hg
    refine And.intro (st_raw (by assumption) fun _ _ _ => ?_) ?_
    refine And.intro (st_conv (by assumption) fun _ _ _ => ?_) ?_
    refine And.intro (st_z1 (by assumption) fun _ _ _ => ?_) ?_
    refine And.intro (st_z2 (by assumption) fun _ _ _ => ?_) ?_
    refine And.intro (st_z3 (by assumption) fun _ _ _ => ?_) ?_
    refine And.intro (st_leaf (by assumption)) ?_
    exact trivial
    exact trivial
    refine And.intro (st_z3 (by assumption) fun _ _ _ => ?_) ?_
    refine And.intro (st_z2 (by assumption) fun _ _ _ => ?_) ?_
    refine And.intro (st_leaf (by assumption)) ?_
    exact trivial
    exact trivial
    exact trivial
    refine And.intro (st_z2 (by assumption) fun _ _ _ => ?_) ?_
    refine And.intro (st_z1 (by assumption) fun _ _ _ => ?_) ?_
    refine And.intro (st_z3 (by assumption) fun _ _ _ => ?_) ?_
    refine And.intro (st_leaf (by assumption)) ?_
    exact trivial
    exact trivial
    refine And.intro (st_z3 (by assumption) fun _ _ _ => ?_) ?_
    refine And.intro (st_z1 (by assumption) fun _ _ _ => ?_) ?_
    refine And.intro (st_leaf (by assumption)) ?_
    exact trivial
    exact trivial
    exact trivial
    refine And.intro (st_z3 (by assumption) fun _ _ _ => ?_) ?_
    refine And.intro (st_z1 (by assumption) fun _ _ _ => ?_) ?_
    refine And.intro (st_z2 (by assumption) fun _ _ _ => ?_) ?_
    refine And.intro (st_leaf (by assumption)) ?_
    exact trivial
    exact trivial
    refine And.intro (st_z2 (by assumption) fun _ _ _ => ?_) ?_
    refine And.intro (st_z1 (by assumption) fun _ _ _ => ?_) ?_
    refine And.intro (st_leaf (by assumption)) ?_
    exact trivial
    exact trivial
    exact trivial
    exact trivial
    refine And.intro (st_z1 (by assumption) fun _ _ _ => ?_) ?_
    refine And.intro (st_conv (by assumption) fun _ _ _ => ?_) ?_
    refine And.intro (st_z2 (by assumption) fun _ _ _ => ?_) ?_
    refine And.intro (st_z3 (by assumption) fun _ _ _ => ?_) ?_
    refine And.intro (st_leaf (by assumption)) ?_
    exact trivial
    exact trivial
    refine And.intro (st_z3 (by assumption) fun _ _ _ => ?_) ?_
    refine And.intro (st_z2 (by assumption) fun _ _ _ => ?_) ?_
    refine And.intro (st_leaf (by assumption)) ?_
    exact trivial
    exact trivial
    exact trivial
    refine And.intro (st_z2 (by assumption) fun _ _ _ => ?_) ?_
    refine And.intro (st_conv (by assumption) fun _ _ _ => ?_) ?_
    refine And.intro (st_z3 (by assumption) fun _ _ _ => ?_) ?_
    refine And.intro (st_leaf (by assumption)) ?_
    exact trivial
    exact trivial
    refine And.intro (st_z3 (by assumption) fun _ _ _ => ?_) ?_
    refine And.intro (st_conv (by assumption) fun _ _ _ => ?_) ?_
    refine And.intro (st_leaf (by assumption)) ?_
    exact trivial
    exact trivial
    exact trivial
    refine And.intro (st_z3 (by assumption) fun _ _ _ => ?_) ?_
    refine And.intro (st_conv (by assumption) fun _ _ _ => ?_) ?_
    refine And.intro (st_z2 (by assumption) fun _ _ _ => ?_) ?_
    refine And.intro (st_leaf (by assumption)) ?_
    exact trivial
    exact trivial
    refine And.intro (st_z2 (by assumption) fun _ _ _ => ?_) ?_
    refine And.intro (st_conv (by assumption) fun _ _ _ => ?_) ?_
    refine And.intro (st_leaf (by assumption)) ?_
    exact trivial
    exact trivial
    exact trivial
    exact trivial
    refine And.intro (st_z2 (by assumption) fun _ _ _ => ?_) ?_
    refine And.intro (st_conv (by assumption) fun _ _ _ => ?_) ?_
    refine And.intro (st_z1 (by assumption) fun _ _ _ => ?_) ?_
    refine And.intro (st_z3 (by assumption) fun _ _ _ => ?_) ?_
    refine And.intro (st_leaf (by assumption)) ?_
    exact trivial
    exact trivial
    refine And.intro (st_z3 (by assumption) fun _ _ _ => ?_) ?_
    refine And.intro (st_z1 (by assumption) fun _ _ _ => ?_) ?_
    refine And.intro (st_leaf (by assumption)) ?_
    exact trivial
    exact trivial
    exact trivial
    refine And.intro (st_z1 (by assumption) fun _ _ _ => ?_) ?_
    refine And.intro (st_conv (by assumption) fun _ _ _ => ?_) ?_
    refine And.intro (st_z3 (by assumption) fun _ _ _ => ?_) ?_
    refine And.intro (st_leaf (by assumption)) ?_
    exact trivial
    exact trivial
    refine And.intro (st_z3 (by assumption) fun _ _ _ => ?_) ?_
    refine And.intro (st_conv (by assumption) fun _ _ _ => ?_) ?_
    refine And.intro (st_leaf (by assumption)) ?_
    exact trivial
    exact trivial
    exact trivial
    refine And.intro (st_z3 (by assumption) fun _ _ _ => ?_) ?_
    refine And.intro (st_conv (by assumption) fun _ _ _ => ?_) ?_
    refine And.intro (st_z1 (by assumption) fun _ _ _ => ?_) ?_
    refine And.intro (st_leaf (by assumption)) ?_
    exact trivial
    exact trivial
    refine And.intro (st_z1 (by assumption) fun _ _ _ => ?_) ?_
    refine And.intro (st_conv (by assumption) fun _ _ _ => ?_) ?_
    refine And.intro (st_leaf (by assumption)) ?_
    exact trivial
    exact trivial
    exact trivial
    exact trivial
    refine And.intro (st_z3 (by assumption) fun _ _ _ => ?_) ?_
    refine And.intro (st_conv (by assumption) fun _ _ _ => ?_) ?_
    refine And.intro (st_z1 (by assumption) fun _ _ _ => ?_) ?_
    refine And.intro (st_z2 (by assumption) fun _ _ _ => ?_) ?_
    refine And.intro (st_leaf (by assumption)) ?_
    exact trivial
    exact trivial
    refine And.intro (st_z2 (by assumption) fun _ _ _ => ?_) ?_
    refine And.intro (st_z1 (by assumption) fun _ _ _ => ?_) ?_
    refine And.intro (st_leaf (by assumption)) ?_
    exact trivial
    exact trivial
    exact trivial
    refine And.intro (st_z1 (by assumption) fun _ _ _ => ?_) ?_
    refine And.intro (st_conv (by assumption) fun _ _ _ => ?_) ?_
    refine And.intro (st_z2 (by assumption) fun _ _ _ => ?_) ?_
    refine And.intro (st_leaf (by assumption)) ?_
    exact trivial
    exact trivial
    refine And.intro (st_z2 (by assumption) fun _ _ _ => ?_) ?_
    refine And.intro (st_conv (by assumption) fun _ _ _ => ?_) ?_
    refine And.intro (st_leaf (by assumption)) ?_
    exact trivial
    exact trivial
    exact trivial
    refine And.intro (st_z2 (by assumption) fun _ _ _ => ?_) ?_
    refine And.intro (st_conv (by assumption) fun _ _ _ => ?_) ?_
    refine And.intro (st_z1 (by assumption) fun _ _ _ => ?_) ?_
    refine And.intro (st_leaf (by assumption)) ?_
    exact trivial
    exact trivial
    refine And.intro (st_z1 (by assumption) fun _ _ _ => ?_) ?_
    refine And.intro (st_conv (by assumption) fun _ _ _ => ?_) ?_
    refine And.intro (st_leaf (by assumption)) ?_
    exact trivial
    exact trivial
    exact trivial
    exact trivial
    exact trivial
    refine And.intro (st_z1 (by assumption) fun _ _ _ => ?_) ?_
    refine And.intro (st_raw (by assumption) fun _ _ _ => ?_) ?_
    refine And.intro (st_conv (by assumption) fun _ _ _ => ?_) ?_
    refine And.intro (st_z2 (by assumption) fun _ _ _ => ?_) ?_
    refine And.intro (st_z3 (by assumption) fun _ _ _ => ?_) ?_
    refine And.intro (st_leaf (by assumption)) ?_
    exact trivial
    exact trivial
    refine And.intro (st_z3 (by assumption) fun _ _ _ => ?_) ?_
    refine And.intro (st_z2 (by assumption) fun _ _ _ => ?_) ?_
    refine And.intro (st_leaf (by assumption)) ?_
    exact trivial
    exact trivial
    exact trivial
    refine And.intro (st_z2 (by assumption) fun _ _ _ => ?_) ?_
    refine And.intro (st_conv (by assumption) fun _ _ _ => ?_) ?_
    refine And.intro (st_z3 (by assumption) fun _ _ _ => ?_) ?_
    refine And.intro (st_leaf (by assumption)) ?_
    exact trivial
    exact trivial
    refine And.intro (st_z3 (by assumption) fun _ _ _ => ?_) ?_
    refine And.intro (st_conv (by assumption) fun _ _ _ => ?_) ?_
    refine And.intro (st_leaf (by assumption)) ?_
    exact trivial
    exact trivial
    exact trivial
    refine And.intro (st_z3 (by assumption) fun _ _ _ => ?_) ?_
    refine And.intro (st_conv (by assumption) fun _ _ _ => ?_) ?_
    refine And.intro (st_z2 (by assumption) fun _ _ _ => ?_) ?_
    refine And.intro (st_leaf (by assumption)) ?_
    exact trivial
    exact trivial
    refine And.intro (st_z2 (by assumption) fun _ _ _ => ?_) ?_
    refine And.intro (st_conv (by assumption) fun _ _ _ => ?_) ?_
    refine And.intro (st_leaf (by assumption)) ?_
    exact trivial
    exact trivial
    exact trivial
    exact trivial
    refine And.intro (st_z2 (by assumption) fun _ _ _ => ?_) ?_
    refine And.intro (st_raw (by assumption) fun _ _ _ => ?_) ?_
    refine And.intro (st_conv (by assumption) fun _ _ _ => ?_) ?_
    refine And.intro (st_z3 (by assumption) fun _ _ _ => ?_) ?_
    refine And.intro (st_leaf (by assumption)) ?_
    exact trivial
    exact trivial
    refine And.intro (st_z3 (by assumption) fun _ _ _ => ?_) ?_
    refine And.intro (st_conv (by assumption) fun _ _ _ => ?_) ?_
    refine And.intro (st_leaf (by assumption)) ?_
    exact trivial
    exact trivial
    exact trivial
    refine And.intro (st_z3 (by assumption) fun _ _ _ => ?_) ?_
    refine And.intro (st_raw (by assumption) fun _ _ _ => ?_) ?_
    refine And.intro (st_conv (by assumption) fun _ _ _ => ?_) ?_
    refine And.intro (st_leaf (by assumption)) ?_
    exact trivial
    exact trivial
    exact trivial
    exact trivial
    refine And.intro (st_z3 (by assumption) fun _ _ _ => ?_) ?_
    refine And.intro (st_raw (by assumption) fun _ _ _ => ?_) ?_
    refine And.intro (st_conv (by assumption) fun _ _ _ => ?_) ?_
    refine And.intro (st_z2 (by assumption) fun _ _ _ => ?_) ?_
    refine And.intro (st_leaf (by assumption)) ?_
    exact trivial
    exact trivial
    refine And.intro (st_z2 (by assumption) fun _ _ _ => ?_) ?_
    refine And.intro (st_conv (by assumption) fun _ _ _ => ?_) ?_
    refine And.intro (st_leaf (by assumption)) ?_
    exact trivial
    exact trivial
    exact trivial
    refine And.intro (st_z2 (by assumption) fun _ _ _ => ?_) ?_
    refine And.intro (st_raw (by assumption) fun _ _ _ => ?_) ?_
    refine And.intro (st_conv (by assumption) fun _ _ _ => ?_) ?_
    refine And.intro (st_leaf (by assumption)) ?_
    exact trivial
    exact trivial
    exact trivial
    exact trivial
    exact trivial
    refine And.intro (st_z2 (by assumption) fun _ _ _ => ?_) ?_
    refine And.intro (st_raw (by assumption) fun _ _ _ => ?_) ?_
    refine And.intro (st_conv (by assumption) fun _ _ _ => ?_) ?_
    refine And.intro (st_z1 (by assumption) fun _ _ _ => ?_) ?_
    refine And.intro (st_z3 (by assumption) fun _ _ _ => ?_) ?_
    refine And.intro (st_leaf (by assumption)) ?_
    exact trivial
    exact trivial
    refine And.intro (st_z3 (by assumption) fun _ _ _ => ?_) ?_
    refine And.intro (st_z1 (by assumption) fun _ _ _ => ?_) ?_
    refine And.intro (st_leaf (by assumption)) ?_
    exact trivial
    exact trivial
    exact trivial
    refine And.intro (st_z1 (by assumption) fun _ _ _ => ?_) ?_
    refine And.intro (st_conv (by assumption) fun _ _ _ => ?_) ?_
    refine And.intro (st_z3 (by assumption) fun _ _ _ => ?_) ?_
    refine And.intro (st_leaf (by assumption)) ?_
    exact trivial
    exact trivial
    refine And.intro (st_z3 (by assumption) fun _ _ _ => ?_) ?_
    refine And.intro (st_conv (by assumption) fun _ _ _ => ?_) ?_
    refine And.intro (st_leaf (by assumption)) ?_
    exact trivial
    exact trivial
    exact trivial
    refine And.intro (st_z3 (by assumption) fun _ _ _ => ?_) ?_
    refine And.intro (st_conv (by assumption) fun _ _ _ => ?_) ?_
    refine And.intro (st_z1 (by assumption) fun _ _ _ => ?_) ?_
    refine And.intro (st_leaf (by assumption)) ?_
    exact trivial
    exact trivial
    refine And.intro (st_z1 (by assumption) fun _ _ _ => ?_) ?_
    refine And.intro (st_conv (by assumption) fun _ _ _ => ?_) ?_
    refine And.intro (st_leaf (by assumption)) ?_
    exact trivial
    exact trivial
    exact trivial
    exact trivial
    refine And.intro (st_z1 (by assumption) fun _ _ _ => ?_) ?_
    refine And.intro (st_raw (by assumption) fun _ _ _ => ?_) ?_
    refine And.intro (st_conv (by assumption) fun _ _ _ => ?_) ?_
    refine And.intro (st_z3 (by assumption) fun _ _ _ => ?_) ?_
    refine And.intro (st_leaf (by assumption)) ?_
    exact trivial
    exact trivial
    refine And.intro (st_z3 (by assumption) fun _ _ _ => ?_) ?_
    refine And.intro (st_conv (by assumption) fun _ _ _ => ?_) ?_
    refine And.intro (st_leaf (by assumption)) ?_
    exact trivial
    exact trivial
    exact trivial
    refine And.intro (st_z3 (by assumption) fun _ _ _ => ?_) ?_
    refine And.intro (st_raw (by assumption) fun _ _ _ => ?_) ?_
    refine And.intro (st_conv (by assumption) fun _ _ _ => ?_) ?_
    refine And.intro (st_leaf (by assumption)) ?_
    exact trivial
    exact trivial
    exact trivial
    exact trivial
    refine And.intro (st_z3 (by assumption) fun _ _ _ => ?_) ?_
    refine And.intro (st_raw (by assumption) fun _ _ _ => ?_) ?_
    refine And.intro (st_conv (by assumption) fun _ _ _ => ?_) ?_
    refine And.intro (st_z1 (by assumption) fun _ _ _ => ?_) ?_
    refine And.intro (st_leaf (by assumption)) ?_
    exact trivial
    exact trivial
    refine And.intro (st_z1 (by assumption) fun _ _ _ => ?_) ?_
    refine And.intro (st_conv (by assumption) fun _ _ _ => ?_) ?_
    refine And.intro (st_leaf (by assumption)) ?_
    exact trivial
    exact trivial
    exact trivial
    refine And.intro (st_z1 (by assumption) fun _ _ _ => ?_) ?_
    refine And.intro (st_raw (by assumption) fun _ _ _ => ?_) ?_
    refine And.intro (st_conv (by assumption) fun _ _ _ => ?_) ?_
    refine And.intro (st_leaf (by assumption)) ?_
    exact trivial
    exact trivial
    exact trivial
    exact trivial
    exact trivial
    refine And.intro (st_z3 (by assumption) fun _ _ _ => ?_) ?_
    refine And.intro (st_raw (by assumption) fun _ _ _ => ?_) ?_
    refine And.intro (st_conv (by assumption) fun _ _ _ => ?_) ?_
    refine And.intro (st_z1 (by assumption) fun _ _ _ => ?_) ?_
    refine And.intro (st_z2 (by assumption) fun _ _ _ => ?_) ?_
    refine And.intro (st_leaf (by assumption)) ?_
    exact trivial
    exact trivial
    refine And.intro (st_z2 (by assumption) fun _ _ _ => ?_) ?_
    refine And.intro (st_z1 (by assumption) fun _ _ _ => ?_) ?_
    refine And.intro (st_leaf (by assumption)) ?_
    exact trivial
    exact trivial
    exact trivial
    refine And.intro (st_z1 (by assumption) fun _ _ _ => ?_) ?_
    refine And.intro (st_conv (by assumption) fun _ _ _ => ?_) ?_
    refine And.intro (st_z2 (by assumption) fun _ _ _ => ?_) ?_
    refine And.intro (st_leaf (by assumption)) ?_
    exact trivial
    exact trivial
    refine And.intro (st_z2 (by assumption) fun _ _ _ => ?_) ?_
    refine And.intro (st_conv (by assumption) fun _ _ _ => ?_) ?_
    refine And.intro (st_leaf (by assumption)) ?_
    exact trivial
    exact trivial
    exact trivial
    refine And.intro (st_z2 (by assumption) fun _ _ _ => ?_) ?_
    refine And.intro (st_conv (by assumption) fun _ _ _ => ?_) ?_
    refine And.intro (st_z1 (by assumption) fun _ _ _ => ?_) ?_
    refine And.intro (st_leaf (by assumption)) ?_
    exact trivial
    exact trivial
    refine And.intro (st_z1 (by assumption) fun _ _ _ => ?_) ?_
    refine And.intro (st_conv (by assumption) fun _ _ _ => ?_) ?_
    refine And.intro (st_leaf (by assumption)) ?_
    exact trivial
    exact trivial
    exact trivial
    exact trivial
    refine And.intro (st_z1 (by assumption) fun _ _ _ => ?_) ?_
    refine And.intro (st_raw (by assumption) fun _ _ _ => ?_) ?_
    refine And.intro (st_conv (by assumption) fun _ _ _ => ?_) ?_
    refine And.intro (st_z2 (by assumption) fun _ _ _ => ?_) ?_
    refine And.intro (st_leaf (by assumption)) ?_
    exact trivial
    exact trivial
    refine And.intro (st_z2 (by assumption) fun _ _ _ => ?_) ?_
    refine And.intro (st_conv (by assumption) fun _ _ _ => ?_) ?_
    refine And.intro (st_leaf (by assumption)) ?_
    exact trivial
    exact trivial
    exact trivial
    refine And.intro (st_z2 (by assumption) fun _ _ _ => ?_) ?_
    refine And.intro (st_raw (by assumption) fun _ _ _ => ?_) ?_
    refine And.intro (st_conv (by assumption) fun _ _ _ => ?_) ?_
    refine And.intro (st_leaf (by assumption)) ?_
    exact trivial
    exact trivial
    exact trivial
    exact trivial
    refine And.intro (st_z2 (by assumption) fun _ _ _ => ?_) ?_
    refine And.intro (st_raw (by assumption) fun _ _ _ => ?_) ?_
    refine And.intro (st_conv (by assumption) fun _ _ _ => ?_) ?_
    refine And.intro (st_z1 (by assumption) fun _ _ _ => ?_) ?_
    refine And.intro (st_leaf (by assumption)) ?_
    exact trivial
    exact trivial
    refine And.intro (st_z1 (by assumption) fun _ _ _ => ?_) ?_
    refine And.intro (st_conv (by assumption) fun _ _ _ => ?_) ?_
    refine And.intro (st_leaf (by assumption)) ?_
    exact trivial
    exact trivial
    exact trivial
    refine And.intro (st_z1 (by assumption) fun _ _ _ => ?_) ?_
    refine And.intro (st_raw (by assumption) fun _ _ _ => ?_) ?_
    refine And.intro (st_conv (by assumption) fun _ _ _ => ?_) ?_
    refine And.intro (st_leaf (by assumption)) ?_
    exact trivial
    exact trivial
    exact trivial
    exact trivial
    exact trivial
    exact trivial
  · rintro t0 w3 ⟨texts, he, hp, hm3⟩
    simp at he; subst he
    have hM3 := hM2.tr hm3
    obtain ⟨ss, q1, q2, q3, q4⟩ := hp
    have hL : TL.length = t0.len := by have := q1.1; simp at this; omega
    have hTL : TL.length = 5 := rfl
    refine ⟨fun l' w' => match l' with | [.i _ i] => ∃ k : Nat, i = k ∧ k ≤ 5 ∧ Mod NoB w3 w' | _ => False, fun l' _ => match l' with | [.i _ i] => (5 - i).toNat | _ => 0, ⟨0, rfl, by omega, Mod.refl _ _⟩, ?_⟩
    rintro i w4 ⟨k, rfl, hk, hm4⟩
    refine condK_i (fun hc => ?_) fun hc => ⟨rfl, hM3.tr hm4⟩
    have hk' : k < TL.length := by simp at hc; omega
    obtain ⟨a, ea, hr⟩ := rd_slc q1 (i := k) (by omega)
    obtain ⟨hrow, hrl⟩ := q4 k (by omega) hk'
    have hlen : (TL[k]).length ≤ 300 := by
      match k, hk' with
      | 0, _ => simp [TL]
      | 1, _ => simp [TL]
      | 2, _ => simp [TL]
      | 3, _ => simp [TL]
      | 4, _ => simp [TL]
    have D := hm4.dr
    refine ⟨fun w' => Mod NoB w3 w', D, ⟨by omega, by omega⟩, onSome_of ea ⟨⟨by omega, by omega⟩, onSome_of ea ⟨ss[k], fun w' h => hr.mod h fun h => h, ss[k], fun w' h => hr.mod h fun h => h, ?_, trivial⟩⟩⟩
    refine sem_rows [ss[k]] rfl rfl (by omega) (by omega) fun y e w5 hN5 hy hb5 ho5 => ⟨y, rfl, D.tr hN5.mod, ?_, trivial⟩
    have h5 := D.tr hN5.mod
    have hsz := h5.size
    refine callK_ret (c_sum (pl := [TL[k]]) (hg.no (hM3.tr h5)) (parts_of (X := fun y => y < w5.heap.size) ho5.rd (fun y hy => ho5.lt hy) rfl fun i hi hi' => ?_) (fun _ h => h) (by simp; omega) (by simp)) ?_
    · have : i = 0 := by simp at hi; omega
      subst this
      exact ⟨hrow.no h5, fun y hy => by have := hrl y hy; omega⟩
    rintro v w6 ⟨x6, rfl, ho6, hf6, hm6⟩
    have h6 := h5.tr hm6
    have hk36 := hm3.tr h6
    refine ⟨x6, rfl, h6, ?_, trivial⟩
    rw [List.flatten_cons, List.flatten_nil, List.append_nil] at ho6
    refine callK_ret (c_sumBy (ha.no hk36).rd H0_len (hb.no hk36).rd KS_len (hrow.no h6) (by omega)) ?_
    rintro v w7 ⟨x7, rfl, ho7, hf7, hm7⟩
    have h7 := h6.tr hm7
    refine ⟨x7, rfl, h7, ?_, trivial⟩
    refine callK_ret (c_same (ho6.no hm7).rd ho7.rd (by rw [sha_len]; omega)) ?_
    rintro v w8 ⟨rfl, hm8⟩
    have h8 := h7.tr hm8
    rw [wrap_nat (by omega)]
    exact ⟨_, rfl, h8, condK_i (fun e => by simp [sha] at e) fun _ => ⟨⟨k + 1, rfl, by omega, h8⟩, by (try simp only []); omega⟩⟩
end Go.Proofs.YtbbfcamopdckmaaDoor
