/- SHA: the closed statement of lengths. -/
import Derived.Test.YtbbfcamopdckmaaDoorS10
import Derived.Test.YtbbfcamopdckmaaDoorD2
import Derived.Test.YtbbfcamopdckmaaDoorFnC
set_option linter.unusedSimpArgs false
set_option linter.unusedVariables false
set_option maxRecDepth 100000
namespace Go.Proofs.YtbbfcamopdckmaaDoor
open Go Go.Sh

theorem law_lengths {W : World} (hg : Glob W) : Calls Tryd.prog 5 #[] W (Ret fun v w' => v = .bool true ∧ Mod NoB W w') := by
  refine call5 ?_
  unfold sh5
  refine callK_ret (c_awake hg) ?_
  rintro v w1 ⟨rfl, hm1⟩
  refine ⟨true, rfl, ?_⟩
  show condK false _ _
  refine condK_i (fun e => by cases e) fun _ => ?_
  refine ⟨fun l' w' => match l' with | [.sl b, .i _ n] => ∃ (k : Nat) (l : List UInt8), n = k ∧ k ≤ 290 ∧ l.length = k ∧ Sh.Own w' b 1 (bys l) ∧ FB W b ∧ Mod NoB W w' | _ => False, fun l' _ => match l' with | [.sl b, .i _ n] => (290 - n).toNat | _ => 0,
    ⟨0, [], rfl, by omega, rfl, own_nil _ _, FB.nil _, hm1⟩, ?_⟩
  rintro b n w2 ⟨k, l, rfl, hk, hl, hb, hbf, hm2⟩
  refine condK_i (fun hlt => ?_) fun hge => ⟨rfl, hm2⟩
  have hk' : k < 290 := by simp at hlt; omega
  refine step_sum (W := w2) (ss := [b]) (pl := [l]) (hg.no hm2) (Mod.refl _ _) rfl rfl (by omega) (by omega) rfl (rows1 hb.rd fun x hx => hb.lt hx) (by simp; omega) ?_
  intro x w3 hx hxf hm3
  simp only [List.flatten_cons, List.flatten_nil, List.append_nil] at hx
  refine callK_ret (c_ref (hb.no hm3).rd (by omega)) ?_
  rintro v w4 ⟨y, rfl, hy, hyf, hm4⟩
  refine ⟨y, rfl, callK_ret (c_same (hx.no hm4).rd hy.rd (by rw [sha_len]; omega)) ?_⟩
  rintro v w5 ⟨rfl, hm5⟩
  refine ⟨_, rfl, ?_⟩
  rw [show decide (sha l = sha l) = true by simp]
  refine condK_i (fun e => by cases e) fun _ => ?_
  have hm25 := (hm3.tr hm4).tr hm5
  refine sem_byte (w0 := W) (hb.no hm25) hbf (hm2.tr hm25) (by omega) fun s' w6 ho6 hf6 hm6 hl6 => ?_
  rw [wrap_nat (by omega)]
  exact ⟨⟨k + 1, _, rfl, by omega, by simp [hl], ho6, hf6, hm6⟩, by (try simp only []); omega⟩
end Go.Proofs.YtbbfcamopdckmaaDoor
