/- The kit's rows of rows: are they kept? -/
import Derived.Test.YtbbfcamopdckmaaDoorF2
set_option linter.unusedSimpArgs false
set_option linter.unusedVariables false
set_option maxRecDepth 100000
namespace Go.Proofs.YtbbfcamopdckmaaDoor
open Go Go.Sh

theorem c_keptRows {w0 w : World} {x s : Slc} {pl : List (List UInt8)} {X : Nat → Prop} (hx : LentR w0 w x pl) (hp : PartsAt w s pl X) (hn : pl.flatten.length ≤ 1000000000) (hs : s.len ≤ 1000000000) :
    Calls Tryd.prog 20 #[.slice x.a x.len x.cap, .slice s.a s.len s.cap] w (Ret fun v w' => v = .bool true ∧ Mod NoB w w') := by
  refine call20 _ _ ?_
  unfold sh20
  have hL := row_blk hp
  obtain ⟨ss, ms, h1, h2, h3, h4, h5, h6, h7⟩ := hx
  obtain ⟨ss0, p1, p2, p3, p4⟩ := hp
  have hc : x.len + 12 ≤ x.cap := h4.2.1
  have hel : x.len = s.len := by omega
  refine condK_i (fun h => by simp [hel] at h) fun _ => ?_
  rw [show IntKind.i64.wrap ((s.len : Int) + 12) = ((s.len + 12 : Nat) : Int) by rw [wrap_i64 (by omega)]; omega]
  refine ⟨⟨by omega, by omega⟩, ?_⟩
  have e1 : cutSl x 1 0 (((s.len + 12 : Nat) : Int)).toNat x.cap = ⟨x.a, s.len + 12, x.cap⟩ := by rw [Int.toNat_natCast]; exact cutSl0 (by omega) (by omega)
  simp only [e1]
  have hall : SlRd w ⟨x.a, s.len + 12, x.cap⟩ 1 ((ss ++ ms).map Slc.val) := by rw [← hel]; exact h4.rd
  have hal : (ss ++ ms).length = s.len + 12 := by simp; omega
  refine ⟨fun l' w' => match l' with | [.i _ i] => ∃ k : Nat, i = k ∧ k ≤ s.len + 12 ∧ Mod NoB w w' | _ => False, fun l' _ => match l' with | [.i _ i] => (s.len + 12 - i).toNat | _ => 0, ⟨0, rfl, by omega, Mod.refl _ _⟩, ?_⟩
  rintro i w1 ⟨k, rfl, hk, hm1⟩
  refine condK_i (fun hlt => ?_) fun hge => ⟨rfl, hm1⟩
  have hk' : k < s.len + 12 := by simp at hlt; omega
  obtain ⟨xa, ea, hra⟩ := rd_slc hall (i := k) (by omega)
  have ea' : x.a = some xa := ea
  have hnext : ∀ w', Mod NoB w w' → (∃ k' : Nat, IntKind.i64.wrap ((k : Int) + 1) = k' ∧ k' ≤ s.len + 12 ∧ Mod NoB w w') ∧ (s.len + 12 - IntKind.i64.wrap ((k : Int) + 1)).toNat < ((s.len : Int) + 12 - (k : Int)).toNat := fun w' hm => by
    rw [wrap_nat (by omega)]
    exact ⟨⟨k + 1, rfl, by omega, hm⟩, by omega⟩
  refine ⟨fun w' => Mod NoB w w', hm1.dr, condK_i (fun h => ?_) fun h => ?_⟩
  · have hkl : k < s.len := by simp at h; omega
    obtain ⟨sa, es, hrs⟩ := rd_slc p1 (i := k) (by omega)
    simp only [ea', es, Int.toNat_natCast]
    have hv : (ss ++ ms)[k]'(by omega) = ss[k]'(by omega) := List.getElem_append_left _
    rw [hv] at hra
    have hkp : k < pl.length := by omega
    obtain ⟨g1, g2⟩ := h6 k (by omega) hkp
    have g3 := (p4 k (by omega) hkp).1
    have g4 := one_le hkp
    refine ⟨⟨by omega, by omega⟩, ⟨by omega, by omega⟩, ss[k], fun w' h => hra.mod h fun h => h, ss0[k], fun w' h => hrs.mod h fun h => h, ?_, trivial⟩
    refine callK_ret (c_keptBytes (g1.no hm1.dr) (g3.no hm1.dr) (by omega)) ?_
    rintro v w2 ⟨rfl, hm2⟩
    have hM2 := hm1.dr.tr hm2
    exact ⟨true, rfl, hM2, condK_i (fun e => by cases e) fun _ => condK_i (fun e => by simp at e; omega) fun _ => ⟨⟨hM2, ⟨⟨hM2, hnext _ hM2⟩, trivial⟩⟩, trivial⟩⟩
  · have hkl : s.len ≤ k := by simp at h; omega
    simp only [ea', Int.toNat_natCast]
    have hv : (ss ++ ms)[k]'(by omega) = ms[k - s.len]'(by omega) := by rw [List.getElem_append_right (by omega)]; congr 1; omega
    rw [hv] at hra
    obtain ⟨g1, g2, g3⟩ := h7 (k - s.len) (by omega)
    refine ⟨⟨hm1.dr, condK_i (fun _ => ⟨⟨by omega, by omega⟩, ms[k - s.len]'(by omega), fun w' h => hra.mod h fun h => h, ?_, trivial⟩) fun e => by simp at e; omega⟩, trivial⟩
    rw [show IntKind.i64.wrap ((k : Int) - (s.len : Int)) = ((k - s.len : Nat) : Int) by rw [wrap_i64 (by omega)]; omega]
    refine callK_ret c_markRow ?_
    rintro v w2 ⟨y, rfl, hy, hyf, hm2⟩
    have hM2 := hm1.dr.tr hm2
    refine ⟨y, rfl, hM2, ?_, trivial⟩
    refine callK_ret (c_same (g1.no hM2) hy.rd (by simp [mt])) ?_
    rintro v w3 ⟨rfl, hm3⟩
    have hM3 := hM2.tr hm3
    exact ⟨_, rfl, hM3, condK_i (fun e => by simp at e) fun _ => hnext _ hM3⟩
end Go.Proofs.YtbbfcamopdckmaaDoor
