/- Bytes held against each other; a number taken into a range. -/
import Derived.Test.YtknbihogadcnpaaGreatG0
import Derived.Test.YtknbihogadcnpaaGreatFnS
set_option linter.unusedSimpArgs false
set_option linter.unusedVariables false
set_option maxRecDepth 100000
namespace Go.Proofs.YtknbihogadcnpaaGreat
open Go Go.Sh

theorem c_same {w : World} {a b : Slc} {l m : List UInt8} (ha : SlRd w a 1 (bys l)) (hb : SlRd w b 1 (bys m)) (hn : l.length ≤ 9000000000000000000) :
    Calls Tryz.prog 10 #[.slice a.a a.len a.cap, .slice b.a b.len b.cap] w (Ret fun v w' => v = .bool (decide (l = m)) ∧ Mod NoB w w') := by
  refine call10 _ _ ?_
  unfold sh10
  have hla := rd_len8 ha; have hlb := rd_len8 hb
  refine condK_i (fun h => ⟨?_, Mod.refl _ _⟩) (fun h => ?_)
  · have : l ≠ m := by rintro rfl; simp at h; omega
    simp [this]
  · have hlen : l.length = m.length := by simp at h; omega
    refine ⟨fun l' w' => match l' with | [.i _ x] => ∃ k : Nat, x = k ∧ k ≤ l.length ∧ l.take k = m.take k ∧ Mod NoB w w' | _ => False, fun l' _ => match l' with | [.i _ x] => (l.length - x).toNat | _ => 0, ⟨0, rfl, by omega, rfl, Mod.refl _ _⟩, ?_⟩
    rintro x w1 ⟨k, rfl, hk, hkk, hm1⟩
    refine condK_i (fun h => ?_) (fun h => ?_)
    · have hk' : k < l.length := by simp at h; omega
      obtain ⟨a1, ea, hra⟩ := rd_u8 ha hk'
      obtain ⟨a2, eb, hrb⟩ := rd_u8 hb (i := k) (by omega)
      rw [ea, eb]
      refine ⟨⟨by omega, by omega⟩, ⟨by omega, by omega⟩, _, Rd.drew (hra.mod hm1 fun h => h), _, Rd.drew (hrb.mod hm1 fun h => h), condK_i (fun hne => ⟨?_, Mod.dr hm1⟩) (fun hne => ⟨⟨k + 1, wrap_nat (by omega), by omega, ?_, Mod.dr hm1⟩, ?_⟩)⟩
      · have : l ≠ m := by rintro rfl; simp at hne
        simp [this]
      · have : l[k] = m[k]'(by omega) := by simpa using hne
        rw [take_snoc hk', take_snoc (by omega), hkk, this]
      · rw [wrap_nat (by omega)]; (try simp only []); omega
    · have hk' : k = l.length := by simp at h; omega
      rw [hk', List.take_length, hlen, List.take_length] at hkk
      exact ⟨by simp [hkk], hm1⟩

end Go.Proofs.YtknbihogadcnpaaGreat
