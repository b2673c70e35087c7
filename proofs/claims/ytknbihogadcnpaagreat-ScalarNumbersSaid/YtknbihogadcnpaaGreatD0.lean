/- A store into a slice at hand. Generic in the program. -/
import Derived.Test.YtknbihogadcnpaaGreatH8
set_option linter.unusedSimpArgs false
set_option linter.unusedVariables false
namespace Go.Sh
open Go

theorem Mod.dr {S : Nat → Prop} {a b : World} (h : Mod S a b) : Mod S a b.drew := h.tr (Mod.drew _ _)
section
variable {P : Program} {w : World}
theorem set_drop_take {α : Type} (l : List α) (o i n : Nat) (v : α) (hi : i < n) (hl : o + n ≤ l.length) : ((l.set (o + i) v).drop o).take n = ((l.drop o).take n).set i v := by
  apply List.ext_getElem?
  intro j
  rw [List.getElem?_take, List.getElem?_set]
  have e1 : ((l.drop o).take n).length = n := by rw [List.length_take, List.length_drop]; omega
  rw [e1]
  split
  · next hj =>
    rw [List.getElem?_drop, List.getElem?_set]
    split
    · next h =>
      have : i = j := by omega
      subst this
      rw [if_pos (by omega), if_pos rfl]
    · next h =>
      rw [if_neg (by omega), List.getElem?_take, if_pos hj, List.getElem?_drop]
  · next hj =>
    rw [if_neg (by omega), List.getElem?_take, if_neg hj]
/-- s[i] = v -/
theorem semU_own1 {T : TypeId} {s : Slc} {vs : List Value} {a : Addr} {i : Nat} {v : Value} {K : World → Prop} (hi : (P.info? T).isSome = true) (hsz : sizeAt P T = 1) (h1 : v.oneCell' = true)
    (ho : Own w s 1 vs) (ha : s.a = some a) (hil : i < s.len)
    (hk : ∀ w', Own w' s 1 (vs.set i v) → Mod (fun x => s.blk = some x) w w' → w'.heap.size = w.heap.size → K w') : semU P (storeVar T (a.add (i * 1)) v) w K := by
  rcases ho.owned with ⟨h0, h0', _⟩ | ⟨hcp, b, o, l, E, e1, e2, e3, e4⟩
  · omega
  · rw [ha] at e1; cases e1
    have hc := ho.2.1
    have hv := ho.1
    rw [addl]
    refine semU_store1 (l := l) hi hsz h1 e2 (by omega) fun w' ht hb => hk w' ?_ ?_ ht.size
    · refine ⟨by rw [List.length_set]; exact hv, hc, .inr ⟨b, o, _, E, ha, hb, by rw [List.length_set]; exact e3, ?_⟩⟩
      rw [Nat.mul_one, Nat.mul_one] at *
      rw [set_drop_take l o i s.len v hil (by omega), e4]
    · refine ht.mod.mono fun x _ hx => ?_
      subst hx
      unfold Slc.blk
      rw [if_neg (by omega), ha]; rfl
end
end Go.Sh
