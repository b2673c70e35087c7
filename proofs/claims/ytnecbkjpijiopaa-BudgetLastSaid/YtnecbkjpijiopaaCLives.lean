/- BudgetLives: whatever is opened, closed and counted, the code's budget tells what the document's tells (to 500 steps): the law returns true for every input; no condition. -/
import Derived.Test.YtnecbkjpijiopaaCNil
import Derived.Test.YtnecbkjpijiopaaB11
import Derived.Deep.Slices
import Derived.Deep.Strs
set_option linter.unusedSimpArgs false
set_option linter.unusedVariables false
namespace Go.Proofs.Ytnecbkjpijiopaa
open Go Go.Sh Go.ChangeShapes Go.WideShapes Go.ChangeAt Go.RowKit

theorem f29 : ∃ a b c : Field, Try.prog.underlying 29 = some (.struct #[a, b, c]) ∧ a.type = 3 ∧ b.type = 3 ∧ c.type = 3 ∧ a.offset = 0 ∧ b.offset = 1 ∧ c.offset = 2 :=
  struct3_of (by kernel_rfl)
theorem cells3 : Try.prog.cellsOf 3 = 1 := by kernel_rfl
theorem cells29 : Try.prog.cellsOf 29 = 3 := by kernel_rfl

theorem dos_of {H : Type} {enc : TypeId × Value → H} {W : World} {spare : Nat → Bool} {held : Bool} {a : Option Addr} {len cap fuel : Nat} {x : DataW H × List MemPlace}
    (h : DataW.trod enc Try.prog W 0 spare held fuel 22 [.slice a len cap] = some x) : Dos W ⟨a, len, cap⟩ := by
  intro k hk
  dsimp only at hk
  rcases Deep.open_slice Try.underlying22 h with ⟨hcs, _⟩ | ⟨ad, l, c, m, n, D, Pl, hcs, _, hl, _, hm, _, hx⟩
  · cases hcs; omega
  · cases hcs
    obtain ⟨fa, fb, fc, hs, ta, tb, tc, oa, ob, oc⟩ := f29
    obtain ⟨cs, h1, h2⟩ := hx k (by rw [hm]; split <;> omega)
    rw [cells29] at h1
    obtain ⟨y0, y1, y2, n', _, hlen, e0, e1, e2⟩ := Deep.trod_struct3 hs h2
    rw [ta, oa, cells3] at e0
    rw [tb, ob, cells3] at e1
    rw [tc, oc, cells3] at e2
    obtain ⟨n0, q0, _, _⟩ := DataW.trod_int Try.underlying3 e0
    obtain ⟨n1, q1, _, _⟩ := DataW.trod_int Try.underlying3 e1
    obtain ⟨n2, q2, _, _⟩ := DataW.trod_int Try.underlying3 e2
    rw [cells29] at hlen
    obtain ⟨_, _, hcell⟩ := World.cells?_some h1
    match cs, hlen, q0, q1, q2 with
    | [c0, c1, c2], _, q0, q1, q2 =>
      simp at q0 q1 q2
      subst q0 q1 q2
      have hr : Rd W (ad.add (k * 3)) [.int .i64 n0, .int .i64 n1, .int .i64 n2] := fun j v hj => by
        have hj3 : j < 3 := by
          rcases Nat.lt_or_ge j 3 with h | h
          · exact h
          · rw [List.getElem?_eq_none (by simpa using h)] at hj; cases hj
        rw [hcell j hj3, hj]
      refine ⟨ad, n0, n1, n2, rfl, hr, ?_⟩
      have := World.block_lt_of_cell? W _ (hr 0 _ rfl)
      simpa only [add_block] using this

set_option maxRecDepth 100000 in
theorem budgetLives_lifted (os : Os) (started : os.Started) (H : Type) (enc : TypeId × Value → H) :
    ReturnsInHanded {} Try.checked os 3 .any (Rows.budgetLivesSpec.pre6 enc Try.prog Try.f3 Rows.budgetLivesRow.domain false) (Rows.budgetLivesSpec.post enc Try.prog Try.f3 false true false false) := by
  refine returnsInHanded_of_change (C := Try.checked) own started (by kernel_rfl) Try.func3
    (ChangeSpec.witness6 (enc := enc) (C := Try.checked) false ⟨#[], #[.int .i64 0, .int .i64 0, .slice none 0 0], []⟩ 8 (by kernel_rfl) (by kernel_rfl) (by kernel_rfl) (by kernel_rfl)) ?_
  intro W base args ds gs before hval0 hW hcnd _
  have hval : ∀ (j : Nat) t v, Try.f3.params[j]? = some t → args[j]? = some v → Value.okWide Try.prog W .any base t v := hval0
  have hW' := hW
  obtain ⟨p, q, hA0, hV, rfl, hfz, hnd⟩ := hW
  have hA : DataW.TrodAll enc Try.prog W 0 (fun _ => true) true Try.f3.params.toList args.toList ds p := hA0
  rw [Try.params3] at hA hval
  obtain ⟨v0, v1, v2, d0, d1, d2, p0, p1, p2, rfl, rfl, rfl, h0, h1, h2⟩ := trodAll_three hA
  obtain ⟨rfl, rfl⟩ := trodVars_none hV
  obtain ⟨a, rfl, rfl, rfl, wa⟩ := open_int Try.underlying3 (hval 0 3 v0 rfl rfl) h0
  obtain ⟨b, rfl, rfl, rfl, wb⟩ := open_int Try.underlying3 (hval 1 3 v1 rfl rfl) h1
  obtain ⟨a2, len2, cap2, rfl⟩ := okWide_slice Try.underlying22 (hval 2 22 v2 rfl rfl)
  have k2 := h2
  have lt2 : ∀ x ∈ p2, x.block < W.heap.size := by obtain ⟨m, hm⟩ := k2; exact DataW.trod_lt m _ _ _ hm
  obtain ⟨fuel, hf⟩ := h2
  have hdos : Dos W ⟨a2, len2, cap2⟩ := dos_of hf
  clear hA0 hval0
  refine (say_of (c3 (sess := a) (bad := b) hdos)).mono fun e W' ⟨he, bel⟩ => ?_
  subst he
  exact ⟨_, rfl, _, _, _, [], _, [], hW', trodAll_mk1 (shut_bool Try.underlying4 _), trodAll_mk3 (shut_int Try.underlying3 wa) (shut_int Try.underlying3 wb) (Below.trod laidOut (by kernel_rfl) (of_decide_eq_true (by kernel_rfl)) k2 bel lt2), rfl, bel.frame _, fun h => by cases h⟩

theorem budgetLives_proved : Rows.BudgetLivesSaid :=
  OpenClaim.holds_of_wide 3 Try.f3 rfl rfl rfl rfl rfl rfl rfl ⟨rfl, rfl, rfl, rfl, rfl⟩ rfl rfl rfl rfl rfl (by kernel_rfl) Try.func3 (by kernel_rfl)
    (of_decide_eq_true (by kernel_rfl)) (by unfold Func.isWrapper; rw [if_neg (of_decide_eq_false (by kernel_rfl))]; exact ⟨rfl, rfl⟩)
    (fun os started H enc _ => budgetLives_lifted os started H enc)
end Go.Proofs.Ytnecbkjpijiopaa
