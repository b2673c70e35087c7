/- A region that draws its order, in any round: loads may be taken first while a word on the world holds. Own proof, over the kit's fenced calculus. -/
import Derived.Test.YtknbihogadcnpaaGreatT0
import Derived.RangeFuncLeaves
import Derived.RangeFuncCalls
set_option linter.unusedSimpArgs false
set_option linter.unusedVariables false
namespace Go.Sh
open Go

/-- the wide fence, in a round or in none -/
abbrev Fr (r : Option Nat) : Fence := { Fence.wide with round := r }
theorem fr_fn (r : Option Nat) (f : FuncId) : (Fr r).fn f := trivial
theorem callsIn_fr {r : Option Nat} {n : Nat} {P : Program} {f : FuncId} {args : Array Value} {w : World} {R : Ending → World → Prop} : CallsIn (Fr r) n P f args w R ↔ Calls P f args w R := callsIn_wide

theorem semAt_plain {r : Option Nat} {o : Oper} {ρ : Operand → Value} (h : isDefer o.op = false) : o.semAt r ρ = execOp ρ o :=
  Oper.semAt_eq r ρ o fun c e => by rw [e] at h; cases h

section
variable {P : Program} {ops : Array Oper} {Q : Exit → Act → World → Prop} {r : Option Nat} {S : World → Prop}

theorem late_spec {j i : Nat} {o x : Oper} (h : late ops j = true) (hj : ops[j]? = some o) (hi : ops[i]? = some x) (hl : isLoadOp x = true) : ∃ e ∈ o.after, Region.binds .any e = true ∧ e.on = i := by
  unfold late at h
  rw [hj] at h
  simp only [List.all_eq_true, List.mem_range] at h
  have hlt : i < ops.size := (Array.getElem?_eq_some_iff.1 hi).1
  have := h i hlt
  rw [hi] at this
  simp only [hl, Bool.not_true, Bool.false_or, Array.any_eq_true, Bool.and_eq_true, Nat.beq_eq] at this
  obtain ⟨k, hk, h1, h2⟩ := this
  exact ⟨o.after[k], Array.getElem_mem _, h1, h2⟩

abbrev wOp (P : Program) (ops : Array Oper) (r : Option Nat) (Q : Exit → Act → World → Prop) := wpOpIn (Fr r) 0 P ops Q
def wAny (P : Program) (ops : Array Oper) (r : Option Nat) (Q : Exit → Act → World → Prop) (S : World → Prop) : Nat → Array Bool → Act → World → Prop
  | 0, listed, a, w => Region.ready .any ops listed = [] ∧ Q .normal a w
  | fuel + 1, listed, a, w =>
    (Region.ready .any ops listed = [] → Q .normal a w) ∧
    ∀ i ∈ Region.ready .any ops listed, wOp P ops r Q i (fun a' w' => ((eff P ops i = true → late ops i = false → S w') ∧ (eff P ops i = false → w' = w)) ∧ wAny P ops r Q S fuel (listed.setIfInBounds i true) a' w') a w
theorem wAny_in : ∀ (fuel : Nat) (listed : Array Bool) (a : Act) (w : World), wAny P ops r Q S fuel listed a w → wpAnyIn (Fr r) 0 P .any ops Q fuel listed a w
  | 0, _, _, _, h => h
  | fuel + 1, _, _, _, h => ⟨h.1, fun i hi => wpOpIn_mono (fun a' w' h' => wAny_in fuel _ a' w' h'.2) (h.2 i hi)⟩

theorem YieldsIf.wOp {i : Nat} {o : Oper} {v : Value} {a : Act} (hi : ops[i]? = some o) (hd : isDefer o.op = false) (hy : YieldsIf P ops S o v a)
    {K : Act → World → Prop} {w : World} (hS : S w) (h : K (a.put o.dst v) w) : wOp P ops r Q i K a w := by
  unfold Sh.wOp wpOpIn
  simp only [hi]
  rcases hy with ⟨hw, hv⟩ | ⟨hw, rfl⟩
  · simp only [hw, if_true, Oper.wpIn, semAt_plain hd, hv w hS, Oper.uponIn]
    exact ⟨fun _ _ => trivial, h⟩
  · simp only [hw, Bool.false_eq_true, if_false]
    exact ⟨fun _ _ => trivial, h⟩

theorem wOp_putIf {j : Nat} {oi oj : Oper} {v : Value} (hj : ops[j]? = some oj) (hdj : isDefer oj.op = false) (hap : oi.apart ops oj = true)
    (hsi : ∀ cs b, oi.op ≠ .select cs b) (hsj : ∀ cs b, oj.op ≠ .select cs b)
    (hQ : ∀ c a w, Q (.panic c) (a.put oi.dst v) w → Q (.panic c) a w) {K : Act → World → Prop} {a : Act} {w : World}
    (hy : YieldsIf P ops S oi v a) (h : wOp P ops r Q j K (a.put oi.dst v) w) :
    wOp P ops r Q j (fun a' w' => YieldsIf P ops S oi v a' ∧ K (a'.put oi.dst v) w') a w := by
  obtain ⟨h1, h2, h3⟩ := Oper.apart_spec hap
  have keep : ∀ (a : Act), YieldsIf P ops S oi v a → ∀ u, YieldsIf P ops S oi v (a.put oj.dst u) := fun a hy u =>
    hy.of_same (execOp_put oi hsi a oj.dst u h3) (wanted_put oi a oj.dst u h3)
  unfold Sh.wOp wpOpIn at *
  simp only [hj] at *
  rw [wanted_put oj a oi.dst v h1] at h
  split
  · rename_i hw
    simp only [hw, if_true] at h
    unfold Oper.wpIn at *
    refine ⟨fun _ _ => trivial, ?_⟩
    have h := h.2
    rw [semAt_plain hdj, execOp_put oj hsj a oi.dst v h1] at h
    rw [semAt_plain hdj]
    generalize (execOp a.eval oj).run P w = res at *
    cases res with
    | ok n w' =>
      cases n <;> simp only [Oper.uponIn] at h ⊢
      case value u => exact ⟨keep a hy u, by rw [← Act.put_comm a v u h2]; exact h⟩
      case skip => exact ⟨keep a hy _, by rw [← Act.put_comm a v undef h2]; exact h⟩
      case defer d =>
        refine ⟨(hy.of_same rfl rfl : YieldsIf P ops S oi v { a with defers := d :: a.defers }) |> fun hy' => keep _ hy' _, ?_⟩
        rw [← Act.put_comm _ v undef h2, ← Act.put_defers]
        exact h
      case enter f args =>
        refine ⟨h.1, CallsIn.mono h.2 fun e w'' he => ?_⟩
        cases e with
        | returned u => exact ⟨keep a hy u, by rw [← Act.put_comm a v u h2]; exact he⟩
        | panicked c => exact hQ _ _ _ he
        | outgrown => exact he
      case row row args => exact ⟨h.1, RowsIn.mono h.2 fun u w'' he => ⟨keep a hy u, by rw [← Act.put_comm a v u h2]; exact he⟩⟩
      case round l f tmps assign body =>
        refine ⟨h.1, RoundIn.mono h.2 fun e w'' he => ?_⟩
        cases e with
        | returned u => exact ⟨keep a hy u, by rw [← Act.put_comm a v u h2]; exact he⟩
        | panicked c => exact hQ _ _ _ he
        | outgrown => exact he
    | halt x w' =>
      cases x <;> simp only [Oper.uponIn] at h ⊢
      case panic u => exact hQ _ _ _ h
  · rename_i hw
    simp only [hw] at h
    exact ⟨fun _ _ => trivial, keep a hy _, by rw [← Act.put_comm a v undef h2]; exact h.2⟩

/-- taken first -/
theorem wAny_first {i : Nat} {oi : Oper} {v : Value} {S' : World → Prop} (hi : ops[i]? = some oi) (hsel : ∀ (j : Nat) (o : Oper) cs b, ops[j]? = some o → o.op ≠ .select cs b) (hdf : ∀ (j : Nat) (o : Oper), ops[j]? = some o → isDefer o.op = false)
    (hQ : ∀ c a w, Q (.panic c) (a.put oi.dst v) w → Q (.panic c) a w) (hS' : (∀ w, S' w) ∨ (isLoadOp oi = true ∧ ∀ w, S w → S' w)) (hei : eff P ops i = false) :
    ∀ (fuel : Nat) (listed : Array Bool) (a : Act) (w : World),
      (∀ j oj, ops[j]? = some oj → j ≠ i → listed.getD j true = false → (∀ e ∈ oj.after, Region.binds .any e = true → e.on ≠ i) → oi.apart ops oj = true) →
      i ∈ Region.ready .any ops listed → YieldsIf P ops S' oi v a → S' w →
      wAny P ops r Q S fuel (listed.setIfInBounds i true) (a.put oi.dst v) w → wAny P ops r Q S (fuel + 1) listed a w := by
  intro fuel
  induction fuel with
  | zero =>
    intro listed a w _ hr hy hS H
    refine ⟨fun h => (by rw [h] at hr; cases hr), fun j hj => ?_⟩
    by_cases hji : j = i
    · subst hji; exact YieldsIf.wOp hi (hdf _ _ hi) hy hS ⟨⟨fun e => by (rw [hei] at e; cases e), fun _ => rfl⟩, H⟩
    · have := ready_mono hj hji
      rw [H.1] at this
      cases this
  | succ fuel ih =>
    intro listed a w hfree hr hy hS H
    refine ⟨fun h => (by rw [h] at hr; cases hr), fun j hj => ?_⟩
    by_cases hji : j = i
    · subst hji; exact YieldsIf.wOp hi (hdf _ _ hi) hy hS ⟨⟨fun e => by (rw [hei] at e; cases e), fun _ => rfl⟩, H⟩
    · have h1 := H.2 j (ready_mono hj hji)
      obtain ⟨hjun, oj, hoj, hall⟩ := mem_ready.1 hj
      have hnot : ∀ e ∈ oj.after, Region.binds .any e = true → e.on ≠ i := fun e he hb heq => by
        have h1 := hall e he hb
        have h0 := (mem_ready.1 hr).1
        rw [heq] at h1
        rcases Nat.lt_or_ge i listed.size with h' | h'
        · simp [h'] at h0 h1; rw [h0] at h1; cases h1
        · simp [Array.getElem?_eq_none h'] at h1
      have hnl : isLoadOp oi = true → late ops j = false := fun hl => by
        cases hlt : late ops j with
        | false => rfl
        | true =>
          obtain ⟨e, he, hb, hon⟩ := late_spec hlt hoj hi hl
          exact absurd hon (hnot e he hb)
      have h2 := wOp_putIf hoj (hdf _ _ hoj) (hfree j oj hoj hji hjun hnot) (fun cs b => hsel i oi cs b hi) (fun cs b => hsel j oj cs b hoj) hQ hy h1
      have hfree' : ∀ k ok, ops[k]? = some ok → k ≠ i → (listed.setIfInBounds j true).getD k true = false →
          (∀ e ∈ ok.after, Region.binds .any e = true → e.on ≠ i) → oi.apart ops ok = true := fun k ok hk hki hun hno => by
        refine hfree k ok hk hki ?_ hno
        by_cases hjk : j = k
        · subst hjk; exact hjun
        · rw [getD_set_ne true hjk] at hun; exact hun
      refine wpOpIn_mono (fun a' w' h3 => ?_) h2
      have hS2 : S' w' := by
        cases he : eff P ops j with
        | false => rw [h3.2.1.2 he]; exact hS
        | true =>
          rcases hS' with hS' | ⟨hl, hS'⟩
          · exact hS' w'
          · exact hS' w' (h3.2.1.1 he (hnl hl))
      refine ⟨h3.2.1, ih (listed.setIfInBounds j true) a' w' hfree' (ready_mono hr (Ne.symm hji)) h3.1 hS2 ?_⟩
      rw [Array.setIfInBounds_comm _ _ hji]
      exact h3.2.2
/-- the moves -/
theorem wAny_take {i : Nat} {oi : Oper} {v : Value} {S' : World → Prop} {fuel : Nat} {listed : Array Bool} {a : Act} {w : World} (hi : ops[i]? = some oi)
    (hs : Region.noSelect ops = true) (hdf : ∀ (j : Nat) (o : Oper), ops[j]? = some o → isDefer o.op = false) (hf : Region.free .any ops listed i = true) (hr : (Region.ready .any ops listed).contains i = true)
    (hQ : ∀ c a w, Q (.panic c) (a.put oi.dst v) w → Q (.panic c) a w) (hS' : (∀ w, S' w) ∨ (isLoadOp oi = true ∧ ∀ w, S w → S' w)) (hei : eff P ops i = false) (hy : YieldsIf P ops S' oi v a) (hS : S' w)
    (h : wAny P ops r Q S fuel (listed.setIfInBounds i true) (a.put oi.dst v) w) : wAny P ops r Q S (fuel + 1) listed a w :=
  wAny_first hi (Region.noSelect_spec hs) hdf hQ hS' hei fuel listed a w (Region.free_spec hi hf) (by simpa using hr) hy hS h
theorem wAny_all {rs : List Nat} {fuel : Nat} {listed : Array Bool} {a : Act} {w : World} (hr : Region.ready .any ops listed = rs) (hne : rs ≠ [])
    (h : ∀ i ∈ rs, wOp P ops r Q i (fun a' w' => ((eff P ops i = true → late ops i = false → S w') ∧ (eff P ops i = false → w' = w)) ∧ wAny P ops r Q S fuel (listed.setIfInBounds i true) a' w') a w) : wAny P ops r Q S (fuel + 1) listed a w :=
  ⟨fun h0 => absurd (hr ▸ h0) hne, hr ▸ h⟩
theorem wAny_done {listed : Array Bool} {a : Act} {w : World} (hr : Region.ready .any ops listed = []) (h : Q .normal a w) : ∀ fuel, wAny P ops r Q S fuel listed a w
  | 0 => ⟨hr, h⟩
  | _ + 1 => ⟨fun _ => h, by rw [hr]; simp⟩
theorem wpIn_region_any' {id : Nat} {a : Act} {w : World} (hm : P.follows .mixedOrders = true)
    (h : wAny P ops r Q S ops.size (Array.replicate ops.size false) a w.drew) : (Code.region id ops true).wpIn (Fr r) 0 P Q a w :=
  wpIn_region_any hm (wAny_in _ _ _ _ h)
end
end Go.Sh
