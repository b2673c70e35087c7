/- BudgetLives: the walk. -/
import Derived.Test.YtnecbkjpijiopaaB10
set_option linter.unusedSimpArgs false
set_option linter.unusedVariables false
namespace Go.Proofs.Ytnecbkjpijiopaa
open Go Go.Sh

def pickv (x n : Int) : Int := if n < 1 then 0 else if Int.tmod x n < 0 then IntKind.i64.wrap (Int.tmod x n + n) else Int.tmod x n
theorem c10 {w : World} {x n : Int} : Calls Try.prog 10 #[.int .i64 x, .int .i64 n] w (Ret fun v w' => v = .int .i64 (pickv x n) ∧ w' = w) := by
  refine call10 _ _ ?_
  unfold sh10 pickv
  refine condK_i (fun h => ?_) (fun h => ?_)
  · rw [if_pos (of_decide_eq_true h)]; exact ⟨rfl, rfl⟩
  · have h' := of_decide_eq_false h
    rw [if_neg h']
    refine ⟨by omega, condK_i (fun h => ?_) (fun h => ?_)⟩
    · rw [if_pos (of_decide_eq_true h)]; exact ⟨rfl, rfl⟩
    · rw [if_neg (of_decide_eq_false h)]; exact ⟨rfl, rfl⟩

/-- a row of deeds reads as numbers -/
def Dos (w : World) (l : Slc) : Prop := ∀ k : Nat, k < l.len → ∃ a x y z, l.a = some a ∧ Rd w (a.add (k * 3)) [.int .i64 x, .int .i64 y, .int .i64 z] ∧ a.block < w.heap.size
theorem Dos.mod {w w' : World} {l : Slc} (h : Dos w l) (hm : Mod NoB w w') : Dos w' l := by
  intro k hk
  obtain ⟨a, x, y, z, h1, h2, h3⟩ := h k hk
  exact ⟨a, x, y, z, h1, h2.mod hm fun h => h, Nat.lt_of_lt_of_le h3 hm.size⟩
theorem ps_neq_same {ox oy : Operand} {x : Bool} {K : Value → Prop} (hk : K (.bool false)) : pureSem Try.prog (do eqGuard .neq 4 ox oy (.bool x) (.bool x); binOp .neq 4 (.bool x) (.bool x)) K :=
  ps_neq_bool (by kernel_rfl) (by cases x <;> exact hk)
theorem i29 : ∃ i, Try.prog.info? 29 = some i ∧ i.zero = some (.agg #[.int .i64 0, .int .i64 0, .int .i64 0]) ∧ i.size = 3 ∧ i.bytes = 24 := info_of (by kernel_rfl) (by kernel_rfl) (by kernel_rfl)

theorem c3 {w : World} {sess bad : Int} {l : Slc} (hl : Dos w l) : Calls Try.prog 3 #[.int .i64 sess, .int .i64 bad, .slice l.a l.len l.cap] w (Ret fun v w' => v = .bool true ∧ Mod NoB w w') := by
  refine call3 _ _ _ ?_
  unfold sh3
  refine condK_i (fun _ => ?_) (fun hle => ?_)
  · refine callK_ret c7 ?_
    rintro v w' ⟨rfl, hm⟩
    exact ⟨_, rfl, rfl, hm⟩
  have hle' : l.len ≤ 500 := by have := of_decide_eq_false hle; omega
  obtain ⟨i29, g1, g2, g3, g4⟩ := i29
  refine callK_ret c8 ?_
  rintro v w1 ⟨a, Sa, rfl, hB, hSa, hm1⟩
  refine ⟨_, rfl, callK_ret c9 ?_⟩
  rintro v w2 ⟨r, Sr, rfl, hR, hSr, hm2⟩
  have hT0 : Two none w w2 a r (bst0 (max1 sess) (max1 bad)) [] [] (max1 sess) (max1 bad) :=
    ⟨Sa, Sr, hB.mod hm2 fun _ _ h => h, hR, fun x h1 h2 => by have := hB.low x h1; have := hSr x h2; omega, hSa, fun x hx => by have := hSr x hx; have := hm1.size; omega, hm1.no hm2, by simp⟩
  have hR0 : Rel (bst0 (max1 sess) (max1 bad)) [] [] (max1 sess) (max1 bad) := ⟨fun q => rfl, .nil, rfl, rfl⟩
  refine ⟨_, rfl, fun l' w3 => match l' with
      | [.i _ i] => ∃ k : Nat, i = k ∧ k ≤ l.len ∧ ∃ st op bd, Two none w w3 a r st op bd (max1 sess) (max1 bad) ∧ Rel st op bd (max1 sess) (max1 bad) ∧ op.length ≤ k ∧ bd.length ≤ k
      | _ => False, fun l' _ => match l' with | [.i _ i] => (l.len - i).toNat | _ => 0, ⟨0, rfl, by omega, _, _, _, hT0, hR0, by simp, by simp⟩, ?_⟩
  rintro i w3 ⟨k, rfl, hk, st, op, bd, hT, hRel, hop, hbd⟩
  refine condK_i (fun hlt => ?_) (fun _ => ?_)
  · have hlt' : k < l.len := by simpa using hlt
    obtain ⟨ad0, x, y, z, ha0, hrd, hab⟩ := (hl.mod hT.m) k hlt'
    refine ⟨⟨by omega, by omega⟩, ?_⟩
    rw [ha0]
    refine ⟨x, y, z, hrd, sem_alloc (l := [.int .i64 0, .int .i64 0, .int .i64 0]) g1 g2 rfl fun d w4 hN hd => ⟨_, rfl, semU_store (o := 0) (vs := [.int .i64 x, .int .i64 y, .int .i64 z]) (by kernel_rfl) (by kernel_rfl) rfl hd (by simp) (by intro u hu; simp at hu; rcases hu with rfl | rfl | rfl <;> rfl) fun w5 hu hd5 => ?_⟩⟩
    have hT5 : Two (some (d, [.int .i64 x, .int .i64 y, .int .i64 z])) w w5 a r st op bd (max1 sess) (max1 bad) := hT.lay hN hu.mod hd5
    refine ⟨fun l' w6 => l' = [] ∧ ∃ st op bd, Two none w w6 a r st op bd (max1 sess) (max1 bad) ∧ Rel st op bd (max1 sess) (max1 bad) ∧ op.length ≤ k + 1 ∧ bd.length ≤ k + 1, ?_, ?_⟩
    · refine ⟨_, hd5.rd1 rfl, callK_ret c10 ?_⟩
      rintro v w6 ⟨rfl, rfl⟩
      have hbad : -1000000 ≤ (st.acc y).2 ∧ (st.acc y).2 ≤ 1000000 := by
        have hc := List.count_le_length (a := y) (l := bd)
        rw [hRel.ac]; dsimp only; omega
      have hlen := hRel.len y
      refine ⟨_, rfl, condK_i (fun _ => ?_) (fun _ => ?_)⟩
      · refine ⟨_, hT5.d.rd1 rfl, _, hT5.d.rd1 rfl, callK_ret (t11 hT5 (by omega)) ?_⟩
        rintro v w7 ⟨rfl, hT7⟩
        refine ⟨rfl, _, hT7.d.rd1 rfl, _, hT7.d.rd1 rfl, callK_ret (t12 hT7 (by omega)) ?_⟩
        rintro v w8 ⟨rfl, hT8⟩
        exact ⟨rfl, rfl, _, _, _, hT8.forget, hRel.close y z, by have := List.length_filter_le (fun p => decide (p ≠ (y, z))) op; omega, by omega⟩
      · refine ⟨fun l' w7 => ∃ b, l' = [.b b] ∧ w7 = w6, ?_, ?_⟩
        · exact condK_i (fun _ => ⟨_, rfl, rfl⟩) (fun _ => ⟨_, rfl, rfl⟩)
        rintro x9 w10 ⟨b, hb, rfl⟩
        refine condK_i (fun _ => ?_) (fun _ => condK_i (fun _ => ?_) (fun _ => ?_))
        · refine ⟨_, hT5.d.rd1 rfl, callK_ret (t13 hT5 hbad) ?_⟩
          rintro v w7 ⟨rfl, hT7⟩
          refine ⟨rfl, _, hT7.d.rd1 rfl, callK_ret (t14 hT7 (by omega)) ?_⟩
          rintro v w8 ⟨rfl, hT8⟩
          exact ⟨rfl, rfl, _, _, _, hT8.forget, hRel.bad y, by omega, by simp; omega⟩
        · refine callK_ret (t15 hT5) ?_
          rintro v w7 ⟨rfl, hT7⟩
          refine ⟨rfl, callK_ret (t16 hT7) ?_⟩
          rintro v w8 ⟨rfl, hT8⟩
          exact ⟨rfl, rfl, _, _, _, hT8.forget, hRel.tick, by omega, by simp⟩
        · refine ⟨_, hT5.d.rd1 rfl, _, hT5.d.rd1 rfl, callK_ret (t17 hT5 (by omega)) ?_⟩
          rintro v w7 ⟨rfl, hT7⟩
          refine ⟨_, _, _, rfl, _, hT7.d.rd1 rfl, _, hT7.d.rd1 rfl, callK_ret (t18 hT7 (by omega)) ?_⟩
          rintro v w8 ⟨rfl, hT8⟩
          obtain ⟨e, hRel'⟩ := hRel.opn y z
          have hln := hRel.lens y z
          rw [← e]
          refine ⟨_, _, _, rfl, condK_i (fun h => by simp at h) (fun _ => ps_neq_same ⟨_, rfl, condK_i (fun h => by simp at h) (fun _ => condK_i (fun h => by simp at h) (fun _ => ?_))⟩)⟩
          exact ⟨rfl, _, _, _, hT8.forget, hRel', by omega, by omega⟩
    · rintro w17 ⟨-, st, op, bd, hT, hRel, hop, hbd⟩
      refine ⟨fun l' w18 => match l' with
          | [.i _ i] => ∃ n : Nat, i = n ∧ n ≤ 2000 ∧ Two none w w18 a r st op bd (max1 sess) (max1 bad)
          | _ => False, fun l' _ => match l' with | [.i _ i] => (k + 1 - i).toNat | _ => 0, ⟨0, rfl, by omega, hT⟩, ?_⟩
      rintro n w18 ⟨n, rfl, hn, hT⟩
      refine condK_i (fun hc => ?_) (fun hc => ?_)
      · have hnk : n ≤ k := by simpa using hc
        refine ⟨fun l' w19 => l' = [.b false] ∧ Two none w w19 a r st op bd (max1 sess) (max1 bad), ?_, ?_⟩
        · obtain ⟨ad, x, y, z, ha, hrd, hab⟩ := (hl.mod hT.m) n (by omega)
          obtain rfl : ad0 = ad := by rw [ha0] at ha; exact Option.some.inj ha
          have hlen := hRel.len y
          have hb : 0 ≤ (n : Int) ∧ (n : Int) < (l.len : Nat) := ⟨by omega, by omega⟩
          have hr0 : ∀ w', Mod NoB w w' → Rd w' ((ad0.add (n * 3)).add 1) [.int .i64 y] := fun w' hm => by
            obtain ⟨ad', x', y', z', ha', hrd', hab'⟩ := hl n (by omega)
            rw [ha] at ha'; cases ha'
            have e := rd_sub (hrd'.mod hT.m fun h => h) (j := 1) rfl
            have e2 := rd_sub hrd (j := 1) rfl
            have e3 := rd1_iff.1 e; rw [rd1_iff.1 e2] at e3; cases e3
            exact rd_sub (hrd'.mod hm fun h => h) rfl
          have hr1 : ∀ w', Mod NoB w w' → Rd w' ((ad0.add (n * 3)).add 2) [.int .i64 z] := fun w' hm => by
            obtain ⟨ad', x', y', z', ha', hrd', hab'⟩ := hl n (by omega)
            rw [ha] at ha'; cases ha'
            have e := rd_sub (hrd'.mod hT.m fun h => h) (j := 2) rfl
            have e2 := rd_sub hrd (j := 2) rfl
            have e3 := rd1_iff.1 e; rw [rd1_iff.1 e2] at e3; cases e3
            exact rd_sub (hrd'.mod hm fun h => h) rfl
          have hTd := hT.mod (Mod.drew NoB w18)
          refine ⟨fun w' => Mod NoB w w', hTd.m, hb, hb, hb, hb, y, hr0, z, hr1, y, hr0, z, hr1, ?_, trivial⟩
          refine callK_ret (t19 hTd (by omega)) ?_
          rintro v w19 ⟨rfl, hT19⟩
          refine ⟨_, rfl, hT19.m, ?_, trivial⟩
          refine callK_ret (t20 hT19 (by omega)) ?_
          rintro v w20 ⟨rfl, hT20⟩
          refine ⟨_, rfl, hT20.m, ?_⟩
          rw [decide_eq_decide.2 (hRel.has y z)]
          refine ps_neq_same ⟨_, rfl, condK_i (fun h => by simp at h) (fun _ => ⟨hb, hb, y, hr0, y, hr0, ?_, trivial⟩)⟩
          refine callK_ret (t21 (peer := y) hT20) ?_
          rintro v w21 ⟨rfl, hT21⟩
          refine ⟨_, rfl, hT21.m, ?_, trivial⟩
          refine callK_ret (t22 (peer := y) hT21 (by omega)) ?_
          rintro v w22 ⟨rfl, hT22⟩
          refine ⟨_, rfl, hT22.m, ?_⟩
          rw [hRel.ac, hRel.k]
          exact ps_neq_same ⟨_, rfl, rfl, hT22⟩
        · rintro x29 w23 ⟨hx, hT23⟩
          cases hx
          refine condK_i (fun h => by simp at h) (fun _ => ⟨by decide, ?_⟩)
          have e8 : Int.tdiv (k : Int) 8 = ((k / 8 : Nat) : Int) := by rw [Int.tdiv_eq_ediv_of_nonneg (by omega)]; rfl
          rw [e8, wrap_nat (by omega), wrap_i64 (e := ((k / 8 : Nat) : Int)) (by omega), wrap_i64 (by omega)]
          refine ⟨⟨n + 1 + k / 8, by omega, by omega, hT23⟩, by simp only []; omega⟩
      · rw [wrap_nat (by omega)]
        exact ⟨⟨k + 1, rfl, by omega, st, op, bd, hT, hRel, hop, hbd⟩, by simp only []; omega⟩
  · refine callK_ret c7 ?_
    rintro v w' ⟨rfl, hm⟩
    exact ⟨_, rfl, rfl, hT.m.no hm⟩
end Go.Proofs.Ytnecbkjpijiopaa
