/- Soundness of the shallow form: operations whose value hangs on their operands alone. -/
import Derived.Test.YtknbihogadcnpaaGreatSh1b
set_option linter.unusedSimpArgs false
set_option linter.unusedVariables false
namespace Go.Sh
open Go

/-- what is shown of such an operation: one value in every world -/
def Gives (P : Program) (s : Sem Next) (next : TV → Prop) : Prop :=
  ∃ t v, (∀ w, s.run P w = .ok (.value v) w) ∧ (t.isBad = false → v = t.enc) ∧ next t

theorem Gives.of {P : Program} {s : Sem Next} {next : TV → Prop} {t : TV} (h : ∀ w, s.run P w = .ok (.value t.enc) w) (hn : next t) : Gives P s next :=
  ⟨t, _, h, fun _ => rfl, hn⟩

theorem run_mapV (P : Program) (s : Sem Value) (w w' : World) (v : Value) (h : s.run P w = .ok v w') : (do let x ← s; pure (Next.value x) : Sem Next).run P w = .ok (.value v) w' := by
  simp [h]

theorem binI_run {P : Program} {op : BinOp} {T : TypeId} {ox oy : Operand} {k : IntKind} {a b : Int} {next : TV → Prop} (hs : isShift op = false) (h : binI op k a b next) :
    ∃ t, (∀ w, (do eqGuard op T ox oy (.int k a) (.int k b); binOp op T (.int k a) (.int k b) : Sem Value).run P w = .ok t.enc w) ∧ next t := by
  cases op <;> simp only [binI, isShift] at h hs <;> first
    | exact h.elim
    | (obtain ⟨h0, h⟩ := h; exact ⟨_, fun w => by simp [eqGuard, binOp, Op.intDiv, h0, TV.enc], h⟩)
    | exact ⟨_, fun w => by simp [eqGuard, binOp, Op.intArith, Op.intCmp, TV.enc], h⟩
    | (exact absurd hs (by simp))

theorem bin64_run {P : Program} {op : BinOp} {T : TypeId} {ox oy : Operand} {a b : UInt64} {next : TV → Prop} (hs : isShift op = false) (h : bin64 op a b next) :
    ∃ t, (∀ w, (do eqGuard op T ox oy (.int .u64 a.toNat) (.int .u64 b.toNat); binOp op T (.int .u64 a.toNat) (.int .u64 b.toNat) : Sem Value).run P w = .ok t.enc w) ∧ next t := by
  cases op <;> simp only [bin64, isShift] at h hs
  case add => exact ⟨_, fun w => by show Result.ok (Value.int .u64 (IntKind.u64.wrap ((a.toNat : Int) + (b.toNat : Int)))) w = _; rw [add64]; rfl, h⟩
  case sub => exact ⟨_, fun w => by show Result.ok (Value.int .u64 (IntKind.u64.wrap ((a.toNat : Int) - (b.toNat : Int)))) w = _; rw [sub64]; rfl, h⟩
  case mul => exact ⟨_, fun w => by show Result.ok (Value.int .u64 (IntKind.u64.wrap ((a.toNat : Int) * (b.toNat : Int)))) w = _; rw [mul64]; rfl, h⟩
  case quo =>
    obtain ⟨h0, h⟩ := h
    have hz : ¬ ((b.toNat : Int) = 0) := by
      intro h1
      apply h0
      rw [← UInt64.toNat_inj]
      simp; omega
    refine ⟨_, fun w => ?_, h⟩
    show (if (b.toNat : Int) = 0 then runtimePanic (.error "integer divide by zero") else (pure (Value.int .u64 (IntKind.u64.wrap (((a.toNat : Int)).tdiv (b.toNat : Int)))) : Sem Value)).run P w = _
    rw [if_neg hz, quo64]; rfl
  case rem =>
    obtain ⟨h0, h⟩ := h
    have hz : ¬ ((b.toNat : Int) = 0) := by
      intro h1
      apply h0
      rw [← UInt64.toNat_inj]
      simp; omega
    refine ⟨_, fun w => ?_, h⟩
    show (if (b.toNat : Int) = 0 then runtimePanic (.error "integer divide by zero") else (pure (Value.int .u64 (((a.toNat : Int)).tmod (b.toNat : Int))) : Sem Value)).run P w = _
    rw [if_neg hz, rem64]; rfl
  case and => exact ⟨_, fun w => by show Result.ok (Value.int .u64 (IntKind.u64.wrap ((BitVec.ofInt 64 (a.toNat : Int) &&& BitVec.ofInt 64 (b.toNat : Int)).toNat : Int))) w = _; rw [and64]; rfl, h⟩
  case or => exact ⟨_, fun w => by show Result.ok (Value.int .u64 (IntKind.u64.wrap ((BitVec.ofInt 64 (a.toNat : Int) ||| BitVec.ofInt 64 (b.toNat : Int)).toNat : Int))) w = _; rw [or64]; rfl, h⟩
  case xor => exact ⟨_, fun w => by show Result.ok (Value.int .u64 (IntKind.u64.wrap ((BitVec.ofInt 64 (a.toNat : Int) ^^^ BitVec.ofInt 64 (b.toNat : Int)).toNat : Int))) w = _; rw [xor64]; rfl, h⟩
  case andNot => exact ⟨_, fun w => by show Result.ok (Value.int .u64 (IntKind.u64.wrap ((BitVec.ofInt 64 (a.toNat : Int) &&& ~~~ BitVec.ofInt 64 (b.toNat : Int)).toNat : Int))) w = _; rw [andNot64]; rfl, h⟩
  case eql => exact ⟨_, fun w => by show Result.ok (Value.bool ((a.toNat : Int) == (b.toNat : Int))) w = _; rw [eq64]; rfl, h⟩
  case neq => exact ⟨_, fun w => by show Result.ok (Value.bool ((a.toNat : Int) != (b.toNat : Int))) w = _; rw [ne64]; rfl, h⟩
  case lss => exact ⟨_, fun w => by show Result.ok (Value.bool (decide ((a.toNat : Int) < (b.toNat : Int)))) w = _; rw [lss64]; rfl, h⟩
  case leq => exact ⟨_, fun w => by show Result.ok (Value.bool (decide ((a.toNat : Int) ≤ (b.toNat : Int)))) w = _; rw [leq64]; rfl, h⟩
  case gtr => exact ⟨_, fun w => by show Result.ok (Value.bool (decide ((b.toNat : Int) < (a.toNat : Int)))) w = _; rw [lss64]; rfl, h⟩
  case geq => exact ⟨_, fun w => by show Result.ok (Value.bool (decide ((b.toNat : Int) ≤ (a.toNat : Int)))) w = _; rw [leq64]; rfl, h⟩

theorem bin8_run {P : Program} {op : BinOp} {T : TypeId} {ox oy : Operand} {a b : UInt8} {next : TV → Prop} (hs : isShift op = false) (h : bin8 op a b next) :
    ∃ t, (∀ w, (do eqGuard op T ox oy (.int .u8 a.toNat) (.int .u8 b.toNat); binOp op T (.int .u8 a.toNat) (.int .u8 b.toNat) : Sem Value).run P w = .ok t.enc w) ∧ next t := by
  cases op <;> simp only [bin8, isShift] at h hs
  case add => exact ⟨_, fun w => by show Result.ok (Value.int .u8 (IntKind.u8.wrap ((a.toNat : Int) + (b.toNat : Int)))) w = _; rw [add8]; rfl, h⟩
  case sub => exact ⟨_, fun w => by show Result.ok (Value.int .u8 (IntKind.u8.wrap ((a.toNat : Int) - (b.toNat : Int)))) w = _; rw [sub8]; rfl, h⟩
  case mul => exact ⟨_, fun w => by show Result.ok (Value.int .u8 (IntKind.u8.wrap ((a.toNat : Int) * (b.toNat : Int)))) w = _; rw [mul8]; rfl, h⟩
  case and => exact ⟨_, fun w => by show Result.ok (Value.int .u8 (IntKind.u8.wrap ((BitVec.ofInt 8 (a.toNat : Int) &&& BitVec.ofInt 8 (b.toNat : Int)).toNat : Int))) w = _; rw [and8]; rfl, h⟩
  case or => exact ⟨_, fun w => by show Result.ok (Value.int .u8 (IntKind.u8.wrap ((BitVec.ofInt 8 (a.toNat : Int) ||| BitVec.ofInt 8 (b.toNat : Int)).toNat : Int))) w = _; rw [or8]; rfl, h⟩
  case xor => exact ⟨_, fun w => by show Result.ok (Value.int .u8 (IntKind.u8.wrap ((BitVec.ofInt 8 (a.toNat : Int) ^^^ BitVec.ofInt 8 (b.toNat : Int)).toNat : Int))) w = _; rw [xor8]; rfl, h⟩
  case andNot => exact ⟨_, fun w => by show Result.ok (Value.int .u8 (IntKind.u8.wrap ((BitVec.ofInt 8 (a.toNat : Int) &&& ~~~ BitVec.ofInt 8 (b.toNat : Int)).toNat : Int))) w = _; rw [andNot8]; rfl, h⟩
  case eql => exact ⟨_, fun w => by show Result.ok (Value.bool ((a.toNat : Int) == (b.toNat : Int))) w = _; rw [eq8]; rfl, h⟩
  case neq => exact ⟨_, fun w => by show Result.ok (Value.bool ((a.toNat : Int) != (b.toNat : Int))) w = _; rw [ne8]; rfl, h⟩
  case lss => exact ⟨_, fun w => by show Result.ok (Value.bool (decide ((a.toNat : Int) < (b.toNat : Int)))) w = _; rw [lss8]; rfl, h⟩
  case leq => exact ⟨_, fun w => by show Result.ok (Value.bool (decide ((a.toNat : Int) ≤ (b.toNat : Int)))) w = _; rw [leq8]; rfl, h⟩
  case gtr => exact ⟨_, fun w => by show Result.ok (Value.bool (decide ((b.toNat : Int) < (a.toNat : Int)))) w = _; rw [lss8]; rfl, h⟩
  case geq => exact ⟨_, fun w => by show Result.ok (Value.bool (decide ((b.toNat : Int) ≤ (a.toNat : Int)))) w = _; rw [leq8]; rfl, h⟩

theorem binS_run {P : Program} {op : BinOp} {T : TypeId} {ox oy : Operand} {a b : List UInt8} {next : TV → Prop} (h : binS op a b next) :
    ∃ t, (∀ w, (do eqGuard op T ox oy (.string ⟨a.toArray⟩) (.string ⟨b.toArray⟩); binOp op T (.string ⟨a.toArray⟩) (.string ⟨b.toArray⟩) : Sem Value).run P w = .ok t.enc w) ∧ next t := by
  cases op <;> simp only [binS] at h <;> first
    | exact h.elim
    | exact ⟨_, fun w => by simp [eqGuard, binOp, Op.stringOp, toL, TV.enc], h⟩
    | (obtain ⟨h0, h⟩ := h
       refine ⟨_, fun w => ?_, h⟩
       have h1 : ¬ ((9223372036854775807 : Int) < ((ByteArray.mk a.toArray).size + (ByteArray.mk b.toArray).size : Nat)) := by
         have e1 : (ByteArray.mk a.toArray).size = a.length := by simp [ByteArray.size]
         have e2 : (ByteArray.mk b.toArray).size = b.length := by simp [ByteArray.size]
         rw [e1, e2]; omega
       have e3 : (ByteArray.mk a.toArray ++ ByteArray.mk b.toArray) = ByteArray.mk (a ++ b).toArray := by
         apply ByteArray.ext
         simp
       simp [eqGuard, binOp, Op.stringOp, TV.enc]
       simp at h1
       simp [e3]
       omega)

theorem shK_run {P : Program} {op : BinOp} {T : TypeId} {ox oy : Operand} {x : TV} {yk : IntKind} {c : Int} {next : TV → Prop} (hs : isShift op = true) (h : shK op x c next) :
    ∃ t, (∀ w, (do eqGuard op T ox oy x.enc (.int yk c); binOp op T x.enc (.int yk c) : Sem Value).run P w = .ok t.enc w) ∧ next t := by
  cases op <;> simp only [isShift, Bool.false_eq_true] at hs
  all_goals
    cases x <;> simp only [shK] at h <;> first
      | exact h.elim
      | skip
  all_goals
    obtain ⟨h0, h⟩ := h
    have hn : ¬ c < 0 := by omega
    refine ⟨_, fun w => ?_, h⟩
    first
      | (simp [eqGuard, binOp, Op.shift, hn, TV.enc]; done)
      | (simp only [TV.enc, ← shl64, ← shr64, ← shl8, ← shr8]; simp [eqGuard, binOp, Op.shift, hn, IntKind.bits])

theorem num_enc {x : TV} {c : Int} (h : x.num = some c) : ∃ k, x.enc = .int k c := by
  cases x <;> simp [TV.num] at h <;> subst h <;> exact ⟨_, rfl⟩
theorem num_good {x : TV} {c : Int} (h : x.num = some c) : x.isBad = false := by
  cases x <;> simp [TV.num] at h <;> rfl

theorem binK_run {P : Program} {op : BinOp} {T : TypeId} {ox oy : Operand} {x y : TV} {κ : Kd} {next : TV → Prop} (h : binK P op T ox oy x y κ next) :
    x.isBad = false ∧ y.isBad = false ∧ ∃ t, (∀ w, (do eqGuard op T ox oy x.enc y.enc; binOp op T x.enc y.enc : Sem Value).run P w = .ok t.enc w) ∧ next t := by
  unfold binK at h
  by_cases hs : isShift op = true
  · rw [if_pos hs] at h
    cases hy : y.num with
    | none => simp [hy] at h
    | some c =>
      simp only [hy] at h
      obtain ⟨k, hk⟩ := num_enc hy
      refine ⟨?_, num_good hy, ?_⟩
      · cases x <;> first | rfl | (exfalso; revert h; cases op <;> simp [shK])
      · rw [hk]; exact shK_run hs h
  · have hs' : isShift op = false := by simpa using hs
    rw [if_neg hs] at h
    split at h
    · rename_i k a k' b
      cases hbt : isBits op with
      | true =>
        simp only [hbt, cond_true] at h
        obtain ⟨v, hv, h⟩ := h
        obtain ⟨t, _, _, _, ht, hn⟩ := exK_out _ _ h
        subst ht
        exact ⟨rfl, rfl, t, hv, hn⟩
      | false =>
        simp only [hbt, cond_false] at h
        by_cases hk : k = k'
        · subst hk; simp only [↓reduceIte] at h
          exact ⟨rfl, rfl, binI_run hs' h⟩
        · simp [hk] at h
    · exact ⟨rfl, rfl, bin8_run hs' h⟩
    · exact ⟨rfl, rfl, bin64_run hs' h⟩
    · exact ⟨rfl, rfl, binS_run h⟩
    · exact h.elim
    · exact h.elim
    · rename_i h1 h2
      obtain ⟨v, hv, h⟩ := h
      obtain ⟨t, _, _, _, ht, hn⟩ := exK_out _ _ h
      subst ht
      refine ⟨?_, ?_, t, hv, hn⟩
      · cases x <;> first | rfl | (exfalso; simp_all; done)
      · cases y <;> first | rfl | (exfalso; simp_all; done)

theorem convI_run {P : Program} {s d : TypeId} {ts td : TypeDesc} {x : TV} {next : TV → Prop} (h1 : P.underlying s = some ts) (h2 : P.underlying d = some td) (h : convI (some td) x next) :
    x.isBad = false ∧ ∃ t, (∀ w, (convert s d x.enc).run P w = .ok t.enc w) ∧ next t := by
  have hu : ∀ w, (underlying s).run P w = .ok ts w := fun w => run_underlying h1 w
  have hd : ∀ w, (underlying d).run P w = .ok td w := fun w => run_underlying h2 w
  have hi : ∀ (k k' : IntKind) (n : Int) (w : World), td = .int k → (convert s d (.int k' n)).run P w = .ok (.int k (k.wrap n)) w := by
    intro k k' n w e
    subst e
    simp [convert, hu, hd, Conv.intToInt]
  have go : ∀ (k k' : IntKind) (n m : Int) (t : TV), td = .int k → x.enc = .int k' n → t.enc = .int k m → k.wrap n = m → x.isBad = false → next t →
      x.isBad = false ∧ ∃ t, (∀ w, (convert s d x.enc).run P w = .ok t.enc w) ∧ next t := by
    intro k k' n m t e1 e2 e3 e4 hb hn
    exact ⟨hb, t, fun w => by rw [e2, hi k k' n w e1, e3, e4], hn⟩
  unfold convI at h
  split at h
  all_goals first
    | exact h.elim
    | (rename_i hx; simp only [Option.some.injEq] at hx; first
        | exact go _ _ _ _ _ hx rfl rfl (conv8 _) rfl h
        | exact go _ _ _ _ _ hx rfl rfl (conv88 _) rfl h
        | exact go _ _ _ _ _ hx rfl rfl (conv648 _) rfl h
        | exact go _ _ _ _ _ hx rfl rfl (conv64 _) rfl h
        | exact go _ _ _ _ _ hx rfl rfl (conv864 _) rfl h
        | exact go _ _ _ _ _ hx rfl rfl (conv6464 _) rfl h
        | exact go _ _ _ _ _ hx rfl rfl (conv8i _) rfl h
        | exact go _ _ _ _ _ hx rfl rfl rfl rfl h
        | (subst hx; refine ⟨rfl, _, fun w => ?_, h⟩; simp [convert, hu, hd, TV.enc]; done))
    | (rename_i hx _; simp only [Option.some.injEq] at hx; first
        | exact go _ _ _ _ _ hx rfl rfl rfl rfl h)
    | (rename_i hx _ _; simp only [Option.some.injEq] at hx; first
        | exact go _ _ _ _ _ hx rfl rfl rfl rfl h)
end Go.Sh
