/- strings.Builder: a byte is written, the text is told. -/
import Derived.Test.YtbbfcamopdckmaaDoorH9
import Derived.Test.YtbbfcamopdckmaaDoorS8
import Derived.Test.YtbbfcamopdckmaaDoorFnF
set_option linter.unusedSimpArgs false
set_option linter.unusedVariables false
set_option maxRecDepth 100000
namespace Go.Proofs.YtbbfcamopdckmaaDoor
open Go Go.Sh

abbrev TBuilder : TypeId := 98
theorem iBuilder : ∃ i, Tryd.prog.info? 98 = some i ∧ i.zero = some (.agg #[.pointer none, .slice none 0 0]) ∧ i.size = 2 ∧ i.bytes = 32 := info_of (by kernel_rfl) (by kernel_rfl) (by kernel_rfl)
/-- a builder that holds these bytes -/
structure BuilderAt (w : World) (b : Nat) (s : Slc) (l : List UInt8) : Prop where
  blk : ∃ p, (p = none ∨ p = some ⟨b, 0, none⟩) ∧ Blk w b [.pointer p, s.val] TBuilder
  row : Row0 5 w s (bys l)
  ne : s.blk ≠ some b
theorem ps_neq_same {ox oy : Operand} {b : Nat} {K : Value → Prop} (hk : K (.bool false)) :
    pureSem Tryd.prog (do eqGuard .neq 96 ox oy (.pointer (some ⟨b, 0, none⟩)) (.pointer (some ⟨b, 0, none⟩)); binOp .neq 96 (.pointer (some ⟨b, 0, none⟩)) (.pointer (some ⟨b, 0, none⟩))) K := by
  obtain ⟨i, h1, -, -, -⟩ := iBuilder
  exact ps_of (fun w => by rw [eqGuard_at_pointer]; exact Lib.run_neq_ptr_same (te := TBuilder) w _ (by kernel_rfl) h1) hk
theorem shape_of {w : World} {b : Nat} {l : List Value} {T : TypeId} (h : Blk w b l T) : w.shape? b = some (T, l.length) := by
  obtain ⟨fr, h1, _⟩ := h
  simp [World.shape?, h1]
theorem c_copyCheck {w : World} {b : Nat} {s : Slc} {l : List UInt8} (h : BuilderAt w b s l) :
    Calls Tryd.prog 120 #[.pointer (some ⟨b, 0, none⟩)] w (Ret fun v w' => v = .tuple #[] ∧ Blk w' b [.pointer (some ⟨b, 0, none⟩), s.val] TBuilder ∧ Mod (fun x => x = b) w w') := by
  refine call120 _ ?_
  unfold sh120
  obtain ⟨p, hp, hb⟩ := h.blk
  obtain ⟨i, h1, h2, h3, h4⟩ := iBuilder
  have hr : Rd w ((⟨b, 0, none⟩ : Addr).add 0) [.pointer p] := by rw [addl]; exact hb.rd1 rfl
  refine ⟨p, hr, ps_eql_ptr (e := TBuilder) (by kernel_rfl) ⟨_, rfl, ?_⟩⟩
  rcases hp with rfl | rfl
  · refine condK_i (fun _ => ?_) fun e => by cases e
    refine ⟨_, _, Lib.run_to_unsafe w ⟨b, 0, none⟩ (t := TBuilder) (by kernel_rfl) (by kernel_rfl) h1 (by omega) (shape_of hb) (by simp), _, rfl, ?_⟩
    refine ⟨.pointer (some ⟨b, 0, none⟩), w, ?_, some ⟨b, 0, none⟩, rfl, ?_⟩
    · rw [run_callFunc_extern Tryd.func130 (by kernel_rfl) (by kernel_rfl) (by kernel_rfl) (e := Extern.AbiNoEscape.same) (by kernel_rfl), Lib.run_noEscape]; rfl
    · refine ⟨_, _, Lib.run_from_unsafe w ⟨b, 0, none⟩ (u := TBuilder) (by kernel_rfl) (by kernel_rfl) h1 (shape_of hb) (by kernel_rfl), _, rfl, ?_⟩
      show semU _ (storeVar _ ((⟨b, 0, none⟩ : Addr).add 0) _) _ _
      rw [addl]
      refine semU_store1 (b := b) (o := 0 + 0) (by kernel_rfl) (by kernel_rfl) rfl hb (by simp) fun w' ht hb' => ⟨rfl, hb', ht.mod⟩
  · refine condK_i (fun e => by cases e) fun _ => ⟨_, hr, ps_neq_same ⟨_, rfl, condK_i (fun e => by cases e) fun _ => ⟨rfl, hb, Mod.refl _ _⟩⟩⟩
end Go.Proofs.YtbbfcamopdckmaaDoor
