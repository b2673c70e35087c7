/-
  No cell of these rows narrows 'for every input' (looked for: loops, veiled, ifaces, maps, wideKeys, modest, calm, conditions, laid).
  DERIVED. THE GIVEN ROWS OF THIS SEAT. 3 by the template 'for every input the law returns true; each argument reads behind the call as it read before'; 0 by the template 'total and deterministic' (their statements: YtknbihogadcnpaaTotals.lean).
  GIVEN WITH THE SEED: the statements are not yours to turn. If you find one false, say at which input.
  Laid BY PROGRAM, IN A SANDBOX (cutbox-rows.mjs): the forced cells as the released guide's own fill.sh prints them over the translation 3253ff8c1e6923b3… (all of the seat's roots in one cut). By AI agents, Wed Nov 11 2026. No macro, syntax, notation, axiom, sorry.
-/
import Derived.Test.YtknbihogadcnpaaChecked
import GoSem.Claim
import GoSem.ClaimJoined
import GoSem.ClaimMapViews
import Derived.JoinedTies
import Derived.KernelRfl
namespace Go.Proofs.Ytknbihogadcnpaa
/- THE CELL 'sum', in the pinned program and in every row, IS THE sha256 OF THE DUMP (.gsa) THAT YtknbihogadcnpaaProg.lean LOADS. Nothing in Lean hashes anything: it is a label: what it is worth is what the hold of that sum in a sandbox is worth. -/
noncomputable def Try.pinned : Pinned := { name := "ytknbihogadcnpaa", sum := "3253ff8c1e6923b33fa1401678c679de8331fa8ac04a751bef81c6e3c943870a", checked := Try.checked }
namespace Rows
def none {H : Type} : Left H := { results := [], args := [] }

/-- 'buttresslaw03.ScalarRing': WHATEVER THE INPUT: true; the input reads as it did. -/
def scalarRingSpec : ChangeSpec := { name := "scalarRing", fn := fun _ => fun
  | [d1, d2, d3] => { results := [.lit (.bool true)], args := [d1, d2, d3] }
  | _ => none }
def scalarRingRow : OpenClaim := { program := "ytknbihogadcnpaa", sum := "3253ff8c1e6923b33fa1401678c679de8331fa8ac04a751bef81c6e3c943870a", func := "buttress/buttresslaw03.ScalarRing", spec := "scalarRing", inPlace := ["math/bits.Sub64"], unfollowed := true, recurses := true, apart := false }
def ScalarRingSaid : Prop := scalarRingRow.holds Try.pinned (OpenSpec.ofChange scalarRingSpec)

/-- ITS FALSE NEIGHBOUR: 'it returns false'. Refute it at one input. -/
def scalarRingWrong : ChangeSpec := { name := "scalarRing", fn := fun _ => fun
  | [d1, d2, d3] => { results := [.lit (.bool false)], args := [d1, d2, d3] }
  | _ => none }
def ScalarRingWrongFalsely : Prop := scalarRingRow.holds Try.pinned (OpenSpec.ofChange scalarRingWrong)

/-- 'buttresslaw03.ScalarBits': WHATEVER THE INPUT: true; the input reads as it did. -/
def scalarBitsSpec : ChangeSpec := { name := "scalarBits", fn := fun _ => fun
  | [d] => { results := [.lit (.bool true)], args := [d] }
  | _ => none }
def scalarBitsRow : OpenClaim := { program := "ytknbihogadcnpaa", sum := "3253ff8c1e6923b33fa1401678c679de8331fa8ac04a751bef81c6e3c943870a", func := "buttress/buttresslaw03.ScalarBits", spec := "scalarBits", inPlace := ["math/bits.Sub64"], unfollowed := true, recurses := true, apart := false }
def ScalarBitsSaid : Prop := scalarBitsRow.holds Try.pinned (OpenSpec.ofChange scalarBitsSpec)

/-- ITS FALSE NEIGHBOUR: 'it returns false'. Refute it at one input. -/
def scalarBitsWrong : ChangeSpec := { name := "scalarBits", fn := fun _ => fun
  | [d] => { results := [.lit (.bool false)], args := [d] }
  | _ => none }
def ScalarBitsWrongFalsely : Prop := scalarBitsRow.holds Try.pinned (OpenSpec.ofChange scalarBitsWrong)

/-- 'buttresslaw03.ScalarHalves': WHATEVER THE INPUT: true; the input reads as it did. -/
def scalarHalvesSpec : ChangeSpec := { name := "scalarHalves", fn := fun _ => fun
  | [d1, d2] => { results := [.lit (.bool true)], args := [d1, d2] }
  | _ => none }
def scalarHalvesRow : OpenClaim := { program := "ytknbihogadcnpaa", sum := "3253ff8c1e6923b33fa1401678c679de8331fa8ac04a751bef81c6e3c943870a", func := "buttress/buttresslaw03.ScalarHalves", spec := "scalarHalves", inPlace := ["math/bits.Sub64"], unfollowed := true, recurses := true, apart := false }
def ScalarHalvesSaid : Prop := scalarHalvesRow.holds Try.pinned (OpenSpec.ofChange scalarHalvesSpec)

/-- ITS FALSE NEIGHBOUR: 'it returns false'. Refute it at one input. -/
def scalarHalvesWrong : ChangeSpec := { name := "scalarHalves", fn := fun _ => fun
  | [d1, d2] => { results := [.lit (.bool false)], args := [d1, d2] }
  | _ => none }
def ScalarHalvesWrongFalsely : Prop := scalarHalvesRow.holds Try.pinned (OpenSpec.ofChange scalarHalvesWrong)

/- THE SECOND FORM. 'bulk': how many values and letters a reading holds, each counted each time it is reached (what is shared counts as often as it is met; a slice's spare places count too). A statement '..UptoSaid' is the law's where the arguments, and the package variables that the reading takes, are together of bulk at most 1048576: NARROWER than '..Said'. Prove '..Said' where nothing that the law and all that it calls make is longer than what came in: it says more and counts as full. Else prove '..UptoSaid'. A law counts once. -/
mutual
def uptoBulk {H : Type} : DataW H → Nat
  | .lit (.string bytes) => bytes.length + 1
  | .lit _ => 1
  | .nil => 1
  | .ptr d => uptoBulk d + 1
  | .slice elems spare => uptoBulkAll elems + uptoBulkAll spare + 1
  | .agg parts => uptoBulkAll parts + 1
  | .iface _ d => uptoBulk d + 1
  | .map entries => uptoBulkEntries entries + 1
  | .held _ => 1
def uptoBulkAll {H : Type} : List (DataW H) → Nat
  | [] => 0
  | d :: r => uptoBulk d + uptoBulkAll r
def uptoBulkEntries {H : Type} : List (Lit × DataW H) → Nat
  | [] => 0
  | x :: r => uptoBulkEntry x + uptoBulkEntries r
def uptoBulkEntry {H : Type} : Lit × DataW H → Nat
  | (.string bytes, d) => bytes.length + uptoBulk d + 1
  | (_, d) => uptoBulk d + 1
 end
def uptoSmall : (H : Type) → List (DataW H) → Bool := fun _ ds => decide (uptoBulkAll ds ≤ 1048576)
def OpenSpec.upto (s : _root_.Go.ChangeSpec) : _root_.Go.OpenSpec := { _root_.Go.OpenSpec.ofChange s with cond := some uptoSmall }

/-- 'buttresslaw03.ScalarRing', WHERE WHAT IT READS IS OF BULK AT MOST 1048576: true; the input reads as it did. -/
def scalarRingUptoRow : OpenClaim := { program := "ytknbihogadcnpaa", sum := "3253ff8c1e6923b33fa1401678c679de8331fa8ac04a751bef81c6e3c943870a", func := "buttress/buttresslaw03.ScalarRing", spec := "scalarRing", inPlace := ["math/bits.Sub64"], unfollowed := true, recurses := true, apart := false, narrowed := true }
def ScalarRingUptoSaid : Prop := scalarRingUptoRow.holds Try.pinned (OpenSpec.upto scalarRingSpec)

/-- 'buttresslaw03.ScalarBits', WHERE WHAT IT READS IS OF BULK AT MOST 1048576: true; the input reads as it did. -/
def scalarBitsUptoRow : OpenClaim := { program := "ytknbihogadcnpaa", sum := "3253ff8c1e6923b33fa1401678c679de8331fa8ac04a751bef81c6e3c943870a", func := "buttress/buttresslaw03.ScalarBits", spec := "scalarBits", inPlace := ["math/bits.Sub64"], unfollowed := true, recurses := true, apart := false, narrowed := true }
def ScalarBitsUptoSaid : Prop := scalarBitsUptoRow.holds Try.pinned (OpenSpec.upto scalarBitsSpec)

/-- 'buttresslaw03.ScalarHalves', WHERE WHAT IT READS IS OF BULK AT MOST 1048576: true; the input reads as it did. -/
def scalarHalvesUptoRow : OpenClaim := { program := "ytknbihogadcnpaa", sum := "3253ff8c1e6923b33fa1401678c679de8331fa8ac04a751bef81c6e3c943870a", func := "buttress/buttresslaw03.ScalarHalves", spec := "scalarHalves", inPlace := ["math/bits.Sub64"], unfollowed := true, recurses := true, apart := false, narrowed := true }
def ScalarHalvesUptoSaid : Prop := scalarHalvesUptoRow.holds Try.pinned (OpenSpec.upto scalarHalvesSpec)

end Rows
end Go.Proofs.Ytknbihogadcnpaa
