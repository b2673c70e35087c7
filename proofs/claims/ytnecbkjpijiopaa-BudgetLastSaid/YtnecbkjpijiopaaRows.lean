/-
  No cell of these rows narrows 'for every input' (looked for: loops, veiled, ifaces, maps, wideKeys, modest, calm, conditions, laid).
  DERIVED. THE GIVEN ROWS OF THIS SEAT. 4 by the template 'for every input the law returns true; each argument reads behind the call as it read before'; 0 by the template 'total and deterministic' (their statements: YtnecbkjpijiopaaTotals.lean).
  GIVEN WITH THE SEED: the statements are not yours to turn. If you find one false, say at which input.
  Laid BY PROGRAM, IN A SANDBOX (cutbox-rows.mjs): the forced cells as the released guide's own fill.sh prints them over the translation b6f000f8fc5aaa05… (all of the seat's roots in one cut). By AI agents, Wed Nov 11 2026. No macro, syntax, notation, axiom, sorry.
-/
import Derived.Test.YtnecbkjpijiopaaChecked
import GoSem.Claim
import GoSem.ClaimJoined
import GoSem.ClaimMapViews
import Derived.JoinedTies
import Derived.KernelRfl
namespace Go.Proofs.Ytnecbkjpijiopaa
/- THE CELL 'sum', in the pinned program and in every row, IS THE sha256 OF THE DUMP (.gsa) THAT YtnecbkjpijiopaaProg.lean LOADS. Nothing in Lean hashes anything: it is a label: what it is worth is what the hold of that sum in a sandbox is worth. -/
noncomputable def Try.pinned : Pinned := { name := "ytnecbkjpijiopaa", sum := "b6f000f8fc5aaa054d5fdbe73b7b81188f895a31c98d6c5d736e9345597fa9a1", checked := Try.checked }
namespace Rows
def none {H : Type} : Left H := { results := [], args := [] }

/-- 'buttresslaw23.BudgetLives': WHATEVER THE INPUT: true; the input reads as it did. -/
def budgetLivesSpec : ChangeSpec := { name := "budgetLives", fn := fun _ => fun
  | [d1, d2, d3] => { results := [.lit (.bool true)], args := [d1, d2, d3] }
  | _ => none }
def budgetLivesRow : OpenClaim := { program := "ytnecbkjpijiopaa", sum := "b6f000f8fc5aaa054d5fdbe73b7b81188f895a31c98d6c5d736e9345597fa9a1", func := "buttress/buttresslaw23.BudgetLives", spec := "budgetLives", unfollowed := true, recurses := true, apart := false }
def BudgetLivesSaid : Prop := budgetLivesRow.holds Try.pinned (OpenSpec.ofChange budgetLivesSpec)

/-- ITS FALSE NEIGHBOUR: 'it returns false'. Refute it at one input. -/
def budgetLivesWrong : ChangeSpec := { name := "budgetLives", fn := fun _ => fun
  | [d1, d2, d3] => { results := [.lit (.bool false)], args := [d1, d2, d3] }
  | _ => none }
def BudgetLivesWrongFalsely : Prop := budgetLivesRow.holds Try.pinned (OpenSpec.ofChange budgetLivesWrong)

/-- 'buttresslaw23.BudgetNil': WHATEVER THE INPUT: true; the input reads as it did. -/
def budgetNilSpec : ChangeSpec := { name := "budgetNil", fn := fun _ => fun
  | [d1, d2] => { results := [.lit (.bool true)], args := [d1, d2] }
  | _ => none }
def budgetNilRow : OpenClaim := { program := "ytnecbkjpijiopaa", sum := "b6f000f8fc5aaa054d5fdbe73b7b81188f895a31c98d6c5d736e9345597fa9a1", func := "buttress/buttresslaw23.BudgetNil", spec := "budgetNil", unfollowed := true, recurses := true, apart := false }
def BudgetNilSaid : Prop := budgetNilRow.holds Try.pinned (OpenSpec.ofChange budgetNilSpec)

/-- ITS FALSE NEIGHBOUR: 'it returns false'. Refute it at one input. -/
def budgetNilWrong : ChangeSpec := { name := "budgetNil", fn := fun _ => fun
  | [d1, d2] => { results := [.lit (.bool false)], args := [d1, d2] }
  | _ => none }
def BudgetNilWrongFalsely : Prop := budgetNilRow.holds Try.pinned (OpenSpec.ofChange budgetNilWrong)

/-- 'buttresslaw23.BudgetNumbers': WHATEVER THE INPUT: true; the input reads as it did. -/
def budgetNumbersSpec : ChangeSpec := { name := "budgetNumbers", fn := fun _ => fun
  | [] => { results := [.lit (.bool true)], args := [] }
  | _ => none }
def budgetNumbersRow : OpenClaim := { program := "ytnecbkjpijiopaa", sum := "b6f000f8fc5aaa054d5fdbe73b7b81188f895a31c98d6c5d736e9345597fa9a1", func := "buttress/buttresslaw23.BudgetNumbers", spec := "budgetNumbers", unfollowed := true, recurses := true, apart := false }
def BudgetNumbersSaid : Prop := budgetNumbersRow.holds Try.pinned (OpenSpec.ofChange budgetNumbersSpec)

/-- ITS FALSE NEIGHBOUR: 'it returns false'. Refute it at one input. -/
def budgetNumbersWrong : ChangeSpec := { name := "budgetNumbers", fn := fun _ => fun
  | [] => { results := [.lit (.bool false)], args := [] }
  | _ => none }
def BudgetNumbersWrongFalsely : Prop := budgetNumbersRow.holds Try.pinned (OpenSpec.ofChange budgetNumbersWrong)

/-- 'buttresslaw23.BudgetLast': WHATEVER THE INPUT: true; the input reads as it did. -/
def budgetLastSpec : ChangeSpec := { name := "budgetLast", fn := fun _ => fun
  | [d1, d2, d3, d4] => { results := [.lit (.bool true)], args := [d1, d2, d3, d4] }
  | _ => none }
def budgetLastRow : OpenClaim := { program := "ytnecbkjpijiopaa", sum := "b6f000f8fc5aaa054d5fdbe73b7b81188f895a31c98d6c5d736e9345597fa9a1", func := "buttress/buttresslaw23.BudgetLast", spec := "budgetLast", unfollowed := true, recurses := true, apart := false }
def BudgetLastSaid : Prop := budgetLastRow.holds Try.pinned (OpenSpec.ofChange budgetLastSpec)

/-- ITS FALSE NEIGHBOUR: 'it returns false'. Refute it at one input. -/
def budgetLastWrong : ChangeSpec := { name := "budgetLast", fn := fun _ => fun
  | [d1, d2, d3, d4] => { results := [.lit (.bool false)], args := [d1, d2, d3, d4] }
  | _ => none }
def BudgetLastWrongFalsely : Prop := budgetLastRow.holds Try.pinned (OpenSpec.ofChange budgetLastWrong)

/- THE SECOND FORM. 'bulk': how many values and letters a reading holds, each counted each time it is reached (what is shared counts as often as it is met; a slice's spare places count too). A statement '..UptoSaid' is the law's where the arguments, and the package variables that the reading takes, are together of bulk at most 1048576: NARROWER than '..Said'. Prove '..Said' where nothing that the law and all that it calls make is longer than what came in: it says more and counts as full. Else prove '..UptoSaid'. A law counts once. -/
mutual
def uptoBulk {H : Type} : DataW H → Nat
  | .lit (.string bytes) => bytes.length + 1
  | .lit _ => 1
  | .nil => 1
  | .ptr d => uptoBulk d + 1
  | .slice elems spare => uptoBulkAll elems + uptoBulkAll spare + 1
  | .agg parts => uptoBulkAll parts + 1
  | .iface _ d => uptoBulk d + 1
  | .map entries => uptoBulkEntries entries + 1
  | .held _ => 1
def uptoBulkAll {H : Type} : List (DataW H) → Nat
  | [] => 0
  | d :: r => uptoBulk d + uptoBulkAll r
def uptoBulkEntries {H : Type} : List (Lit × DataW H) → Nat
  | [] => 0
  | x :: r => uptoBulkEntry x + uptoBulkEntries r
def uptoBulkEntry {H : Type} : Lit × DataW H → Nat
  | (.string bytes, d) => bytes.length + uptoBulk d + 1
  | (_, d) => uptoBulk d + 1
 end
def uptoSmall : (H : Type) → List (DataW H) → Bool := fun _ ds => decide (uptoBulkAll ds ≤ 1048576)
def OpenSpec.upto (s : _root_.Go.ChangeSpec) : _root_.Go.OpenSpec := { _root_.Go.OpenSpec.ofChange s with cond := some uptoSmall }

/-- 'buttresslaw23.BudgetLives', WHERE WHAT IT READS IS OF BULK AT MOST 1048576: true; the input reads as it did. -/
def budgetLivesUptoRow : OpenClaim := { program := "ytnecbkjpijiopaa", sum := "b6f000f8fc5aaa054d5fdbe73b7b81188f895a31c98d6c5d736e9345597fa9a1", func := "buttress/buttresslaw23.BudgetLives", spec := "budgetLives", unfollowed := true, recurses := true, apart := false, narrowed := true }
def BudgetLivesUptoSaid : Prop := budgetLivesUptoRow.holds Try.pinned (OpenSpec.upto budgetLivesSpec)

/-- 'buttresslaw23.BudgetNil', WHERE WHAT IT READS IS OF BULK AT MOST 1048576: true; the input reads as it did. -/
def budgetNilUptoRow : OpenClaim := { program := "ytnecbkjpijiopaa", sum := "b6f000f8fc5aaa054d5fdbe73b7b81188f895a31c98d6c5d736e9345597fa9a1", func := "buttress/buttresslaw23.BudgetNil", spec := "budgetNil", unfollowed := true, recurses := true, apart := false, narrowed := true }
def BudgetNilUptoSaid : Prop := budgetNilUptoRow.holds Try.pinned (OpenSpec.upto budgetNilSpec)

/-- 'buttresslaw23.BudgetNumbers', WHERE WHAT IT READS IS OF BULK AT MOST 1048576: true; the input reads as it did. -/
def budgetNumbersUptoRow : OpenClaim := { program := "ytnecbkjpijiopaa", sum := "b6f000f8fc5aaa054d5fdbe73b7b81188f895a31c98d6c5d736e9345597fa9a1", func := "buttress/buttresslaw23.BudgetNumbers", spec := "budgetNumbers", unfollowed := true, recurses := true, apart := false, narrowed := true }
def BudgetNumbersUptoSaid : Prop := budgetNumbersUptoRow.holds Try.pinned (OpenSpec.upto budgetNumbersSpec)

/-- 'buttresslaw23.BudgetLast', WHERE WHAT IT READS IS OF BULK AT MOST 1048576: true; the input reads as it did. -/
def budgetLastUptoRow : OpenClaim := { program := "ytnecbkjpijiopaa", sum := "b6f000f8fc5aaa054d5fdbe73b7b81188f895a31c98d6c5d736e9345597fa9a1", func := "buttress/buttresslaw23.BudgetLast", spec := "budgetLast", unfollowed := true, recurses := true, apart := false, narrowed := true }
def BudgetLastUptoSaid : Prop := budgetLastUptoRow.holds Try.pinned (OpenSpec.upto budgetLastSpec)

end Rows
end Go.Proofs.Ytnecbkjpijiopaa
