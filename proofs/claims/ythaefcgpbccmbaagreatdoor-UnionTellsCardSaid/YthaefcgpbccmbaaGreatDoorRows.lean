/-
  NARROWER THAN 'FOR EVERY INPUT', by the rows' own cells (each row's printed sentence says how): UnionTells: laid · UnionOrder: laid · UnionSteps: laid · UnionShelf: laid.
  DERIVED. THE GIVEN ROWS OF THIS SEAT. 4 by the template 'for every input the law returns true; each argument reads behind the call as it read before'; 0 by the template 'total and deterministic' (their statements: YthaefcgpbccmbaaGreatDoorTotals.lean).
  GIVEN WITH THE SEED: the statements are not yours to turn. If you find one false, say at which input.
  Laid BY PROGRAM, IN A SANDBOX (cutbox-rows.mjs): the forced cells as the released guide's own fill.sh prints them over the translation 2d654c0e6882574c… (all of the seat's roots in one cut). By AI agents, Wed Nov 11 2026. No macro, syntax, notation, axiom, sorry.
-/
import Derived.Test.YthaefcgpbccmbaaGreatDoorChecked
import GoSem.Claim
import GoSem.ClaimJoined
import GoSem.ClaimMapViews
import Derived.JoinedTies
import Derived.KernelRfl
namespace Go.Proofs.YthaefcgpbccmbaaGreatDoor
/- THE CELL 'sum', in the pinned program and in every row, IS THE sha256 OF THE DUMP (.gsa) THAT YthaefcgpbccmbaaGreatDoorProg.lean LOADS. Nothing in Lean hashes anything: it is a label: what it is worth is what the hold of that sum in a sandbox is worth. -/
noncomputable def Tryz.pinned : Pinned := { name := "ythaefcgpbccmbaagreatdoor", sum := "2d654c0e6882574cca19f17d4fe9e4d5946d65c879e28b0734c6bb738984f731", checked := Tryz.checked }
namespace Rows
def none {H : Type} : Left H := { results := [], args := [] }

/- WHAT THE LISTED PACKAGE-LEVEL VARIABLES READ AS WHEN THE CALL BEGINS. Each datum BY PROGRAM (the guide's laid-datum.mjs) off the statement by which the dump's own 'gosem.cut.vars' lays the variable. In a bare row this is a premise. The card (YthaefcgpbccmbaaGreatDoorCards.lean) ties it to the program's text. -/
def laid_buttress_edwards_curve {H : Type} : DataW H := .agg [.lit (.int .u64 929955233495203), .lit (.int .u64 466365720129213), .lit (.int .u64 1662059464998953), .lit (.int .u64 2033849074728123), .lit (.int .u64 1442794654840575)]
def laid_buttress_edwards_twice {H : Type} : DataW H := .agg [.lit (.int .u64 1859910466990425), .lit (.int .u64 932731440258426), .lit (.int .u64 1072319116312658), .lit (.int .u64 1815898335770999), .lit (.int .u64 633789495995903)]
def laid_buttress_sha_begin {H : Type} : DataW H := .agg [.lit (.int .u64 7640891576956012808), .lit (.int .u64 13503953896175478587), .lit (.int .u64 4354685564936845355), .lit (.int .u64 11912009170470909681), .lit (.int .u64 5840696475078001361), .lit (.int .u64 11170449401992604703), .lit (.int .u64 2270897969802886507), .lit (.int .u64 6620516959819538809)]
def laid_buttress_sha_rest {H : Type} : DataW H := .agg [.lit (.int .u64 4794697086780616226), .lit (.int .u64 8158064640168781261), .lit (.int .u64 13096744586834688815), .lit (.int .u64 16840607885511220156), .lit (.int .u64 4131703408338449720), .lit (.int .u64 6480981068601479193), .lit (.int .u64 10538285296894168987), .lit (.int .u64 12329834152419229976), .lit (.int .u64 15566598209576043074), .lit (.int .u64 1334009975649890238), .lit (.int .u64 2608012711638119052), .lit (.int .u64 6128411473006802146), .lit (.int .u64 8268148722764581231), .lit (.int .u64 9286055187155687089), .lit (.int .u64 11230858885718282805), .lit (.int .u64 13951009754708518548), .lit (.int .u64 16472876342353939154), .lit (.int .u64 17275323862435702243), .lit (.int .u64 1135362057144423861), .lit (.int .u64 2597628984639134821), .lit (.int .u64 3308224258029322869), .lit (.int .u64 5365058923640841347), .lit (.int .u64 6679025012923562964), .lit (.int .u64 8573033837759648693), .lit (.int .u64 10970295158949994411), .lit (.int .u64 12119686244451234320), .lit (.int .u64 12683024718118986047), .lit (.int .u64 13788192230050041572), .lit (.int .u64 14330467153632333762), .lit (.int .u64 15395433587784984357), .lit (.int .u64 489312712824947311), .lit (.int .u64 1452737877330783856), .lit (.int .u64 2861767655752347644), .lit (.int .u64 3322285676063803686), .lit (.int .u64 5560940570517711597), .lit (.int .u64 5996557281743188959), .lit (.int .u64 7280758554555802590), .lit (.int .u64 8532644243296465576), .lit (.int .u64 9350256976987008742), .lit (.int .u64 10552545826968843579), .lit (.int .u64 11727347734174303076), .lit (.int .u64 12113106623233404929), .lit (.int .u64 14000437183269869457), .lit (.int .u64 14369950271660146224), .lit (.int .u64 15101387698204529176), .lit (.int .u64 15463397548674623760), .lit (.int .u64 17586052441742319658), .lit (.int .u64 1182934255886127544), .lit (.int .u64 1847814050463011016), .lit (.int .u64 2177327727835720531), .lit (.int .u64 2830643537854262169), .lit (.int .u64 3796741975233480872), .lit (.int .u64 4115178125766777443), .lit (.int .u64 5681478168544905931), .lit (.int .u64 6601373596472566643), .lit (.int .u64 7507060721942968483), .lit (.int .u64 8399075790359081724), .lit (.int .u64 8693463985226723168), .lit (.int .u64 9568029438360202098), .lit (.int .u64 10144078919501101548), .lit (.int .u64 10430055236837252648), .lit (.int .u64 11840083180663258601), .lit (.int .u64 13761210420658862357), .lit (.int .u64 14299343276471374635), .lit (.int .u64 14566680578165727644), .lit (.int .u64 15097957966210449927), .lit (.int .u64 16922976911328602910), .lit (.int .u64 17689382322260857208), .lit (.int .u64 500013540394364858), .lit (.int .u64 748580250866718886), .lit (.int .u64 1242879168328830382), .lit (.int .u64 1977374033974150939), .lit (.int .u64 2944078676154940804), .lit (.int .u64 3659926193048069267), .lit (.int .u64 4368137639120453308), .lit (.int .u64 4836135668995329356), .lit (.int .u64 5532061633213252278), .lit (.int .u64 6448918945643986474), .lit (.int .u64 6902733635092675308), .lit (.int .u64 7801388544844847127)]

/-- 'buttresslaw31.UnionTells': WHATEVER THE INPUT: true; the input reads as it did. -/
def unionTellsSpec : ChangeSpec := { name := "unionTells", fn := fun _ => fun
  | [d] => { results := [.lit (.bool true)], args := [d] }
  | _ => none }
def unionTellsRow : OpenClaim := { program := "ythaefcgpbccmbaagreatdoor", sum := "2d654c0e6882574cca19f17d4fe9e4d5946d65c879e28b0734c6bb738984f731", func := "buttress/buttresslaw31.UnionTells", spec := "unionTells", inPlace := ["math/bits.Add64", "slices.overlaps[[]byte]", "math/bits.Sub64", "internal/bytealg.Compare"], unfollowed := true, recurses := true, named := ["buttress/sha.begin", "buttress/sha.rest", "buttress/edwards.curve", "buttress/edwards.twice"], apart := false, laid := [("buttress/edwards.curve", laid_buttress_edwards_curve), ("buttress/edwards.twice", laid_buttress_edwards_twice), ("buttress/sha.begin", laid_buttress_sha_begin), ("buttress/sha.rest", laid_buttress_sha_rest)] }
def UnionTellsSaid : Prop := unionTellsRow.holds Tryz.pinned (OpenSpec.ofChange unionTellsSpec)

/-- ITS FALSE NEIGHBOUR: 'it returns false'. Refute it at one input. -/
def unionTellsWrong : ChangeSpec := { name := "unionTells", fn := fun _ => fun
  | [d] => { results := [.lit (.bool false)], args := [d] }
  | _ => none }
def UnionTellsWrongFalsely : Prop := unionTellsRow.holds Tryz.pinned (OpenSpec.ofChange unionTellsWrong)

/-- 'buttresslaw31.UnionOrder': WHATEVER THE INPUT: true; the input reads as it did. -/
def unionOrderSpec : ChangeSpec := { name := "unionOrder", fn := fun _ => fun
  | [d1, d2] => { results := [.lit (.bool true)], args := [d1, d2] }
  | _ => none }
def unionOrderRow : OpenClaim := { program := "ythaefcgpbccmbaagreatdoor", sum := "2d654c0e6882574cca19f17d4fe9e4d5946d65c879e28b0734c6bb738984f731", func := "buttress/buttresslaw31.UnionOrder", spec := "unionOrder", inPlace := ["math/bits.Add64", "slices.overlaps[[]byte]", "math/bits.Sub64", "internal/bytealg.Compare"], unfollowed := true, recurses := true, named := ["buttress/sha.begin", "buttress/sha.rest", "buttress/edwards.curve", "buttress/edwards.twice"], apart := false, laid := [("buttress/edwards.curve", laid_buttress_edwards_curve), ("buttress/edwards.twice", laid_buttress_edwards_twice), ("buttress/sha.begin", laid_buttress_sha_begin), ("buttress/sha.rest", laid_buttress_sha_rest)] }
def UnionOrderSaid : Prop := unionOrderRow.holds Tryz.pinned (OpenSpec.ofChange unionOrderSpec)

/-- ITS FALSE NEIGHBOUR: 'it returns false'. Refute it at one input. -/
def unionOrderWrong : ChangeSpec := { name := "unionOrder", fn := fun _ => fun
  | [d1, d2] => { results := [.lit (.bool false)], args := [d1, d2] }
  | _ => none }
def UnionOrderWrongFalsely : Prop := unionOrderRow.holds Tryz.pinned (OpenSpec.ofChange unionOrderWrong)

/-- 'buttresslaw31.UnionSteps': WHATEVER THE INPUT: true; the input reads as it did. -/
def unionStepsSpec : ChangeSpec := { name := "unionSteps", fn := fun _ => fun
  | [d1, d2] => { results := [.lit (.bool true)], args := [d1, d2] }
  | _ => none }
def unionStepsRow : OpenClaim := { program := "ythaefcgpbccmbaagreatdoor", sum := "2d654c0e6882574cca19f17d4fe9e4d5946d65c879e28b0734c6bb738984f731", func := "buttress/buttresslaw31.UnionSteps", spec := "unionSteps", inPlace := ["math/bits.Add64", "slices.overlaps[[]byte]", "math/bits.Sub64", "internal/bytealg.Compare"], unfollowed := true, recurses := true, named := ["buttress/sha.begin", "buttress/sha.rest", "buttress/edwards.curve", "buttress/edwards.twice"], apart := false, laid := [("buttress/edwards.curve", laid_buttress_edwards_curve), ("buttress/edwards.twice", laid_buttress_edwards_twice), ("buttress/sha.begin", laid_buttress_sha_begin), ("buttress/sha.rest", laid_buttress_sha_rest)] }
def UnionStepsSaid : Prop := unionStepsRow.holds Tryz.pinned (OpenSpec.ofChange unionStepsSpec)

/-- ITS FALSE NEIGHBOUR: 'it returns false'. Refute it at one input. -/
def unionStepsWrong : ChangeSpec := { name := "unionSteps", fn := fun _ => fun
  | [d1, d2] => { results := [.lit (.bool false)], args := [d1, d2] }
  | _ => none }
def UnionStepsWrongFalsely : Prop := unionStepsRow.holds Tryz.pinned (OpenSpec.ofChange unionStepsWrong)

/-- 'buttresslaw31.UnionShelf': WHATEVER THE INPUT: true; the input reads as it did. -/
def unionShelfSpec : ChangeSpec := { name := "unionShelf", fn := fun _ => fun
  | [d] => { results := [.lit (.bool true)], args := [d] }
  | _ => none }
def unionShelfRow : OpenClaim := { program := "ythaefcgpbccmbaagreatdoor", sum := "2d654c0e6882574cca19f17d4fe9e4d5946d65c879e28b0734c6bb738984f731", func := "buttress/buttresslaw31.UnionShelf", spec := "unionShelf", inPlace := ["math/bits.Add64", "slices.overlaps[[]byte]", "math/bits.Sub64", "internal/bytealg.Compare", "internal/bytealg.abigen_runtime_cmpstring", "slices.overlaps[buttress/api.Leaf]", "internal/abi.NoEscape", "slices.overlaps[string]"], unfollowed := true, recurses := true, named := ["buttress/sha.begin", "buttress/sha.rest", "buttress/edwards.curve", "buttress/edwards.twice"], apart := false, laid := [("buttress/edwards.curve", laid_buttress_edwards_curve), ("buttress/edwards.twice", laid_buttress_edwards_twice), ("buttress/sha.begin", laid_buttress_sha_begin), ("buttress/sha.rest", laid_buttress_sha_rest)] }
def UnionShelfSaid : Prop := unionShelfRow.holds Tryz.pinned (OpenSpec.ofChange unionShelfSpec)

/-- ITS FALSE NEIGHBOUR: 'it returns false'. Refute it at one input. -/
def unionShelfWrong : ChangeSpec := { name := "unionShelf", fn := fun _ => fun
  | [d] => { results := [.lit (.bool false)], args := [d] }
  | _ => none }
def UnionShelfWrongFalsely : Prop := unionShelfRow.holds Tryz.pinned (OpenSpec.ofChange unionShelfWrong)

/- THE SECOND FORM. 'bulk': how many values and letters a reading holds, each counted each time it is reached (what is shared counts as often as it is met; a slice's spare places count too). A statement '..UptoSaid' is the law's where the arguments, and the package variables that the reading takes, are together of bulk at most 1048576: NARROWER than '..Said'. Prove '..Said' where nothing that the law and all that it calls make is longer than what came in: it says more and counts as full. Else prove '..UptoSaid'. A law counts once. -/
mutual
def uptoBulk {H : Type} : DataW H → Nat
  | .lit (.string bytes) => bytes.length + 1
  | .lit _ => 1
  | .nil => 1
  | .ptr d => uptoBulk d + 1
  | .slice elems spare => uptoBulkAll elems + uptoBulkAll spare + 1
  | .agg parts => uptoBulkAll parts + 1
  | .iface _ d => uptoBulk d + 1
  | .map entries => uptoBulkEntries entries + 1
  | .held _ => 1
def uptoBulkAll {H : Type} : List (DataW H) → Nat
  | [] => 0
  | d :: r => uptoBulk d + uptoBulkAll r
def uptoBulkEntries {H : Type} : List (Lit × DataW H) → Nat
  | [] => 0
  | x :: r => uptoBulkEntry x + uptoBulkEntries r
def uptoBulkEntry {H : Type} : Lit × DataW H → Nat
  | (.string bytes, d) => bytes.length + uptoBulk d + 1
  | (_, d) => uptoBulk d + 1
 end
def uptoSmall : (H : Type) → List (DataW H) → Bool := fun _ ds => decide (uptoBulkAll ds ≤ 1048576)
def OpenSpec.upto (s : _root_.Go.ChangeSpec) : _root_.Go.OpenSpec := { _root_.Go.OpenSpec.ofChange s with cond := some uptoSmall }

/-- 'buttresslaw31.UnionTells', WHERE WHAT IT READS IS OF BULK AT MOST 1048576: true; the input reads as it did. -/
def unionTellsUptoRow : OpenClaim := { program := "ythaefcgpbccmbaagreatdoor", sum := "2d654c0e6882574cca19f17d4fe9e4d5946d65c879e28b0734c6bb738984f731", func := "buttress/buttresslaw31.UnionTells", spec := "unionTells", inPlace := ["math/bits.Add64", "slices.overlaps[[]byte]", "math/bits.Sub64", "internal/bytealg.Compare"], unfollowed := true, recurses := true, named := ["buttress/sha.begin", "buttress/sha.rest", "buttress/edwards.curve", "buttress/edwards.twice"], apart := false, laid := [("buttress/edwards.curve", laid_buttress_edwards_curve), ("buttress/edwards.twice", laid_buttress_edwards_twice), ("buttress/sha.begin", laid_buttress_sha_begin), ("buttress/sha.rest", laid_buttress_sha_rest)], narrowed := true }
def UnionTellsUptoSaid : Prop := unionTellsUptoRow.holds Tryz.pinned (OpenSpec.upto unionTellsSpec)

/-- 'buttresslaw31.UnionOrder', WHERE WHAT IT READS IS OF BULK AT MOST 1048576: true; the input reads as it did. -/
def unionOrderUptoRow : OpenClaim := { program := "ythaefcgpbccmbaagreatdoor", sum := "2d654c0e6882574cca19f17d4fe9e4d5946d65c879e28b0734c6bb738984f731", func := "buttress/buttresslaw31.UnionOrder", spec := "unionOrder", inPlace := ["math/bits.Add64", "slices.overlaps[[]byte]", "math/bits.Sub64", "internal/bytealg.Compare"], unfollowed := true, recurses := true, named := ["buttress/sha.begin", "buttress/sha.rest", "buttress/edwards.curve", "buttress/edwards.twice"], apart := false, laid := [("buttress/edwards.curve", laid_buttress_edwards_curve), ("buttress/edwards.twice", laid_buttress_edwards_twice), ("buttress/sha.begin", laid_buttress_sha_begin), ("buttress/sha.rest", laid_buttress_sha_rest)], narrowed := true }
def UnionOrderUptoSaid : Prop := unionOrderUptoRow.holds Tryz.pinned (OpenSpec.upto unionOrderSpec)

/-- 'buttresslaw31.UnionSteps', WHERE WHAT IT READS IS OF BULK AT MOST 1048576: true; the input reads as it did. -/
def unionStepsUptoRow : OpenClaim := { program := "ythaefcgpbccmbaagreatdoor", sum := "2d654c0e6882574cca19f17d4fe9e4d5946d65c879e28b0734c6bb738984f731", func := "buttress/buttresslaw31.UnionSteps", spec := "unionSteps", inPlace := ["math/bits.Add64", "slices.overlaps[[]byte]", "math/bits.Sub64", "internal/bytealg.Compare"], unfollowed := true, recurses := true, named := ["buttress/sha.begin", "buttress/sha.rest", "buttress/edwards.curve", "buttress/edwards.twice"], apart := false, laid := [("buttress/edwards.curve", laid_buttress_edwards_curve), ("buttress/edwards.twice", laid_buttress_edwards_twice), ("buttress/sha.begin", laid_buttress_sha_begin), ("buttress/sha.rest", laid_buttress_sha_rest)], narrowed := true }
def UnionStepsUptoSaid : Prop := unionStepsUptoRow.holds Tryz.pinned (OpenSpec.upto unionStepsSpec)

/-- 'buttresslaw31.UnionShelf', WHERE WHAT IT READS IS OF BULK AT MOST 1048576: true; the input reads as it did. -/
def unionShelfUptoRow : OpenClaim := { program := "ythaefcgpbccmbaagreatdoor", sum := "2d654c0e6882574cca19f17d4fe9e4d5946d65c879e28b0734c6bb738984f731", func := "buttress/buttresslaw31.UnionShelf", spec := "unionShelf", inPlace := ["math/bits.Add64", "slices.overlaps[[]byte]", "math/bits.Sub64", "internal/bytealg.Compare", "internal/bytealg.abigen_runtime_cmpstring", "slices.overlaps[buttress/api.Leaf]", "internal/abi.NoEscape", "slices.overlaps[string]"], unfollowed := true, recurses := true, named := ["buttress/sha.begin", "buttress/sha.rest", "buttress/edwards.curve", "buttress/edwards.twice"], apart := false, laid := [("buttress/edwards.curve", laid_buttress_edwards_curve), ("buttress/edwards.twice", laid_buttress_edwards_twice), ("buttress/sha.begin", laid_buttress_sha_begin), ("buttress/sha.rest", laid_buttress_sha_rest)], narrowed := true }
def UnionShelfUptoSaid : Prop := unionShelfUptoRow.holds Tryz.pinned (OpenSpec.upto unionShelfSpec)

end Rows
end Go.Proofs.YthaefcgpbccmbaaGreatDoor
