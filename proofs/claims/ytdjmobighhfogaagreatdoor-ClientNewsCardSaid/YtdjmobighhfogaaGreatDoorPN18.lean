/- The forms of the translated functions, their contracts and the plain laws behind them, put together by a program. -/
import Derived.Test.YtdjmobighhfogaaGreatDoorPN17
import Derived.Test.YtdjmobighhfogaaGreatDoorRows
import Derived.Deep.Slices
import Derived.Deep.Strs
import Derived.Lib.LaidTab
import Derived.Stop.LaidErr
import Derived.LaidHandle
import Derived.MakeChecks
import Derived.SizedLaws
import Derived.WalkKit
import Derived.ProofKit
import Derived.OpenShut
import Derived.ShutString
import Derived.ChangeOld
import Derived.Below
import Derived.LaidMore
import Derived.Lay
import Derived.Stop.Joined
import Derived.SevenTiedAt
set_option linter.unusedSimpArgs false
set_option linter.unusedVariables false
set_option maxRecDepth 1000000
set_option maxHeartbeats 8000000
section
namespace Go.Proofs.YtdjmobighhfogaaGreatDoor
open Go Go.Sh Go.ChangeShapes Go.WideShapes Go.ChangeAt Go.RowKit
section
variable {H : Type} {enc : TypeId × Value → H} {P : Program} {w : World} {base : Nat} {spare : Nat → Bool} {held : Bool}
theorem trodAll_five {t t' t'' t3 t4 : TypeId} {args : Array Value} {ds : List (DataW H)} {ps : List MemPlace} (h : DataW.TrodAll enc P w base spare held [t, t', t'', t3, t4] args.toList ds ps) :
    ∃ v v' v'' v3 v4 d d' d'' d3 d4 p p' p'' p3 p4, args = #[v, v', v'', v3, v4] ∧ ds = [d, d', d'', d3, d4] ∧ ps = p ++ p' ++ p'' ++ p3 ++ p4 ∧ DataW.Trod enc P w base spare held t v d p ∧ DataW.Trod enc P w base spare held t' v' d' p' ∧ DataW.Trod enc P w base spare held t'' v'' d'' p'' ∧ DataW.Trod enc P w base spare held t3 v3 d3 p3 ∧ DataW.Trod enc P w base spare held t4 v4 d4 p4 := by
  obtain ⟨v, vs, d, ds', p, q, hargs, rfl, rfl, hd, hrest⟩ := trodAll_cons h
  obtain ⟨v', vs', d', ds'', p', q', rfl, rfl, rfl, hd', hrest'⟩ := trodAll_cons hrest
  obtain ⟨v'', vs'', d'', ds''', p'', q'', rfl, rfl, rfl, hd'', hrest''⟩ := trodAll_cons hrest'
  obtain ⟨v3, vs3, d3, ds3, p3, q3, rfl, rfl, rfl, hd3, hrest3⟩ := trodAll_cons hrest''
  obtain ⟨v4, vs4, d4, ds4, p4, q4, rfl, rfl, rfl, hd4, hrest4⟩ := trodAll_cons hrest3
  obtain ⟨rfl, rfl, rfl⟩ := trodAll_nil hrest4
  exact ⟨v, v', v'', v3, v4, d, d', d'', d3, d4, p, p', p'', p3, p4, by cases args; simp_all, rfl, by simp, hd, hd', hd'', hd3, hd4⟩
theorem trodAll_mk5 {t t' t'' t3 t4 : TypeId} {v v' v'' v3 v4 : Value} {d d' d'' d3 d4 : DataW H} {p p' p'' p3 p4 : List MemPlace} (h : DataW.Trod enc P w base spare held t v d p) (h' : DataW.Trod enc P w base spare held t' v' d' p')
    (h'' : DataW.Trod enc P w base spare held t'' v'' d'' p'') (h3 : DataW.Trod enc P w base spare held t3 v3 d3 p3) (h4 : DataW.Trod enc P w base spare held t4 v4 d4 p4) : DataW.TrodAll enc P w base spare held [t, t', t'', t3, t4] [v, v', v'', v3, v4] [d, d', d'', d3, d4] (p ++ (p' ++ (p'' ++ (p3 ++ p4)))) := ⟨p, p' ++ (p'' ++ (p3 ++ p4)), h, trodAll_mk4 h' h'' h3 h4, rfl⟩
end
def laidG : List (String × DataW Unit) := [("unicode/utf8.acceptRanges", Rows.laid_unicode_utf8_acceptRanges), ("buttress/edwards.curve", Rows.laid_buttress_edwards_curve), ("buttress/edwards.twice", Rows.laid_buttress_edwards_twice), ("buttress/sha.begin", Rows.laid_buttress_sha_begin), ("buttress/sha.rest", Rows.laid_buttress_sha_rest), ("unicode/utf8.first", Rows.laid_unicode_utf8_first)]
theorem door_met (os : Os) (args : Array Value) : laidMetH Tryz.prog laidG ((World.laidAll Tryz.prog os laidG).forCall (fun _ _ => 0) ⟨#[], args, []⟩).memory := by
  rw [MakeChecks.laidMetH_plain _ _ _ (by kernel_rfl)]
  exact laidMet_laidAll _ (by kernel_rfl) (by kernel_rfl)
theorem rd_tab {W : World} {name : String} {l : List UInt64} {g : Nat} (h : Lib.TabIs Tryz.prog W name .u64 (l.map fun x => (x.toNat : Int))) (hg : Tryz.prog.globalNamed name = some g) : Rd W ⟨g, 0, none⟩ (us l) := by
  intro j v hj
  have hj' : j < l.length := by
    rcases Nat.lt_or_ge j l.length with h | h
    · exact h
    · rw [List.getElem?_eq_none (by simpa using h)] at hj; cases hj
  rw [addl, Nat.zero_add, h.cell hg j (by simpa using hj')]
  rw [us_at hj'] at hj
  rw [← hj]
  simp [List.getD, hj']
theorem gs_of_laid {W : World} (h : laidMetH Tryz.prog laidG W) : GS W := by
  unfold laidG at h
  rw [MakeChecks.laidMetH_plain _ _ _ (by kernel_rfl)] at h
  have e1 : (Rows.laid_buttress_sha_begin : DataW Unit) = Lib.tabData .u64 (H0.map fun x => (x.toNat : Int)) := by kernel_rfl
  have e2 : (Rows.laid_buttress_sha_rest : DataW Unit) = Lib.tabData .u64 (KS.map fun x => (x.toNat : Int)) := by kernel_rfl
  have e3 : (Rows.laid_buttress_edwards_curve : DataW Unit) = Lib.tabData .u64 (([929955233495203, 466365720129213, 1662059464998953, 2033849074728123, 1442794654840575] : List UInt64).map fun x => (x.toNat : Int)) := by kernel_rfl
  have e4 : (Rows.laid_buttress_edwards_twice : DataW Unit) = Lib.tabData .u64 (([1859910466990425, 932731440258426, 1072319116312658, 1815898335770999, 633789495995903] : List UInt64).map fun x => (x.toNat : Int)) := by kernel_rfl
  rw [e1, e2, e3, e4] at h
  refine ⟨⟨rd_tab (Lib.tabIs_of_head (g := 0) (t := 304) (e := 171) (n := 8) (by kernel_rfl) (by kernel_rfl) (by kernel_rfl) (by kernel_rfl) (by kernel_rfl) (by kernel_rfl) h.tail.tail.tail) (by kernel_rfl),
    rd_tab (Lib.tabIs_of_head (g := 3) (t := 374) (e := 171) (n := 80) (by kernel_rfl) (by kernel_rfl) (by kernel_rfl) (by kernel_rfl) (by kernel_rfl) (by kernel_rfl) h.tail.tail.tail.tail) (by kernel_rfl)⟩,
    ⟨rd_tab (Lib.tabIs_of_head (g := 1) (t := 173) (e := 171) (n := 5) (by kernel_rfl) (by kernel_rfl) (by kernel_rfl) (by kernel_rfl) (by kernel_rfl) (by kernel_rfl) h.tail.tail) (by kernel_rfl),
    rd_tab (Lib.tabIs_of_head (g := 2) (t := 173) (e := 171) (n := 5) (by kernel_rfl) (by kernel_rfl) (by kernel_rfl) (by kernel_rfl) (by kernel_rfl) (by kernel_rfl) h.tail) (by kernel_rfl)⟩⟩
theorem c_clientNewsP {w : World} {sd : Slc} {l : List UInt8} {ps : Slc} {pl : List (List UInt8)} {gs : Slc} {rows : List Gt} {ks : List (List UInt8)} {id a b : Int} {pc : Slc} (hG : GS w) (hs : SlRd w sd 1 (bys l)) (hsl : ∀ z, sd.blk = some z → z < w.heap.size)
    (hp : PartsAt w ps pl fun y => y < w.heap.size) (hg : GrAt w gs rows ks) :
    Calls Tryz.prog 3 #[.int .i64 id, .slice sd.a sd.len sd.cap, .slice ps.a ps.len ps.cap, .slice gs.a gs.len gs.cap, .agg #[.int .i64 a, .int .i64 b, .slice pc.a pc.len pc.cap]] w (Ret fun v w' => v = .bool true ∧ Mod NoB w w') := by
  obtain ⟨ss, h1, h2, h3, h4⟩ := hp
  exact c_clientNews hG hs hsl h1 h2 h3 h4 hg
end Go.Proofs.YtdjmobighhfogaaGreatDoor
end
