/- The forms of the translated functions,their contracts and the plain laws behind them,put together by a program. -/
import Derived.Test.YtmgcoepbccgjfaaGreatDoorPB31
import Derived.Test.YtmgcoepbccgjfaaGreatDoorRows
import Derived.LaidByTextLater
import Derived.LaidOnce
import Derived.SevenTiedAt
set_option linter.unusedSimpArgs false
set_option linter.unusedVariables false
set_option maxRecDepth 1000000
set_option maxHeartbeats 8000000
section
namespace Go.Proofs.YtmgcoepbccgjfaaGreatDoor
open Go
theorem pin_laid_unicode_utf8_first:Tryz.pinned.checked.prog.pinnedFits "unicode/utf8.first" = true:=by kernel_rfl
theorem noOwnUnsafe:Tryz.pinned.checked.prog.headLifts.contains "ownunsafe" = false:=by kernel_rfl
theorem fits1:Tryz.pinned.checked.prog.listedFits [("buttress/sha.begin",Rows.laid_buttress_sha_begin),("buttress/sha.rest",Rows.laid_buttress_sha_rest),("buttress/edwards.curve",Rows.laid_buttress_edwards_curve),("buttress/edwards.twice",Rows.laid_buttress_edwards_twice),("internal/strconv.uint64pow10",Rows.laid_internal_strconv_uint64pow10),("math/bits.deBruijn32tab",Rows.laid_math_bits_deBruijn32tab),("math/bits.deBruijn64tab",Rows.laid_math_bits_deBruijn64tab),("unicode/utf8.first",Rows.laid_unicode_utf8_first),("unicode/utf8.acceptRanges",Rows.laid_unicode_utf8_acceptRanges)]=true:=by
 unfold Program.listedFits
 rw [noOwnUnsafe]
 kernel_rfl
abbrev lst:List (String×DataW Unit):=[("buttress/sha.begin",Rows.laid_buttress_sha_begin),("buttress/sha.rest",Rows.laid_buttress_sha_rest),("buttress/edwards.curve",Rows.laid_buttress_edwards_curve),("buttress/edwards.twice",Rows.laid_buttress_edwards_twice),("internal/strconv.uint64pow10",Rows.laid_internal_strconv_uint64pow10),("math/bits.deBruijn32tab",Rows.laid_math_bits_deBruijn32tab),("math/bits.deBruijn64tab",Rows.laid_math_bits_deBruijn64tab),("unicode/utf8.acceptRanges",Rows.laid_unicode_utf8_acceptRanges)]
abbrev knd:List LaidKind:=[.data,.data,.data,.data,.data,.data,.data,.data]
theorem ti1:Tryz.prog.worded (varsWordLater true)=true:=by kernel_rfl
theorem ti2:Tryz.prog.worded (varsWordLater !true)=false:=by kernel_rfl
theorem ti3:Tryz.prog.worded rootWordLater=true:=by kernel_rfl
theorem ti4:lst.map (λx=>Tryz.prog.kindOfLater x.1)=knd.map some:=by kernel_rfl
theorem ti5:(Tryz.prog.funcNamed "gosem.cut.vars").isSome=true:=by kernel_rfl
theorem ti6:varsNamedLaterB Tryz.prog (varsId Tryz.prog) lst=true:=by kernel_rfl
theorem ti7 : ∀ os tape,doorLeaves Tryz.prog 400 8 81 lst os tape=some (lst.filter λx=>x.2.handleName?.isNone,(funcsListed lst).map (·.2.funcsOut)):=λ_ _=>by kernel_rfl
theorem tie:Tryz.prog.laidByTextLater lst knd true:=Program.laidByTextLater_by_one 400 8 81 ti1 ti2 ti3 ti4 ti5 ti6 ti7
theorem clusterNil_row_tie:Rows.clusterNilRow.laidByTextAt .later Tryz.pinned [.data,.data,.data,.data,.data,.data,.data,.pinned,.data] true:=
 OpenClaim.laidByTextAt_pinned rfl rfl tie rfl rfl rfl rfl (λy hy _e=>by
  simp only [Rows.clusterNilRow,List.zip_cons_cons,List.zip_nil_right,List.mem_cons,List.mem_nil_iff,or_false] at hy
  rcases hy with rfl | rfl | rfl | rfl | rfl | rfl | rfl | rfl | rfl
  ·cases _e
  ·cases _e
  ·cases _e
  ·cases _e
  ·cases _e
  ·cases _e
  ·cases _e
  ·exact ⟨pin_laid_unicode_utf8_first,by kernel_rfl⟩
  ·cases _e) fits1
end Go.Proofs.YtmgcoepbccgjfaaGreatDoor
end
