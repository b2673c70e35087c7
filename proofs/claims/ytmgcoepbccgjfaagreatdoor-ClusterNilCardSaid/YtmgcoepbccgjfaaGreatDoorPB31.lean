/- The forms of the translated functions,their contracts and the plain laws behind them,put together by a program. -/
import Derived.Test.YtmgcoepbccgjfaaGreatDoorPB30
import Derived.Test.YtmgcoepbccgjfaaGreatDoorRows
import Derived.Deep.Slices
import Derived.Deep.Strs
import Derived.Lib.LaidTab
import Derived.Stop.LaidErr
import Derived.LaidHandle
import Derived.MakeChecks
import Derived.SizedLaws
import Derived.WalkKit
import Derived.ProofKit
import Derived.OpenShut
import Derived.ShutString
import Derived.ChangeOld
import Derived.Below
import Derived.LaidMore
import Derived.Lay
import Derived.Stop.Joined
import Derived.SevenTiedAt
set_option linter.unusedSimpArgs false
set_option linter.unusedVariables false
set_option maxRecDepth 1000000
set_option maxHeartbeats 8000000
section
namespace Go.Proofs.YtmgcoepbccgjfaaGreatDoor
open Go Go.Sh Go.ChangeShapes Go.WideShapes Go.ChangeAt Go.RowKit
def laidG:List (String×DataW Unit):=[("buttress/sha.begin",Rows.laid_buttress_sha_begin),("buttress/sha.rest",Rows.laid_buttress_sha_rest),("buttress/edwards.curve",Rows.laid_buttress_edwards_curve),("buttress/edwards.twice",Rows.laid_buttress_edwards_twice),("internal/strconv.uint64pow10",Rows.laid_internal_strconv_uint64pow10),("math/bits.deBruijn32tab",Rows.laid_math_bits_deBruijn32tab),("math/bits.deBruijn64tab",Rows.laid_math_bits_deBruijn64tab),("unicode/utf8.first",Rows.laid_unicode_utf8_first),("unicode/utf8.acceptRanges",Rows.laid_unicode_utf8_acceptRanges)]
theorem door_met (os:Os) (args:Array Value):laidMetH Tryz.prog laidG ((World.laidAll Tryz.prog os laidG).forCall (λ_ _=>0) ⟨#[],args,[]⟩).memory:=by
 rw [MakeChecks.laidMetH_plain _ _ _ (by kernel_rfl)]
 exact laidMet_laidAll _ (by kernel_rfl) (by kernel_rfl)
theorem rd_tab {W:World} {name:String} {l:List UInt64} {g:Nat} (h:Lib.TabIs Tryz.prog W name .u64 (l.map λx=>(x.toNat:Int))) (hg:Tryz.prog.globalNamed name=some g):Rd W ⟨g,0,none⟩ (us l):=by
 intro j v hj
 have hj':j<l.length:=by
  rcases Nat.lt_or_ge j l.length with h | h
  ·exact h
  ·rw [List.getElem?_eq_none (by simpa using h)] at hj; cases hj
 rw [addl,Nat.zero_add,h.cell hg j (by simpa using hj')]
 rw [us_at hj'] at hj
 rw [<-hj]
 simp [List.getD,hj']
theorem gs_of_laid {W:World} (h:laidMetH Tryz.prog laidG W):GS W:=by
 unfold laidG at h
 rw [MakeChecks.laidMetH_plain _ _ _ (by kernel_rfl)] at h
 have e1:(Rows.laid_buttress_sha_begin:DataW Unit)=Lib.tabData .u64 (H0.map λx=>(x.toNat:Int)):=by kernel_rfl
 have e2:(Rows.laid_buttress_sha_rest:DataW Unit)=Lib.tabData .u64 (KS.map λx=>(x.toNat:Int)):=by kernel_rfl
 have e3:(Rows.laid_buttress_edwards_curve:DataW Unit)=Lib.tabData .u64 (([929955233495203,466365720129213,1662059464998953,2033849074728123,1442794654840575]:List UInt64).map λx=>(x.toNat:Int)):=by kernel_rfl
 have e4:(Rows.laid_buttress_edwards_twice:DataW Unit)=Lib.tabData .u64 (([1859910466990425,932731440258426,1072319116312658,1815898335770999,633789495995903]:List UInt64).map λx=>(x.toNat:Int)):=by kernel_rfl
 rw [e1,e2,e3,e4] at h
 refine ⟨⟨rd_tab (Lib.tabIs_of_head (g:=1) (t:=389) (e:=304) (n:=8) (by kernel_rfl) (by kernel_rfl) (by kernel_rfl) (by kernel_rfl) (by kernel_rfl) (by kernel_rfl) h) (by kernel_rfl),
  rd_tab (Lib.tabIs_of_head (g:=2) (t:=518) (e:=304) (n:=80) (by kernel_rfl) (by kernel_rfl) (by kernel_rfl) (by kernel_rfl) (by kernel_rfl) (by kernel_rfl) h.tail) (by kernel_rfl)⟩,
  ⟨rd_tab (Lib.tabIs_of_head (g:=3) (t:=306) (e:=304) (n:=5) (by kernel_rfl) (by kernel_rfl) (by kernel_rfl) (by kernel_rfl) (by kernel_rfl) (by kernel_rfl) h.tail.tail.tail) (by kernel_rfl),
  rd_tab (Lib.tabIs_of_head (g:=4) (t:=306) (e:=304) (n:=5) (by kernel_rfl) (by kernel_rfl) (by kernel_rfl) (by kernel_rfl) (by kernel_rfl) (by kernel_rfl) h.tail.tail) (by kernel_rfl)⟩⟩
theorem clusterNil_lifted (os:Os) (started:os.Started) (H:Type) (enc:TypeId×Value->H) :
 ReturnsInHanded {} Tryz.checked os 3 .any (λw args=>(Rows.clusterNilSpec.pre enc Tryz.prog Tryz.f3 [] false w args/\laidMetH Tryz.prog laidG w)/\sizedMet enc Tryz.prog Tryz.f3 (OpenSpec.ofChange Rows.clusterNilSpec) false w args)
  (Rows.clusterNilSpec.post enc Tryz.prog Tryz.f3 false true false false):=by
 refine returnsInHanded_of_change_and (C:=Tryz.checked) (X:=λw _=>laidMetH Tryz.prog laidG w) (λ_ _ _ hh h=>h.of_heap hh) own started (by kernel_rfl) Tryz.func3
  (ChangeSpec.witness_shaped (enc:=enc) (C:=Tryz.checked) (os:=os) (X:=λw _=>laidMetH Tryz.prog laidG w) false (World.laidAll Tryz.prog os laidG) #[.agg #[.int .u8 0,.int .i64 0,.int .i64 0,.int .i64 0,.int .i64 0,.int .i64 0,.int .i64 0,.string ⟨#[]⟩,.bool false,.slice none 0 0]] 8 (World.laidAll_os _ _ _) (World.shaped_of_ZipB (by kernel_rfl) (by kernel_rfl)) (by kernel_rfl) (by kernel_rfl) (by kernel_rfl) (door_met os _)) ?_
 intro W base args ds gs before hval0 hW _ hsz hL _
 have hval : ∀ (j:Nat) t v,Tryz.f3.params[j]? = some t->args[j]? = some v->Value.okWide Tryz.prog W .any base t v:=hval0
 have hsz:(DataW.weightsEach Tryz.prog (Tryz.f3.params.toList++Rows.clusterNilSpec.plain.varTypes Tryz.prog) (ds++gs)).all (·<=reachBytes)=true:=hsz
 have hW':=hW
 obtain ⟨p,q,hA0,hV,rfl,hfz,hnd⟩:=hW
 have hA:DataW.TrodAll enc Tryz.prog W 0 (λ_=>true) true Tryz.f3.params.toList args.toList ds p:=hA0
 rw [Tryz.params3] at hA hval hsz
 obtain ⟨v0,d0,rfl,rfl,h0⟩:=trodAll_one hA
 obtain ⟨rfl,rfl⟩:=trodVars_none hV
 clear hA0 hval0
 obtain ⟨cs0,rfl,sz0⟩:=okWide_struct uStG (hval 0 25 v0 rfl rfl)
 obtain ⟨⟨sa,⟨sb1,sb2,sb3,sb4,sb5,sb6⟩,sk,sg,ss⟩,ec0⟩:=(by obtain ⟨fu,hf⟩:=h0; exact step_of (by show cs0.toList.length=10; rw [Array.length_toList,sz0]; exact cellsSt) hf : ∃ p:UInt8×(Int×Int×Int×Int×Int×Int)×List UInt8×Bool×Slc,cs0.toList=[.int .u8 p.1.toNat,.int .i64 p.2.1.1,.int .i64 p.2.1.2.1,.int .i64 p.2.1.2.2.1,.int .i64 p.2.1.2.2.2.1,.int .i64 p.2.1.2.2.2.2.1,.int .i64 p.2.1.2.2.2.2.2,.string ⟨p.2.2.1.toArray⟩,.bool p.2.2.2.1,p.2.2.2.2.val])
 obtain rfl:cs0 = #[.int .u8 sa.toNat,.int .i64 sb1,.int .i64 sb2,.int .i64 sb3,.int .i64 sb4,.int .i64 sb5,.int .i64 sb6,.string ⟨sk.toArray⟩,.bool sg,ss.val]:=by rw [<-Array.toArray_toList (xs:=cs0),ec0]
 have k0:=h0
 have bl0 : ∀ x∈p,x.block<W.heap.size:=by obtain ⟨m,hm⟩:=k0; exact DataW.trod_lt m _ _ _ hm
 have g:GS W:=gs_of_laid hL
 refine (say_of (c_clusterNil (a:=sa) (b1:=sb1) (b2:=sb2) (b3:=sb3) (b4:=sb4) (b5:=sb5) (b6:=sb6) (k:=sk) (g:=sg) (s:=ss) g)).mono λe W' ⟨he,bel⟩=>?_
 subst he
 exact ⟨_,rfl,_,_,_,[],_,[],hW',trodAll_mk1 (shut_bool Tryz.underlying4 _),trodAll_mk1 (Below.trod laidOut (by kernel_rfl) (of_decide_eq_true (by kernel_rfl)) k0 bel bl0),rfl,bel.frame _,λh=>by cases h⟩
end Go.Proofs.YtmgcoepbccgjfaaGreatDoor
end
