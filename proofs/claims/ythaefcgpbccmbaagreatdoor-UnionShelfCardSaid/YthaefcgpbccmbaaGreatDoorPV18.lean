/- The forms of the translated functions,their contracts and the plain laws behind them,put together by a program. -/
import Derived.Test.YthaefcgpbccmbaaGreatDoorPV17
import Derived.Shelf.SlIter.Nil
import Derived.Shelf.SortM.Plain
import Derived.Shelf.SortM.SortNone
import Derived.Ground.GgzProg
import Derived.Ground.SlgmProg
import Derived.Test.YthaefcgpbccmbaaGreatDoorProg
set_option linter.unusedSimpArgs false
set_option linter.unusedVariables false
set_option maxRecDepth 100000
set_option maxHeartbeats 4000000
section
namespace Go.Proofs
open Go.Shelf
def Tryz.keys62_ren:Go.Shelf.Ren:=⟨fun | 7=>62 | 10=>118 | n=>n,fun | 23=>56 | 26=>9 | 3=>33 | 28=>123 | 0=>0 | 27=>122 | 33=>172 | 4=>4 | n=>n,fun | n=>n⟩
theorem Tryz.keys62:Go.Proofs.SlLaysZ.n7 Tryz.prog Tryz.keys62_ren:={
 mixed:=by kernel_rfl
 f7:=⟨Tryz.f62.name,by decide,Tryz.func62.trans (congrArg some (by kernel_rfl))⟩
 f10:=⟨Tryz.f118.name,by decide,Tryz.func118.trans (congrArg some (by kernel_rfl))⟩
 t0:=Tryz.underlying0
 a0:=Tryz.isAgg0
 z0:=Tryz.sizeOf0
 v0:=Tryz.zeroValue0
 t4:=Tryz.underlying4
 a4:=Tryz.isAgg4
 z4:=Tryz.sizeOf4
 v4:=Tryz.zeroValue4
 t23:=Tryz.underlying56
 a23:=Tryz.isAgg56
 z23:=Tryz.sizeOf56
 v23:=Tryz.zeroValue56
 t26:=Tryz.underlying9
 a26:=Tryz.isAgg9
 z26:=Tryz.sizeOf9
 v26:=Tryz.zeroValue9
 t27:=Tryz.underlying122
 a27:=Tryz.isAgg122
 z27:=Tryz.sizeOf122
 v27:=Tryz.zeroValue122
 t28:=Tryz.underlying123
 a28:=Tryz.isAgg123
 z28:=Tryz.sizeOf123
 v28:=Tryz.zeroValue123
 t33:=Tryz.underlying172
 a33:=Tryz.isAgg172
 z33:=Tryz.sizeOf172
 v33:=Tryz.zeroValue172}
def Tryz.sorted61_ren:Go.Shelf.Ren:=⟨fun | 6=>61 | 8=>116 | 9=>117 | 11=>197 | 13=>108 | 12=>198 | 23=>180 | 24=>181 | 14=>259 | 15=>260 | 16=>261 | 17=>262 | 18=>263 | 19=>264 | 20=>265 | 21=>266 | 22=>267 | 25=>321 | 26=>237 | 27=>238 | 28=>322 | 29=>323 | 30=>324 | 31=>361 | n=>n,fun | 26=>9 | 28=>123 | 24=>66 | 0=>0 | 3=>3 | 37=>166 | 48=>186 | 50=>188 | 4=>4 | 40=>274 | 39=>273 | 45=>264 | 5=>5 | 9=>9 | 51=>342 | 55=>346 | 57=>392 | 58=>393 | 33=>172 | n=>n,fun | n=>n⟩
theorem Tryz.sorted61:Go.Proofs.SlLaysZ.n6 Tryz.prog Tryz.sorted61_ren:={
 mixed:=by kernel_rfl
 f6:=⟨Tryz.f61.name,by decide,Tryz.func61.trans (congrArg some (by kernel_rfl))⟩
 f8:=⟨Tryz.f116.name,by decide,Tryz.func116.trans (congrArg some (by kernel_rfl))⟩
 f11:=⟨Tryz.f197.name,by decide,Tryz.func197.trans (congrArg some (by kernel_rfl))⟩
 t0:=Tryz.underlying0
 a0:=Tryz.isAgg0
 z0:=Tryz.sizeOf0
 v0:=Tryz.zeroValue0
 t24:=Tryz.underlying66
 a24:=Tryz.isAgg66
 z24:=Tryz.sizeOf66
 v24:=Tryz.zeroValue66
 t26:=Tryz.underlying9
 a26:=Tryz.isAgg9
 z26:=Tryz.sizeOf9
 v26:=Tryz.zeroValue9
 t28:=Tryz.underlying123
 a28:=Tryz.isAgg123
 z28:=Tryz.sizeOf123
 v28:=Tryz.zeroValue123
 i26:=by kernel_rfl}
def Tryz.sort117_ren:Go.Shelf.Ren:=⟨fun | 6=>117 | 8=>108 | 9=>198 | 19=>180 | 20=>181 | 21=>259 | 22=>260 | 23=>261 | 24=>262 | 25=>263 | 26=>264 | 27=>265 | 28=>266 | 29=>267 | 36=>321 | 31=>237 | 32=>238 | 37=>322 | 38=>323 | 39=>324 | 41=>361 | n=>n,fun | 27=>66 | 29=>9 | 3=>3 | 32=>166 | 26=>66 | 0=>0 | 44=>186 | 46=>188 | 4=>4 | 36=>274 | 35=>273 | 41=>264 | 5=>5 | 9=>9 | 53=>342 | 57=>346 | 63=>392 | 64=>393 | n=>n,fun | n=>n⟩
theorem Tryz.sort117:Go.Proofs.SlLaysM.n6 Tryz.prog Tryz.sort117_ren:={
 mixed:=by kernel_rfl
 f6:=⟨Tryz.f117.name,by decide,Tryz.func117.trans (congrArg some (by kernel_rfl))⟩
 f8:=Tryz.func108.trans (congrArg some (by kernel_rfl))
 f9:=⟨Tryz.f198.name,by decide,Tryz.func198.trans (congrArg some (by kernel_rfl))⟩
 f19:=Tryz.func180.trans (congrArg some (by kernel_rfl))
 f20:=Tryz.func181.trans (congrArg some (by kernel_rfl))
 f21:=⟨Tryz.f259.name,by decide,Tryz.func259.trans (congrArg some (by kernel_rfl))⟩
 f22:=⟨Tryz.f260.name,by decide,Tryz.func260.trans (congrArg some (by kernel_rfl))⟩
 f23:=⟨Tryz.f261.name,by decide,Tryz.func261.trans (congrArg some (by kernel_rfl))⟩
 f24:=⟨Tryz.f262.name,by decide,Tryz.func262.trans (congrArg some (by kernel_rfl))⟩
 f25:=⟨Tryz.f263.name,by decide,Tryz.func263.trans (congrArg some (by kernel_rfl))⟩
 f26:=⟨Tryz.f264.name,by decide,Tryz.func264.trans (congrArg some (by kernel_rfl))⟩
 f27:=⟨Tryz.f265.name,by decide,Tryz.func265.trans (congrArg some (by kernel_rfl))⟩
 f28:=⟨Tryz.f266.name,by decide,Tryz.func266.trans (congrArg some (by kernel_rfl))⟩
 f29:=⟨Tryz.f267.name,by decide,Tryz.func267.trans (congrArg some (by kernel_rfl))⟩
 f31:=Tryz.func237.trans (congrArg some (by kernel_rfl))
 f32:=Tryz.func238.trans (congrArg some (by kernel_rfl))
 f36:=⟨Tryz.f321.name,by decide,Tryz.func321.trans (congrArg some (by kernel_rfl))⟩
 f37:=⟨Tryz.f322.name,by decide,Tryz.func322.trans (congrArg some (by kernel_rfl))⟩
 f38:=⟨Tryz.f323.name,by decide,Tryz.func323.trans (congrArg some (by kernel_rfl))⟩
 f39:=⟨Tryz.f324.name,by decide,Tryz.func324.trans (congrArg some (by kernel_rfl))⟩
 f41:=⟨Tryz.f361.name,by decide,Tryz.func361.trans (congrArg some (by kernel_rfl))⟩
 t0:=Tryz.underlying0
 a0:=Tryz.isAgg0
 z0:=Tryz.sizeOf0
 v0:=Tryz.zeroValue0
 t3:=Tryz.underlying3
 a3:=Tryz.isAgg3
 z3:=Tryz.sizeOf3
 v3:=Tryz.zeroValue3
 t4:=Tryz.underlying4
 a4:=Tryz.isAgg4
 z4:=Tryz.sizeOf4
 v4:=Tryz.zeroValue4
 t5:=Tryz.underlying5
 a5:=Tryz.isAgg5
 z5:=Tryz.sizeOf5
 v5:=Tryz.zeroValue5
 t9:=Tryz.underlying9
 a9:=Tryz.isAgg9
 z9:=Tryz.sizeOf9
 v9:=Tryz.zeroValue9
 t26:=Tryz.underlying66
 a26:=Tryz.isAgg66
 z26:=Tryz.sizeOf66
 v26:=Tryz.zeroValue66
 t27:=Tryz.underlying66
 a27:=Tryz.isAgg66
 z27:=Tryz.sizeOf66
 v27:=Tryz.zeroValue66
 t29:=Tryz.underlying9
 a29:=Tryz.isAgg9
 z29:=Tryz.sizeOf9
 v29:=Tryz.zeroValue9
 t32:=Tryz.underlying166
 a32:=Tryz.isAgg166
 z32:=Tryz.sizeOf166
 v32:=Tryz.zeroValue166
 t35:=Tryz.underlying273
 a35:=Tryz.isAgg273
 z35:=Tryz.sizeOf273
 v35:=Tryz.zeroValue273
 t36:=Tryz.underlying274
 a36:=Tryz.isAgg274
 z36:=Tryz.sizeOf274
 v36:=Tryz.zeroValue274
 t41:=Tryz.underlying264
 a41:=Tryz.isAgg264
 z41:=Tryz.sizeOf264
 v41:=Tryz.zeroValue264
 t44:=Tryz.underlying186
 a44:=Tryz.isAgg186
 z44:=Tryz.sizeOf186
 v44:=Tryz.zeroValue186
 t46:=Tryz.underlying188
 a46:=Tryz.isAgg188
 z46:=Tryz.sizeOf188
 v46:=Tryz.zeroValue188
 t53:=Tryz.underlying342
 a53:=Tryz.isAgg342
 z53:=Tryz.sizeOf342
 v53:=Tryz.zeroValue342
 t57:=Tryz.underlying346
 a57:=Tryz.isAgg346
 z57:=Tryz.sizeOf346
 v57:=Tryz.zeroValue346
 t63:=Tryz.underlying392
 a63:=Tryz.isAgg392
 z63:=Tryz.sizeOf392
 v63:=Tryz.zeroValue392
 t64:=Tryz.underlying393
 a64:=Tryz.isAgg393
 z64:=Tryz.sizeOf393
 v64:=Tryz.zeroValue393}
end Go.Proofs
end
section
namespace Go.Proofs.YthaefcgpbccmbaaGreatDoor
section
open Go.RowKit Go.Maps Go.Sort Go.Shelf
theorem qGT (m:Nat):AnyZ.SortsIn Tryz.prog Tryz.sorted61_ren Fence.wide m:=
 ⟨fun blk off cap ss W hH hblk hsz=>callsIn_wide.2 (AnyM.slices_Sort_string Tryz.sort117 blk off cap ss W hH hblk hsz),
  fun p cap W=>callsIn_wide.2 (AnyM.slices_Sort_string_none Tryz.sort117 p cap W)⟩
theorem tE (mb:Option Nat) (W:World):CallsIn Fence.wide 5 Tryz.prog 62 #[.map mb] W fun e w'=>e = .returned (.func (.func 118) #[] #[.pointer (some ⟨W.heap.size,0,none⟩)])∧w'=W.alloc (.cells #[.map mb] 56):=
 AnyZ.keys_in Tryz.keys62 Fence.wide 5 trivial rfl mb W
set_option maxHeartbeats 1000000 in
theorem pR {H:Type} (b nn:Nat) (D0:DataW H) (R:Value→Option (DataW H×List MemPlace)) (w:World) (hown:w.ownsMap Tryz.prog 9 R b nn D0) (hmax:Maps.size D0≤maxLen) (hbytes:Maps.size D0*16≤140737488355328) :
 CallsIn Fence.wide 5 Tryz.prog 61 #[.func (.func 118) #[] #[.pointer (some ⟨w.heap.size,0,none⟩)]] (w.alloc (.cells #[.map (some b)] 56)) fun e w'=>∃ (v:Value) (ss:List (List UInt8)),e = .returned v∧ss.Perm (strKeys D0)∧
  w'.ownsRow (w.alloc (.cells #[.map (some b)] 56)).heap.size 9 1 v ss.length ((ss.mergeSort (fun x y=>decide (x≤y))).map encStr)∧(v = .slice none 0 0↔ss=[])∧Below (w.alloc (.cells #[.map (some b)] 56)).heap.size (w.alloc (.cells #[.map (some b)] 56)) w':=by
 have hbl:=hown.lt
 have hseq:SeqGives Fence.wide 2 Tryz.prog 118 #[.pointer (some ⟨w.heap.size,0,none⟩)] encStr (fun ss=>ss.Perm (strKeys D0)) (Maps.size D0) (w.alloc (.cells #[.map (some b)] 56)):=
  AnyZ.keys_gives (ρ:=Tryz.keys62_ren) {Tryz.keys62 with} Fence.wide _ trivial rfl (by omega) w.heap.size b nn D0 _ (by simp) (by simp) (by
   obtain ⟨es,clock,hb,Ft,hs,hD⟩:=hown
   exact ⟨es,clock,(Below.heap_alloc _ _ b hbl).trans hb,Ft,hs,hD⟩)
 exact AnyZ.sorted_in Tryz.sorted61 Fence.wide 5 trivial trivial trivial trivial rfl (by omega) (qGT _) (enters_of Tryz.func117 (by kernel_rfl) rfl) 118 #[.pointer (some ⟨w.heap.size,0,none⟩)] trivial (enters_of Tryz.func118 (by kernel_rfl) rfl) _ _ hmax hbytes _ hseq
end
end Go.Proofs.YthaefcgpbccmbaaGreatDoor
end
section
namespace Go.Proofs.YthaefcgpbccmbaaGreatDoor
open Go Go.Sh Go.MapKept
open Go.Proofs.Tryz
open Go.Sort Go.Maps
open Go.WideElems (Fit rg)
def eY (k:List UInt8):Value:=.string ⟨k.toArray⟩
theorem qB9 {w w':World} (h:Go.RowKit.Below w.heap.size w w'):Mod NoB w w':=⟨h.os,h.tape,h.output,h.size,fun b hb _=>h.block b hb⟩
theorem qGO {ls:List Rc} {ms:List En} (hG:Grp ls ms) : ∀ m∈ms,m.k.length≤64:=fun m a=>by
 have h1:=hG.eq m a
 have h2:=hG.ne m a
 obtain ⟨p,hp⟩:=List.exists_mem_of_ne_nil _ h2
 have h3:p.2∈aV ls m.k:=by rw [← h1]; exact List.mem_map_of_mem hp
 have h4:=(List.mem_filter.1 h3).2
 simp only [Rc.right,Rc.shaped,Bool.and_eq_true,decide_eq_true_eq] at h4
 rw [← h4.2]; exact h4.1.1.1.1.1.1.1.2
section
variable {w:World}
theorem qCI {mb:Nat} : Calls prog 62 #[.map (some mb)] w (Ret fun v w'=>v = .func (.func 118) #[] #[.pointer (some ⟨w.heap.size,0,none⟩)]∧w'=w.alloc (.cells #[.map (some mb)] 56)):=
 (callsIn_wide.1 (tE (some mb) w)).mono fun e w' ⟨h1,h2⟩=>by subst h1; exact ⟨rfl,h2⟩
theorem uB {B0 B mb:Nat} {ls:List Rc} {ms:List En} (hR:nL B0 B w mb ms) (hG:Grp ls ms) (hn:ms.length≤1000) :
 Calls prog 61 #[.func (.func 118) #[] #[.pointer (some ⟨w.heap.size,0,none⟩)]] (w.alloc (.cells #[.map (some mb)] 56)) (Ret fun v w'=>∃ (s:Slc) (ks:List (List UInt8)),v=s.val∧aK w' s 1 (ks.map eY)∧(∀ k,k∈ks↔k∈ms.map (·.k))∧ks.Pairwise (fun a b=>a<b)∧(∀ z,s.blk=some z→w.heap.size<z∧z<w'.heap.size)∧Mod NoB w w'):=by
 obtain ⟨hE,es,clock,hM,hEq⟩:=hR
 let R:Value→Option (DataW Unit×List MemPlace):=fun _=>some (.lit (.bool true),[])
 have hlen:es.length=ms.length:=by have:=congrArg List.length hEq; simpa using this
 have hrd : ∀ x∈es,∃ m∈ms,x.key=eY m.k∧WideElems.rd prog 9 R x=some (Lit.string m.k,DataW.lit (.bool true)):=fun x hx=>by
  have h1:(x.key,x.val)∈es.map fun e=>(e.key,e.val):=List.mem_map_of_mem hx
  rw [hEq] at h1
  obtain ⟨m,a,e⟩:=List.mem_map.1 h1
  simp only [Prod.mk.injEq] at e
  refine ⟨m,a,e.1.symm,?_⟩
  have hk:keyOf prog 9 x.key=some (.string m.k):=by
   rw [← e.1,WideMaps.keyOf_string_mk oY (by have:=qGO hG m a; show m.k.length≤_; unfold maxLen; omega)]
  simp [WideElems.rd,hk,R]
 have hF:Fit prog 9 R es.toArray clock:=⟨by unfold maxLen; simp; omega,hM.st,fun x hx=>by obtain ⟨m,_,_,h⟩:=hrd x (by simpa using hx); exact ⟨_,h⟩⟩
 have hown:w.ownsMap prog 9 R mb es.length (.map ((es.toArray.toList.map (rg prog 9 R)).foldr DataW.insert [])):=⟨es.toArray,clock,hM.get,hF,by simp,rfl⟩
 have hD:(strKeys (DataW.map ((es.toArray.toList.map (rg prog 9 R)).foldr DataW.insert []))).Perm (ms.map (·.k)):=by
  show (((es.map (rg prog 9 R)).foldr DataW.insert []).map fun p=>strOf p.1).Perm _
  refine ((WideShapes.sorted_perm _).map _).trans ?_
  rw [List.map_map]
  have e:es.map ((fun p:Lit×DataW Unit=>strOf p.1) ∘ rg prog 9 R)=ms.map (·.k):=by
   apply List.ext_getElem (by simp [hlen])
   intro i a b
   simp only [List.getElem_map,Function.comp]
   have hi:i<es.length:=by simpa using a
   have hi':i<ms.length:=by simpa using b
   obtain ⟨m,_,h1,h2⟩:=hrd es[i] (List.getElem_mem _)
   have h3:=congrArg (fun l=>l[i]?) hEq
   simp only [List.getElem?_map,List.getElem?_eq_getElem hi,List.getElem?_eq_getElem hi',Option.map_some,Option.some.injEq,Prod.mk.injEq] at h3
   have h4:m.k=ms[i].k:=kV (h1.symm.trans h3.1)
   rw [rg,h2]; exact h4
  rw [e]
 have hsz:Maps.size (DataW.map ((es.toArray.toList.map (rg prog 9 R)).foldr DataW.insert []))=es.length:=by simp [Maps.size,length_sorted]
 refine (callsIn_wide.1 (pR mb es.length _ R w hown (by rw [hsz]; unfold maxLen; omega) (by rw [hsz]; omega))).mono ?_
 rintro e w' ⟨v,ss,rfl,hp,hrow,hnil,hb⟩
 have hp2:=hp.trans hD
 have hm:Mod NoB w w':=(cG w _).tr (qB9 hb)
 let ks:=ss.mergeSort (fun x y=>decide (x≤y))
 have hkp:ks.Perm ss:=List.mergeSort_perm _ _
 have hnd:ks.Nodup:=(hkp.trans hp2).nodup_iff.2 hG.nd
 have hle:ks.Pairwise (fun a b=>decide (a≤b)=true):=List.pairwise_mergeSort (fun a b c h1 h2=>by simp at *; exact List.le_trans h1 h2) (fun a b=>by simp; exact List.le_total a b) ss
 have hlt:ks.Pairwise (fun a b=>a<b):=(hle.and hnd).imp fun {a b} h=>by
  rcases dQ a b with ⟨_,x⟩ | ⟨_,x⟩ | ⟨_,x⟩
  ·exact x
  ·exact absurd x h.2
  ·have:=of_decide_eq_true h.1; exact absurd x this
 have hmem : ∀ k,k∈ks↔k∈ms.map (·.k):=fun k=>(hkp.trans hp2).mem_iff
 obtain ⟨r1,r2⟩:=hrow
 rcases r2 with ⟨rfl,h0⟩ | ⟨g,cap,cur,rfl,hg,hcur,hn2,hcap,hcs,htk⟩
 ·have:ss=[]:=List.length_eq_zero_iff.1 h0
  subst this
  exact ⟨⟨none,0,0⟩,[],rfl,oD _ 1,fun k=>by have:=hmem k; simpa [ks] using this,List.Pairwise.nil,fun z hz=>by simp at hz,hm⟩
 ·refine ⟨⟨some ⟨g,0,none⟩,ss.length,cap⟩,ks,rfl,?_,hmem,hlt,fun z hz=>?_,hm⟩
  ·have hB:Blk w' g cur.toList 9:=Blk.mk hcur
   have ho:Sh.Own w' ⟨some ⟨g,0,none⟩,ss.length,cap⟩ 1 (ks.map eY):=by
    refine ⟨?_,hn2,.inr ⟨g,0,cur.toList,_,rfl,hB,by simp [hcs],?_⟩⟩
    ·rw [List.length_map,hkp.length_eq]; simp
    ·rw [List.drop_zero]; exact htk
   exact ho.rd
  ·have hz:g=z:=by rw [Slc.blk_mk] at hz; simp at hz; exact hz.2
   subst hz
   refine ⟨?_,aQ hcur⟩
   have:(w.alloc (.cells #[.map (some mb)] 56)).heap.size=w.heap.size+1:=Array.size_push _
   omega
end
end Go.Proofs.YthaefcgpbccmbaaGreatDoor
end
section
namespace Go.Proofs.YthaefcgpbccmbaaGreatDoor
open Go Go.Sh Go.MapKept
open Go.Proofs.Tryz
abbrev Lv:=List (List UInt8×List Rc)
structure qUR (ll:Nat) (I:(Nat→Prop)→Lv→World→Prop):Prop where
 st : ∀ {S L w w'},I S L w→Mod NoB w w'→I S L w'
 lo : ∀ {S L w},I S L w→∀ z,S z→z<w.heap.size
 yd : ∀ {S L w B} {key:List UInt8} {s:Slc} {rs:List Rc} {K:Value→World→Prop},I S L w→gU B w s rs→(∀ z,S z→z<B)→L.length≤1000→rs.length≤1000→
  (∀ S' w',I S' (L++[(key,rs)]) w'→Mod S w w'→(∀ z,S' z→S z∨w.heap.size≤z)→K (.bool true) w')→dU prog ll [.agg #[eY key,.slice s.a s.len s.cap]] w K
theorem nL.no {B0 B:Nat} {w w':World} {mb:Nat} {ms:List En} (h:nL B0 B w mb ms) (hm:Mod NoB w w'):nL B0 B w' mb ms:=by
 obtain ⟨h1,es,clock,h2,h3⟩:=h
 exact ⟨h1.no hm,es,clock,h2.mod hm fun h=>h,h3⟩
theorem Grp.len {ls:List Rc} {ms:List En} (h:Grp ls ms):ms.length≤ls.length:=by
 have:=kK (lt:=fun a b:List UInt8=>a≠b) (fun x h=>h rfl) (c:=ms.map fun m:En=>m.k) (l:=ls.map fun r:Rc=>r.key) h.nd fun k hk=>by
  obtain ⟨m,a,rfl⟩:=List.mem_map.1 hk
  have h1:=h.eq m a
  obtain ⟨p,hp⟩:=List.exists_mem_of_ne_nil _ (h.ne m a)
  have h3:p.2∈aV ls m.k:=by rw [← h1]; exact List.mem_map_of_mem hp
  have h4:=List.mem_filter.1 h3
  simp at h4
  exact List.mem_map.2 ⟨p.2,h4.1,h4.2.2⟩
 simpa using this
theorem gU.len {B:Nat} {w:World} {s:Slc} {rs:List Rc} (h:gU B w s rs):rs.length=s.len:=by
 obtain ⟨hs,h1,_,h3,_⟩:=h
 have:=bI Hd.len (by omega) h1.rd; omega
theorem qTE {w:World} {s:Slc} {l:List Value} (h:aK w s 1 l) {i:Nat} (hi:i<l.length) : ∃ a,s.a=some a∧Rd w (a.add (i*1)) [l[i]]:=by
 have hl:=h.1
 refine h.at (by omega) (by omega) fun j u hu=>?_
 have:j=0:=by have:=(List.getElem?_eq_some_iff.1 hu).1; simp at this; omega
 subst this
 simp at hu; subst hu
 rw [Nat.mul_one,Nat.add_zero,List.getElem?_eq_getElem hi]
section
variable {w:World}
theorem qLK {B0 B:Nat} {ms:List En} (hE:lY B0 B w ms) {m:En} (hm:m∈ms) (hB0:B0≤w.heap.size):jN w.heap.size w m.s (m.l.map fun p=>[p.2]):=by
 refine ⟨m.l.map (·.1),?_,fun z hz=>(hE.own m hm).lt hz,by simp,fun i a b=>?_⟩
 ·rw [List.map_map]; exact (hE.own m hm).rd
 ·have hi:i<m.l.length:=by simpa using a
  obtain ⟨h,h1,h2,h3,h4⟩:=hE.one m hm m.l[i] (List.getElem_mem _)
  simp only [List.getElem_map]
  refine ⟨[h],by simpa [hcells,aW] using h1,fun z hz=>(h4 z hz).2,rfl,fun j c d=>?_⟩
  have:j=0:=by simp at c; omega
  subst this
  exact ⟨h2,fun z hz=>by have:=h3 z hz; omega⟩
theorem pY {l:List (Slc×Rc)} : (l.map fun p=>[p.2]).flatten=l.map (·.2):=by
 induction l with
 | nil=>rfl
 | cons a l ih=>simp [ih]
theorem qBJ {ll c mb B0 B:Nat} {T:TypeId} {ms:List En} {ls:List Rc} {I:(Nat→Prop)→Lv→World→Prop} {S0:Nat→Prop} {wp:World} (hC:qUR ll I) (hR:nL B0 B wp mb ms) (hG:Grp ls ms) (hn:ls.length≤1000) (hB0:B0≤wp.heap.size)
 (hm0:Mod NoB wp w) (hc:Blk w c [.map (some mb)] T) (hI:I S0 [] w) (hS0 : ∀ z,S0 z→wp.heap.size≤z∧z≠c) :
 Calls prog 60 #[.func (.yield ll) #[] #[],.pointer (some ⟨c,0,none⟩)] w (Ret fun v w'=>v = .tuple #[]∧∃ S L,I S L w'∧fD ls L∧Mod NoB wp w'):=by
 refine qRE _ _ ?_
 unfold qWD
 have hms:=hG.len
 obtain ⟨iv,hv1,hv2,hv3,hv4⟩:=qQF
 refine ⟨some mb,hc.rd1 rfl,?_⟩
 refine aC qCI ?_
 rintro v w1 ⟨rfl,rfl⟩
 refine ⟨_,rfl,?_⟩
 refine aC (uB (hR.no hm0) hG (by omega)) ?_
 rintro v w2 ⟨kv,ks,rfl,hkv,hkm,hkp,hkb,hm2⟩
 refine ⟨kv,rfl,?_⟩
 have hkl:ks.length=kv.len:=by have:=hkv.1; simp at this; omega
 have hkn:ks.length≤1000:=by
  have:ks.length≤(ms.map (·.k)).length:=kK (lt:=fun a b:List UInt8=>a<b) (fun x=>List.lt_irrefl x) hkp fun k hk=>(hkm k).1 hk
  rw [List.length_map] at this; omega
 have hcl:=hc.lt
 refine ⟨fun l' w'=>match l' with | [.i _ y]=>∃ (k:Nat) (S:Nat→Prop) (L:Lv),y=(k:Int)∧k≤ks.length∧I S L w'∧(∀ z,S z→wp.heap.size≤z∧z≠c∧kv.blk≠some z)∧Blk w' c [.map (some mb)] T∧aK w' kv 1 (ks.map eY)∧Mod NoB wp w'∧L.length≤k∧L.Pairwise (fun a b=>a.1<b.1)∧(∀ key s,(key,s)∈L↔key∈ks.take k∧s≠[]∧bX (aV ls key) s)∧w2.heap.size≤w'.heap.size | _=>False,fun l' _=>match l' with | [.i _ y]=>(ks.length - y).toNat | _=>0,⟨0,S0,[],rfl,by omega,hC.st hI hm2,fun z hz=>⟨(hS0 z hz).1,(hS0 z hz).2,fun e=>by have h1:=hkb z e; have h2:=hC.lo hI z hz; omega⟩,hc.no hm2,hkv,hm0.tr hm2,by simp,List.Pairwise.nil,by simp,Nat.le_refl _⟩,?_⟩
 rintro y w3 ⟨k,S,L,rfl,hk,hI3,hS3,hc3,hkv3,hm3,hL1,hL2,hL3,hw3⟩
 refine aE (fun hlt=>?_) fun hge=>?_
 ·have hlt:k<ks.length:=by have:=of_decide_eq_true hlt; omega
  obtain ⟨A,ea,hrd⟩:=qTE hkv3 (i:=k) (by simpa using hlt)
  refine ⟨⟨by omega,by omega⟩,?_⟩
  rw [ea]
  refine ⟨ks[k],by simpa [eY] using hrd,some mb,hc3.rd1 rfl,?_⟩
  have hkk:ks[k]∈ms.map (·.k):=(hkm _).1 (List.getElem_mem _)
  obtain ⟨m,hmm,hmk⟩:=List.mem_map.1 hkk
  obtain ⟨hE3,es,clock,hM3,hEq⟩:=hR.no hm3
  have hent : ∀ e∈es,e.key=eY ks[k]→e.val=m.s.val:=fun e he hke=>by
   have h1:(e.key,e.val)∈es.map fun e=>(e.key,e.val):=List.mem_map_of_mem he
   rw [hEq] at h1
   obtain ⟨m',a',e'⟩:=List.mem_map.1 h1
   simp only [Prod.mk.injEq] at e'
   have hk':m'.k=m.k:=by rw [hmk]; exact kV (e'.1.trans hke)
   have:m'=m:=by
    obtain ⟨i,hi,rfl⟩:=List.getElem_of_mem a'
    obtain ⟨j,hj,rfl⟩:=List.getElem_of_mem hmm
    have:=(List.getElem_inj (xs:=ms.map (·.k)) (i:=i) (j:=j) (h₀:=by simpa using hi) (h₁:=by simpa using hj) hG.nd).1 (by simpa using hk')
    subst this; rfl
   rw [← e'.2,this]
  have hex : ∃ e∈es,e.key=eY ks[k]:=by
   have h1:(eY m.k,m.s.val)∈ms.map fun m=>(Value.string ⟨m.k.toArray⟩,m.s.val):=List.mem_map.2 ⟨m,hmm,rfl⟩
   rw [← hEq] at h1
   obtain ⟨e,he,h2⟩:=List.mem_map.1 h1
   simp only [Prod.mk.injEq] at h2
   exact ⟨e,he,by rw [h2.1,hmk]⟩
  refine mB qO oY hv1 hv2 hM3 (key:=eY ks[k]) trivial (fun e he hke=>?_) fun hno=>?_
  ·rw [hent e he hke]
   refine ⟨m.s,rfl,?_⟩
   have hrt:m.l.map (·.2)=aV ls ks[k]:=by rw [hG.eq m hmm,hmk]
   have hrl:(aV ls ks[k]).length≤ls.length:=List.length_filter_le _ _
   have hml:m.l.length=(aV ls ks[k]).length:=by rw [← hrt,List.length_map]
   have hmp:0<m.l.length:=List.length_pos_iff.2 (hG.ne m hmm)
   refine aC (yN (K:=ks[k]) (qLK hE3 hmm (by have:=hm3.size; omega)) (fun l hl r hr=>?_) (by rw [pY,List.length_map]; exact hmp) (by rw [pY,List.length_map]; omega) (by rw [List.length_map]; omega)) ?_
   ·obtain ⟨p,hp,rfl⟩:=List.mem_map.1 hl
    have hr:r=p.2:=by simpa using hr
    subst hr
    have h3:p.2∈aV ls ks[k]:=by rw [← hrt]; exact List.mem_map_of_mem hp
    have h4:=(List.mem_filter.1 h3).2
    simpa using h4
   rintro v w4 ⟨out,rs,rfl,hJ,hS,hm4⟩
   rw [pY,hrt] at hJ
   refine ⟨out,0,rfl,?_⟩
   have hol:=hS.len
   have hrsl:rs.length≤1000:=by
    have h1:rs.length≤(aV ls ks[k]).length:=by
     obtain ⟨cc,hcc,rfl⟩:=hJ
     exact Nat.le_trans (List.length_filter_le _ _) (kK fI hcc.pw fun r hr=>((hcc.mem r).1 hr).1)
    omega
   have etk:ks.take (k+1)=ks.take k++[ks[k]]:=aT hlt
   have hnew:ks[k] ∉ ks.take k:=fun h=>by
    obtain ⟨i,hi,e⟩:=List.getElem_of_mem h
    rw [List.length_take] at hi
    have:=List.pairwise_iff_getElem.1 hkp i k (by omega) hlt (by omega)
    rw [List.getElem_take] at e
    rw [e] at this
    exact List.lt_irrefl _ this
   have hI4:=hC.st hI3 hm4
   have hlo:=hC.lo hI3
   refine aE (fun hpos=>?_) fun hzero=>?_
   ·have hpos:0<rs.length:=by have:=of_decide_eq_true hpos; omega
    show dU _ _ _ _ _
    refine hC.yd (key:=ks[k]) hI4 hS (fun z hz=>hlo z hz) (by omega) hrsl fun S' w5 hI5 hm5 hS5=>?_
    refine ⟨true,rfl,aE (fun h=>by simp at h) fun _=>?_⟩
    rw [wrap_i64 (e:=(k:Int)+1) (by omega)]
    have hkvl : ∀ z,kv.blk=some z→z<w4.heap.size:=fun z hz=>by have h1:=(hkb z hz).2; have:=hm4.size; omega
    refine ⟨⟨k+1,S',L++[(ks[k],rs)],by omega,by omega,hI5,fun z hz=>?_,(hc3.no hm4).mod hm5 fun e=>(hS3 c e).2.1 rfl,(hkv3.no hm4).mod hm5 fun z hz e=>(hS3 z e).2.2 hz,(hm3.tr hm4).trans hm5 (fun _ _ h=>h) (fun z hz e=>by have:=(hS3 z e).1; omega),by rw [List.length_append]; simp; omega,?_,fun key s=>?_,by have:=hm4.size; have:=hm5.size; omega⟩,by (try simp only []); omega⟩
    ·rcases hS5 z hz with e | e
     ·exact hS3 z e
     ·have h1:=hm3.size; have h2:=hm4.size; have h3:=hc3.lt
      exact ⟨by omega,by omega,fun e2=>by have:=hkvl z e2; omega⟩
    ·rw [List.pairwise_append]
     refine ⟨hL2,by simp,fun a ha b hb=>?_⟩
     have hb:b=(ks[k],rs):=by simpa using hb
     subst hb
     have h1:=((hL3 a.1 a.2).1 ha).1
     obtain ⟨i,hi,e⟩:=List.getElem_of_mem h1
     rw [List.length_take] at hi
     rw [List.getElem_take] at e
     rw [← e]
     exact List.pairwise_iff_getElem.1 hkp i k (by omega) hlt (by omega)
    ·rw [List.mem_append,hL3,etk,List.mem_append,List.mem_singleton,List.mem_singleton,Prod.mk.injEq]
     constructor
     ·rintro (⟨h1,h2,h3⟩ | ⟨rfl,rfl⟩)
      ·exact ⟨.inl h1,h2,h3⟩
      ·exact ⟨.inr rfl,fun e=>by rw [e] at hpos; simp at hpos,hJ⟩
     ·rintro ⟨h1 | rfl,h2,h3⟩
      ·exact .inl ⟨h1,h2,h3⟩
      ·exact .inr ⟨rfl,h3.uniq hJ fun _=>Iff.rfl⟩
   ·have hz0:rs.length=0:=by have:=of_decide_eq_false hzero; omega
    have hrs:rs=[]:=List.length_eq_zero_iff.1 hz0
    subst hrs
    rw [wrap_i64 (e:=(k:Int)+1) (by omega)]
    refine ⟨⟨k+1,S,L,by omega,by omega,hI4,hS3,hc3.no hm4,hkv3.no hm4,hm3.tr hm4,by omega,hL2,fun key s=>?_,by have:=hm4.size; omega⟩,by (try simp only []); omega⟩
    rw [hL3,etk,List.mem_append,List.mem_singleton]
    constructor
    ·rintro ⟨h1,h2,h3⟩; exact ⟨.inl h1,h2,h3⟩
    ·rintro ⟨h1 | rfl,h2,h3⟩
     ·exact ⟨h1,h2,h3⟩
     ·exact absurd (h3.uniq hJ fun _=>Iff.rfl) h2
  ·obtain ⟨e,he,h2⟩:=hex
   exact absurd h2 (hno e he)
 ·have hkk:k=ks.length:=by have:=of_decide_eq_false hge; omega
  subst hkk
  rw [List.take_length] at hL3
  refine ⟨rfl,S,L,hI3,⟨hL2,fun key s=>?_⟩,hm3⟩
  rw [hL3]
  constructor
  ·rintro ⟨_,h2,h3⟩; exact ⟨h2,h3⟩
  ·rintro ⟨h2,h3⟩
   refine ⟨(hkm key).2 ?_,h2,h3⟩
   obtain ⟨r,hr⟩:=List.exists_mem_of_ne_nil _ h2
   have h4:=gL h3 r hr
   have h5:=List.mem_filter.1 h4
   simp at h5
   obtain ⟨m,a,b⟩:=hG.all r h5.1 h5.2.1
   exact List.mem_map.2 ⟨m,a,by rw [b,h5.2.2]⟩
end
def eG (Q:Nat→Prop) (w:World) (s:Slc) (rs:List Rc):Prop:=
 ∃ hs:List Hd,Sh.Own w s 7 (hcells hs)∧(∀ z,s.blk=some z→Q z)∧hs.length=rs.length∧∀ i (h:i<hs.length) (h':i<rs.length),cN w hs[i] rs[i]∧∀ z,hs[i].on z→Q z
theorem eG.mod {Q Q':Nat→Prop} {w w':World} {s:Slc} {rs:List Rc} {S:Nat→Prop} (h:eG Q w s rs) (hm:Mod S w w') (hS : ∀ z,Q z→z<w.heap.size→¬ S z∧Q' z):eG Q' w' s rs:=by
 obtain ⟨hs,h1,h2,h3,h4⟩:=h
 exact ⟨hs,h1.mod hm fun z hz=>(hS z (h2 z hz) (h1.lt hz)).1,fun z hz=>(hS z (h2 z hz) (h1.lt hz)).2,h3,fun i a b=>⟨(h4 i a b).1.mod hm fun z hz=>(hS z ((h4 i a b).2 z hz) ((h4 i a b).1.lt z hz)).1,fun z hz=>(hS z ((h4 i a b).2 z hz) ((h4 i a b).1.lt z hz)).2⟩⟩
theorem gU.q {B:Nat} {w:World} {s:Slc} {rs:List Rc} (h:gU B w s rs):eG (fun z=>B≤z) w s rs:=by
 obtain ⟨hs,h1,h2,h3,h4⟩:=h
 exact ⟨hs,h1,h2,h3,fun i a b=>⟨(h4 i a b).1,fun z hz=>((h4 i a b).2 z hz).1⟩⟩
def bE (e:List UInt8×Slc):List Value:=[eY e.1,e.2.val]
theorem bA (e:List UInt8×Slc):(bE e).length=2:=rfl
theorem eU (e:List UInt8×Slc) : ∀ v∈bE e,v.oneCell'=true:=by
 intro v hv
 simp [bE,eY,Slc.val] at hv
 rcases hv with rfl | rfl <;> rfl
def bZ (Q:Nat→Prop) (w:World) (o:Slc) (L:Lv):Prop:=
 ∃ es:List (List UInt8×Slc),Sh.Own w o 2 (aW bE es)∧(∀ z,o.blk=some z→Q z)∧es.length=L.length∧∀ i (h:i<es.length) (h':i<L.length),es[i].1=L[i].1∧eG (fun z=>Q z∧o.blk≠some z) w es[i].2 L[i].2
theorem bZ.mod {Q Q':Nat→Prop} {w w':World} {o:Slc} {L:Lv} {S:Nat→Prop} (h:bZ Q w o L) (hm:Mod S w w') (hS : ∀ z,Q z→z<w.heap.size→¬ S z∧Q' z):bZ Q' w' o L:=by
 obtain ⟨es,h1,h2,h3,h4⟩:=h
 exact ⟨es,h1.mod hm fun z hz=>(hS z (h2 z hz) (h1.lt hz)).1,fun z hz=>(hS z (h2 z hz) (h1.lt hz)).2,h3,fun i a b=>⟨(h4 i a b).1,(h4 i a b).2.mod hm fun z hz hl=>⟨(hS z hz.1 hl).1,(hS z hz.1 hl).2,hz.2⟩⟩⟩
theorem jI {w:World} {b:Nat} {o o':Obj} (h:w.heap[b]? = some o):(w.putObj b o').heap[b]? = some o'∧Mod (fun z=>z=b) w (w.putObj b o')∧(w.putObj b o').heap.size=w.heap.size:=
 have hu:=nR (o':=o') h
 ⟨hu.get,hu.mod,hu.size⟩
theorem dX:prog.underlying 26=some (.slice 64):=by kernel_rfl
theorem nI : ∃ i,prog.info? 64=some i∧i.zero=some (.agg #[.string ⟨#[]⟩,.slice none 0 0])∧i.size=2∧i.bytes=40:=bK (by kernel_rfl) (by kernel_rfl) (by kernel_rfl)
theorem qKL : ∃ i,prog.info? 26=some i∧i.zero=some (.slice none 0 0)∧i.size=1∧i.bytes=24:=bK (by kernel_rfl) (by kernel_rfl) (by kernel_rfl)
theorem qK2 : ∃ i,prog.info? 58=some i∧i.zero=some (.agg #[.map none])∧i.size=1∧i.bytes=8:=bK (by kernel_rfl) (by kernel_rfl) (by kernel_rfl)
section
variable {w:World}
theorem qBG {mb:Nat} : Calls prog 31 #[.map (some mb)] w (Ret fun v w'=>∃ c,v = .func (.func 60) #[] #[.pointer (some ⟨c,0,none⟩)]∧Blk w' c [.map (some mb)] 56∧c=w.heap.size∧Mod NoB w w'):=by
 refine qRT _ ?_
 unfold qT0
 exact aU (l:=[.map (some mb)]) rfl fun c w1 hN hb=>⟨_,rfl,c,rfl,hb,hN.at_,hN.mod⟩
def IL (rec:LoopState→Option Code→Obj) (ll dd ob B:Nat) (S:Nat→Prop) (L:Lv) (w:World):Prop:=
 w.heap[ll]? = some (rec .ready none)∧w.heap[dd]? = some (.deferred (some []))∧∃ o:Slc,Blk w ob [o.val] 26∧(∀ z,S z↔(z=ll∨z=ob∨o.blk=some z))∧bZ (fun z=>B≤z∧z≠ll∧z≠dd∧z≠ob) w o L
theorem qVH {rec:LoopState→Option Code→Obj} {ll dd ob B:Nat} (hd:ll=dd+1) (ho:ob<dd) (hB:B≤ob)
 (hy : ∀ (xa:List UInt8) (xb:Slc) (w8:World) (kk:Value→World→Prop),w8.heap[ll]? = some (rec .ready none)→
  (aF prog (Instr.alloc 64 true (.tuple #[])) w8 fun v5 w9=>∃ l:Option Addr,v5=(.pointer l)∧aA l fun a3=>aJ prog (storeVar 64 a3 (.agg #[(.string ⟨(xa).toArray⟩),(.slice xb.a xb.len xb.cap)])) w9 fun w10=>(w10.heap[ll]? = some (rec .ready none)∧aA (some (⟨ob,0,none⟩:Addr)) fun a4=>∃ x4:Slc,Rd (w10.putObj ll (rec .busy none)) a4 [(.slice x4.a x4.len x4.cap)]∧aA l fun a5=>∃ xa1:List UInt8,∃ xb1:Slc,Rd (w10.putObj ll (rec .busy none)) a5 [(.string ⟨(xa1).toArray⟩),(.slice xb1.a xb1.len xb1.cap)]∧aF prog (Instr.buildSlice 26 1 #[(0,(.agg #[(.string ⟨(xa1).toArray⟩),(.slice xb1.a xb1.len xb1.cap)]))]) (w10.putObj ll (rec .busy none)) fun v6 w11=>∃ x5:Slc,v6=(.slice x5.a x5.len x5.cap)∧aF prog (Builtin.append_ #[26,26] 26 #[(.slice x4.a x4.len x4.cap),(.slice x5.a x5.len x5.cap)]) w11 fun v7 w12=>∃ x6:Slc,v7=(.slice x6.a x6.len x6.cap)∧aA (some (⟨ob,0,none⟩:Addr)) fun a6=>aJ prog (storeVar 26 a6 (.slice x6.a x6.len x6.cap)) w12 fun w13=>(w13.heap[ll]? = some (rec .busy none)∧kk (.bool true) (w13.putObj ll (rec .ready none)))))→
  dU prog ll [(.agg #[(.string ⟨(xa).toArray⟩),(.slice xb.a xb.len xb.cap)])] w8 kk):qUR ll (IL rec ll dd ob B) where
 st:=fun {S L w w'} h hm=>by
  obtain ⟨h1,h2,o,h3,h4,h5⟩:=h
  exact ⟨(hm.block _ (aQ h1) fun h=>h).trans h1,(hm.block _ (aQ h2) fun h=>h).trans h2,o,h3.no hm,h4,h5.mod hm fun z hz _=>⟨fun h=>h,hz⟩⟩
 lo:=fun {S L w} h z hz=>by
  obtain ⟨h1,h2,o,h3,h4,es,h5,_⟩:=h
  rcases (h4 z).1 hz with rfl | rfl | e
  ·exact aQ h1
  ·exact h3.lt
  ·exact h5.lt e
 yd:=fun {S L w B'} {key s rs K} hI hS hB' hL hrs hK=>by
  obtain ⟨h1,h2,o,h3,h4,hQ⟩:=hI
  obtain ⟨il,hl1,hl2,hl3,hl4⟩:=nI
  have hobl:=h3.lt
  have hlll:=aQ h1
  have hddl:=aQ h2
  refine hy key s w K h1 ?_
  refine aM (l:=[.string ⟨#[]⟩,.slice none 0 0]) hl1 hl2 rfl fun q w9 hN9 hb9=>⟨_,rfl,?_⟩
  show aJ _ _ _ _
  refine bO (vs:=[eY key,s.val]) (by kernel_rfl) (by kernel_rfl) rfl hb9 (by simp) (by intro u hu; simp at hu; rcases hu with rfl | rfl <;> rfl) fun w10 ht10 hb10=>?_
  have hq:=hN9.at_
  have hm10:Mod NoB w w10:=hN9.mod.fresh ht10.mod fun z e=>by have e:z=q:=e; omega
  have hb10:Blk w10 q [eY key,s.val] 64:=hb10
  have h1':w10.heap[ll]? = some (rec .ready none):=(hm10.block _ hlll fun h=>h).trans h1
  obtain ⟨p1,p2,p3⟩:=jI (o':=rec .busy none) h1'
  have h3p:Blk (w10.putObj ll (rec .busy none)) ob [o.val] 26:=(h3.no hm10).mod p2 (by omega)
  have hqp:Blk (w10.putObj ll (rec .busy none)) q [eY key,s.val] 64:=hb10.mod p2 (by omega)
  refine ⟨h1',o,h3p.rd1 rfl,key,s,hqp.rd (fun j v hj=>by rw [Nat.zero_add]; exact hj),?_⟩
  refine bT [.agg #[eY key,s.val]] (l:=aW bE [(key,s)]) dX hl1 hl2 hl3 (by omega) rfl (by omega) (by omega) rfl (by intro v hv; simp at hv; subst hv; rfl) (by simp [aW,bE,Value.cells,eY,Slc.val]) fun lb w11 hN11 hb11=>⟨⟨some ⟨lb,0,none⟩,1,1⟩,rfl,?_⟩
  have hlit:aK w11 ⟨some ⟨lb,0,none⟩,1,1⟩ 2 (aW bE [(key,s)]):=(aX (n:=1) (k:=2) hb11 rfl).rd
  have hQ10:bZ (fun z=>B≤z∧z≠ll∧z≠dd∧z≠ob) w10 o L:=hQ.mod hm10 fun z hz _=>⟨fun h=>h,hz⟩
  have hQp:bZ (fun z=>B≤z∧z≠ll∧z≠dd∧z≠ob) (w10.putObj ll (rec .busy none)) o L:=hQ10.mod p2 fun z hz _=>⟨fun e=>hz.2.1 e,hz⟩
  have hQ11:bZ (fun z=>(B≤z∧z≠ll∧z≠dd∧z≠ob)∧z<w.heap.size) w11 o L:=by
   refine (hQ.mod hm10 fun z hz hl=>⟨fun h=>h,hz,hl⟩:bZ (fun z=>(B≤z∧z≠ll∧z≠dd∧z≠ob)∧z<w.heap.size) w10 o L).mod (p2.no' hN11.mod) fun z hz _=>⟨fun e=>hz.1.2.1 e,hz⟩
  obtain ⟨es,ho11,hob11,hel,hes⟩:=hQ11
  have hol:=bI bA (by omega) ho11.rd
  refine bC dX hl1 hl2 hl3 rfl hl4 ho11 hlit (d9 eU _) (by simp only []; omega) (by simp only []; omega) fun x' w12 ho12 hlen hblk hm12=>⟨x',rfl,?_⟩
  show aJ _ _ _ _
  have hobo:o.blk≠some ob:=fun e=>(hob11 ob e).1.2.2.2 rfl
  have hollo:o.blk≠some ll:=fun e=>(hob11 ll e).1.2.1 rfl
  have hoddo:o.blk≠some dd:=fun e=>(hob11 dd e).1.2.2.1 rfl
  refine aS (by kernel_rfl) (by kernel_rfl) rfl ((h3p.no hN11.mod).mod hm12 hobo) (by simp) fun w13 ht13 hb13=>?_
  have hs10:=hm10.size
  have hs11:w10.heap.size≤w11.heap.size:=by have:=hN11.mod.size; omega
  have hl11:w11.heap[ll]? = some (rec .busy none):=(hN11.mod.block _ (aQ p1) fun h=>h).trans p1
  have hl12:w12.heap[ll]? = some (rec .busy none):=(hm12.block _ (aQ hl11) hollo).trans hl11
  have hl13:w13.heap[ll]? = some (rec .busy none):=(ht13.mod.block _ (aQ hl12) (by show ¬ ll=ob; omega)).trans hl12
  obtain ⟨r1,r2,r3⟩:=jI (o':=rec .ready none) hl13
  have hd13:w13.heap[dd]? = some (.deferred (some [])):=by
   have a1:=(hm10.block _ hddl fun h=>h).trans h2
   have a2:=(p2.block _ (aQ a1) (by show ¬ dd=ll; omega)).trans a1
   have a3:=(hN11.mod.block _ (aQ a2) fun h=>h).trans a2
   have a4:=(hm12.block _ (aQ a3) hoddo).trans a3
   exact (ht13.mod.block _ (aQ a4) (by show ¬ dd=ob; omega)).trans a4
  have hx' : ∀ z,x'.blk=some z→o.blk=some z∨z=w11.heap.size:=fun z hz=>by
   rcases hblk with e | e
   ·exact .inl (by rw [← e]; exact hz)
   ·rw [e] at hz; cases hz; exact .inr rfl
  refine ⟨hl13,hK (fun z=>z=ll∨z=ob∨x'.blk=some z) _ ⟨r1,(r2.block _ (aQ hd13) (by show ¬ dd=ll; omega)).trans hd13,x',hb13.mod r2 (by omega),fun z=>Iff.rfl,es++[(key,s)],?_,fun z hz=>?_,by simp [hel],fun j a d=>?_⟩ ?_ fun z hz=>?_⟩
  ·rw [cS]
   refine (ho12.mod ht13.mod fun z hz e=>?_).mod r2 fun z hz e=>?_
   ·have e:z=ob:=e
    subst e
    rcases hx' z hz with h | h
    ·exact hobo h
    ·omega
   ·have e:z=ll:=e
    subst e
    rcases hx' z hz with h | h
    ·exact hollo h
    ·omega
  ·rcases hx' z hz with h | h
   ·exact (hob11 z h).1
   ·omega
  ·have hfr : ∀ {Q:Nat→Prop} {t:Slc} {l:List Rc},eG Q w11 t l→(∀ z,Q z→z<w11.heap.size→B≤z∧z≠ll∧z≠dd∧z≠ob∧o.blk≠some z)→eG (fun z=>(B≤z∧z≠ll∧z≠dd∧z≠ob)∧x'.blk≠some z) (w13.putObj ll (rec .ready none)) t l:=fun {Q t l} hq hQ'=>by
    have b1:eG (fun z=>(B≤z∧z≠ll∧z≠dd∧z≠ob)∧x'.blk≠some z) w12 t l:=hq.mod hm12 fun z hz hl=>by
     obtain ⟨c1,c2,c3,c4,c5⟩:=hQ' z hz hl
     refine ⟨c5,⟨c1,c2,c3,c4⟩,fun e=>?_⟩
     rcases hx' z e with h | h
     ·exact c5 h
     ·omega
    have b2:eG (fun z=>(B≤z∧z≠ll∧z≠dd∧z≠ob)∧x'.blk≠some z) w13 t l:=b1.mod ht13.mod fun z hz _=>⟨fun e=>hz.1.2.2.2 e,hz⟩
    exact b2.mod r2 fun z hz _=>⟨fun e=>hz.1.2.1 e,hz⟩
   rcases Nat.lt_or_ge j es.length with hj | hj
   ·have e1:(es++[(key,s)])[j]=es[j]:=List.getElem_append_left hj
    have e2:(L++[(key,rs)])[j]=L[j]'(by omega):=List.getElem_append_left (by omega)
    rw [e1,e2]
    obtain ⟨g1,g2⟩:=hes j hj (by omega)
    exact ⟨g1,hfr g2 fun z hz _=>⟨hz.1.1.1,hz.1.1.2.1,hz.1.1.2.2.1,hz.1.1.2.2.2,hz.2⟩⟩
   ·have hje:j=es.length:=by simp at a; omega
    subst hje
    have e1:(es++[(key,s)])[es.length]=(key,s):=by simp
    have e2:(L++[(key,rs)])[es.length]=(key,rs):=by simp [hel]
    rw [e1,e2]
    refine ⟨rfl,hfr (Q:=fun z=>B'≤z) (((hS.q.mod hm10 fun z hz _=>⟨fun h=>h,hz⟩:eG (fun z=>B'≤z) w10 s rs).mod p2 fun z hz _=>⟨fun e=>?_,hz⟩:eG (fun z=>B'≤z) _ s rs).mod hN11.mod fun z hz _=>⟨fun h=>h,hz⟩) fun z hz _=>?_⟩
    ·have e:z=ll:=e
     have:=hB' ll ((h4 ll).2 (.inl rfl)); omega
    ·have b1:=hB' ll ((h4 ll).2 (.inl rfl))
     have b2:=hB' ob ((h4 ob).2 (.inr (.inl rfl)))
     exact ⟨by omega,by omega,by omega,by omega,fun e=>by have:=hB' z ((h4 z).2 (.inr (.inr e))); omega⟩
  ·have c1:Mod S w (w10.putObj ll (rec .busy none)):=hm10.no (p2.mono fun z _ e=>(h4 z).2 (.inl e))
   have c2:Mod S w w12:=(c1.no' hN11.mod).tr (hm12.mono fun z _ e=>(h4 z).2 (.inr (.inr e)))
   exact (c2.tr (ht13.mod.mono fun z _ e=>(h4 z).2 (.inr (.inl e)))).tr (r2.mono fun z _ e=>(h4 z).2 (.inl e))
  ·rcases hz with e | e | e
   ·exact .inl ((h4 z).2 (.inl e))
   ·exact .inl ((h4 z).2 (.inr (.inl e)))
   ·rcases hx' z e with h | h
    ·exact .inl ((h4 z).2 (.inr (.inr h)))
    ·right; omega
end
section
variable {w:World}
theorem kE {recs:Slc} {ls:List Rc} (hl:bP w.heap.size w recs ls) (hn:ls.length≤1000) :
 Calls prog 10 #[.slice recs.a recs.len recs.cap] w (Ret fun v w'=>∃ o L,v=o.val∧fD ls L∧bZ (fun z=>w.heap.size≤z) w' o L∧Mod NoB w w'):=by
 refine qRV _ ?_
 unfold qVJ
 obtain ⟨ib,hb1,hb2,hb3,hb4⟩:=qK2
 obtain ⟨io,ho1,ho2,ho3,ho4⟩:=qKL
 refine oX (d:=.string) fun mb w1 e1 e1' hM1 hm1=>⟨some mb,rfl,?_⟩
 refine aM (l:=[.map none]) hb1 hb2 rfl fun b w2 hN2 hbb2=>⟨_,rfl,?_⟩
 have e2:=hN2.at_
 show aJ _ _ _ _
 refine bO (vs:=[.map (some mb)]) (by kernel_rfl) (by kernel_rfl) rfl hbb2 (by simp) (by intro u hu; simp at hu; subst hu; rfl) fun w3 ht3 hbb3=>?_
 have hbb3:Blk w3 b [.map (some mb)] 58:=hbb3
 have hm13:Mod NoB w1 w3:=hN2.mod.fresh ht3.mod fun z e=>by have e:z=b:=e; omega
 have hm03:=hm1.tr hm13
 refine ⟨some mb,hbb3.rd1 rfl,?_⟩
 have hl3:bP w.heap.size w3 recs ls:=hl.mod (hm03.mono fun _ _ h=>h.elim)
 refine aC (qUT (B0:=w.heap.size) (hM1.mod hm13 fun h=>h) hl3 (by omega) hn) ?_
 rintro v w4 ⟨rfl,ms,hR4,hG,hm4⟩
 have hbb4:Blk w4 b [.map (some mb)] 58:=hbb3.mod hm4 (by omega)
 have hm04:Mod NoB w w4:=hm03.fresh hm4 fun z e=>by have e:z=mb:=e; omega
 refine ⟨rfl,?_⟩
 refine aM (l:=[.slice none 0 0]) ho1 ho2 rfl fun ob w5 hN5 hob5=>⟨_,rfl,?_⟩
 have e5:=hN5.at_
 refine ⟨some mb,by rw [aL]; exact (hbb4.no hN5.mod).rd1 rfl,?_⟩
 refine aC qBG ?_
 rintro v w6 ⟨c,rfl,hc6,e6,hm6⟩
 refine ⟨_,rfl,60,#[],#[.pointer (some ⟨c,0,none⟩)],rfl,by kernel_rfl,fun rec dd ll w7 hdd hll hw7 hy=>?_⟩
 have hs6:=hm6.size
 have hs45:=hN5.size
 have hcl:=hc6.lt
 have hw6l:(w6.alloc (.deferred (some []))).heap.size=dd+1:=by rw [hdd]; exact Array.size_push _
 have hm67:Mod NoB w6 w7:=by rw [hw7]; exact (cG _ _).tr (cG _ _)
 have hready:w7.heap[ll]? = some (rec .ready none):=by
  rw [hw7]
  have:=(dT (w6.alloc (.deferred (some []))) (rec .ready none)).get
  rw [hw6l,← hll] at this; exact this
 have hdd7:w7.heap[dd]? = some (.deferred (some [])):=by
  rw [hw7]
  have h1:=(dT w6 (.deferred (some []))).get
  rw [← hdd] at h1
  exact ((cG (w6.alloc (.deferred (some []))) (rec .ready none)).block dd (aQ h1) fun h=>h).trans h1
 have hob6:Blk w6 ob [.slice none 0 0] 26:=hob5.no hm6
 have hob7:Blk w7 ob [Slc.val ⟨none,0,0⟩] 26:=hob6.no hm67
 have hobl:=hob6.lt
 have hm47:Mod NoB w4 w7:=(hN5.mod.tr hm6).tr hm67
 have hs4:=hm04.size
 have hC:=qVH (rec:=rec) (ll:=ll) (dd:=dd) (ob:=ob) (B:=w.heap.size) hll (by omega) (by omega) hy
 refine aC (qBJ (ll:=ll) (c:=c) (S0:=fun z=>z=ll∨z=ob) (wp:=w4) hC hR4 hG hn (by omega) hm47 (hc6.no hm67) ?_ ?_) ?_
 ·exact ⟨hready,hdd7,⟨none,0,0⟩,hob7,fun z=>⟨fun h=>h.elim .inl fun h=>.inr (.inl h),fun h=>by rcases h with h | h | h; exact .inl h; exact .inr h; simp at h⟩,[],bU _ 2,fun z hz=>by simp at hz,rfl,fun i h=>absurd h (by simp)⟩
 ·rintro z (h | h)
  ·subst h; exact ⟨by omega,by omega⟩
  ·subst h; exact ⟨by omega,by omega⟩
 rintro v w8 ⟨rfl,S,L,⟨i1,i2,o,i3,i4,i5⟩,hL,hm8⟩
 obtain ⟨p1,p2,p3⟩:=jI (o':=rec .exhausted none) i1
 have hd8:(w8.putObj ll (rec .exhausted none)).heap[dd]? = some (.deferred (some [])):=(p2.block _ (aQ i2) (by show ¬ dd=ll; omega)).trans i2
 obtain ⟨q1,q2,q3⟩:=jI (o':=.deferred none) hd8
 refine .inl ⟨i1,o,(i3.mod p2 (by omega)).rd1 rfl,hd8,o,L,rfl,hL,?_,?_⟩
 ·exact ((i5.mod p2 fun z hz _=>⟨fun e=>hz.2.1 e,hz⟩:bZ (fun z=>w.heap.size≤z∧z≠ll∧z≠dd∧z≠ob) _ o L).mod q2 fun z hz _=>⟨fun e=>hz.2.2.1 e,hz.1⟩)
 ·exact ((hm04.tr hm8).fresh p2 fun z e=>by have e:z=ll:=e; omega).fresh q2 fun z e=>by have e:z=dd:=e; omega
end
theorem nC {ls:List Rc} {L:Lv} (h:fD ls L):L.length≤ls.length∧∀ e∈L,e.2.length≤ls.length:=by
 refine ⟨?_,fun e he=>?_⟩
 ·have:=kK (lt:=fun a b:List UInt8=>a<b) (fun x=>List.lt_irrefl x) (c:=L.map fun e=>e.1) (l:=ls.map fun r:Rc=>r.key) (List.pairwise_map.2 h.pw) fun k hk=>by
   obtain ⟨e,he,rfl⟩:=List.mem_map.1 hk
   obtain ⟨h2,h3⟩:=(h.mem e.1 e.2).1 he
   obtain ⟨r,hr⟩:=List.exists_mem_of_ne_nil _ h2
   have h5:=List.mem_filter.1 (gL h3 r hr)
   simp at h5
   exact List.mem_map.2 ⟨r,h5.1,h5.2.2⟩
  simpa using this
 ·obtain ⟨h2,cc,hcc,h4⟩:=(h.mem e.1 e.2).1 he
  rw [h4]
  exact Nat.le_trans (List.length_filter_le _ _) (kK fI hcc.pw fun r hr=>(List.mem_filter.1 ((hcc.mem r).1 hr).1).1)
def qCW (B0:Nat) (w:World) (s:Slc) (rs:List Rc):Prop:=
 ∃ (B:Nat) (hs:List Hd),Sh.Own w s 7 (hcells hs)∧(∀ z,s.blk=some z→B≤z)∧B0≤B∧hs.length=rs.length∧∀ i (h:i<hs.length) (h':i<rs.length),cN w hs[i] rs[i]∧∀ z,hs[i].on z→B0≤z∧z<B
theorem qCW.q {B0:Nat} {w:World} {s:Slc} {rs:List Rc} (h:qCW B0 w s rs):eG (fun z=>B0≤z) w s rs:=by
 obtain ⟨B,hs,h1,h2,h3,h4,h5⟩:=h
 exact ⟨hs,h1,fun z hz=>Nat.le_trans h3 (h2 z hz),h4,fun i a b=>⟨(h5 i a b).1,fun z hz=>((h5 i a b).2 z hz).1⟩⟩
section
variable {w:World}
theorem xD {recs:Slc} {ls:List Rc} (hl:bP w.heap.size w recs ls) (hn:ls.length≤1000) :
 Calls prog 11 #[.slice recs.a recs.len recs.cap] w (Ret fun v w'=>∃ o L,v=o.val∧fD ls L∧qCW w.heap.size w' o (L.flatMap (·.2))∧Mod NoB w w'):=by
 refine qSA _ ?_
 unfold qVP
 obtain ⟨il,hl1,hl2,hl3,hl4⟩:=nI
 obtain ⟨ir,hr1,hr2,hr3,hr4⟩:=lM
 refine aC (kE hl hn) ?_
 rintro v w1 ⟨x,L,rfl,hL,hQ,hm1⟩
 refine ⟨x,rfl,?_⟩
 obtain ⟨n1,n2⟩:=nC hL
 obtain ⟨es,hx1,hxb,hel,hes⟩:=hQ
 have hxl:=bI bA (by omega) hx1.rd
 refine ⟨fun l' w'=>match l' with | [.sl out,.i _ y]=>∃ (k:Nat) (hs:List Hd),y=(k:Int)∧k≤L.length∧Sh.Own w' out 7 (hcells hs)∧(∀ z,out.blk=some z→w1.heap.size≤z)∧hs.length=((L.take k).flatMap (·.2)).length∧hs.length≤k*1000∧(∀ i (h:i<hs.length) (h':i<((L.take k).flatMap (·.2)).length),cN w1 hs[i] ((L.take k).flatMap (·.2))[i]∧∀ z,hs[i].on z→w.heap.size≤z)∧Mod NoB w1 w' | _=>False,fun l' _=>match l' with | [.sl _,.i _ y]=>(L.length - y).toNat | _=>0,⟨0,[],rfl,by omega,bU _ 7,fun z hz=>by simp at hz,rfl,by simp,fun i h=>absurd h (by simp),Mod.refl _ _⟩,?_⟩
 rintro out y w2 ⟨k,hs,rfl,hk,ho2,hz2,hsl,hsn,hI2,hm2⟩
 refine aE (fun hlt=>?_) fun hge=>?_
 ·have hlt:k<L.length:=by have:=of_decide_eq_true hlt; omega
  have hke:k<es.length:=by omega
  obtain ⟨A,ea,hrd⟩:=bQ bA (by omega) (hx1.no hm2).rd hke
  refine ⟨⟨by omega,by omega⟩,?_⟩
  rw [ea]
  refine ⟨es[k].1,es[k].2,hrd,?_⟩
  refine aM (l:=[.string ⟨#[]⟩,.slice none 0 0]) hl1 hl2 rfl fun q w3 hN3 hb3=>⟨_,rfl,?_⟩
  show aJ _ _ _ _
  refine bO (vs:=[eY es[k].1,es[k].2.val]) (by kernel_rfl) (by kernel_rfl) rfl hb3 (by simp) (by intro u hu; simp at hu; rcases hu with rfl | rfl <;> rfl) fun w4 ht4 hb4=>?_
  have hb4:Blk w4 q [eY es[k].1,es[k].2.val] 64:=hb4
  have hq:=hN3.at_
  have hm24:Mod NoB w2 w4:=hN3.mod.fresh ht4.mod fun z e=>by have e:z=q:=e; omega
  refine ⟨es[k].2,by rw [aL]; exact hb4.rd1 rfl,?_⟩
  obtain ⟨g1,hk',s1,s2,s3,s4⟩:=hes k hke hlt
  have hkl:=bI Hd.len (by omega) s1.rd
  have hol:=bI Hd.len (by omega) ho2.rd
  have hn2:=n2 L[k] (List.getElem_mem _)
  have etk:(L.take (k+1)).flatMap (·.2)=(L.take k).flatMap (·.2)++L[k].2:=by rw [aT hlt,List.flatMap_append]; simp
  refine bC jX hr1 hr2 hr3 rfl hr4 (ho2.no hm24) ((s1.no (hm2.tr hm24)).rd) (d9 Hd.one _) (by omega) (by omega) fun x' w5 ho5 hlen hblk hm5=>⟨x',rfl,?_⟩
  rw [wrap_i64 (e:=(k:Int)+1) (by omega)]
  have hm25:Mod (fun z=>out.blk=some z) w2 w5:=hm24.no hm5
  have hs4:=(hm2.tr hm24).size
  refine ⟨⟨k+1,hs++hk',by omega,by omega,by rw [hcells,cS]; exact ho5,fun z hz=>?_,by rw [etk,List.length_append,List.length_append,hsl,s3],by rw [List.length_append]; omega,fun i a d=>?_,hm2.fresh hm25 fun z hz=>hz2 z hz⟩,by (try simp only []); omega⟩
  ·rcases hblk with e | e
   ·exact hz2 z (by rw [← e]; exact hz)
   ·rw [e] at hz; cases hz; exact hs4
  ·rcases Nat.lt_or_ge i hs.length with hi | hi
   ·have e1:(hs++hk')[i]=hs[i]:=List.getElem_append_left hi
    have e2:((L.take (k+1)).flatMap (·.2))[i]=((L.take k).flatMap (·.2))[i]'(by omega):=by
     simp only [etk]; exact List.getElem_append_left (by omega)
    rw [e1,e2]; exact hI2 i hi (by omega)
   ·have e1:(hs++hk')[i]=hk'[i - hs.length]'(by rw [List.length_append] at a; omega):=List.getElem_append_right hi
    have e2:((L.take (k+1)).flatMap (·.2))[i]=L[k].2[i - hs.length]'(by rw [List.length_append] at a; omega):=by
     simp only [etk]
     rw [List.getElem_append_right (by omega)]
     simp only [hsl]
    rw [e1,e2]
    obtain ⟨b1,b2⟩:=s4 (i - hs.length) (by rw [List.length_append] at a; omega) (by rw [List.length_append] at a; omega)
    exact ⟨b1,fun z hz=>(b2 z hz).1⟩
 ·have hkk:k=L.length:=by have:=of_decide_eq_false hge; omega
  subst hkk
  rw [List.take_length] at hsl
  refine ⟨out,L,rfl,hL,⟨w1.heap.size,hs,ho2,hz2,hm1.size,hsl,fun i a d=>?_⟩,hm1.tr hm2⟩
  obtain ⟨b1,b2⟩:=hI2 i a (by rw [List.take_length]; exact d)
  simp only [List.take_length] at b1
  exact ⟨b1.no hm2,fun z hz=>⟨b2 z hz,b1.lt z hz⟩⟩
end
end Go.Proofs.YthaefcgpbccmbaaGreatDoor
end
section
namespace Go.Proofs.YthaefcgpbccmbaaGreatDoor
open Go Go.Sh
open Go.Proofs.Tryz
def qUJ (a b:Slc) (w:World) (R:RW):Prop:=
 aG ((a.len:Int) != (b.len:Int)) (R (.returned (.bool false)) w) (∃ (inv:List TV→World→Prop) (mu:List TV→World→Nat),inv [.i .i64 (0:Int)] w∧(∀ i:Int,∀ w1:World,inv [.i .i64 i] w1→aG (decide (i<(a.len:Int))) (∃ sx:World→Prop,sx w1.drew∧((0≤i∧i<(a.len:Nat))∧aA a.a fun a1=>((0≤i∧i<(b.len:Nat))∧aA b.a fun a2=>∃ xa:List UInt8,∃ xb:Slc,(∀ w',sx w'→Rd w' (a1.add (i.toNat*2)) [.string ⟨xa.toArray⟩,zS xb])∧∃ xa1:List UInt8,∃ xb1:Slc,(∀ w',sx w'→Rd w' (a2.add (i.toNat*2)) [.string ⟨xa1.toArray⟩,zS xb1])∧((aD prog 32 [.agg #[.string ⟨xa.toArray⟩,zS xb],.agg #[.string ⟨xa1.toArray⟩,zS xb1]] w1.drew (aH R) fun v w2=>∃ x:Bool,v=(.bool x)∧aG (!x) (R (.returned (.bool false)) w2) ((inv [.i .i64 (IntKind.i64.wrap (i+(1:Int)))] w2∧mu [.i .i64 (IntKind.i64.wrap (i+(1:Int)))] w2<mu [.i .i64 i] w1)))∧True)))) (R (.returned (.bool true)) w1)))
theorem qR6 (a b:Slc) {w:World} {R:RW} (hden:qUJ a b w R):Calls prog 12 #[zS a,zS b] w R:=
 aB (q0 .z (q0 (q0 .z (.cond (q0 .z .z) .z)) (q0 (q0 .z (.block none (.loop [(5,(.i .i64))] (q0 (q0 .z (.cond .z .z)) (q0 (.block none (q0 (.draw 1 (.take 0 (.take 1 (.take 2 (.take 4 (.take 5 (.take 6 (.take 3 (.take 7 (.all [(8,(.take 9 .done))])))))))))) (.cond (q0 .z .z) .z))) .z))))) (q0 .z .z)))) func12 (by kernel_rfl) [.sl a,.sl b] (by kernel_rfl) (by kernel_rfl) hden
def qV4 (a b:Slc) (w:World) (R:RW):Prop:=
 aG ((a.len:Int) != (b.len:Int)) (R (.returned (.bool false)) w) (∃ (inv:List TV→World→Prop) (mu:List TV→World→Nat),inv [.i .i64 (0:Int)] w∧(∀ i:Int,∀ w1:World,inv [.i .i64 i] w1→aG (decide (i<(a.len:Int))) (∃ sx:World→Prop,sx w1.drew∧((0≤i∧i<(a.len:Nat))∧aA a.a fun a1=>((0≤i∧i<(b.len:Nat))∧aA b.a fun a2=>∃ xa:List UInt8,∃ xb xc:Int,∃ xd:Slc,∃ xe:Bool,∃ xf xg:Slc,(∀ w',sx w'→Rd w' (a1.add (i.toNat*7)) (yR xa xb xc xd xe xf xg))∧∃ xa1:List UInt8,∃ xb1 xc1:Int,∃ xd1:Slc,∃ xe1:Bool,∃ xf1 xg1:Slc,(∀ w',sx w'→Rd w' (a2.add (i.toNat*7)) (yR xa1 xb1 xc1 xd1 xe1 xf1 xg1))∧((aD prog 22 [zR xa xb xc xd xe xf xg,zR xa1 xb1 xc1 xd1 xe1 xf1 xg1] w1.drew (aH R) fun v w2=>∃ x:Bool,v=(.bool x)∧aG (!x) (R (.returned (.bool false)) w2) ((inv [.i .i64 (IntKind.i64.wrap (i+(1:Int)))] w2∧mu [.i .i64 (IntKind.i64.wrap (i+(1:Int)))] w2<mu [.i .i64 i] w1)))∧True)))) (R (.returned (.bool true)) w1)))
theorem qSL (a b:Slc) {w:World} {R:RW} (hden:qV4 a b w R):Calls prog 14 #[zS a,zS b] w R:=
 aB (q0 .z (q0 (q0 .z (.cond (q0 .z .z) .z)) (q0 (q0 .z (.block none (.loop [(5,(.i .i64))] (q0 (q0 .z (.cond .z .z)) (q0 (.block none (q0 (.draw 1 (.take 0 (.take 1 (.take 2 (.take 4 (.take 5 (.take 6 (.take 3 (.take 7 (.all [(8,(.take 9 .done))])))))))))) (.cond (q0 .z .z) .z))) .z))))) (q0 .z .z)))) func14 (by kernel_rfl) [.sl a,.sl b] (by kernel_rfl) (by kernel_rfl) hden
def qU5 (aa:List UInt8) (ab ac:Int) (ad:Slc) (ae:Bool) (af ag:Slc) (ba:List UInt8) (bb bc:Int) (bd:Slc) (be:Bool) (bf bg:Slc) (w:World) (R:RW):Prop:=
 aF prog (Instr.box 40 (zR aa ab ac ad ae af ag)) w fun v w1=>∃ a:Option Addr,v=(.pointer a)∧aF prog (Instr.box 40 (zR ba bb bc bd be bf bg)) w1 fun v1 w2=>∃ b:Option Addr,v1=(.pointer b)∧aA a fun a1=>∃ x:List UInt8,Rd w2 (a1.add 0) [.string ⟨x.toArray⟩]∧aA b fun a2=>∃ x1:List UInt8,Rd w2 (a2.add 0) [.string ⟨x1.toArray⟩]∧aG (x==x1) (aA a fun a3=>∃ x2:Int,Rd w2 (a3.add 1) [.int .i64 x2]∧aA b fun a4=>∃ x3:Int,Rd w2 (a4.add 1) [.int .i64 x3]∧aG (x2==x3) (aA a fun a5=>∃ x4:Int,Rd w2 (a5.add 2) [.int .i64 x4]∧aA b fun a6=>∃ x5:Int,Rd w2 (a6.add 2) [.int .i64 x5]∧aG (x4==x5) (aA a fun a7=>∃ x6:Slc,Rd w2 (a7.add 3) [zS x6]∧aA b fun a8=>∃ x7:Slc,Rd w2 (a8.add 3) [zS x7]∧aD prog 42 [zS x6,zS x7] w2 (aH R) fun v2 w3=>∃ x8:Bool,v2=(.bool x8)∧aG x8 (aA a fun a9=>∃ x9:Bool,Rd w3 (a9.add 4) [.bool x9]∧aA b fun a10=>∃ x10:Bool,Rd w3 (a10.add 4) [.bool x10]∧aZ prog (do eqGuard .eql 4 (.tmp 33) (.tmp 35) (.bool x9) (.bool x10); binOp .eql 4 (.bool x9) (.bool x10)) fun v3=>∃ x11:Bool,v3=(.bool x11)∧aG x11 (aA a fun a11=>∃ x12:Slc,Rd w3 (a11.add 5) [zS x12]∧aA b fun a12=>∃ x13:Slc,Rd w3 (a12.add 5) [zS x13]∧aD prog 43 [zS x12,zS x13] w3 (aH R) fun v4 w4=>∃ x14:Bool,v4=(.bool x14)∧aG x14 (aA a fun a13=>∃ x15:Slc,Rd w4 (a13.add 6) [zS x15]∧aA b fun a14=>∃ x16:Slc,Rd w4 (a14.add 6) [zS x16]∧aD prog 43 [zS x15,zS x16] w4 (aH R) fun v5 w5=>∃ x17:Bool,v5=(.bool x17)∧R (.returned (.bool x17)) w5) (R (.returned (.bool false)) w4)) (R (.returned (.bool false)) w3)) (R (.returned (.bool false)) w3)) (R (.returned (.bool false)) w2)) (R (.returned (.bool false)) w2)) (R (.returned (.bool false)) w2)
theorem qR5 (aa:List UInt8) (ab ac:Int) (ad:Slc) (ae:Bool) (af ag:Slc) (ba:List UInt8) (bb bc:Int) (bd:Slc) (be:Bool) (bf bg:Slc) {w:World} {R:RW} (hden:qU5 aa ab ac ad ae af ag ba bb bc bd be bf bg w R):Calls prog 22 #[zR aa ab ac ad ae af ag,zR ba bb bc bd be bf bg] w R:=
 aB (q0 .z (q0 .z .z)) func22 (by kernel_rfl) [.agg [.s aa,.i .i64 ab,.i .i64 ac,.sl ad,.b ae,.sl af,.sl ag],.agg [.s ba,.i .i64 bb,.i .i64 bc,.sl bd,.b be,.sl bf,.sl bg]] (by kernel_rfl) (by kernel_rfl) hden
def qT4 (aa:List UInt8) (ab:Slc) (ba:List UInt8) (bb:Slc) (w:World) (R:RW):Prop:=
 aF prog (Instr.box 64 (.agg #[.string ⟨aa.toArray⟩,zS ab])) w fun v w1=>∃ a:Option Addr,v=(.pointer a)∧aF prog (Instr.box 64 (.agg #[.string ⟨ba.toArray⟩,zS bb])) w1 fun v1 w2=>∃ b:Option Addr,v1=(.pointer b)∧aA a fun a1=>∃ x:List UInt8,Rd w2 (a1.add 0) [.string ⟨x.toArray⟩]∧aA b fun a2=>∃ x1:List UInt8,Rd w2 (a2.add 0) [.string ⟨x1.toArray⟩]∧aG (x==x1) (aA a fun a3=>∃ x2:Slc,Rd w2 (a3.add 1) [zS x2]∧aA b fun a4=>∃ x3:Slc,Rd w2 (a4.add 1) [zS x3]∧aD prog 14 [zS x2,zS x3] w2 (aH R) fun v2 w3=>∃ x4:Bool,v2=(.bool x4)∧R (.returned (.bool x4)) w3) (R (.returned (.bool false)) w2)
theorem qRQ (aa:List UInt8) (ab:Slc) (ba:List UInt8) (bb:Slc) {w:World} {R:RW} (hden:qT4 aa ab ba bb w R):Calls prog 32 #[.agg #[.string ⟨aa.toArray⟩,zS ab],.agg #[.string ⟨ba.toArray⟩,zS bb]] w R:=
 aB (q0 .z (q0 .z .z)) func32 (by kernel_rfl) [.agg [.s aa,.sl ab],.agg [.s ba,.sl bb]] (by kernel_rfl) (by kernel_rfl) hden
def qV6 (a b:Slc) (w:World) (R:RW):Prop:=
 aG ((a.len:Int) != (b.len:Int)) (R (.returned (.bool false)) w) (∃ (inv:List TV→World→Prop) (mu:List TV→World→Nat),inv [.i .i64 (0:Int)] w∧(∀ i:Int,∀ w1:World,inv [.i .i64 i] w1→aG (decide (i<(a.len:Int))) (((0≤i∧i<(a.len:Nat))∧aA a.a fun a1=>((0≤i∧i<(b.len:Nat))∧aA b.a fun a2=>∃ xa xb:Int,Rd w1.drew (a1.add (i.toNat*2)) [.int .i64 xa,.int .i64 xb]∧∃ xa1 xb1:Int,Rd w1.drew (a2.add (i.toNat*2)) [.int .i64 xa1,.int .i64 xb1]∧aZ prog (do eqGuard .neq 52 (.tmp 20) (.tmp 24) (.agg #[.int .i64 xa,.int .i64 xb]) (.agg #[.int .i64 xa1,.int .i64 xb1]); binOp .neq 52 (.agg #[.int .i64 xa,.int .i64 xb]) (.agg #[.int .i64 xa1,.int .i64 xb1])) fun v=>∃ x:Bool,v=(.bool x)∧aG x (R (.returned (.bool false)) w1.drew) ((inv [.i .i64 (IntKind.i64.wrap (i+(1:Int)))] w1.drew∧mu [.i .i64 (IntKind.i64.wrap (i+(1:Int)))] w1.drew<mu [.i .i64 i] w1))))) (R (.returned (.bool true)) w1)))
theorem qS7 (a b:Slc) {w:World} {R:RW} (hden:qV6 a b w R):Calls prog 42 #[zS a,zS b] w R:=
 aB (q0 .z (q0 (q0 .z (.cond (q0 .z .z) .z)) (q0 (q0 .z (.block none (.loop [(5,(.i .i64))] (q0 (q0 .z (.cond .z .z)) (q0 (.block none (q0 (.draw 2 (.take 0 (.take 1 (.take 2 (.take 4 (.take 5 (.take 6 (.take 3 (.take 7 (.take 8 .done)))))))))) (.cond (q0 .z .z) .z))) .z))))) (q0 .z .z)))) func42 (by kernel_rfl) [.sl a,.sl b] (by kernel_rfl) (by kernel_rfl) hden
end Go.Proofs.YthaefcgpbccmbaaGreatDoor
end
