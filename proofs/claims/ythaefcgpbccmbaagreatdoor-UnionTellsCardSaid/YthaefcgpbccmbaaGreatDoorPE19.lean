/- The forms of the translated functions,their contracts and the plain laws behind them,put together by a program. -/
import Derived.Test.YthaefcgpbccmbaaGreatDoorPE18
import Derived.Shelf.SlIter.Nil
import Derived.Shelf.SortM.Plain
import Derived.Shelf.SortM.SortNone
import Derived.Ground.GgzProg
import Derived.Ground.SlgmProg
import Derived.Test.YthaefcgpbccmbaaGreatDoorProg
set_option linter.unusedSimpArgs false
set_option linter.unusedVariables false
set_option maxRecDepth 100000
set_option maxHeartbeats 4000000
section
namespace Go.Proofs
open Go.Shelf
def Tryz.keys62_ren:Go.Shelf.Ren:=⟨λ| 7=>62 | 10=>118 | n=>n,λ| 23=>56 | 26=>9 | 3=>33 | 28=>123 | 0=>0 | 27=>122 | 33=>172 | 4=>4 | n=>n,λ| n=>n⟩
theorem Tryz.keys62:Go.Proofs.SlLaysZ.n7 Tryz.prog Tryz.keys62_ren:={
 mixed:=by kernel_rfl
 f7:=⟨Tryz.f62.name,by decide,Tryz.func62.trans (congrArg some (by kernel_rfl))⟩
 f10:=⟨Tryz.f118.name,by decide,Tryz.func118.trans (congrArg some (by kernel_rfl))⟩
 t0:=Tryz.underlying0
 a0:=Tryz.isAgg0
 z0:=Tryz.sizeOf0
 v0:=Tryz.zeroValue0
 t4:=Tryz.underlying4
 a4:=Tryz.isAgg4
 z4:=Tryz.sizeOf4
 v4:=Tryz.zeroValue4
 t23:=Tryz.underlying56
 a23:=Tryz.isAgg56
 z23:=Tryz.sizeOf56
 v23:=Tryz.zeroValue56
 t26:=Tryz.underlying9
 a26:=Tryz.isAgg9
 z26:=Tryz.sizeOf9
 v26:=Tryz.zeroValue9
 t27:=Tryz.underlying122
 a27:=Tryz.isAgg122
 z27:=Tryz.sizeOf122
 v27:=Tryz.zeroValue122
 t28:=Tryz.underlying123
 a28:=Tryz.isAgg123
 z28:=Tryz.sizeOf123
 v28:=Tryz.zeroValue123
 t33:=Tryz.underlying172
 a33:=Tryz.isAgg172
 z33:=Tryz.sizeOf172
 v33:=Tryz.zeroValue172}
def Tryz.sorted61_ren:Go.Shelf.Ren:=⟨λ| 6=>61 | 8=>116 | 9=>117 | 11=>197 | 13=>108 | 12=>198 | 23=>180 | 24=>181 | 14=>259 | 15=>260 | 16=>261 | 17=>262 | 18=>263 | 19=>264 | 20=>265 | 21=>266 | 22=>267 | 25=>321 | 26=>237 | 27=>238 | 28=>322 | 29=>323 | 30=>324 | 31=>361 | n=>n,λ| 26=>9 | 28=>123 | 24=>66 | 0=>0 | 3=>3 | 37=>166 | 48=>186 | 50=>188 | 4=>4 | 40=>274 | 39=>273 | 45=>264 | 5=>5 | 9=>9 | 51=>342 | 55=>346 | 57=>392 | 58=>393 | 33=>172 | n=>n,λ| n=>n⟩
theorem Tryz.sorted61:Go.Proofs.SlLaysZ.n6 Tryz.prog Tryz.sorted61_ren:={
 mixed:=by kernel_rfl
 f6:=⟨Tryz.f61.name,by decide,Tryz.func61.trans (congrArg some (by kernel_rfl))⟩
 f8:=⟨Tryz.f116.name,by decide,Tryz.func116.trans (congrArg some (by kernel_rfl))⟩
 f11:=⟨Tryz.f197.name,by decide,Tryz.func197.trans (congrArg some (by kernel_rfl))⟩
 t0:=Tryz.underlying0
 a0:=Tryz.isAgg0
 z0:=Tryz.sizeOf0
 v0:=Tryz.zeroValue0
 t24:=Tryz.underlying66
 a24:=Tryz.isAgg66
 z24:=Tryz.sizeOf66
 v24:=Tryz.zeroValue66
 t26:=Tryz.underlying9
 a26:=Tryz.isAgg9
 z26:=Tryz.sizeOf9
 v26:=Tryz.zeroValue9
 t28:=Tryz.underlying123
 a28:=Tryz.isAgg123
 z28:=Tryz.sizeOf123
 v28:=Tryz.zeroValue123
 i26:=by kernel_rfl}
def Tryz.sort117_ren:Go.Shelf.Ren:=⟨λ| 6=>117 | 8=>108 | 9=>198 | 19=>180 | 20=>181 | 21=>259 | 22=>260 | 23=>261 | 24=>262 | 25=>263 | 26=>264 | 27=>265 | 28=>266 | 29=>267 | 36=>321 | 31=>237 | 32=>238 | 37=>322 | 38=>323 | 39=>324 | 41=>361 | n=>n,λ| 27=>66 | 29=>9 | 3=>3 | 32=>166 | 26=>66 | 0=>0 | 44=>186 | 46=>188 | 4=>4 | 36=>274 | 35=>273 | 41=>264 | 5=>5 | 9=>9 | 53=>342 | 57=>346 | 63=>392 | 64=>393 | n=>n,λ| n=>n⟩
theorem Tryz.sort117:Go.Proofs.SlLaysM.n6 Tryz.prog Tryz.sort117_ren:={
 mixed:=by kernel_rfl
 f6:=⟨Tryz.f117.name,by decide,Tryz.func117.trans (congrArg some (by kernel_rfl))⟩
 f8:=Tryz.func108.trans (congrArg some (by kernel_rfl))
 f9:=⟨Tryz.f198.name,by decide,Tryz.func198.trans (congrArg some (by kernel_rfl))⟩
 f19:=Tryz.func180.trans (congrArg some (by kernel_rfl))
 f20:=Tryz.func181.trans (congrArg some (by kernel_rfl))
 f21:=⟨Tryz.f259.name,by decide,Tryz.func259.trans (congrArg some (by kernel_rfl))⟩
 f22:=⟨Tryz.f260.name,by decide,Tryz.func260.trans (congrArg some (by kernel_rfl))⟩
 f23:=⟨Tryz.f261.name,by decide,Tryz.func261.trans (congrArg some (by kernel_rfl))⟩
 f24:=⟨Tryz.f262.name,by decide,Tryz.func262.trans (congrArg some (by kernel_rfl))⟩
 f25:=⟨Tryz.f263.name,by decide,Tryz.func263.trans (congrArg some (by kernel_rfl))⟩
 f26:=⟨Tryz.f264.name,by decide,Tryz.func264.trans (congrArg some (by kernel_rfl))⟩
 f27:=⟨Tryz.f265.name,by decide,Tryz.func265.trans (congrArg some (by kernel_rfl))⟩
 f28:=⟨Tryz.f266.name,by decide,Tryz.func266.trans (congrArg some (by kernel_rfl))⟩
 f29:=⟨Tryz.f267.name,by decide,Tryz.func267.trans (congrArg some (by kernel_rfl))⟩
 f31:=Tryz.func237.trans (congrArg some (by kernel_rfl))
 f32:=Tryz.func238.trans (congrArg some (by kernel_rfl))
 f36:=⟨Tryz.f321.name,by decide,Tryz.func321.trans (congrArg some (by kernel_rfl))⟩
 f37:=⟨Tryz.f322.name,by decide,Tryz.func322.trans (congrArg some (by kernel_rfl))⟩
 f38:=⟨Tryz.f323.name,by decide,Tryz.func323.trans (congrArg some (by kernel_rfl))⟩
 f39:=⟨Tryz.f324.name,by decide,Tryz.func324.trans (congrArg some (by kernel_rfl))⟩
 f41:=⟨Tryz.f361.name,by decide,Tryz.func361.trans (congrArg some (by kernel_rfl))⟩
 t0:=Tryz.underlying0
 a0:=Tryz.isAgg0
 z0:=Tryz.sizeOf0
 v0:=Tryz.zeroValue0
 t3:=Tryz.underlying3
 a3:=Tryz.isAgg3
 z3:=Tryz.sizeOf3
 v3:=Tryz.zeroValue3
 t4:=Tryz.underlying4
 a4:=Tryz.isAgg4
 z4:=Tryz.sizeOf4
 v4:=Tryz.zeroValue4
 t5:=Tryz.underlying5
 a5:=Tryz.isAgg5
 z5:=Tryz.sizeOf5
 v5:=Tryz.zeroValue5
 t9:=Tryz.underlying9
 a9:=Tryz.isAgg9
 z9:=Tryz.sizeOf9
 v9:=Tryz.zeroValue9
 t26:=Tryz.underlying66
 a26:=Tryz.isAgg66
 z26:=Tryz.sizeOf66
 v26:=Tryz.zeroValue66
 t27:=Tryz.underlying66
 a27:=Tryz.isAgg66
 z27:=Tryz.sizeOf66
 v27:=Tryz.zeroValue66
 t29:=Tryz.underlying9
 a29:=Tryz.isAgg9
 z29:=Tryz.sizeOf9
 v29:=Tryz.zeroValue9
 t32:=Tryz.underlying166
 a32:=Tryz.isAgg166
 z32:=Tryz.sizeOf166
 v32:=Tryz.zeroValue166
 t35:=Tryz.underlying273
 a35:=Tryz.isAgg273
 z35:=Tryz.sizeOf273
 v35:=Tryz.zeroValue273
 t36:=Tryz.underlying274
 a36:=Tryz.isAgg274
 z36:=Tryz.sizeOf274
 v36:=Tryz.zeroValue274
 t41:=Tryz.underlying264
 a41:=Tryz.isAgg264
 z41:=Tryz.sizeOf264
 v41:=Tryz.zeroValue264
 t44:=Tryz.underlying186
 a44:=Tryz.isAgg186
 z44:=Tryz.sizeOf186
 v44:=Tryz.zeroValue186
 t46:=Tryz.underlying188
 a46:=Tryz.isAgg188
 z46:=Tryz.sizeOf188
 v46:=Tryz.zeroValue188
 t53:=Tryz.underlying342
 a53:=Tryz.isAgg342
 z53:=Tryz.sizeOf342
 v53:=Tryz.zeroValue342
 t57:=Tryz.underlying346
 a57:=Tryz.isAgg346
 z57:=Tryz.sizeOf346
 v57:=Tryz.zeroValue346
 t63:=Tryz.underlying392
 a63:=Tryz.isAgg392
 z63:=Tryz.sizeOf392
 v63:=Tryz.zeroValue392
 t64:=Tryz.underlying393
 a64:=Tryz.isAgg393
 z64:=Tryz.sizeOf393
 v64:=Tryz.zeroValue393}
end Go.Proofs
end
section
namespace Go.Proofs.YthaefcgpbccmbaaGreatDoor
section
open Go.RowKit Go.Maps Go.Sort Go.Shelf
theorem qRQ (m:Nat):AnyZ.SortsIn Tryz.prog Tryz.sorted61_ren Fence.wide m:=
 ⟨λblk off cap ss W hH hblk hsz=>callsIn_wide.2 (AnyM.slices_Sort_string Tryz.sort117 blk off cap ss W hH hblk hsz),
  λp cap W=>callsIn_wide.2 (AnyM.slices_Sort_string_none Tryz.sort117 p cap W)⟩
theorem wK (mb:Option Nat) (W:World):CallsIn Fence.wide 5 Tryz.prog 62 #[.map mb] W λe w'=>e = .returned (.func (.func 118) #[] #[.pointer (some ⟨W.heap.size,0,none⟩)])/\w'=W.alloc (.cells #[.map mb] 56):=
 AnyZ.keys_in Tryz.keys62 Fence.wide 5 trivial rfl mb W
set_option maxHeartbeats 1000000 in
theorem rX {H:Type} (b nn:Nat) (D0:DataW H) (R:Value->Option (DataW H×List MemPlace)) (w:World) (hown:w.ownsMap Tryz.prog 9 R b nn D0) (hmax:Maps.size D0<=maxLen) (hbytes:Maps.size D0*16<=140737488355328) :
 CallsIn Fence.wide 5 Tryz.prog 61 #[.func (.func 118) #[] #[.pointer (some ⟨w.heap.size,0,none⟩)]] (w.alloc (.cells #[.map (some b)] 56)) λe w'=>∃ (v:Value) (ss:List (List UInt8)),e = .returned v/\ss.Perm (strKeys D0)/\
  w'.ownsRow (w.alloc (.cells #[.map (some b)] 56)).heap.size 9 1 v ss.length ((ss.mergeSort (λx y=>decide (x<=y))).map encStr)/\(v = .slice none 0 0↔ss=[])/\Below (w.alloc (.cells #[.map (some b)] 56)).heap.size (w.alloc (.cells #[.map (some b)] 56)) w':=by
 have hbl:=hown.lt
 have h9:SeqGives Fence.wide 2 Tryz.prog 118 #[.pointer (some ⟨w.heap.size,0,none⟩)] encStr (λss=>ss.Perm (strKeys D0)) (Maps.size D0) (w.alloc (.cells #[.map (some b)] 56)):=
  AnyZ.keys_gives (ρ:=Tryz.keys62_ren) {Tryz.keys62 with} Fence.wide _ trivial rfl (by omega) w.heap.size b nn D0 _ (by simp) (by simp) (by
   obtain ⟨es,clock,hb,Ft,hs,hD⟩:=hown
   exact ⟨es,clock,(Below.heap_alloc _ _ b hbl).trans hb,Ft,hs,hD⟩)
 exact AnyZ.sorted_in Tryz.sorted61 Fence.wide 5 trivial trivial trivial trivial rfl (by omega) (qRQ _) (enters_of Tryz.func117 (by kernel_rfl) rfl) 118 #[.pointer (some ⟨w.heap.size,0,none⟩)] trivial (enters_of Tryz.func118 (by kernel_rfl) rfl) _ _ hmax hbytes _ h9
end
end Go.Proofs.YthaefcgpbccmbaaGreatDoor
end
section
namespace Go.Proofs.YthaefcgpbccmbaaGreatDoor
open Go Go.Sh Go.MapKept
open Go.Proofs.Tryz
open Go.Sort Go.Maps
open Go.WideElems (Fit rg)
def eT (k:zY):Value:=.string ⟨k.toArray⟩
theorem qGK {w w':World} (h:Go.RowKit.Below w.heap.size w w'):Mod NoB w w':=⟨h.os,h.tape,h.output,h.size,λb hb _=>h.block b hb⟩
theorem qND {ls:List Rc} {ms:List En} (hG:Grp ls ms) : ∀ m∈ms,m.k.length<=64:=λm a=>by
 have h1:=hG.eq m a
 have h2:=hG.ne m a
 obtain ⟨p,hp⟩:=List.exists_mem_of_ne_nil _ h2
 have h3:p.2∈bF ls m.k:=by rw [<-h1]; exact List.mem_map_of_mem hp
 have h4:=(List.mem_filter.1 h3).2
 simp only [Rc.right,Rc.shaped,Bool.and_eq_true,decide_eq_true_eq] at h4
 rw [<-h4.2]; exact h4.1.1.1.1.1.1.1.2
section
variable {w:World}
theorem qFV {mb:Nat} : Calls prog 62 #[.map (some mb)] w (Ret λv w'=>v = .func (.func 118) #[] #[.pointer (some ⟨w.heap.size,0,none⟩)]/\w'=w.alloc (.cells #[.map (some mb)] 56)):=
 (callsIn_wide.1 (wK (some mb) w)).mono λe w' ⟨h1,h2⟩=>by subst h1; exact ⟨rfl,h2⟩
theorem vZ {B0 B mb:Nat} {ls:List Rc} {ms:List En} (hR:oN B0 B w mb ms) (hG:Grp ls ms) (hn:ms.length<=1000) :
 Calls prog 61 #[.func (.func 118) #[] #[.pointer (some ⟨w.heap.size,0,none⟩)]] (w.alloc (.cells #[.map (some mb)] 56)) (Ret λv w'=>∃ (s:Slc) (ks:List (zY)),v=s.val/\aK w' s 1 (ks.map eT)/\(∀ k,k∈ks↔k∈ms.map (·.k))/\ks.Pairwise (λa b=>a<b)/\(∀ z,s.blk=some z->w.heap.size<z/\z<w'.heap.size)/\Mod NoB w w'):=by
 obtain ⟨hE,es,clock,hM,k3⟩:=hR
 let R:Value->Option (DataW Unit×List MemPlace):=λ_=>some (.lit (.bool true),[])
 have hlen:es.length=ms.length:=by have:=congrArg List.length k3; simpa using this
 have k5 : ∀ x∈es,∃ m∈ms,x.key=eT m.k/\WideElems.rd prog 9 R x=some (Lit.string m.k,DataW.lit (.bool true)):=λx hx=>by
  have h1:(x.key,x.val)∈es.map λe=>(e.key,e.val):=List.mem_map_of_mem hx
  rw [k3] at h1
  obtain ⟨m,a,e⟩:=List.mem_map.1 h1
  simp only [Prod.mk.injEq] at e
  refine ⟨m,a,e.1.symm,?_⟩
  have hk:keyOf prog 9 x.key=some (.string m.k):=by
   rw [<-e.1,WideMaps.keyOf_string_mk qL (by have:=qND hG m a; show m.k.length<=_; unfold maxLen; omega)]
  simp [WideElems.rd,hk,R]
 have hF:Fit prog 9 R es.toArray clock:=⟨by unfold maxLen; simp; omega,hM.st,λx hx=>by obtain ⟨m,_,_,h⟩:=k5 x (by simpa using hx); exact ⟨_,h⟩⟩
 have hown:w.ownsMap prog 9 R mb es.length (.map ((es.toArray.toList.map (rg prog 9 R)).foldr DataW.insert [])):=⟨es.toArray,clock,hM.get,hF,by simp,rfl⟩
 have hD:(strKeys (DataW.map ((es.toArray.toList.map (rg prog 9 R)).foldr DataW.insert []))).Perm (ms.map (·.k)):=by
  show (((es.map (rg prog 9 R)).foldr DataW.insert []).map λp=>strOf p.1).Perm _
  refine ((WideShapes.sorted_perm _).map _).trans ?_
  rw [List.map_map]
  have e:es.map ((λp:Lit×DataW Unit=>strOf p.1) ∘ rg prog 9 R)=ms.map (·.k):=by
   apply List.ext_getElem (by simp [hlen])
   intro i a b
   simp only [List.getElem_map,Function.comp]
   have hi:i<es.length:=by simpa using a
   have k6:i<ms.length:=by simpa using b
   obtain ⟨m,_,h1,h2⟩:=k5 es[i] (List.getElem_mem _)
   have h3:=congrArg (λl=>l[i]?) k3
   simp only [List.getElem?_map,List.getElem?_eq_getElem hi,List.getElem?_eq_getElem k6,Option.map_some,Option.some.injEq,Prod.mk.injEq] at h3
   have h4:m.k=ms[i].k:=mE (h1.symm.trans h3.1)
   rw [rg,h2]; exact h4
  rw [e]
 have hsz:Maps.size (DataW.map ((es.toArray.toList.map (rg prog 9 R)).foldr DataW.insert []))=es.length:=by simp [Maps.size,length_sorted]
 refine (callsIn_wide.1 (rX mb es.length _ R w hown (by rw [hsz]; unfold maxLen; omega) (by rw [hsz]; omega))).mono ?_
 rintro e w' ⟨v,ss,rfl,hp,hrow,hnil,hb⟩
 have hp2:=hp.trans hD
 have hm:Mod NoB w w':=(cS w _).tr (qGK hb)
 let ks:=ss.mergeSort (λx y=>decide (x<=y))
 have k4:ks.Perm ss:=List.mergeSort_perm _ _
 have p8:ks.Nodup:=(k4.trans hp2).nodup_iff.2 hG.nd
 have hle:ks.Pairwise (λa b=>decide (a<=b)=true):=List.pairwise_mergeSort (λa b c h1 h2=>by simp at *; exact List.le_trans h1 h2) (λa b=>by simp; exact List.le_total a b) ss
 have hlt:ks.Pairwise (λa b=>a<b):=(hle.and p8).imp λ{a b} h=>by
  rcases gD a b with ⟨_,x⟩ | ⟨_,x⟩ | ⟨_,x⟩
  ·exact x
  ·exact absurd x h.2
  ·have:=of_decide_eq_true h.1; exact absurd x this
 have hmem : ∀ k,k∈ks↔k∈ms.map (·.k):=λk=>(k4.trans hp2).mem_iff
 obtain ⟨r1,r2⟩:=hrow
 rcases r2 with ⟨rfl,h0⟩ | ⟨g,cap,cur,rfl,hg,h9,hn2,hcap,hcs,htk⟩
 ·have:ss=[]:=List.length_eq_zero_iff.1 h0
  subst this
  exact ⟨⟨none,0,0⟩,[],rfl,pL _ 1,λk=>by have:=hmem k; simpa [ks] using this,List.Pairwise.nil,λz hz=>by simp at hz,hm⟩
 ·refine ⟨⟨some ⟨g,0,none⟩,ss.length,cap⟩,ks,rfl,?_,hmem,hlt,λz hz=>?_,hm⟩
  ·have hB:Blk w' g cur.toList 9:=Blk.mk h9
   have ho:Sh.Own w' ⟨some ⟨g,0,none⟩,ss.length,cap⟩ 1 (ks.map eT):=by
    refine ⟨?_,hn2,.inr ⟨g,0,cur.toList,_,rfl,hB,by simp [hcs],?_⟩⟩
    ·rw [List.length_map,k4.length_eq]; simp
    ·rw [List.drop_zero]; exact htk
   exact ho.rd
  ·have hz:g=z:=by rw [Slc.blk_mk] at hz; simp at hz; exact hz.2
   subst hz
   refine ⟨?_,aT h9⟩
   have:(w.alloc (.cells #[.map (some mb)] 56)).heap.size=w.heap.size+1:=Array.size_push _
   omega
end
end Go.Proofs.YthaefcgpbccmbaaGreatDoor
end
section
namespace Go.Proofs.YthaefcgpbccmbaaGreatDoor
open Go Go.Sh Go.MapKept
open Go.Proofs.Tryz
abbrev Lv:=List (zY×List Rc)
structure jFY (ll:Nat) (I:(Nat->Prop)->Lv->zP):Prop where
 st : ∀ {S L w w'},I S L w->Mod NoB w w'->I S L w'
 lo : ∀ {S L w},I S L w->∀ z,S z->z<w.heap.size
 yd : ∀ {S L w wj} {key:zY} {s:Slc} {rs:List Rc} {hs:List Hd} {K:Value->zP},I S L wj->Mod NoB wj w->jV wj.heap.size w s rs hs->L.length<=1000->rs.length<=1000->
  (∀ S' w',I S' (L++[(key,rs)]) w'->Mod S w w'->(∀ z,S' z->S z\/w.heap.size<=z)->K (.bool true) w')->eZ prog ll [.agg #[eT key,.slice s.a s.len s.cap]] w K
theorem oN.no {B0 B:Nat} {w w':World} {mb:Nat} {ms:List En} (h:oN B0 B w mb ms) (hm:Mod NoB w w'):oN B0 B w' mb ms:=by
 obtain ⟨h1,es,clock,h2,h3⟩:=h
 exact ⟨h1.no hm,es,clock,h2.mod hm λh=>h,h3⟩
theorem Grp.len {ls:List Rc} {ms:List En} (h:Grp ls ms):ms.length<=ls.length:=by
 have:=nC (lt:=λa b:zY=>a≠b) (λx h=>h rfl) (c:=ms.map λm:En=>m.k) (l:=ls.map λr:Rc=>r.key) h.nd λk hk=>by
  obtain ⟨m,a,rfl⟩:=List.mem_map.1 hk
  have h1:=h.eq m a
  obtain ⟨p,hp⟩:=List.exists_mem_of_ne_nil _ (h.ne m a)
  have h3:p.2∈bF ls m.k:=by rw [<-h1]; exact List.mem_map_of_mem hp
  have h4:=List.mem_filter.1 h3
  simp at h4
  exact List.mem_map.2 ⟨p.2,h4.1,h4.2.2⟩
 simpa using this
theorem qZW.len {B:Nat} {w:World} {s:Slc} {rs:List Rc} (h:qZW B w s rs):rs.length=s.len:=by
 obtain ⟨hs,h1,_,h3,_⟩:=h
 have:=bA Hd.len (by omega) h1.rd; omega
theorem vT {w:World} {s:Slc} {l:List Value} (h:aK w s 1 l) {i:Nat} (hi:i<l.length) : ∃ a,s.a=some a/\Rd w (a.add (i*1)) [l[i]]:=by
 have hl:=h.1
 refine h.at (by omega) (by omega) λj u hu=>?_
 have:j=0:=by have:=(List.getElem?_eq_some_iff.1 hu).1; simp at this; omega
 subst this
 simp at hu; subst hu
 rw [Nat.mul_one,Nat.add_zero,List.getElem?_eq_getElem hi]
section
variable {w:World}
theorem qRN {B0 B:Nat} {ms:List En} (hE:mY B0 B w ms) {m:En} (hm:m∈ms) (hB0:B0<=w.heap.size):jX w.heap.size w m.s (m.l.map λp=>[p.2]):=by
 refine ⟨m.l.map (·.1),?_,λz hz=>(hE.own m hm).lt hz,by simp,λi a b=>?_⟩
 ·rw [List.map_map]; exact (hE.own m hm).rd
 ·have hi:i<m.l.length:=by simpa using a
  obtain ⟨h,h1,h2,h3,h4⟩:=hE.one m hm m.l[i] (List.getElem_mem _)
  simp only [List.getElem_map]
  refine ⟨[h],by simpa [hcells,aR] using h1,λz hz=>(h4 z hz).2,rfl,λj c d=>?_⟩
  have:j=0:=by simp at c; omega
  subst this
  exact ⟨h2,λz hz=>by have:=h3 z hz; omega⟩
theorem xW {l:List (Slc×Rc)} : (l.map λp=>[p.2]).flatten=l.map (·.2):=by
 induction l with
 | nil=>rfl
 | cons a l ih=>simp [ih]
theorem qFZ {ll c mb B0 B:Nat} {T:TypeId} {ms:List En} {ls:List Rc} {I:(Nat->Prop)->Lv->zP} {S0:Nat->Prop} {wp:World} (hC:jFY ll I) (hR:oN B0 B wp mb ms) (hG:Grp ls ms) (hn:ls.length<=1000) (hB0:B0<=wp.heap.size)
 (hm0:Mod NoB wp w) (hc:Blk w c [.map (some mb)] T) (hI:I S0 [] w) (hS0 : ∀ z,S0 z->wp.heap.size<=z/\z≠c) :
 Calls prog 60 #[.func (.yield ll) #[] #[],.pointer (some ⟨c,0,none⟩)] w (Ret λv w'=>v = .tuple #[]/\∃ S L,I S L w'/\dO ls L/\Mod NoB wp w'):=by
 refine qYR _ _ ?_
 unfold jEK
 have y0:=hG.len
 obtain ⟨iv,hv1,hv2,hv3,hv4⟩:=qWR
 refine ⟨some mb,hc.rd1 rfl,?_⟩
 refine aB qFV ?_
 rintro v w1 ⟨rfl,rfl⟩
 refine ⟨_,rfl,?_⟩
 refine aB (vZ (hR.no hm0) hG (by omega)) ?_
 rintro v w2 ⟨kv,ks,rfl,u4,t6,t7,hkb,u0⟩
 refine ⟨kv,rfl,?_⟩
 have hkl:ks.length=kv.len:=by have:=u4.1; simp at this; omega
 have hkn:ks.length<=1000:=by
  have:ks.length<=(ms.map (·.k)).length:=nC (lt:=λa b:zY=>a<b) (λx=>List.lt_irrefl x) t7 λk hk=>(t6 k).1 hk
  rw [List.length_map] at this; omega
 have hcl:=hc.lt
 refine ⟨λl' w'=>match l' with | [.i _ y]=>∃ (k:Nat) (S:Nat->Prop) (L:Lv),y=(k:Int)/\k<=ks.length/\I S L w'/\(∀ z,S z->wp.heap.size<=z/\z≠c/\kv.blk≠some z)/\Blk w' c [.map (some mb)] T/\aK w' kv 1 (ks.map eT)/\Mod NoB wp w'/\L.length<=k/\L.Pairwise (λa b=>a.1<b.1)/\(∀ key s,(key,s)∈L↔key∈ks.take k/\s≠[]/\dR (bF ls key) s)/\w2.heap.size<=w'.heap.size | _=>False,λl' _=>match l' with | [.i _ y]=>(ks.length - y).toNat | _=>0,⟨0,S0,[],rfl,by omega,hC.st hI u0,λz hz=>⟨(hS0 z hz).1,(hS0 z hz).2,λe=>by have h1:=hkb z e; have h2:=hC.lo hI z hz; omega⟩,hc.no u0,u4,hm0.tr u0,by simp,List.Pairwise.nil,by simp,Nat.le_refl _⟩,?_⟩
 rintro y w3 ⟨k,S,L,rfl,hk,p9,k5,q8,k3,k4,hL1,hL2,hL3,y1⟩
 refine aC (λhlt=>?_) λhge=>?_
 ·have hlt:k<ks.length:=by have:=of_decide_eq_true hlt; omega
  obtain ⟨A,ea,u6⟩:=vT k3 (i:=k) (by simpa using hlt)
  refine ⟨⟨by omega,by omega⟩,?_⟩
  rw [ea]
  refine ⟨ks[k],by simpa [eT] using u6,some mb,q8.rd1 rfl,?_⟩
  have hkk:ks[k]∈ms.map (·.k):=(t6 _).1 (List.getElem_mem _)
  obtain ⟨m,k6,hmk⟩:=List.mem_map.1 hkk
  obtain ⟨u7,es,clock,u9,u5⟩:=hR.no k4
  have hent : ∀ e∈es,e.key=eT ks[k]->e.val=m.s.val:=λe he u1=>by
   have h1:(e.key,e.val)∈es.map λe=>(e.key,e.val):=List.mem_map_of_mem he
   rw [u5] at h1
   obtain ⟨m',a',e'⟩:=List.mem_map.1 h1
   simp only [Prod.mk.injEq] at e'
   have v1:m'.k=m.k:=by rw [hmk]; exact mE (e'.1.trans u1)
   have:m'=m:=by
    obtain ⟨i,hi,rfl⟩:=List.getElem_of_mem a'
    obtain ⟨j,hj,rfl⟩:=List.getElem_of_mem k6
    have:=(List.getElem_inj (xs:=ms.map (·.k)) (i:=i) (j:=j) (h₀:=by simpa using hi) (h₁:=by simpa using hj) hG.nd).1 (by simpa using v1)
    subst this; rfl
   rw [<-e'.2,this]
  have hex : ∃ e∈es,e.key=eT ks[k]:=by
   have h1:(eT m.k,m.s.val)∈ms.map λm=>(Value.string ⟨m.k.toArray⟩,m.s.val):=List.mem_map.2 ⟨m,k6,rfl⟩
   rw [<-u5] at h1
   obtain ⟨e,he,h2⟩:=List.mem_map.1 h1
   simp only [Prod.mk.injEq] at h2
   exact ⟨e,he,by rw [h2.1,hmk]⟩
  refine nJ sM qL hv1 hv2 u9 (key:=eT ks[k]) trivial (λe he u1=>?_) λhno=>?_
  ·rw [hent e he u1]
   refine ⟨m.s,rfl,?_⟩
   have hrt:m.l.map (·.2)=bF ls ks[k]:=by rw [hG.eq m k6,hmk]
   have hrl:(bF ls ks[k]).length<=ls.length:=List.length_filter_le _ _
   have y2:m.l.length=(bF ls ks[k]).length:=by rw [<-hrt,List.length_map]
   have y5:0<m.l.length:=List.length_pos_iff.2 (hG.ne m k6)
   refine aB (qRJ (K:=ks[k]) (qRN u7 k6 (by have:=k4.size; omega)) (λl hl r hr=>?_) (by rw [xW,List.length_map]; omega) (by rw [List.length_map]; omega)) ?_
   ·obtain ⟨p,hp,rfl⟩:=List.mem_map.1 hl
    have hr:r=p.2:=by simpa using hr
    subst hr
    have h3:p.2∈bF ls ks[k]:=by rw [<-hrt]; exact List.mem_map_of_mem hp
    have h4:=(List.mem_filter.1 h3).2
    simpa using h4
   rintro v w4 ⟨out,rs,y7,rfl,hJ,hS,h9⟩
   rw [xW,hrt] at hJ
   refine ⟨out,0,rfl,?_⟩
   have y8:=hS.n.len
   have u2:rs.length<=1000:=by
    have h1:rs.length<=(bF ls ks[k]).length:=by
     obtain ⟨cc,hcc,rfl⟩:=hJ
     exact Nat.le_trans (List.length_filter_le _ _) (nC gX hcc.pw λr hr=>((hcc.mem r).1 hr).1)
    omega
   have etk:ks.take (k+1)=ks.take k++[ks[k]]:=aL hlt
   have hnew:ks[k] ∉ ks.take k:=λh=>by
    obtain ⟨i,hi,e⟩:=List.getElem_of_mem h
    rw [List.length_take] at hi
    have:=List.pairwise_iff_getElem.1 t7 i k (by omega) hlt (by omega)
    rw [List.getElem_take] at e
    rw [e] at this
    exact List.lt_irrefl _ this
   have v6:=hC.st p9 h9
   have hlo:=hC.lo p9
   refine aC (λhpos=>?_) λp8=>?_
   ·have hpos:0<rs.length:=by have:=of_decide_eq_true hpos; omega
    show eZ _ _ _ _ _
    refine hC.yd (key:=ks[k]) p9 h9 hS (by omega) u2 λS' w5 v7 q9 v8=>?_
    refine ⟨true,rfl,aC (λh=>by simp at h) λ_=>?_⟩
    rw [wrap_i64 (e:=(k:Int)+1) (by omega)]
    have u3 : ∀ z,kv.blk=some z->z<w4.heap.size:=λz hz=>by have h1:=(hkb z hz).2; have:=h9.size; omega
    refine ⟨⟨k+1,S',L++[(ks[k],rs)],by omega,by omega,v7,λz hz=>?_,(q8.no h9).mod q9 λe=>(k5 c e).2.1 rfl,(k3.no h9).mod q9 λz hz e=>(k5 z e).2.2 hz,(k4.tr h9).trans q9 (λ_ _ h=>h) (λz hz e=>by have:=(k5 z e).1; omega),by rw [List.length_append]; simp; omega,?_,λkey s=>?_,by have:=h9.size; have:=q9.size; omega⟩,by (try simp only []); omega⟩
    ·rcases v8 z hz with e | e
     ·exact k5 z e
     ·have h1:=k4.size; have h2:=h9.size; have h3:=q8.lt
      exact ⟨by omega,by omega,λe2=>by have:=u3 z e2; omega⟩
    ·rw [List.pairwise_append]
     refine ⟨hL2,by simp,λa ha b hb=>?_⟩
     have hb:b=(ks[k],rs):=by simpa using hb
     subst hb
     have h1:=((hL3 a.1 a.2).1 ha).1
     obtain ⟨i,hi,e⟩:=List.getElem_of_mem h1
     rw [List.length_take] at hi
     rw [List.getElem_take] at e
     rw [<-e]
     exact List.pairwise_iff_getElem.1 t7 i k (by omega) hlt (by omega)
    ·rw [List.mem_append,hL3,etk,List.mem_append,List.mem_singleton,List.mem_singleton,Prod.mk.injEq]
     constructor
     ·rintro (⟨h1,h2,h3⟩ | ⟨rfl,rfl⟩)
      ·exact ⟨.inl h1,h2,h3⟩
      ·exact ⟨.inr rfl,λe=>by rw [e] at hpos; simp at hpos,hJ⟩
     ·rintro ⟨h1 | rfl,h2,h3⟩
      ·exact .inl ⟨h1,h2,h3⟩
      ·exact .inr ⟨rfl,h3.uniq hJ λ_=>Iff.rfl⟩
   ·have hz0:rs.length=0:=by have:=of_decide_eq_false p8; omega
    have hrs:rs=[]:=List.length_eq_zero_iff.1 hz0
    subst hrs
    rw [wrap_i64 (e:=(k:Int)+1) (by omega)]
    refine ⟨⟨k+1,S,L,by omega,by omega,v6,k5,q8.no h9,k3.no h9,k4.tr h9,by omega,hL2,λkey s=>?_,by have:=h9.size; omega⟩,by (try simp only []); omega⟩
    rw [hL3,etk,List.mem_append,List.mem_singleton]
    constructor
    ·rintro ⟨h1,h2,h3⟩; exact ⟨.inl h1,h2,h3⟩
    ·rintro ⟨h1 | rfl,h2,h3⟩
     ·exact ⟨h1,h2,h3⟩
     ·exact absurd (h3.uniq hJ λ_=>Iff.rfl) h2
  ·obtain ⟨e,he,h2⟩:=hex
   exact absurd h2 (hno e he)
 ·have hkk:k=ks.length:=by have:=of_decide_eq_false hge; omega
  subst hkk
  rw [List.take_length] at hL3
  refine ⟨rfl,S,L,p9,⟨hL2,λkey s=>?_⟩,k4⟩
  rw [hL3]
  constructor
  ·rintro ⟨_,h2,h3⟩; exact ⟨h2,h3⟩
  ·rintro ⟨h2,h3⟩
   refine ⟨(t6 key).2 ?_,h2,h3⟩
   obtain ⟨r,hr⟩:=List.exists_mem_of_ne_nil _ h2
   have h4:=kJ h3 r hr
   have h5:=List.mem_filter.1 h4
   simp at h5
   obtain ⟨m,a,b⟩:=hG.all r h5.1 h5.2.1
   exact List.mem_map.2 ⟨m,a,by rw [b,h5.2.2]⟩
end
def vF (Q:Nat->Prop) (w:World) (s:Slc) (rs:List Rc):Prop:=
 ∃ hs:List Hd,Sh.Own w s 7 (hcells hs)/\(∀ z,s.blk=some z->Q z)/\hs.length=rs.length/\∀ i (h:i<hs.length) (h':i<rs.length),bH w hs[i] rs[i]/\∀ z,hs[i].on z->Q z
theorem vF.mod {Q Q':Nat->Prop} {w w':World} {s:Slc} {rs:List Rc} {S:Nat->Prop} (h:vF Q w s rs) (hm:Mod S w w') (hS : ∀ z,Q z->z<w.heap.size->¬ S z/\Q' z):vF Q' w' s rs:=by
 obtain ⟨hs,h1,h2,h3,h4⟩:=h
 exact ⟨hs,h1.mod hm λz hz=>(hS z (h2 z hz) (h1.lt hz)).1,λz hz=>(hS z (h2 z hz) (h1.lt hz)).2,h3,λi a b=>⟨(h4 i a b).1.mod hm λz hz=>(hS z ((h4 i a b).2 z hz) ((h4 i a b).1.lt z hz)).1,λz hz=>(hS z ((h4 i a b).2 z hz) ((h4 i a b).1.lt z hz)).2⟩⟩
def dG (e:zY×Slc):List Value:=[eT e.1,e.2.val]
theorem cL (e:zY×Slc):(dG e).length=2:=rfl
theorem lZ (e:zY×Slc) : ∀ v∈dG e,v.oneCell'=true:=by
 intro v hv
 simp [dG,eT,Slc.val] at hv
 rcases hv with rfl | rfl <;> rfl
def eY (Q:Nat->Prop) (w:World) (o:Slc) (L:Lv):Prop:=
 ∃ es:List (zY×Slc),Sh.Own w o 2 (aR dG es)/\(∀ z,o.blk=some z->Q z)/\es.length=L.length/\∀ i (h:i<es.length) (h':i<L.length),es[i].1=L[i].1/\vF (λz=>Q z/\o.blk≠some z) w es[i].2 L[i].2
theorem eY.mod {Q Q':Nat->Prop} {w w':World} {o:Slc} {L:Lv} {S:Nat->Prop} (h:eY Q w o L) (hm:Mod S w w') (hS : ∀ z,Q z->z<w.heap.size->¬ S z/\Q' z):eY Q' w' o L:=by
 obtain ⟨es,h1,h2,h3,h4⟩:=h
 exact ⟨es,h1.mod hm λz hz=>(hS z (h2 z hz) (h1.lt hz)).1,λz hz=>(hS z (h2 z hz) (h1.lt hz)).2,h3,λi a b=>⟨(h4 i a b).1,(h4 i a b).2.mod hm λz hz hl=>⟨(hS z hz.1 hl).1,(hS z hz.1 hl).2,hz.2⟩⟩⟩
structure sJ (Q:Nat->Prop) (w:World) (s:Slc) (rs:List Rc) (hs:List Hd):Prop where
 own:Sh.Own w s 7 (hcells hs)
 q : ∀ z,s.blk=some z->Q z
 n:hs.length=rs.length
 e : ∀ i (h:i<hs.length) (h':i<rs.length),bH w hs[i] rs[i]
 on : ∀ x∈hs,∀ z,x.on z->Q z
 ho : ∀ x∈hs,fN w x
theorem sJ.olt {Q:Nat->Prop} {w:World} {s:Slc} {rs:List Rc} {hs:List Hd} (h:sJ Q w s rs hs) : ∀ x∈hs,∀ z,x.on z->z<w.heap.size:=λx hx z hz=>by
 obtain ⟨i,hi,rfl⟩:=List.mem_iff_getElem.1 hx
 have:=h.n
 exact (h.e i hi (by omega)).lt z hz
theorem sJ.mod {Q Q':Nat->Prop} {w w':World} {s:Slc} {rs:List Rc} {hs:List Hd} {S:Nat->Prop} (h:sJ Q w s rs hs) (hm:Mod S w w') (hS : ∀ z,Q z->z<w.heap.size->¬ S z/\Q' z):sJ Q' w' s rs hs:=
 ⟨h.own.mod hm λz hz=>(hS z (h.q z hz) (h.own.lt hz)).1,λz hz=>(hS z (h.q z hz) (h.own.lt hz)).2,h.n,λi a b=>(h.e i a b).mod hm λz hz=>(hS z (h.on _ (List.getElem_mem a) z hz) ((h.e i a b).lt z hz)).1,
  λx hx z hz=>(hS z (h.on x hx z hz) (h.olt x hx z hz)).2,λx hx=>(h.ho x hx).mod hm λz hz=>(hS z (h.on x hx z hz) (h.olt x hx z hz)).1⟩
theorem sJ.sq {Q:Nat->Prop} {w:World} {s:Slc} {rs:List Rc} {hs:List Hd} (h:sJ Q w s rs hs):vF Q w s rs:=⟨hs,h.own,h.q,h.n,λi a b=>⟨h.e i a b,h.on _ (List.getElem_mem a)⟩⟩
theorem jV.h {B:Nat} {w:World} {s:Slc} {rs:List Rc} {hs:List Hd} (h:jV B w s rs hs):sJ (λz=>B<=z/\z<w.heap.size) w s rs hs:=
 ⟨h.1.1,λz hz=>⟨h.1.2.1 z hz,h.1.1.lt hz⟩,h.1.2.2.1,λi a b=>(h.1.2.2.2 i a b).1,λx hx z hz=>⟨(h.on x hx z hz).1.1,(h.on x hx z hz).2⟩,h.2.2⟩
def sA (es:List ((zY×Slc)×List Hd)):List Slc:=es.flatMap λe=>e.1.2 :: pieces e.2
structure dD (Q:Nat->Prop) (w:World) (o:Slc) (L:Lv) (es:List ((zY×Slc)×List Hd)):Prop where
 own:Sh.Own w o 2 (aR dG (es.map (·.1)))
 q : ∀ z,o.blk=some z->Q z
 n:es.length=L.length
 e : ∀ i (h:i<es.length) (h':i<L.length),es[i].1.1=L[i].1/\sJ (λz=>Q z/\o.blk≠some z) w es[i].1.2 L[i].2 es[i].2
 p:(sA es).Pairwise Dis
theorem dD.mod {Q Q':Nat->Prop} {w w':World} {o:Slc} {L:Lv} {es:List ((zY×Slc)×List Hd)} {S:Nat->Prop} (h:dD Q w o L es) (hm:Mod S w w') (hS : ∀ z,Q z->z<w.heap.size->¬ S z/\Q' z):dD Q' w' o L es:=
 ⟨h.own.mod hm λz hz=>(hS z (h.q z hz) (h.own.lt hz)).1,λz hz=>(hS z (h.q z hz) (h.own.lt hz)).2,h.n,λi a b=>⟨(h.e i a b).1,(h.e i a b).2.mod hm λz hz hl=>⟨(hS z hz.1 hl).1,(hS z hz.1 hl).2,hz.2⟩⟩,h.p⟩
theorem dD.sq {Q:Nat->Prop} {w:World} {o:Slc} {L:Lv} {es:List ((zY×Slc)×List Hd)} (h:dD Q w o L es):eY Q w o L:=
 ⟨es.map (·.1),h.own,h.q,by simp [h.n],λi a b=>by
  have ha:i<es.length:=by simpa using a
  rw [List.getElem_map]
  exact ⟨(h.e i ha b).1,(h.e i ha b).2.sq⟩⟩
theorem dD.low {Q:Nat->Prop} {w:World} {o:Slc} {L:Lv} {es:List ((zY×Slc)×List Hd)} (h:dD Q w o L es) : ∀ x∈sA es,∀ z,x.blk=some z->(Q z/\o.blk≠some z)/\z<w.heap.size:=λx hx z hz=>by
 obtain ⟨e,he,hx⟩:=List.mem_flatMap.1 hx
 obtain ⟨i,hi,rfl⟩:=List.mem_iff_getElem.1 he
 have:=h.n
 have g:=(h.e i hi (by omega)).2
 rcases List.mem_cons.1 hx with rfl | hx
 ·exact ⟨g.q z hz,g.own.lt hz⟩
 ·exact iB (P:=λz=>(Q z/\o.blk≠some z)/\z<w.heap.size) (λy hy z hz=>⟨g.on y hy z hz,g.olt y hy z hz⟩) x hx z hz
theorem sZ (a b:List ((zY×Slc)×List Hd)):sA (a++b)=sA a++sA b:=by simp [sA]
theorem jU {w:World} {b:Nat} {o o':Obj} (h:w.heap[b]? = some o):(w.putObj b o').heap[b]? = some o'/\Mod (λz=>z=b) w (w.putObj b o')/\(w.putObj b o').heap.size=w.heap.size:=
 have hu:=qN (o':=o') h
 ⟨hu.get,hu.mod,hu.size⟩
theorem qT:prog.underlying 26=some (.slice 64):=by kernel_rfl
theorem xO : ∃ i,prog.info? 64=some i/\i.zero=some (.agg #[.string ⟨#[]⟩,.slice none 0 0])/\i.size=2/\i.bytes=40:=bC (by kernel_rfl) (by kernel_rfl) (by kernel_rfl)
theorem qLD : ∃ i,prog.info? 26=some i/\i.zero=some (.slice none 0 0)/\i.size=1/\i.bytes=24:=bC (by kernel_rfl) (by kernel_rfl) (by kernel_rfl)
theorem qNP : ∃ i,prog.info? 58=some i/\i.zero=some (.agg #[.map none])/\i.size=1/\i.bytes=8:=bC (by kernel_rfl) (by kernel_rfl) (by kernel_rfl)
section
variable {w:World}
theorem qEK {mb:Nat} : Calls prog 31 #[.map (some mb)] w (Ret λv w'=>∃ c,v = .func (.func 60) #[] #[.pointer (some ⟨c,0,none⟩)]/\Blk w' c [.map (some mb)] 56/\c=w.heap.size/\Mod NoB w w'):=by
 refine jDB _ ?_
 unfold jEL
 exact aQ (l:=[.map (some mb)]) rfl λc w1 hN hb=>⟨_,rfl,c,rfl,hb,hN.at_,hN.mod⟩
def IL (rec:LoopState->Option Code->Obj) (ll dd ob B:Nat) (S:Nat->Prop) (L:Lv) (w:World):Prop:=
 w.heap[ll]? = some (rec .ready none)/\w.heap[dd]? = some (.deferred (some []))/\∃ (o:Slc) (es:List ((zY×Slc)×List Hd)),Blk w ob [o.val] 26/\(∀ z,S z↔(z=ll\/z=ob\/o.blk=some z))/\dD (λz=>B<=z/\z≠ll/\z≠dd/\z≠ob) w o L es
theorem jGT {rec:LoopState->Option Code->Obj} {ll dd ob B:Nat} (hd:ll=dd+1) (ho:ob<dd) (hB:B<=ob)
 (hy : ∀ (xa:zY) (xb:Slc) (w8:World) (kk:Value->zP),w8.heap[ll]? = some (rec .ready none)->
  (aH prog (Instr.alloc 64 true (.tuple #[])) w8 λv5 w9=>∃ l:zO,v5=(.pointer l)/\aA l λa3=>aJ prog (storeVar 64 a3 (.agg #[(.string ⟨(xa).toArray⟩),(.slice xb.a xb.len xb.cap)])) w9 λk4=>(k4.heap[ll]? = some (rec .ready none)/\aA (some (⟨ob,0,none⟩:Addr)) λa4=>∃ x4:Slc,Rd (k4.putObj ll (rec .busy none)) a4 [(.slice x4.a x4.len x4.cap)]/\aA l λa5=>∃ z6:zY,∃ q9:Slc,Rd (k4.putObj ll (rec .busy none)) a5 [(.string ⟨(z6).toArray⟩),(.slice q9.a q9.len q9.cap)]/\aH prog (Instr.buildSlice 26 1 #[(0,(.agg #[(.string ⟨(z6).toArray⟩),(.slice q9.a q9.len q9.cap)]))]) (k4.putObj ll (rec .busy none)) λv6 p8=>∃ x5:Slc,v6=(.slice x5.a x5.len x5.cap)/\aH prog (Builtin.append_ #[26,26] 26 #[(.slice x4.a x4.len x4.cap),(.slice x5.a x5.len x5.cap)]) p8 λv7 u9=>∃ x6:Slc,v7=(.slice x6.a x6.len x6.cap)/\aA (some (⟨ob,0,none⟩:Addr)) λa6=>aJ prog (storeVar 26 a6 (.slice x6.a x6.len x6.cap)) u9 λt6=>(t6.heap[ll]? = some (rec .busy none)/\kk (.bool true) (t6.putObj ll (rec .ready none)))))->
  eZ prog ll [(.agg #[(.string ⟨(xa).toArray⟩),(.slice xb.a xb.len xb.cap)])] w8 kk):jFY ll (IL rec ll dd ob B) where
 st:=λ{S L w w'} h hm=>by
  obtain ⟨h1,h2,o,es,h3,h4,h5⟩:=h
  exact ⟨(hm.block _ (aT h1) λh=>h).trans h1,(hm.block _ (aT h2) λh=>h).trans h2,o,es,h3.no hm,h4,h5.mod hm λz hz _=>⟨λh=>h,hz⟩⟩
 lo:=λ{S L w} h z hz=>by
  obtain ⟨h1,h2,o,es,h3,h4,h5⟩:=h
  rcases (h4 z).1 hz with rfl | rfl | e
  ·exact aT h1
  ·exact h3.lt
  ·exact h5.own.lt e
 yd:=λ{S L w wj} {key s rs hs K} z7 u0 hS hL hrs hK=>by
  have v1 : ∀ z,S z->z<wj.heap.size:=λz hz=>by
   obtain ⟨h1,h2,o,es,h3,h4,h5⟩:=z7
   rcases (h4 z).1 hz with rfl | rfl | e
   ·exact aT h1
   ·exact h3.lt
   ·exact h5.own.lt e
  obtain ⟨j1,j2,o,es,j3,h4,v8⟩:=z7
  have h1:w.heap[ll]? = some (rec .ready none):=(u0.block _ (aT j1) λh=>h).trans j1
  have h2:w.heap[dd]? = some (.deferred (some [])):=(u0.block _ (aT j2) λh=>h).trans j2
  have h3:=j3.no u0
  have hlow:=v8.low
  have o4:=v8.n
  have hQ:dD (λz=>B<=z/\z≠ll/\z≠dd/\z≠ob) w o L es:=v8.mod u0 λz hz _=>⟨λh=>h,hz⟩
  have hnew:=hS.h
  obtain ⟨il,hl1,hl2,z8,hl4⟩:=xO
  have j6:=h3.lt
  have y0:=aT h1
  have y1:=aT h2
  have b5:=aT j2
  have b6:=u0.size
  refine hy key s w K h1 ?_
  refine aN (l:=[.string ⟨#[]⟩,.slice none 0 0]) hl1 hl2 rfl λq w9 j4 a7=>⟨_,rfl,?_⟩
  show aJ _ _ _ _
  refine bU (vs:=[eT key,s.val]) (by kernel_rfl) (by kernel_rfl) rfl a7 (by simp) (by intro u hu; simp at hu; rcases hu with rfl | rfl <;> rfl) λk4 y2 q8=>?_
  have hq:=j4.at_
  have h9:Mod NoB w k4:=j4.mod.fresh y2.mod λz e=>by have e:z=q:=e; omega
  have q8:Blk k4 q [eT key,s.val] 64:=q8
  have j5:k4.heap[ll]? = some (rec .ready none):=(h9.block _ y0 λh=>h).trans h1
  obtain ⟨p1,p2,p3⟩:=jU (o':=rec .busy none) j5
  have h3p:Blk (k4.putObj ll (rec .busy none)) ob [o.val] 26:=(h3.no h9).mod p2 (by omega)
  have a8:Blk (k4.putObj ll (rec .busy none)) q [eT key,s.val] 64:=q8.mod p2 (by omega)
  refine ⟨j5,o,h3p.rd1 rfl,key,s,a8.rd (λj v hj=>by rw [Nat.zero_add]; exact hj),?_⟩
  refine bZ [.agg #[eT key,s.val]] (l:=aR dG [(key,s)]) qT hl1 hl2 z8 (by omega) rfl (by omega) (by omega) rfl (by intro v hv; simp at hv; subst hv; rfl) (by simp [aR,dG,Value.cells,eT,Slc.val]) λlb p8 k3 y5=>⟨⟨some ⟨lb,0,none⟩,1,1⟩,rfl,?_⟩
  have y7:aK p8 ⟨some ⟨lb,0,none⟩,1,1⟩ 2 (aR dG [(key,s)]):=(aY (n:=1) (k:=2) y5 rfl).rd
  have u1:Mod (λz=>z=ll) w p8:=(h9.no p2).no' k3.mod
  have i6:=bA cL (by omega) hQ.own.rd
  rw [List.length_map] at i6
  have y8:Sh.Own p8 o 2 (aR dG (es.map (·.1))):=hQ.own.mod u1 λz hz e=>by have e:z=ll:=e; exact (hQ.q z hz).2.1 e
  refine aS qT hl1 hl2 z8 rfl hl4 y8 y7 (dF lZ _) (by simp only []; omega) (by simp only []; omega) λx' u9 y9 hlen hblk k5=>⟨x',rfl,?_⟩
  show aJ _ _ _ _
  have u2:o.blk≠some ob:=λe=>(hQ.q ob e).2.2.2 rfl
  have p9:o.blk≠some ll:=λe=>(hQ.q ll e).2.1 rfl
  have u3:o.blk≠some dd:=λe=>(hQ.q dd e).2.2.1 rfl
  refine aX (by kernel_rfl) (by kernel_rfl) rfl ((h3p.no k3.mod).mod k5 u2) (by simp) λt6 k6 z1=>?_
  have i7:=h9.size
  have i8:k4.heap.size<=p8.heap.size:=by have:=k3.mod.size; omega
  have u4:p8.heap[ll]? = some (rec .busy none):=(k3.mod.block _ (aT p1) λh=>h).trans p1
  have u5:u9.heap[ll]? = some (rec .busy none):=(k5.block _ (aT u4) p9).trans u4
  have u6:t6.heap[ll]? = some (rec .busy none):=(k6.mod.block _ (aT u5) (by show ¬ ll=ob; omega)).trans u5
  obtain ⟨r1,r2,r3⟩:=jU (o':=rec .ready none) u6
  have u7:t6.heap[dd]? = some (.deferred (some [])):=by
   have a1:=(h9.block _ y1 λh=>h).trans h2
   have a2:=(p2.block _ (aT a1) (by show ¬ dd=ll; omega)).trans a1
   have a3:=(k3.mod.block _ (aT a2) λh=>h).trans a2
   have a4:=(k5.block _ (aT a3) u3).trans a3
   exact (k6.mod.block _ (aT a4) (by show ¬ dd=ob; omega)).trans a4
  have t7 : ∀ z,x'.blk=some z->o.blk=some z\/z=p8.heap.size:=λz hz=>by
   rcases hblk with e | e
   ·exact .inl (by rw [<-e]; exact hz)
   ·rw [e] at hz; cases hz; exact .inr rfl
  have o0:=v1 ll ((h4 ll).2 (.inl rfl))
  have o1:=v1 ob ((h4 ob).2 (.inr (.inl rfl)))
  have hjo : ∀ z,o.blk=some z->z<wj.heap.size:=λz hz=>v1 z ((h4 z).2 (.inr (.inr hz)))
  have mall:Mod (λz=>z=ll\/z=ob\/o.blk=some z) w (t6.putObj ll (rec .ready none)):=
   (((u1.mono λz _ e=>.inl e).tr (k5.mono λz _ e=>.inr (.inr e))).tr (k6.mod.mono λz _ e=>.inr (.inl e))).tr (r2.mono λz _ e=>.inl e)
  refine ⟨u6,hK (λz=>z=ll\/z=ob\/x'.blk=some z) _ ⟨r1,(r2.block _ (aT u7) (by show ¬ dd=ll; omega)).trans u7,x',es++[((key,s),hs)],z1.mod r2 (by omega),λz=>Iff.rfl,?_,λz hz=>?_,by simp [hQ.n],λj a d=>?_,?_⟩ ?_ λz hz=>?_⟩
  ·rw [List.map_append,bP]
   refine (y9.mod k6.mod λz hz e=>?_).mod r2 λz hz e=>?_
   ·have e:z=ob:=e
    subst e
    rcases t7 z hz with h | h
    ·exact u2 h
    ·omega
   ·have e:z=ll:=e
    subst e
    rcases t7 z hz with h | h
    ·exact p9 h
    ·omega
  ·rcases t7 z hz with h | h
   ·exact hQ.q z h
   ·exact ⟨by omega,by omega,by omega,by omega⟩
  ·rcases Nat.lt_or_ge j es.length with hj | hj
   ·have e1:(es++[((key,s),hs)])[j]=es[j]:=List.getElem_append_left hj
    have e2:(L++[(key,rs)])[j]=L[j]'(by have:=hQ.n; omega):=List.getElem_append_left (by have:=hQ.n; omega)
    rw [e1,e2]
    obtain ⟨g1,g2⟩:=hQ.e j hj (by have:=hQ.n; omega)
    refine ⟨g1,g2.mod mall λz hz hl=>⟨?_,hz.1,λe=>?_⟩⟩
    ·rintro (e | e | e)
     ·exact hz.1.2.1 e
     ·exact hz.1.2.2.2 e
     ·exact hz.2 e
    ·rcases t7 z e with h | h
     ·exact hz.2 h
     ·omega
   ·have o2:j=es.length:=by simp at a; omega
    subst o2
    have e1:(es++[((key,s),hs)])[es.length]=((key,s),hs):=by simp
    have e2:(L++[(key,rs)])[es.length]'d=(key,rs):=by
     have:=hQ.n
     simp [this]
    rw [e1,e2]
    refine ⟨rfl,hnew.mod mall λz hz _=>⟨?_,⟨by omega,by omega,by omega,by omega⟩,λe=>?_⟩⟩
    ·rintro (e | e | e)
     ·omega
     ·omega
     ·have:=hjo z e; omega
    ·rcases t7 z e with h | h
     ·have:=hjo z h; omega
     ·omega
  ·rw [sZ]
   refine List.pairwise_append.2 ⟨hQ.p,?_,λx hx y hy=>eD (λz hz=>(hlow x hx z hz).2) λz hz=>?_⟩
   ·simp only [sA,List.flatMap_cons,List.flatMap_nil,List.append_nil]
    refine List.pairwise_cons.2 ⟨λy hy z hz o3=>?_,hS.2.1⟩
    exact iB (P:=λz=>s.blk≠some z) (λx hx z hz=>(hS.on x hx z hz).1.2) y hy z o3 hz
   ·simp only [sA,List.flatMap_cons,List.flatMap_nil,List.append_nil] at hy
    rcases List.mem_cons.1 hy with rfl | hy
    ·exact hS.1.2.1 z hz
    ·exact iB (P:=λz=>wj.heap.size<=z) (λx hx z hz=>(hS.on x hx z hz).1.1) y hy z hz
  ·have c1:Mod S w (k4.putObj ll (rec .busy none)):=h9.no (p2.mono λz _ e=>(h4 z).2 (.inl e))
   have c2:Mod S w u9:=(c1.no' k3.mod).tr (k5.mono λz _ e=>(h4 z).2 (.inr (.inr e)))
   exact (c2.tr (k6.mod.mono λz _ e=>(h4 z).2 (.inr (.inl e)))).tr (r2.mono λz _ e=>(h4 z).2 (.inl e))
  ·rcases hz with e | e | e
   ·exact .inl ((h4 z).2 (.inl e))
   ·exact .inl ((h4 z).2 (.inr (.inl e)))
   ·rcases t7 z e with h | h
    ·exact .inl ((h4 z).2 (.inr (.inr h)))
    ·right; omega
end
section
variable {w:World}
theorem mI {recs:Slc} {ls:List Rc} (hl:bO w.heap.size w recs ls) (hn:ls.length<=1000) :
 Calls prog 10 #[.slice recs.a recs.len recs.cap] w (Ret λv w'=>∃ o L es,v=o.val/\dO ls L/\dD (λz=>w.heap.size<=z) w' o L es/\Mod NoB w w'):=by
 refine jAS _ ?_
 unfold jEV
 obtain ⟨ib,hb1,hb2,hb3,hb4⟩:=qNP
 obtain ⟨io,v1,v6,y7,y8⟩:=qLD
 refine wY (d:=.string) λmb w1 e1 y9 hM1 v7=>⟨some mb,rfl,?_⟩
 refine aN (l:=[.map none]) hb1 hb2 rfl λb w2 u4 q8=>⟨_,rfl,?_⟩
 have e2:=u4.at_
 show aJ _ _ _ _
 refine bU (vs:=[.map (some mb)]) (by kernel_rfl) (by kernel_rfl) rfl q8 (by simp) (by intro u hu; simp at hu; subst hu; rfl) λw3 ht3 h9=>?_
 have h9:Blk w3 b [.map (some mb)] 58:=h9
 have k4:Mod NoB w1 w3:=u4.mod.fresh ht3.mod λz e=>by have e:z=b:=e; omega
 have k5:=v7.tr k4
 refine ⟨some mb,h9.rd1 rfl,?_⟩
 have v8:bO w.heap.size w3 recs ls:=hl.mod (k5.mono λ_ _ h=>h.elim)
 refine aB (jEH (B0:=w.heap.size) (hM1.mod k4 λh=>h) v8 (by omega) hn) ?_
 rintro v w4 ⟨rfl,ms,y0,hG,u5⟩
 have q9:Blk w4 b [.map (some mb)] 58:=h9.mod u5 (by omega)
 have k6:Mod NoB w w4:=k5.fresh u5 λz e=>by have e:z=mb:=e; omega
 refine ⟨rfl,?_⟩
 refine aN (l:=[.slice none 0 0]) v1 v6 rfl λob w5 p9 t6=>⟨_,rfl,?_⟩
 have e5:=p9.at_
 refine ⟨some mb,by rw [aO]; exact (q9.no p9.mod).rd1 rfl,?_⟩
 refine aB qEK ?_
 rintro v w6 ⟨c,rfl,u6,e6,t7⟩
 refine ⟨_,rfl,60,#[],#[.pointer (some ⟨c,0,none⟩)],rfl,by kernel_rfl,λrec dd ll w7 u7 hll u0 hy=>?_⟩
 have hs6:=t7.size
 have y1:=p9.size
 have hcl:=u6.lt
 have hw6l:(w6.alloc (.deferred (some []))).heap.size=dd+1:=by rw [u7]; exact Array.size_push _
 have k3:Mod NoB w6 w7:=by rw [u0]; exact (cS _ _).tr (cS _ _)
 have hready:w7.heap[ll]? = some (rec .ready none):=by
  rw [u0]
  have:=(eQ (w6.alloc (.deferred (some []))) (rec .ready none)).get
  rw [hw6l,<-hll] at this; exact this
 have u1:w7.heap[dd]? = some (.deferred (some [])):=by
  rw [u0]
  have h1:=(eQ w6 (.deferred (some []))).get
  rw [<-u7] at h1
  exact ((cS (w6.alloc (.deferred (some []))) (rec .ready none)).block dd (aT h1) λh=>h).trans h1
 have p8:Blk w6 ob [.slice none 0 0] 26:=t6.no t7
 have u2:Blk w7 ob [Slc.val ⟨none,0,0⟩] 26:=p8.no k3
 have y2:=p8.lt
 have u3:Mod NoB w4 w7:=(p9.mod.tr t7).tr k3
 have hs4:=k6.size
 have hC:=jGT (rec:=rec) (ll:=ll) (dd:=dd) (ob:=ob) (B:=w.heap.size) hll (by omega) (by omega) hy
 refine aB (qFZ (ll:=ll) (c:=c) (S0:=λz=>z=ll\/z=ob) (wp:=w4) hC y0 hG hn (by omega) u3 (u6.no k3) ?_ ?_) ?_
 ·exact ⟨hready,u1,⟨none,0,0⟩,[],u2,λz=>⟨λh=>h.elim .inl λh=>.inr (.inl h),λh=>by rcases h with h | h | h; exact .inl h; exact .inr h; simp at h⟩,bK _ 2,λz hz=>by simp at hz,rfl,λi h=>absurd h (by simp),.nil⟩
 ·rintro z (h | h)
  ·subst h; exact ⟨by omega,by omega⟩
  ·subst h; exact ⟨by omega,by omega⟩
 rintro v w8 ⟨rfl,S,L,⟨i1,i2,o,es,i3,i4,i5⟩,hL,y5⟩
 obtain ⟨p1,p2,p3⟩:=jU (o':=rec .exhausted none) i1
 have u9:(w8.putObj ll (rec .exhausted none)).heap[dd]? = some (.deferred (some [])):=(p2.block _ (aT i2) (by show ¬ dd=ll; omega)).trans i2
 obtain ⟨q1,q2,q3⟩:=jU (o':=.deferred none) u9
 refine .inl ⟨i1,o,(i3.mod p2 (by omega)).rd1 rfl,u9,o,L,es,rfl,hL,?_,?_⟩
 ·exact ((i5.mod p2 λz hz _=>⟨λe=>hz.2.1 e,hz⟩:dD (λz=>w.heap.size<=z/\z≠ll/\z≠dd/\z≠ob) _ o L es).mod q2 λz hz _=>⟨λe=>hz.2.2.1 e,hz.1⟩)
 ·exact ((k6.tr y5).fresh p2 λz e=>by have e:z=ll:=e; omega).fresh q2 λz e=>by have e:z=dd:=e; omega
theorem sO {recs:Slc} {ls:List Rc} (hl:bO w.heap.size w recs ls) (hn:ls.length<=1000) :
 Calls prog 10 #[.slice recs.a recs.len recs.cap] w (Ret λv w'=>∃ o L,v=o.val/\dO ls L/\eY (λz=>w.heap.size<=z) w' o L/\Mod NoB w w'):=
 oW (mI hl hn) λv w' ⟨o,L,es,e,hL,hA,hm⟩=>⟨o,L,e,hL,hA.sq,hm⟩
end
theorem kH {ls:List Rc} {L:Lv} (h:dO ls L):L.length<=ls.length/\∀ e∈L,e.2.length<=ls.length:=by
 refine ⟨?_,λe he=>?_⟩
 ·have:=nC (lt:=λa b:zY=>a<b) (λx=>List.lt_irrefl x) (c:=L.map λe=>e.1) (l:=ls.map λr:Rc=>r.key) (List.pairwise_map.2 h.pw) λk hk=>by
   obtain ⟨e,he,rfl⟩:=List.mem_map.1 hk
   obtain ⟨h2,h3⟩:=(h.mem e.1 e.2).1 he
   obtain ⟨r,hr⟩:=List.exists_mem_of_ne_nil _ h2
   have h5:=List.mem_filter.1 (kJ h3 r hr)
   simp at h5
   exact List.mem_map.2 ⟨r,h5.1,h5.2.2⟩
  simpa using this
 ·obtain ⟨h2,cc,hcc,h4⟩:=(h.mem e.1 e.2).1 he
  rw [h4]
  exact Nat.le_trans (List.length_filter_le _ _) (nC gX hcc.pw λr hr=>(List.mem_filter.1 ((hcc.mem r).1 hr).1).1)
def qEO (B0:Nat) (w:World) (s:Slc) (rs:List Rc):Prop:=
 ∃ (B:Nat) (hs:List Hd),Sh.Own w s 7 (hcells hs)/\(∀ z,s.blk=some z->B<=z)/\B0<=B/\hs.length=rs.length/\∀ i (h:i<hs.length) (h':i<rs.length),bH w hs[i] rs[i]/\∀ z,hs[i].on z->B0<=z/\z<B
theorem qEO.q {B0:Nat} {w:World} {s:Slc} {rs:List Rc} (h:qEO B0 w s rs):vF (λz=>B0<=z) w s rs:=by
 obtain ⟨B,hs,h1,h2,h3,h4,h5⟩:=h
 exact ⟨hs,h1,λz hz=>Nat.le_trans h3 (h2 z hz),h4,λi a b=>⟨(h5 i a b).1,λz hz=>((h5 i a b).2 z hz).1⟩⟩
def qGR (B0:Nat) (w:World) (s:Slc) (rs:List Rc) (hs:List Hd):Prop:=sJ (λz=>B0<=z) w s rs hs/\(pieces hs).Pairwise Dis/\∃ B,(∀ z,s.blk=some z->B<=z)/\B0<=B/\∀ x∈hs,∀ z,x.on z->z<B
theorem qGR.s {B0:Nat} {w:World} {s:Slc} {rs:List Rc} {hs:List Hd} (h:qGR B0 w s rs hs):qEO B0 w s rs:=by
 obtain ⟨h1,h2,B,h3,h4,h5⟩:=h
 exact ⟨B,hs,h1.own,h3,h4,h1.n,λi a b=>⟨h1.e i a b,λz hz=>⟨h1.on _ (List.getElem_mem a) z hz,h5 _ (List.getElem_mem a) z hz⟩⟩⟩
theorem wL {P:Hd->Rc->Prop} : ∀ {es:List ((zY×Slc)×List Hd)} {L:Lv},es.length=L.length->(∀ i (h:i<es.length) (h':i<L.length),es[i].2.length=L[i].2.length/\∀ j (a:j<es[i].2.length) (b:j<L[i].2.length),P es[i].2[j] L[i].2[j])->
 (es.flatMap (·.2)).length=(L.flatMap (·.2)).length/\∀ i (a:i<(es.flatMap (·.2)).length) (b:i<(L.flatMap (·.2)).length),P (es.flatMap (·.2))[i] (L.flatMap (·.2))[i]
 | [],[],_,_=>⟨rfl,λi a=>absurd a (by simp)⟩
 | [],_ :: _,h,_=>absurd h (by simp)
 | _ :: _,[],h,_=>absurd h (by simp)
 | e :: es,l :: L,h,he=>by
   obtain ⟨i1,i2⟩:=wL (P:=P) (es:=es) (L:=L) (by simpa using h) λi a b=>by
    have:=he (i+1) (by simp; omega) (by simp; omega)
    simpa using this
   have h0:=he 0 (by simp) (by simp)
   simp only [List.getElem_cons_zero] at h0
   obtain ⟨j1,j2⟩:=h0
   refine ⟨by simp only [List.flatMap_cons,List.length_append]; omega,λi a b=>?_⟩
   simp only [List.flatMap_cons]
   rcases Nat.lt_or_ge i e.2.length with hi | hi
   ·rw [List.getElem_append_left hi,List.getElem_append_left (by omega)]
    exact j2 i hi (by omega)
   ·rw [List.getElem_append_right hi,List.getElem_append_right (by omega)]
    simp only [j1]
    simp only [List.flatMap_cons,List.length_append] at a b
    exact i2 _ (by omega) (by omega)
section
variable {w:World}
theorem pV {recs:Slc} {ls:List Rc} (hl:bO w.heap.size w recs ls) (hn:ls.length<=1000) :
 Calls prog 11 #[.slice recs.a recs.len recs.cap] w (Ret λv w'=>∃ o L hs,v=o.val/\dO ls L/\qGR w.heap.size w' o (L.flatMap (·.2)) hs/\Mod NoB w w'):=by
 refine jAD _ ?_
 unfold jFF
 obtain ⟨il,hl1,hl2,u6,hl4⟩:=xO
 obtain ⟨ir,hr1,hr2,t7,u0⟩:=iF
 refine aB (mI hl hn) ?_
 rintro v w1 ⟨x,L,es,rfl,hL,hQ,k6⟩
 refine ⟨x,rfl,?_⟩
 obtain ⟨n1,n2⟩:=kH hL
 have hx1:=hQ.own
 have p8:=hQ.n
 have hxl:=bA cL (by omega) hx1.rd
 rw [List.length_map] at hxl
 refine ⟨λl' w'=>match l' with | [.sl out,.i _ y]=>∃ (k:Nat),y=(k:Int)/\k<=L.length/\Sh.Own w' out 7 (hcells ((es.take k).flatMap (·.2)))/\(∀ z,out.blk=some z->w1.heap.size<=z)/\((es.take k).flatMap (·.2)).length<=k*1000/\Mod NoB w1 w' | _=>False,λl' _=>match l' with | [.sl _,.i _ y]=>(L.length - y).toNat | _=>0,⟨0,rfl,by omega,bK _ 7,λz hz=>by simp at hz,by simp,Mod.refl _ _⟩,?_⟩
 rintro out y w2 ⟨k,rfl,hk,k4,hz2,u1,k3⟩
 refine aC (λhlt=>?_) λhge=>?_
 ·have hlt:k<L.length:=by have:=of_decide_eq_true hlt; omega
  have p9:k<es.length:=by omega
  obtain ⟨A,ea,q9⟩:=aZ cL (by omega) (hx1.no k3).rd (i:=k) (by simpa using p9)
  rw [List.getElem_map] at q9
  refine ⟨⟨by omega,by omega⟩,?_⟩
  rw [ea]
  refine ⟨es[k].1.1,es[k].1.2,q9,?_⟩
  refine aN (l:=[.string ⟨#[]⟩,.slice none 0 0]) hl1 hl2 rfl λq w3 t6 hb3=>⟨_,rfl,?_⟩
  show aJ _ _ _ _
  refine bU (vs:=[eT es[k].1.1,es[k].1.2.val]) (by kernel_rfl) (by kernel_rfl) rfl hb3 (by simp) (by intro u hu; simp at hu; rcases hu with rfl | rfl <;> rfl) λw4 u2 hb4=>?_
  have hb4:Blk w4 q [eT es[k].1.1,es[k].1.2.val] 64:=hb4
  have hq:=t6.at_
  have h9:Mod NoB w2 w4:=t6.mod.fresh u2.mod λz e=>by have e:z=q:=e; omega
  refine ⟨es[k].1.2,by rw [aO]; exact hb4.rd1 rfl,?_⟩
  obtain ⟨g1,g2⟩:=hQ.e k p9 hlt
  have hkl:=bA Hd.len (by omega) g2.own.rd
  have u7:=bA Hd.len (by omega) k4.rd
  have hn2:=n2 L[k] (List.getElem_mem _)
  have u9:=g2.n
  refine aS fA hr1 hr2 t7 rfl u0 (k4.no h9) ((g2.own.no (k3.tr h9)).rd) (dF Hd.one _) (by omega) (by omega) λx' w5 u3 hlen hblk u4=>⟨x',rfl,?_⟩
  rw [wrap_i64 (e:=(k:Int)+1) (by omega)]
  have q8:Mod (λz=>out.blk=some z) w2 w5:=h9.no u4
  have hs4:=(k3.tr h9).size
  have etk:(es.take (k+1)).flatMap (·.2)=(es.take k).flatMap (·.2)++es[k].2:=by rw [aL p9,List.flatMap_append]; simp
  refine ⟨⟨k+1,by omega,by omega,by rw [etk,hcells,bP]; exact u3,λz hz=>?_,by rw [etk,List.length_append]; omega,k3.fresh q8 λz hz=>hz2 z hz⟩,by (try simp only []); omega⟩
  rcases hblk with e | e
  ·exact hz2 z (by rw [<-e]; exact hz)
  ·rw [e] at hz; cases hz; exact hs4
 ·have hkk:k=L.length:=by have:=of_decide_eq_false hge; omega
  subst hkk
  rw [<-p8,List.take_length] at k4
  obtain ⟨f1,f2⟩:=wL (P:=bH w2) p8 λi a b=>⟨(hQ.e i a b).2.n,λj c d=>((hQ.e i a b).2.e j c d).no k3⟩
  have k5 : ∀ x∈es.flatMap (·.2),(∀ z,x.on z->w.heap.size<=z/\z<w1.heap.size)/\fN w2 x:=λx hx=>by
   obtain ⟨e,he,hx⟩:=List.mem_flatMap.1 hx
   obtain ⟨i,hi,rfl⟩:=List.mem_iff_getElem.1 he
   have g:=(hQ.e i hi (by omega)).2
   exact ⟨λz hz=>⟨(g.on x hx z hz).1,g.olt x hx z hz⟩,(g.ho x hx).no k3⟩
  have u5:(pieces (es.flatMap (·.2))).Pairwise Dis:=by
   refine List.Pairwise.sublist ?_ hQ.p
   clear hQ p8 f1 f2 k5 k4 hx1 hxl u1
   induction es with
   | nil=>exact .slnil
   | cons e es ih=>
     rw [List.flatMap_cons,iO]
     show (pieces e.2++_).Sublist ((e.1.2 :: pieces e.2)++sA es)
     exact (List.sublist_cons_self _ _).append ih
  exact ⟨out,L,es.flatMap (·.2),rfl,hL,⟨⟨k4,λz hz=>by have:=hz2 z hz; have:=k6.size; omega,f1,f2,λx hx z hz=>((k5 x hx).1 z hz).1,λx hx=>(k5 x hx).2⟩,u5,w1.heap.size,hz2,k6.size,λx hx z hz=>((k5 x hx).1 z hz).2⟩,k6.tr k3⟩
theorem qAZ {recs:Slc} {ls:List Rc} (hl:bO w.heap.size w recs ls) (hn:ls.length<=1000) :
 Calls prog 11 #[.slice recs.a recs.len recs.cap] w (Ret λv w'=>∃ o L,v=o.val/\dO ls L/\qEO w.heap.size w' o (L.flatMap (·.2))/\Mod NoB w w'):=
 oW (pV hl hn) λv w' ⟨o,L,hs,e,hL,hA,hm⟩=>⟨o,L,e,hL,hA.s,hm⟩
end
end Go.Proofs.YthaefcgpbccmbaaGreatDoor
end
section
namespace Go.Proofs.YthaefcgpbccmbaaGreatDoor
open Go Go.Sh
open Go.Proofs.Tryz
def jFJ (a b:Slc) (w:World) (R:RW):Prop:=
 aE ((a.len:Int) != (b.len:Int)) (zF R false w) (∃ (inv:zT) (mu:zU),inv [.i .i64 0] w/\(∀ i:Int,∀ w1:World,inv [.i .i64 i] w1->aE (decide (i<a.len)) (∃ sx:zP,sx w1.drew/\(zB i a.len/\aA a.a λa1=>(zB i b.len/\aA b.a λa2=>∃ xa:zY,∃ xb:Slc,(∀ w',sx w'->Rd w' (a1.add (i.toNat*2)) [.string ⟨xa.toArray⟩,zS xb])/\∃ xa1:zY,∃ xb1:Slc,(∀ w',sx w'->Rd w' (a2.add (i.toNat*2)) [.string ⟨xa1.toArray⟩,zS xb1])/\((aD prog 32 [.agg #[.string ⟨xa.toArray⟩,zS xb],.agg #[.string ⟨xa1.toArray⟩,zS xb1]] w1.drew (aG R) λv w2=>∃ x:Bool,v=(.bool x)/\aE (!x) (zF R false w2) ((inv [.i .i64 (zW (i+1))] w2/\mu [.i .i64 (zW (i+1))] w2<mu [.i .i64 i] w1)))/\True)))) (zF R true w1)))
theorem qYW (a b:Slc) {w:World} {R:RW} (h9:jFJ a b w R):Calls prog 12 #[zS a,zS b] w R:=
 zC (q0 .z (q0 (q0 .z (.cond (q0 .z .z) .z)) (q0 (q0 .z (.block none (.loop [(5,(.i .i64))] (q0 (q0 .z (.cond .z .z)) (q0 (.block none (q0 (.draw 1 (.take 0 (.take 1 (.take 2 (.take 4 (.take 5 (.take 6 (.take 3 (.take 7 (.all [(8,(.take 9 .done))])))))))))) (.cond (q0 .z .z) .z))) .z))))) (q0 .z .z)))) func12 [.sl a,.sl b] h9
def jGM (a b:Slc) (w:World) (R:RW):Prop:=
 aE ((a.len:Int) != (b.len:Int)) (zF R false w) (∃ (inv:zT) (mu:zU),inv [.i .i64 0] w/\(∀ i:Int,∀ w1:World,inv [.i .i64 i] w1->aE (decide (i<a.len)) (∃ sx:zP,sx w1.drew/\(zB i a.len/\aA a.a λa1=>(zB i b.len/\aA b.a λa2=>∃ xa:zY,∃ xb xc:Int,∃ xd:Slc,∃ xe:Bool,∃ xf xg:Slc,(∀ w',sx w'->Rd w' (a1.add (i.toNat*7)) (yR xa xb xc xd xe xf xg))/\∃ xa1:zY,∃ xb1 xc1:Int,∃ xd1:Slc,∃ xe1:Bool,∃ xf1 xg1:Slc,(∀ w',sx w'->Rd w' (a2.add (i.toNat*7)) (yR xa1 xb1 xc1 xd1 xe1 xf1 xg1))/\((aD prog 22 [zR xa xb xc xd xe xf xg,zR xa1 xb1 xc1 xd1 xe1 xf1 xg1] w1.drew (aG R) λv w2=>∃ x:Bool,v=(.bool x)/\aE (!x) (zF R false w2) ((inv [.i .i64 (zW (i+1))] w2/\mu [.i .i64 (zW (i+1))] w2<mu [.i .i64 i] w1)))/\True)))) (zF R true w1)))
theorem jCP (a b:Slc) {w:World} {R:RW} (h9:jGM a b w R):Calls prog 14 #[zS a,zS b] w R:=
 zC (q0 .z (q0 (q0 .z (.cond (q0 .z .z) .z)) (q0 (q0 .z (.block none (.loop [(5,(.i .i64))] (q0 (q0 .z (.cond .z .z)) (q0 (.block none (q0 (.draw 1 (.take 0 (.take 1 (.take 2 (.take 4 (.take 5 (.take 6 (.take 3 (.take 7 (.all [(8,(.take 9 .done))])))))))))) (.cond (q0 .z .z) .z))) .z))))) (q0 .z .z)))) func14 [.sl a,.sl b] h9
def jGD (aa:zY) (ab ac:Int) (ad:Slc) (ae:Bool) (af ag:Slc) (ba:zY) (bb bc:Int) (bd:Slc) (be:Bool) (bf bg:Slc) (w:World) (R:RW):Prop:=
 aH prog (Instr.box 40 (zR aa ab ac ad ae af ag)) w λv w1=>∃ a:zO,v=(.pointer a)/\aH prog (Instr.box 40 (zR ba bb bc bd be bf bg)) w1 λv1 w2=>∃ b:zO,v1=(.pointer b)/\aA a λa1=>∃ x:zY,Rd w2 (a1.add 0) [.string ⟨x.toArray⟩]/\aA b λa2=>∃ x1:zY,Rd w2 (a2.add 0) [.string ⟨x1.toArray⟩]/\aE (x==x1) (aA a λa3=>∃ x2:Int,Rd w2 (a3.add 1) [.int .i64 x2]/\aA b λa4=>∃ x3:Int,Rd w2 (a4.add 1) [.int .i64 x3]/\aE (x2==x3) (aA a λa5=>∃ x4:Int,Rd w2 (a5.add 2) [.int .i64 x4]/\aA b λa6=>∃ x5:Int,Rd w2 (a6.add 2) [.int .i64 x5]/\aE (x4==x5) (aA a λa7=>∃ x6:Slc,Rd w2 (a7.add 3) [zS x6]/\aA b λa8=>∃ x7:Slc,Rd w2 (a8.add 3) [zS x7]/\aD prog 42 [zS x6,zS x7] w2 (aG R) λv2 w3=>∃ x8:Bool,v2=(.bool x8)/\aE x8 (aA a λa9=>∃ x9:Bool,Rd w3 (a9.add 4) [.bool x9]/\aA b λa10=>∃ x10:Bool,Rd w3 (a10.add 4) [.bool x10]/\bB prog (do eqGuard .eql 4 (.tmp 33) (.tmp 35) (.bool x9) (.bool x10); binOp .eql 4 (.bool x9) (.bool x10)) λv3=>∃ x11:Bool,v3=(.bool x11)/\aE x11 (aA a λa11=>∃ x12:Slc,Rd w3 (a11.add 5) [zS x12]/\aA b λa12=>∃ x13:Slc,Rd w3 (a12.add 5) [zS x13]/\aD prog 43 [zS x12,zS x13] w3 (aG R) λv4 w4=>∃ x14:Bool,v4=(.bool x14)/\aE x14 (aA a λa13=>∃ x15:Slc,Rd w4 (a13.add 6) [zS x15]/\aA b λa14=>∃ x16:Slc,Rd w4 (a14.add 6) [zS x16]/\aD prog 43 [zS x15,zS x16] w4 (aG R) λv5 w5=>∃ x17:Bool,v5=(.bool x17)/\R (.returned (.bool x17)) w5) (zF R false w4)) (zF R false w3)) (zF R false w3)) (zF R false w2)) (zF R false w2)) (zF R false w2)
theorem qZG (aa:zY) (ab ac:Int) (ad:Slc) (ae:Bool) (af ag:Slc) (ba:zY) (bb bc:Int) (bd:Slc) (be:Bool) (bf bg:Slc) {w:World} {R:RW} (h9:jGD aa ab ac ad ae af ag ba bb bc bd be bf bg w R):Calls prog 22 #[zR aa ab ac ad ae af ag,zR ba bb bc bd be bf bg] w R:=
 zC (q0 .z (q0 .z .z)) func22 [.agg [.s aa,.i .i64 ab,.i .i64 ac,.sl ad,.b ae,.sl af,.sl ag],.agg [.s ba,.i .i64 bb,.i .i64 bc,.sl bd,.b be,.sl bf,.sl bg]] h9
def jGC (aa:zY) (ab:Slc) (ba:zY) (bb:Slc) (w:World) (R:RW):Prop:=
 aH prog (Instr.box 64 (.agg #[.string ⟨aa.toArray⟩,zS ab])) w λv w1=>∃ a:zO,v=(.pointer a)/\aH prog (Instr.box 64 (.agg #[.string ⟨ba.toArray⟩,zS bb])) w1 λv1 w2=>∃ b:zO,v1=(.pointer b)/\aA a λa1=>∃ x:zY,Rd w2 (a1.add 0) [.string ⟨x.toArray⟩]/\aA b λa2=>∃ x1:zY,Rd w2 (a2.add 0) [.string ⟨x1.toArray⟩]/\aE (x==x1) (aA a λa3=>∃ x2:Slc,Rd w2 (a3.add 1) [zS x2]/\aA b λa4=>∃ x3:Slc,Rd w2 (a4.add 1) [zS x3]/\aD prog 14 [zS x2,zS x3] w2 (aG R) λv2 w3=>∃ x4:Bool,v2=(.bool x4)/\R (.returned (.bool x4)) w3) (zF R false w2)
theorem qZU (aa:zY) (ab:Slc) (ba:zY) (bb:Slc) {w:World} {R:RW} (h9:jGC aa ab ba bb w R):Calls prog 32 #[.agg #[.string ⟨aa.toArray⟩,zS ab],.agg #[.string ⟨ba.toArray⟩,zS bb]] w R:=
 zC (q0 .z (q0 .z .z)) func32 [.agg [.s aa,.sl ab],.agg [.s ba,.sl bb]] h9
def jGN (a b:Slc) (w:World) (R:RW):Prop:=
 aE ((a.len:Int) != (b.len:Int)) (zF R false w) (∃ (inv:zT) (mu:zU),inv [.i .i64 0] w/\(∀ i:Int,∀ w1:World,inv [.i .i64 i] w1->aE (decide (i<a.len)) ((zB i a.len/\aA a.a λa1=>(zB i b.len/\aA b.a λa2=>∃ xa xb:Int,Rd w1.drew (a1.add (i.toNat*2)) [.int .i64 xa,.int .i64 xb]/\∃ xa1 xb1:Int,Rd w1.drew (a2.add (i.toNat*2)) [.int .i64 xa1,.int .i64 xb1]/\bB prog (do eqGuard .neq 52 (.tmp 20) (.tmp 24) (.agg #[.int .i64 xa,.int .i64 xb]) (.agg #[.int .i64 xa1,.int .i64 xb1]); binOp .neq 52 (.agg #[.int .i64 xa,.int .i64 xb]) (.agg #[.int .i64 xa1,.int .i64 xb1])) λv=>∃ x:Bool,v=(.bool x)/\aE x (zF R false w1.drew) ((inv [.i .i64 (zW (i+1))] w1.drew/\mu [.i .i64 (zW (i+1))] w1.drew<mu [.i .i64 i] w1))))) (zF R true w1)))
theorem jAR (a b:Slc) {w:World} {R:RW} (h9:jGN a b w R):Calls prog 42 #[zS a,zS b] w R:=
 zC (q0 .z (q0 (q0 .z (.cond (q0 .z .z) .z)) (q0 (q0 .z (.block none (.loop [(5,(.i .i64))] (q0 (q0 .z (.cond .z .z)) (q0 (.block none (q0 (.draw 2 (.take 0 (.take 1 (.take 2 (.take 4 (.take 5 (.take 6 (.take 3 (.take 7 (.take 8 .done)))))))))) (.cond (q0 .z .z) .z))) .z))))) (q0 .z .z)))) func42 [.sl a,.sl b] h9
end Go.Proofs.YthaefcgpbccmbaaGreatDoor
end
