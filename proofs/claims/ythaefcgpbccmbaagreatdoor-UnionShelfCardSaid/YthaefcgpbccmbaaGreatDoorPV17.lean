/- The forms of the translated functions,their contracts and the plain laws behind them,put together by a program. -/
import Derived.Test.YthaefcgpbccmbaaGreatDoorPV16
import Derived.Shelf.SlSortCmp.WholeK
import Derived.Ground.SlsfProg
import Derived.Test.YthaefcgpbccmbaaGreatDoorProg
set_option linter.unusedSimpArgs false
set_option linter.unusedVariables false
set_option maxRecDepth 100000
set_option maxHeartbeats 4000000
section
namespace Go.Proofs
open Go.Shelf
def Tryz.sortItem_ren:Go.Shelf.Ren:=⟨fun | 6=>202 | 15=>108 | 14=>269 | 28=>180 | 29=>181 | 20=>325 | 21=>326 | 22=>327 | 23=>328 | 24=>329 | 25=>330 | 26=>331 | 27=>332 | 46=>362 | 47=>237 | 48=>238 | 49=>363 | 50=>364 | 57=>379 | n=>n,fun | 22=>175 | 24=>302 | 25=>305 | 3=>3 | 39=>166 | 0=>0 | 53=>186 | 55=>188 | 4=>4 | 46=>274 | 45=>273 | 50=>264 | 5=>5 | 9=>9 | 66=>342 | 70=>346 | 76=>392 | 77=>393 | n=>n,fun | n=>n⟩
theorem Tryz.sortItem:Go.Proofs.SlLaysF0.n6 Tryz.prog Tryz.sortItem_ren:={
 mixed:=by kernel_rfl
 f6:=⟨Tryz.f202.name,by decide,Tryz.func202.trans (congrArg some (by kernel_rfl))⟩
 f14:=⟨Tryz.f269.name,by decide,Tryz.func269.trans (congrArg some (by kernel_rfl))⟩
 f15:=Tryz.func108.trans (congrArg some (by kernel_rfl))
 f20:=⟨Tryz.f325.name,by decide,Tryz.func325.trans (congrArg some (by kernel_rfl))⟩
 f21:=⟨Tryz.f326.name,by decide,Tryz.func326.trans (congrArg some (by kernel_rfl))⟩
 f22:=⟨Tryz.f327.name,by decide,Tryz.func327.trans (congrArg some (by kernel_rfl))⟩
 f23:=⟨Tryz.f328.name,by decide,Tryz.func328.trans (congrArg some (by kernel_rfl))⟩
 f24:=⟨Tryz.f329.name,by decide,Tryz.func329.trans (congrArg some (by kernel_rfl))⟩
 f25:=⟨Tryz.f330.name,by decide,Tryz.func330.trans (congrArg some (by kernel_rfl))⟩
 f26:=⟨Tryz.f331.name,by decide,Tryz.func331.trans (congrArg some (by kernel_rfl))⟩
 f27:=⟨Tryz.f332.name,by decide,Tryz.func332.trans (congrArg some (by kernel_rfl))⟩
 f28:=Tryz.func180.trans (congrArg some (by kernel_rfl))
 f29:=Tryz.func181.trans (congrArg some (by kernel_rfl))
 f46:=⟨Tryz.f362.name,by decide,Tryz.func362.trans (congrArg some (by kernel_rfl))⟩
 f47:=Tryz.func237.trans (congrArg some (by kernel_rfl))
 f48:=Tryz.func238.trans (congrArg some (by kernel_rfl))
 f49:=⟨Tryz.f363.name,by decide,Tryz.func363.trans (congrArg some (by kernel_rfl))⟩
 f50:=⟨Tryz.f364.name,by decide,Tryz.func364.trans (congrArg some (by kernel_rfl))⟩
 f57:=⟨Tryz.f379.name,by decide,Tryz.func379.trans (congrArg some (by kernel_rfl))⟩
 t0:=Tryz.underlying0
 a0:=Tryz.isAgg0
 z0:=Tryz.sizeOf0
 v0:=Tryz.zeroValue0
 t3:=Tryz.underlying3
 a3:=Tryz.isAgg3
 z3:=Tryz.sizeOf3
 v3:=Tryz.zeroValue3
 t4:=Tryz.underlying4
 a4:=Tryz.isAgg4
 z4:=Tryz.sizeOf4
 v4:=Tryz.zeroValue4
 t5:=Tryz.underlying5
 a5:=Tryz.isAgg5
 z5:=Tryz.sizeOf5
 v5:=Tryz.zeroValue5
 t9:=Tryz.underlying9
 a9:=Tryz.isAgg9
 z9:=Tryz.sizeOf9
 v9:=Tryz.zeroValue9
 t22:=Tryz.underlying175
 a22:=Tryz.isAgg175
 z22:=Tryz.sizeOf175
 v22:=Tryz.zeroValue175
 t25:=Tryz.underlying305
 a25:=Tryz.isAgg305
 z25:=Tryz.sizeOf305
 v25:=Tryz.zeroValue305
 t39:=Tryz.underlying166
 a39:=Tryz.isAgg166
 z39:=Tryz.sizeOf166
 v39:=Tryz.zeroValue166
 t45:=Tryz.underlying273
 a45:=Tryz.isAgg273
 z45:=Tryz.sizeOf273
 v45:=Tryz.zeroValue273
 t46:=Tryz.underlying274
 a46:=Tryz.isAgg274
 z46:=Tryz.sizeOf274
 v46:=Tryz.zeroValue274
 t50:=Tryz.underlying264
 a50:=Tryz.isAgg264
 z50:=Tryz.sizeOf264
 v50:=Tryz.zeroValue264
 t53:=Tryz.underlying186
 a53:=Tryz.isAgg186
 z53:=Tryz.sizeOf186
 v53:=Tryz.zeroValue186
 t55:=Tryz.underlying188
 a55:=Tryz.isAgg188
 z55:=Tryz.sizeOf188
 v55:=Tryz.zeroValue188
 t66:=Tryz.underlying342
 a66:=Tryz.isAgg342
 z66:=Tryz.sizeOf342
 v66:=Tryz.zeroValue342
 t70:=Tryz.underlying346
 a70:=Tryz.isAgg346
 z70:=Tryz.sizeOf346
 v70:=Tryz.zeroValue346
 t76:=Tryz.underlying392
 a76:=Tryz.isAgg392
 z76:=Tryz.sizeOf392
 v76:=Tryz.zeroValue392
 t77:=Tryz.underlying393
 a77:=Tryz.isAgg393
 z77:=Tryz.sizeOf393
 v77:=Tryz.zeroValue393}
end Go.Proofs
end
section
namespace Go.Proofs.YthaefcgpbccmbaaGreatDoor
open Go Go.Sh Go.Sort
open Go.Proofs.Tryz
def PI (w:World) (S:Nat→Prop):Type:={p:It×Rc // gV w p.1 p.2∧∀ z,p.1.on z→¬ S z}
section
variable {w:World} {b:Nat} {S:Nat→Prop}
def encI (p:PI w S):List Value:=p.1.1.cells
theorem fR (p:PI w S):(encI p).length=8:=rfl
def cfI (p q:PI w S):Int:=qFV p.1.2 q.1.2
theorem swoI:SWO (ltOf (cfI (w:=w) (S:=S))) where
 irrefl x:=by unfold ltOf cfI; rw [decide_eq_false_iff_not,o9]; exact qAP _
 trans x y z h1 h2:=by
  unfold ltOf cfI at *
  rw [decide_eq_true_iff,o9] at *
  exact qEI h1 h2
 ntrans x y z h1 h2:=by
  unfold ltOf cfI at *
  rw [decide_eq_false_iff_not,o9] at *
  exact zO h1 h2
theorem jS {α:Type} [Inhabited α] {f:α→List Value} {k:Nat} (hk : ∀ x,(f x).length=k) (d:Array α):flatK f k d=(aW f d.toList).toArray:=by
 refine ext_get! (by simp [cH hk]) fun t ht=>?_
 have ht:t<d.size*k:=by simpa using ht
 have k0:0<k:=by rcases Nat.eq_zero_or_pos k with h | h
                 ·subst h; simp at ht
                 ·exact h
 have hd:t / k<d.size:=Nat.div_lt_of_lt_mul (by rwa [Nat.mul_comm])
 have hm:t % k<k:=Nat.mod_lt _ k0
 have e:t / k*k+t % k=t:=Nat.div_add_mod' t k
 rw [get_flatK _ _ _ t ht]
 have hg:=nY hk (l:=d.toList) (i:=t / k) (j:=t % k) (by simpa using hd) hm
 rw [e] at hg
 have h1:(f d[t / k]!)[t % k]? = some (f d[t / k]!)[t % k]!:=by
  rw [List.getElem?_eq_getElem (by rw [hk]; exact hm),getElem!_pos (f d[t / k]!) (t % k) (by rw [hk]; exact hm)]
 have h2:d[t / k]! = d.toList[t / k]'(by simpa using hd):=by rw [getElem!_pos d _ hd]; simp
 rw [h2] at h1 ⊢
 rw [h1] at hg
 rw [Array.getElem!_eq_getD,Array.getD_eq_getD_getElem?]
 simp only [List.getElem?_toArray,hg,Option.getD_some]
theorem zM {w w':World} (h:jV w w') : ∃ q os,w'=grow (w.drewN q) os:=by
 obtain ⟨⟨h1,h2,h3,h4,h5⟩,h6⟩:=h
 refine ⟨w'.drawn - w.drawn,w'.heap.extract w.heap.size w'.heap.size,?_⟩
 have e:w'.heap=w.heap++w'.heap.extract w.heap.size w'.heap.size:=by
  apply Array.ext_getElem?
  intro i
  by_cases hi:i<w.heap.size
  ·rw [h5 i hi fun h=>h,Array.getElem?_append_left hi]
  ·rw [Array.getElem?_append_right (by omega),Array.getElem?_extract]
   by_cases h7:i<w'.heap.size
   ·rw [if_pos (by omega)]; congr 1; omega
   ·rw [if_neg (by omega),Array.getElem?_eq_none (by omega)]
 cases w'
 simp only [grow,World.drewN] at *
 subst h1 h2 h3
 rw [← e]
 congr 1
 omega
variable [Inhabited (PI w S)]
theorem sA {o n:Nat} {d:Array (PI w S)} {os:Array Obj} : Mod (fun z=>z=b) w (sortWorldK encI 8 w b o n d os):=by
 unfold sortWorldK
 refine ⟨rfl,rfl,rfl,?_,fun x hx hn=>?_⟩
 ·rw [size_grow,size_putRowK]; exact Nat.le_add_right _ _
 ·unfold putRowK putRow mapBlock grow
  show (_++os)[x]? = _
  rw [Array.getElem?_append_left (by simpa [ahead] using hx),Array.getElem?_modify,if_neg (Ne.symm hn)]
  rfl
theorem qCK {v:Slc} {o:Nat} {l:List Value} {T:TypeId} {n:Nat} {d:Array (PI w S)} {os:Array Obj} (ha:v.a=some ⟨b,o,none⟩) (hb:Blk w b l T) (hl:o+v.cap*8≤l.length) (hc:v.len≤v.cap) (hd:d.size=v.len):Sh.Own (sortWorldK encI 8 w b o n d os) v 8 (aW encI d.toList):=by
 have hf:(aW encI d.toList).length=v.len*8:=by rw [cH fR]; simp [hd]
 obtain ⟨fr,h1,h2⟩:=hb
 have hlt:=aQ h1
 refine ⟨hf,hc,.inr ⟨b,o,(putCells id o (flatK encI 8 d) l.toArray).toList,T,ha,⟨fr,?_,?_⟩,?_,?_⟩⟩
 ·unfold sortWorldK putRowK putRow mapBlock grow
  show (_++os)[b]? = _
  rw [Array.getElem?_append_left (by simpa [ahead] using hlt),Array.getElem?_modify,if_pos rfl]
  show (w.heap[b]?).map _=_
  rw [h1]; rfl
 ·simpa [putCells] using h2
 ·simpa [putCells] using hl
 ·have h8:v.len*8≤v.cap*8:=Nat.mul_le_mul_right 8 hc
  apply List.ext_getElem?
  intro j
  rw [List.getElem?_take]
  by_cases hj:j<v.len*8
  ·rw [if_pos hj,List.getElem?_drop,Array.getElem?_toList]
   simp only [putCells,Array.getElem?_mapIdx,size_flatK,hd,List.getElem?_toArray]
   rw [List.getElem?_eq_getElem (by omega),Option.map_some,if_pos ⟨by omega,by omega⟩,jS fR]
   rw [List.getElem?_eq_getElem (by omega)]
   simp only [Nat.add_sub_cancel_left,id]
   rw [getElem!_pos _ j (by simpa using (by omega:j<(aW encI d.toList).length))]
   simp
  ·rw [if_neg hj,List.getElem?_eq_none (by omega)]
theorem qQ8 {v:Slc} {o:Nat} (hS:S b) (ps:List (PI w S)) (ha:v.a=some ⟨b,o,none⟩) (hv:Sh.Own w v 8 (aW encI ps)) (hp:0<ps.length) (hn:ps.length≤1000000) :
 Calls prog 202 #[.slice v.a v.len v.cap,.func (.func 203) #[] #[]] w (Ret fun u w'=>u = .tuple #[]∧∃ ps':List (PI w S),ps'.Perm ps∧ps'.Pairwise (fun p q=>¬ ltS q.1.2 p.1.2)∧Sh.Own w' v 8 (aW encI ps')∧Mod (fun z=>z=b) w w'):=by
 have hvl:ps.length=v.len:=bI fR (by omega) hv.rd
 have hc:=hv.2.1
 rcases hv.owned with ⟨h0,h0',_⟩ | ⟨hcp,b',o',l,T,e1,e2,e3,e4⟩
 ·omega
 ·rw [ha] at e1; cases e1
  have h8:v.len*8≤v.cap*8:=Nat.mul_le_mul_right 8 hc
  have hH:HoldsK encI 8 w b o ps.toArray:=by
   unfold HoldsK
   rw [jS fR]
   intro j hj
   have hj:j<(aW encI ps).length:=by simpa using hj
   have hj8:j<v.len*8:=by rw [cH fR] at hj; rw [← hvl]; exact hj
   have hg:l[o+j]? = some (aW encI ps)[j]:=by
    have:=congrArg (fun m=>m[j]?) e4
    simp only [List.getElem?_take,List.getElem?_drop,if_pos hj8] at this
    rw [this,List.getElem?_eq_getElem hj]
   refine ⟨?_,?_⟩
   ·rw [e2.cell,hg,getElem!_pos _ j (by simpa using hj)]; simp
   ·obtain ⟨fr,h1,h2⟩:=e2
    simp only [World.frozen?,h1,Bool.and_eq_false_iff,decide_eq_false_iff_not]
    omega
  have eg : ∀ args w,(callFunc 203 args).run prog w = .ok (.enter 203 args) w:=enters_of func203 (by kernel_rfl) rfl
  have hcmp:CmpLays prog 203 #[] encI 8 cfI b o ps.toArray.size w:=fun m os dk hs x y=>by
   have hm:=sA (w:=w) (b:=b) (S:=S) (o:=o) (n:=m) (d:=dk) (os:=os)
   refine (qDS (i:=x.1.1) (j:=y.1.1) (x.2.1.mod hm fun z hz e=>x.2.2 z hz (e ▸ hS)) (y.2.1.mod hm fun z hz e=>y.2.2 z hz (e ▸ hS))).mono fun e w' h=>?_
   match e,h with
   | .returned u,⟨h1,h2⟩=>exact ⟨by rw [h1]; rfl,zM h2⟩
  have hcon:=AnyQ.slices_SortFunc Tryz.sortItem 8 Tryz.isAgg302 Tryz.sizeOf302 encI (fun _=>rfl) (fun x=>It.one x.1.1) cfI swoI 203 #[] b o v.cap ps.toArray w eg hcmp hH e2.lt (by simp; omega)
  have es:(ps.toArray.size:Int)=v.len:=by simp [hvl]
  have es2:ps.toArray.size=v.len:=by simp [hvl]
  rw [es2] at hcon
  rw [ha]
  refine hcon.mono ?_
  rintro e w' ⟨rfl,d',n,os,hpm,hso,rfl⟩
  obtain ⟨q1,q2,q3⟩:=hpm
  have hs:d'.size=v.len:=by rw [q1,es2]
  rw [← es2,← q1] at hso
  rw [← es2] at q3
  have x1:(d'.extract 0 ps.toArray.size).toList=d'.toList:=by rw [← q1]; simp
  rw [x1] at q3
  refine ⟨rfl,d'.toList,by simpa using q3,List.pairwise_iff_getElem.2 fun i j hi hj hij=>?_,qCK ha e2 e3 hc hs,sA⟩
  have hi:i<d'.size:=by simpa using hi
  have hj:j<d'.size:=by simpa using hj
  have:=hso i j (Nat.zero_le _) hij hj
  unfold ltOf cfI at this
  rw [decide_eq_false_iff_not,o9,getElem!_pos d' i hi,getElem!_pos d' j hj] at this
  simp only [Array.getElem_toList]
  exact this
end
end Go.Proofs.YthaefcgpbccmbaaGreatDoor
end
section
namespace Go.Proofs.YthaefcgpbccmbaaGreatDoor
open Go Go.Sh
open Go.Proofs.Tryz
def it0:List Value:=It.cells ⟨⟨[],0,0,⟨none,0,0⟩,false,⟨none,0,0⟩,⟨none,0,0⟩⟩,⟨none,0,0⟩⟩
section
variable {w:World}
theorem uJ {T E:TypeId} {p:Nat} {l:List Value} {i:It} {v:Value} {K:World→Prop} (hi:(prog.info? T).isSome=true) (hsz:bJ prog T=8) (hb:Blk w p l E) (hl:l.length=8) (hv:v=i.val) (hk : ∀ w',Tch w w' p→Blk w' p i.cells E→K w'):aJ prog (storeVar T ⟨p,0,none⟩ v) w K:=by
 subst hv
 refine bO (vs:=i.cells) hi hsz rfl hb (by rw [It.len]; omega) (It.one i) fun w' ht hb'=>hk w' ht ?_
 have e:putAt l 0 i.cells=i.cells:=by simp [putAt,It.len,hl]
 rwa [e] at hb'
theorem qBF {α β:Type} (f:β→List Value) (g:α→β) (l:List α):aW (fun a=>f (g a)) l=aW f (l.map g):=by
 simp [aW,List.flatMap_map]
theorem kG {S:Nat→Prop} (l:List (PI w S)):aW encI l=dC (l.map fun p=>p.1.1):=qBF It.cells (fun p:PI w S=>p.1.1) l
theorem qST {B rb:Nat} {T:TypeId} {x:Slc} {rs:List Rc} (hR:oO B w rb T x rs) (hr : ∀ r∈rs,r.right=true) (h0:0<rs.length) (hn:rs.length≤100000) :
 Calls prog 122 #[.pointer (some ⟨rb,0,none⟩)] w (Ret fun v w'=>v = .tuple #[]∧∃ x' out,oO B w' rb T x' out∧bX rs out∧Mod (fun z=>B≤z) w w'):=by
 refine qJJ _ ?_
 unfold qPI
 obtain ⟨ii,hi1,hi2,hi3,hi4x⟩:=wT
 obtain ⟨hB,is,hb,ho,hz,hl,hI⟩:=hR
 have hvl:=bI It.len (by omega) ho.rd
 have hc:=ho.2.1
 obtain ⟨b,o,ha⟩ : ∃ b o,x.a=some ⟨b,o,none⟩:=by
  rcases ho.owned with ⟨h1,h2,_⟩ | ⟨_,b,o,_,_,e1,_⟩
  ·omega
  ·exact ⟨b,o,e1⟩
 have hxb:x.blk=some b:=Slc.blk_of ha (by omega)
 have hbz:=hz b hxb
 let S:Nat→Prop:=fun z=>z=b∨z=rb
 let ps:List (PI w S):=List.ofFn fun i:Fin is.length=>⟨(is[i.1],rs[i.1]'(by have:=i.2; omega)),(hI i.1 i.2 (by have:=i.2; omega)).1,fun z hz e=>e.elim (fun e=>((hI i.1 i.2 (by have:=i.2; omega)).2 z hz).2 (by rw [e]; exact hxb)) fun e=>((hI i.1 i.2 (by have:=i.2; omega)).2 z hz).1 e⟩
 have pl:ps.length=is.length:=List.length_ofFn
 have pe : ∀ i (h:i<is.length) (h':i<rs.length),(ps[i]'(by omega)).1=(is[i],rs[i]):=fun i h h'=>congrArg Subtype.val (List.getElem_ofFn (by rw [List.length_ofFn]; exact h))
 have p1:(ps.map fun p=>p.1.1)=is:=by
  apply List.ext_getElem (by rw [List.length_map,pl])
  intro i a c
  rw [List.getElem_map,pe i c (by omega)]
 have p2:(ps.map fun p=>p.1.2)=rs:=by
  apply List.ext_getElem (by rw [List.length_map,pl,hl])
  intro i a c
  rw [List.getElem_map,pe i (by omega) c]
 haveI:Inhabited (PI w S):=⟨ps[0]'(by omega)⟩
 refine ⟨x,by rw [aL,aL]; exact hb.rd1 rfl,?_⟩
 refine aC (qQ8 (S:=S) (b:=b) (.inl rfl) ps ha (by rw [kG,p1]; exact ho) (by omega) (by omega)) ?_
 rintro v w1 ⟨rfl,ps',hp,hs,ho1,hm1⟩
 have pl':ps'.length=is.length:=by rw [hp.length_eq,pl]
 have hb1:=hb.mod hm1 fun e=>hbz.2 e.symm
 refine ⟨rfl,x,by rw [aL,aL]; exact hb1.rd1 rfl,?_⟩
 refine aC (qCL (is:=ps'.map fun p=>p.1.1) (by rw [← kG]; exact ho1) (by rw [List.length_map]; omega)) ?_
 rintro v w2 ⟨m,rfl,ho2,hm2⟩
 refine ⟨⟨x.a,m,x.cap⟩,rfl,?_⟩
 have hb2:=hb1.mod hm2 fun e=>hbz.2 (Option.some.inj (hxb.symm.trans e))
 show aJ _ _ _ _
 rw [aL,aL]
 refine aS (by kernel_rfl) (by kernel_rfl) rfl hb2 (by simp) fun w3 ht3 hb3=>?_
 let qs:List (PI w S):=cpt (fun p q=>eqI p.1.1 q.1.1) ps'
 have q1:(qs.map fun p=>p.1.1)=cpt eqI (ps'.map fun p=>p.1.1):=qAJ (fun p:PI w S=>p.1.1) eqI ps'
 have q2:(qs.map fun p=>p.1.2)=cpt eqR (ps'.map fun p=>p.1.2):=by
  have e:(fun p q:PI w S=>eqI p.1.1 q.1.1)=fun p q=>eqR p.1.2 q.1.2:=by
   funext p q
   show (wX p.1.1.hd q.1.1.hd==0)=(wG p.1.2 q.1.2==0)
   rw [uD p.2.1.hd q.2.1.hd]
  show (cpt _ ps').map _=_
  rw [e]
  exact qAJ (fun p:PI w S=>p.1.2) eqR ps'
 have hrb3:rb<w3.heap.size:=hb3.lt
 have ho3:Sh.Own w3 ⟨x.a,m,x.cap⟩ 8 (aW encI qs):=by
  rw [kG,q1]
  refine ho2.mod ht3.mod fun z hz e=>?_
  have hz':x.blk=some z:=Slc.blk_le hz (Nat.le_refl _)
  have e:z=rb:=e
  rw [hxb] at hz'; cases hz'
  exact hbz.2 e
 have hmq:qs.length=m:=bI fR (by omega) ho3.rd
 subst hmq
 have hqn:qs.length≤x.cap:=ho3.2.1
 have hq3 : ∀ p:PI w S,gV w3 p.1.1 p.1.2:=fun p=>((p.2.1.mod hm1 fun z hz e=>p.2.2 z hz (.inl e)).mod hm2 fun z hz e=>p.2.2 z hz (.inl (Option.some.inj (e.symm.trans hxb)))).mod ht3.mod fun z hz e=>p.2.2 z hz (.inr e)
 have hlow : ∀ (p:PI w S) z,p.1.1.on z→z<w3.heap.size:=fun p z hz=>(hq3 p).low z hz
 have hqc:qs.length≤100000:=by
  have h1:=congrArg List.length q1
  rw [List.length_map] at h1
  have h2:(cpt (fun p q:PI w S=>eqI p.1.1 q.1.1) ps').length≤ps'.length:=by
   have : ∀ (l:List (PI w S)) p,(iZ (fun p q:PI w S=>eqI p.1.1 q.1.1) p l).length≤l.length:=by
    intro l
    induction l with
    | nil=>intro p; simp [iZ]
    | cons c l ih=>intro p; simp only [iZ,List.length_append,List.length_cons]; have:=ih c; split <;> simp <;> omega
   cases ps' with
   | nil=>simp [cpt]
   | cons a l=>simp only [cpt,List.length_cons]; have:=this l a; omega
  have h3:qs.length≤ps'.length:=h2
  omega
 refine ⟨⟨x.a,qs.length,x.cap⟩,by exact hb3.rd1 rfl,?_⟩
 let c:List Rc:=qs.map fun p=>p.1.2
 let kp:Rc→Bool:=fun r=>!c.any fun y=>!decide (r.cl=y.cl∧r.sq=y.sq)&&y.over r
 let keep:PI w S→Bool:=fun p=>kp p.1.2
 refine ⟨fun l' w'=>match l' with | [.sl out,.i _ y]=>∃ k:Nat,y=(k:Int)∧k≤qs.length∧Sh.Own w' out 8 (aW encI ((qs.take k).filter keep))∧(∀ z,out.blk=some z→w3.heap.size≤z)∧Mod NoB w3 w' | _=>False,fun l' _=>match l' with | [.sl _,.i _ y]=>(qs.length - y).toNat | _=>0,⟨0,rfl,by omega,by rw [List.take_zero]; exact bU w3 8,fun z hz=>by simp at hz,Mod.refl _ _⟩,?_⟩
 rintro out y w4 ⟨k,rfl,hk,ho4,hz4,hm4⟩
 refine aE (fun hlt=>?_) fun hge=>?_
 ·have hlt:k<qs.length:=by have:=of_decide_eq_true hlt; simp only [] at this; omega
  obtain ⟨A,ea,hrd⟩:=bQ fR (by omega) (ho3.no hm4).rd hlt
  have ea:x.a=some A:=ea
  refine ⟨⟨by omega,by show (k:Int)<(qs.length:Nat); omega⟩,?_⟩
  show aA x.a _
  rw [ea]
  let i:=qs[k].1.1
  have hi4:gV w4 i qs[k].1.2:=(hq3 qs[k]).mod hm4 fun _ _ h=>h
  refine ⟨i.hd.a,i.hd.b,i.hd.c,i.hd.d,i.hd.e,i.hd.f,i.hd.g,i.s,hrd,?_⟩
  refine aM (l:=it0) hi1 hi2 rfl fun q w5 hN5 hb5=>⟨_,rfl,?_⟩
  refine uJ (i:=i) (by kernel_rfl) (by kernel_rfl) hb5 rfl rfl fun w6 ht6 hb6=>?_
  have hq:=hN5.at_
  have hm46:Mod NoB w4 w6:=hN5.mod.fresh ht6.mod fun z e=>by have e:z=q:=e; omega
  have hm46d:Mod NoB w4 w6.drew:=hm46.tr (Mod.drew _ _)
  have hm36d:=hm4.tr hm46d
  refine ⟨Mod NoB w6.drew,Mod.refl _ _,i.hd.a,i.hd.b,i.hd.c,i.hd.d,i.hd.e,i.hd.f,i.hd.g,i.s,fun w' hm=>rA (hb6.drew.no hm),?_,trivial⟩
  refine aC (qAK (T:=T) (v:=⟨x.a,qs.length,x.cap⟩) (is:=qs.map fun p=>p.1.1) (rs:=c) (x:=i) (r:=qs[k].1.2) (hb3.no hm36d) (by rw [← kG]; exact (ho3.no hm36d).rd) (by simp [c]) (fun j a d=>?_) (hi4.mod hm46d fun _ _ h=>h) (by simp [c]; omega)) ?_
  ·simp only [c,List.getElem_map]; exact (hq3 _).mod hm36d fun _ _ h=>h
  rintro v w7 ⟨rfl,hm7⟩
  have hm47:=hm46d.tr hm7
  have hm37:=hm4.tr hm47
  have hb7:=hb6.drew.no hm7
  have etk:(qs.take (k+1)).filter keep=(qs.take k).filter keep++(if keep qs[k] then [qs[k]] else []):=by
   rw [aT hlt,List.filter_append]
   congr 1
   by_cases h:keep qs[k]=true
   ·rw [if_pos h,List.filter_cons_of_pos h]; rfl
   ·rw [if_neg h,List.filter_cons_of_neg h]; rfl
  have hfl:((qs.take k).filter keep).length≤k:=Nat.le_trans (List.length_filter_le _ _) (by rw [List.length_take]; omega)
  have hol:=bI fR (by omega) ho4.rd
  refine ⟨_,rfl,aE (fun hy=>?_) fun hnn=>?_⟩
  ·have hy:keep qs[k]=true:=hy
   refine ⟨i.hd.a,i.hd.b,i.hd.c,i.hd.d,i.hd.e,i.hd.f,i.hd.g,i.s,rA hb7,?_⟩
   refine bT [i.val] (l:=dC [i]) pS hi1 hi2 hi3 (by omega) rfl (by omega) (by omega) rfl (by intro v hv; simp at hv; subst hv; rfl) (by simp [dC,aW,Value.cells,It.val]) fun lb w8 hN8 hb8=>⟨⟨some ⟨lb,0,none⟩,1,1⟩,rfl,?_⟩
   have hlit:aK w8 ⟨some ⟨lb,0,none⟩,1,1⟩ 8 (dC [i]):=(aX (n:=1) (k:=8) hb8 (by rw [dC,cH It.len]; rfl)).rd
   refine bC pS hi1 hi2 hi3 rfl hi4x (((ho4.no hm47).no hN8.mod)) hlit (d9 It.one _) (by simp only []; omega) (by simp only []; omega) fun x' w9 ho9 hlen hblk hm9=>⟨x',rfl,?_⟩
   rw [wrap_i64 (e:=(k:Int)+1) (by omega)]
   have hm49:Mod (fun z=>out.blk=some z) w4 w9:=(hm47.tr hN8.mod).no hm9
   have hm39:Mod NoB w3 w9:=hm4.fresh hm49 fun z hz=>hz4 z hz
   refine ⟨⟨k+1,by omega,by omega,?_,fun z hz=>?_,hm39⟩,by (try simp only []); omega⟩
   ·rw [etk,if_pos hy,cS]; exact ho9
   ·rcases hblk with e | e
    ·exact hz4 z (by rw [← e]; exact hz)
    ·rw [e] at hz; cases hz
     exact (hm37.tr hN8.mod).size
  ·have hnn:keep qs[k]=false:=hnn
   rw [wrap_i64 (e:=(k:Int)+1) (by omega)]
   refine ⟨⟨k+1,by omega,by omega,?_,hz4,hm37⟩,by (try simp only []); omega⟩
   rw [etk,if_neg (by rw [hnn]; simp),List.append_nil]; exact ho4.no hm47
 ·have hkk:k=qs.length:=by have:=of_decide_eq_false hge; simp only [] at this; omega
  subst hkk
  show aJ _ _ _ _
  rw [aL,aL]
  refine aS (by kernel_rfl) (by kernel_rfl) rfl (hb3.no hm4) (by simp) fun w5 ht5 hb5=>?_
  rw [List.take_length] at ho4
  have hx0:Mod (fun z=>B≤z) w w3:=((oM hm1 fun z (e:z=b)=>by have:=hbz.1; omega).tr (oM hm2 fun z hz'=>(hz z hz').1)).tr (oM ht3.mod fun z (e:z=rb)=>by omega)
  have hnr : ∀ z,out.blk=some z→z≠rb:=fun z hz e=>by have:=hz4 z hz; omega
  refine ⟨rfl,out,(qs.filter keep).map (fun p=>p.1.2),⟨hB,(qs.filter keep).map (fun p=>p.1.1),hb5,?_,fun z hz=>⟨by have:=hz4 z hz; omega,hnr z hz⟩,by simp,fun j a d=>?_⟩,?_,(hx0.no' hm4).tr (oM ht5.mod fun z (e:z=rb)=>by omega)⟩
  ·rw [← kG]
   exact ho4.mod ht5.mod fun z hz e=>hnr z hz e
  ·simp only [List.getElem_map]
   refine ⟨((hq3 _).mod hm4 fun _ _ h=>h).mod ht5.mod fun z hz e=>?_,fun z hz=>⟨fun e=>?_,fun e=>?_⟩⟩
   ·exact (((qs.filter keep)[j]'(by simpa using a)).2.2 z hz (.inr e))
   ·exact (((qs.filter keep)[j]'(by simpa using a)).2.2 z hz (.inr e))
   ·have h1:=hz4 z e
    have h2:=hlow _ z hz
    omega
  ·have e1:((qs.filter keep).map fun p=>p.1.2)=fT c:=by
    show _=(qs.map fun p=>p.1.2).filter kp
    rw [List.filter_map]; rfl
   rw [e1]
   show bX rs (fT (qs.map fun p=>p.1.2))
   rw [q2,← p2]
   refine qB0 (hp.map _) (List.pairwise_map.2 hs) (by rw [p2]; exact hr)
end
def gU (B:Nat) (w:World) (s:Slc) (rs:List Rc):Prop:=
 ∃ hs:List Hd,Sh.Own w s 7 (hcells hs)∧(∀ z,s.blk=some z→B≤z)∧hs.length=rs.length∧∀ i (h:i<hs.length) (h':i<rs.length),cN w hs[i] rs[i]∧∀ z,hs[i].on z→B≤z∧s.blk≠some z
theorem gU.mod {B:Nat} {w w':World} {s:Slc} {rs:List Rc} {S:Nat→Prop} (h:gU B w s rs) (hm:Mod S w w') (hS : ∀ z,B≤z→¬ S z):gU B w' s rs:=by
 obtain ⟨hs,h1,h2,h3,h4⟩:=h
 exact ⟨hs,h1.mod hm fun z hz=>hS z (h2 z hz),h2,h3,fun i a b=>⟨(h4 i a b).1.mod hm fun z hz=>hS z ((h4 i a b).2 z hz).1,(h4 i a b).2⟩⟩
theorem gU.le {B B':Nat} {w:World} {s:Slc} {rs:List Rc} (h:gU B w s rs) (hB:B'≤B):gU B' w s rs:=by
 obtain ⟨hs,h1,h2,h3,h4⟩:=h
 exact ⟨hs,h1,fun z hz=>Nat.le_trans hB (h2 z hz),h3,fun i a b=>⟨(h4 i a b).1,fun z hz=>⟨Nat.le_trans hB ((h4 i a b).2 z hz).1,((h4 i a b).2 z hz).2⟩⟩⟩
theorem bP.le {B B':Nat} {w:World} {l:Slc} {rs:List Rc} (h:bP B w l rs) (hB:B≤B'):bP B' w l rs:=by
 obtain ⟨hs,h1,h2,h3,h4⟩:=h
 exact ⟨hs,h1,fun z hz=>Nat.lt_of_lt_of_le (h2 z hz) hB,h3,fun i a b=>⟨(h4 i a b).1,fun z hz=>Nat.lt_of_lt_of_le ((h4 i a b).2 z hz) hB⟩⟩
theorem gL {l out:List Rc} (h:bX l out) : ∀ r∈out,r∈l:=by
 obtain ⟨c,h1,rfl⟩:=h
 intro r hr
 exact ((h1.mem r).1 (List.mem_filter.1 hr).1).1
theorem kK {α:Type} [BEq α] [LawfulBEq α] {lt:α→α→Prop} (irr : ∀ x,¬ lt x x) : ∀ {c l:List α},c.Pairwise lt→(∀ x∈c,x∈l)→c.length≤l.length
 | [],l,_,_=>Nat.zero_le _
 | a :: c,l,hp,hs=>by
   have ha:=hs a List.mem_cons_self
   have h1:=List.pairwise_cons.1 hp
   have ih:=kK irr (l:=l.erase a) h1.2 fun x hx=>(List.mem_erase_of_ne fun e=>irr a (by have:=h1.1 x hx; rwa [e] at this)).2 (hs x (List.mem_cons_of_mem _ hx))
   rw [List.length_erase_of_mem ha] at ih
   have:=List.length_pos_of_mem ha
   simp only [List.length_cons]; omega
theorem qAD:prog.underlying 33=some (.slice 22):=by kernel_rfl
theorem qG5 : ∃ i,prog.info? 22=some i∧i.zero=some (.slice none 0 0)∧i.size=1∧i.bytes=24:=bK (by kernel_rfl) (by kernel_rfl) (by kernel_rfl)
theorem qEL : ∃ i,prog.info? 47=some i∧i.zero=some (.int .i64 0)∧i.size=1∧i.bytes=8:=bK (by kernel_rfl) (by kernel_rfl) (by kernel_rfl)
section
variable {w:World}
theorem qCY {B rb:Nat} {T:TypeId} {x:Slc} {rs:List Rc} (hR:oO B w rb T x rs) (hr : ∀ r∈rs,r.right=true) (hn:rs.length≤100000) :
 Calls prog 123 #[.pointer (some (Addr.add ⟨rb,0,none⟩ 0))] w (Ret fun v w'=>∃ out,v=out.val∧gU w.heap.size w' out rs∧Mod NoB w w'):=by
 refine qI5 _ ?_
 unfold qNY
 obtain ⟨ii,hi1,hi2,hi3,hi4⟩:=wT
 obtain ⟨ir,hr1,hr2,hr3,hr4⟩:=lM
 obtain ⟨hB,is,hb,ho,hz,hl,hI⟩:=hR
 have hvl:=bI It.len (by omega) ho.rd
 refine ⟨x,by rw [aL,aL]; exact hb.rd1 rfl,?_⟩
 refine ⟨fun l' w'=>match l' with | [.sl out,.i _ y]=>∃ (k:Nat) (hs:List Hd),y=(k:Int)∧k≤rs.length∧Sh.Own w' out 7 (hcells hs)∧(∀ z,out.blk=some z→w.heap.size≤z)∧hs.length=k∧(∀ i (h:i<hs.length) (h':i<rs.length),cN w' hs[i] rs[i]∧∀ z,hs[i].on z→w.heap.size≤z∧out.blk≠some z)∧Mod NoB w w' | _=>False,fun l' _=>match l' with | [.sl _,.i _ y]=>(rs.length - y).toNat | _=>0,⟨0,[],rfl,by omega,bU w 7,fun z hz=>by simp at hz,rfl,fun i h=>absurd h (by simp),Mod.refl _ _⟩,?_⟩
 rintro out y w1 ⟨k,hs,rfl,hk,ho1,hz1,hl1,hI1,hm1⟩
 have hol:=bI Hd.len (by omega) ho1.rd
 refine aE (fun hlt=>?_) fun hge=>?_
 ·have hlt:k<rs.length:=by have:=of_decide_eq_true hlt; omega
  have hki:k<is.length:=by omega
  obtain ⟨A,ea,hrd⟩:=bQ It.len (by omega) (ho.no hm1).rd hki
  refine ⟨⟨by omega,by omega⟩,?_⟩
  rw [ea]
  have hI0:=(hI k hki hlt).1.mod hm1 fun _ _ h=>h
  let i:=is[k]
  refine ⟨i.hd.a,i.hd.b,i.hd.c,i.hd.d,i.hd.e,i.hd.f,i.hd.g,i.s,hrd,?_⟩
  refine aM (l:=it0) hi1 hi2 rfl fun q w2 hN2 hb2=>⟨_,rfl,?_⟩
  refine uJ (i:=i) (by kernel_rfl) (by kernel_rfl) hb2 rfl rfl fun w3 ht3 hb3=>?_
  have hq:=hN2.at_
  have hm13:Mod NoB w1 w3:=hN2.mod.fresh ht3.mod fun z e=>by have e:z=q:=e; omega
  have hI3:=hI0.mod hm13 fun _ _ h=>h
  refine ⟨i.s,by rw [aL]; exact hb3.rd1 rfl,?_⟩
  refine aC (qRP hI3.s hI3.lt (hr _ (List.getElem_mem hlt))) ?_
  rintro v w4 ⟨h,rfl,hH,hHN,hm4⟩
  refine ⟨h.a,h.b,h.c,h.d,h.e,h.f,h.g,0,rfl,?_⟩
  refine aM (l:=hz0) hr1 hr2 rfl fun p w5 hN5 hb5=>⟨_,rfl,?_⟩
  refine bY (h:=h) (by kernel_rfl) (by kernel_rfl) hb5 rfl fun w6 ht6 hb6=>?_
  have hp:=hN5.at_
  have hm46:Mod NoB w4 w6:=hN5.mod.fresh ht6.mod fun z e=>by have e:z=p:=e; omega
  refine aC (nQ rfl) ?_
  rintro v w7 ⟨rfl,rfl⟩
  refine ⟨rfl,h.a,h.b,h.c,h.d,h.e,h.f,h.g,rdH hb6,?_⟩
  refine bT [h.val] (l:=hcells [h]) jX hr1 hr2 hr3 (by omega) rfl (by omega) (by omega) rfl (by intro v hv; simp at hv; subst hv; rfl) (by simp [hcells,aW,Value.cells,Hd.val]) fun lb w8 hN8 hb8=>⟨⟨some ⟨lb,0,none⟩,1,1⟩,rfl,?_⟩
  have hlit:aK w8 ⟨some ⟨lb,0,none⟩,1,1⟩ 7 (hcells [h]):=(aX (n:=1) (k:=7) hb8 (by rw [hcells,cH Hd.len]; rfl)).rd
  have hm14:=hm13.tr hm4
  have hm16:=hm14.tr hm46
  have hm18:=hm16.tr hN8.mod
  refine bC jX hr1 hr2 hr3 rfl hr4 (ho1.no hm18) hlit (d9 Hd.one _) (by simp only []; omega) (by simp only []; omega) fun x' w9 ho9 hlen hblk hm9=>⟨x',rfl,?_⟩
  rw [wrap_i64 (e:=(k:Int)+1) (by omega)]
  have hm19:Mod (fun z=>out.blk=some z) w1 w9:=hm18.no hm9
  have hm09:Mod NoB w w9:=hm1.fresh hm19 fun z hz=>hz1 z hz
  have hs1:w.heap.size≤w1.heap.size:=hm1.size
  have hs8:w1.heap.size≤w8.heap.size:=hm18.size
  have hx' : ∀ z,x'.blk=some z→out.blk=some z∨z=w8.heap.size:=fun z hz=>by
   rcases hblk with e | e
   ·exact .inl (by rw [← e]; exact hz)
   ·rw [e] at hz; cases hz; exact .inr rfl
  have hol1 : ∀ z,out.blk=some z→z<w1.heap.size:=fun z hz=>ho1.lt hz
  have hH9:cN w9 h rs[k]∧∀ z,h.on z→w.heap.size≤z∧x'.blk≠some z:=by
   have h8:cN w8 h rs[k]:=(hH.no hm46).no hN8.mod
   have hno : ∀ z,h.on z→w3.heap.size≤z∧z<w8.heap.size:=fun z hz=>⟨hHN z hz,h8.lt z hz⟩
   have hs3:w1.heap.size≤w3.heap.size:=hm13.size
   refine ⟨h8.mod hm9 fun z hz e=>?_,fun z hz=>⟨?_,fun e=>?_⟩⟩
   ·have:=hno z hz; have:=hol1 z e; omega
   ·have:=hno z hz; omega
   ·have h1:=hno z hz
    rcases hx' z e with e | e
    ·have:=hol1 z e; omega
    ·omega
  refine ⟨⟨k+1,hs++[h],by omega,by omega,?_,fun z hz=>?_,by simp [hl1],fun j a d=>?_,hm09⟩,by (try simp only []); omega⟩
  ·rw [hcells,cS]; exact ho9
  ·rcases hx' z hz with e | e
   ·exact hz1 z e
   ·omega
  ·rcases Nat.lt_or_ge j hs.length with hj | hj
   ·have e1:(hs++[h])[j]=hs[j]:=List.getElem_append_left hj
    rw [e1]
    obtain ⟨g1,g2⟩:=hI1 j hj d
    refine ⟨(g1.no hm18).mod hm9 fun z hz e=>(g2 z hz).2 e,fun z hz=>⟨(g2 z hz).1,fun e=>?_⟩⟩
    rcases hx' z e with e | e
    ·exact (g2 z hz).2 e
    ·have:=g1.lt z hz; omega
   ·have hje:j=hs.length:=by simp at a; omega
    subst hje
    have e1:(hs++[h])[hs.length]=h:=by simp
    rw [e1]
    subst hl1
    exact hH9
 ·have hkk:k=rs.length:=by have:=of_decide_eq_false hge; omega
  subst hkk
  exact ⟨out,rfl,⟨hs,ho1,hz1,hl1,hI1⟩,hm1⟩
theorem qRH {p q:Nat} {K:FrameMode→World→Prop} (hk:K .returning w):dI prog 199 #[.pointer (some ⟨p,0,none⟩),.pointer (some ⟨q,0,none⟩)] .returning w K:=by
 unfold dI
 refine qI4 _ _ ?_
 unfold qC9
 show aZ _ _ _
 refine ⟨.bool false,fun w=>?_,false,rfl,aE (fun h=>by cases h) fun _=>⟨(fun h=>(by cases h)),hk⟩⟩
 rfl
theorem qDU {f:FuncId} {first cap:Array Value} {R:List Rc→Prop} (he:enters prog f=true)
 (hc : ∀ w3,Mod NoB w w3→Calls prog f (first.toList++[]++cap.toList).toArray w3 (Ret fun v w'=>∃ out rs,v=out.val∧R rs∧gU w3.heap.size w' out rs∧Mod NoB w3 w')) :
 Calls prog 119 #[.func (.func f) first cap] w (Ret fun v w'=>∃ out rs,v = .tuple #[out.val,.int .i64 0]∧R rs∧gU w.heap.size w' out rs∧Mod NoB w w'):=by
 refine qJZ _ ?_
 unfold qOL
 obtain ⟨ii,hi1,hi2,hi3,hi4⟩:=qG5
 obtain ⟨ie,he1,he2,he3,he4⟩:=qEL
 refine aM (l:=[.slice none 0 0]) hi1 hi2 rfl fun p w1 hN hb=>⟨_,rfl,?_⟩
 refine aM (l:=[.int .i64 0]) he1 he2 rfl fun q w2 hN2 hb2=>⟨_,rfl,?_⟩
 have e1:=hN.at_; have e2:=hN2.at_; have e3:=hN.size; have e4:=hN2.size
 have hM2:=hN.mod.tr hN2.mod
 refine dA he ?_
 refine aC (hc _ hM2) ?_
 rintro v w3 ⟨out,rs,rfl,hR,hS,hm3⟩
 refine ⟨out,rfl,?_⟩
 show aJ _ _ _ _
 refine aS (by kernel_rfl) (by kernel_rfl) rfl ((hb.no hN2.mod).no hm3) (by simp) fun w4 ht4 hp4=>?_
 show aJ _ _ _ _
 refine aS (by kernel_rfl) (by kernel_rfl) rfl ((hb2.no hm3).mod ht4.mod (by omega)) (by simp) fun w5 ht5 hq5=>?_
 refine qRH ?_
 unfold eE
 dsimp only
 have hS5:gU w2.heap.size w5 out rs:=(hS.mod ht4.mod fun z hz e=>by have e:z=p:=e; omega).mod ht5.mod fun z hz e=>by have e:z=q:=e; omega
 have hm5:Mod NoB w w5:=((hM2.tr hm3).fresh ht4.mod fun z e=>by have e:z=p:=e; omega).fresh ht5.mod fun z e=>by have e:z=q:=e; omega
 exact ⟨out,(hp4.mod ht5.mod (by omega)).rd1 rfl,0,hq5.rd1 rfl,out,rs,rfl,hR,hS5.le hM2.size,hm5⟩
def jN (B:Nat) (w:World) (s:Slc) (ls:List (List Rc)):Prop:=
 ∃ vs:List Slc,aK w s 1 (vs.map Slc.val)∧(∀ z,s.blk=some z→z<B)∧vs.length=ls.length∧∀ i (h:i<vs.length) (h':i<ls.length),bP B w vs[i] ls[i]
theorem jN.mod {B:Nat} {w w':World} {l:Slc} {rs:List (List Rc)} (h:jN B w l rs) (hm:Mod (fun z=>B≤z) w w'):jN B w' l rs:=by
 obtain ⟨hs,h1,h2,h3,h4⟩:=h
 exact ⟨hs,h1.mod hm fun z hz e=>by have:=h2 z hz; omega,h2,h3,fun i a b=>(h4 i a b).mod hm⟩
theorem qU0 {w w':World} (h:Mod (fun z=>w.heap.size≤z) w w'):Mod NoB w w':=h.mono fun z hz h=>by omega
theorem qLY {p:Nat} {T0:TypeId} {s:Slc} {ls:List (List Rc)} {K:List UInt8} (hb:Blk w p [s.val] T0) (hs:jN w.heap.size w s ls) (hK : ∀ l∈ls,∀ r∈l,r.right=true∧r.key=K) (h0:0<ls.flatten.length) (hn:ls.flatten.length≤100000) (hln:ls.length≤100000) :
 Calls prog 120 #[.pointer (some ⟨p,0,none⟩)] w (Ret fun v w'=>∃ out rs,v=out.val∧bX ls.flatten rs∧gU w.heap.size w' out rs∧Mod NoB w w'):=by
 refine qF4 _ ?_
 unfold qPM
 refine aU (l:=[.slice none 0 0]) rfl fun rb w1 hN hb1=>⟨_,rfl,?_⟩
 have e1:=hN.at_
 refine ⟨s,(hb.no hN.mod).rd1 rfl,?_⟩
 have hs1:=hs.mod (hN.mod.mono fun _ _ h=>h.elim)
 have hsl:ls.length=s.len:=by
  obtain ⟨vs,h1,_,h3,_⟩:=hs
  have:=h1.1; simp at this; omega
 refine ⟨fun l' w'=>match l' with | [.i _ y]=>∃ (k:Nat) (x':Slc),y=(k:Int)∧k≤ls.length∧oO w.heap.size w' rb 179 x' (ls.take k).flatten∧Mod (fun z=>w.heap.size≤z) w w' | _=>False,fun l' _=>match l' with | [.i _ y]=>(ls.length - y).toNat | _=>0,⟨0,⟨none,0,0⟩,rfl,by omega,⟨by omega,[],hb1,bU w1 8,fun z hz=>by simp at hz,rfl,fun i h=>absurd h (by simp)⟩,hN.mod.mono fun _ _ h=>h.elim⟩,?_⟩
 rintro y w2 ⟨k,x',rfl,hk,hR,hm2⟩
 have hall : ∀ r∈ls.flatten,r.right=true∧r.key=K:=fun r hr=>by
  obtain ⟨l,hl,hr⟩:=List.mem_flatten.1 hr
  exact hK l hl r hr
 have htk : ∀ n,(ls.take n).flatten.length≤ls.flatten.length:=fun n=>by
  conv=>rhs; rw [← List.take_append_drop n ls,List.flatten_append,List.length_append]
  omega
 have hsub : ∀ n,∀ r∈(ls.take n).flatten,r∈ls.flatten:=fun n r hr=>by
  obtain ⟨l,hl,hr⟩:=List.mem_flatten.1 hr
  exact List.mem_flatten.2 ⟨l,List.mem_of_mem_take hl,hr⟩
 refine aE (fun hlt=>?_) fun hge=>?_
 ·have hlt:k<ls.length:=by have:=of_decide_eq_true hlt; omega
  obtain ⟨vs,g1,g2,g3,g4⟩:=hs.mod hm2
  have hkv:k<vs.length:=by omega
  obtain ⟨A,ea,hrd⟩:=g1.at (i:=k) (vs:=vs.map Slc.val) (us:=[vs[k].val]) (by omega) (by omega) fun j u hu=>by
   have:j=0:=by have:=(List.getElem?_eq_some_iff.1 hu).1; simp at this; omega
   subst this
   simp at hu; subst hu
   simp [hkv]
  refine ⟨⟨by omega,by omega⟩,?_⟩
  rw [ea]
  refine ⟨vs[k],hrd,?_⟩
  have etk:(ls.take (k+1)).flatten=(ls.take k).flatten++ls[k]:=by rw [aT hlt,List.flatten_append]; simp
  have hle:=htk (k+1)
  rw [etk,List.length_append] at hle
  show aD _ _ _ _ _ _
  refine aC (qFE (K:=K) hR (g4 k hkv hlt) (hK _ (List.getElem_mem hlt)) (fun r hr=>(hall r (hsub k r hr)).2) (by omega) hm2.size) ?_
  rintro v w3 ⟨rfl,x2,hR2,hm3⟩
  rw [wrap_i64 (e:=(k:Int)+1) (by omega)]
  exact ⟨rfl,⟨k+1,x2,by omega,by omega,by rw [etk]; exact hR2,hm2.tr hm3⟩,by (try simp only []); omega⟩
 ·have hkk:k=ls.length:=by have:=of_decide_eq_false hge; omega
  subst hkk
  rw [List.take_length] at hR
  refine aC (qST hR (fun r hr=>(hall r hr).1) h0 hn) ?_
  rintro v w3 ⟨rfl,x2,out,hR2,hJ,hm3⟩
  refine ⟨rfl,?_⟩
  show aD _ _ _ _ _ _
  have hol:out.length≤ls.flatten.length:=by
   obtain ⟨c,hc,rfl⟩:=hJ
   refine Nat.le_trans (List.length_filter_le _ _) ?_
   exact kK fI hc.pw fun r hr=>((hc.mem r).1 hr).1
  refine aC (qCY hR2 (fun r hr=>(hall r (gL hJ r hr)).1) (by omega)) ?_
  rintro v w4 ⟨o,rfl,hS,hm4⟩
  have hm03:=hm2.tr hm3
  exact ⟨o,rfl,o,out,rfl,hJ,hS.le hm03.size,qU0 (hm03.no' hm4)⟩
theorem yN {s:Slc} {ls:List (List Rc)} {K:List UInt8} (hs:jN w.heap.size w s ls) (hK : ∀ l∈ls,∀ r∈l,r.right=true∧r.key=K) (h0:0<ls.flatten.length) (hn:ls.flatten.length≤100000) (hln:ls.length≤100000) :
 Calls prog 63 #[.slice s.a s.len s.cap] w (Ret fun v w'=>∃ out rs,v = .tuple #[out.val,.int .i64 0]∧bX ls.flatten rs∧gU w.heap.size w' out rs∧Mod NoB w w'):=by
 refine qR3 _ ?_
 unfold qV1
 refine aU (l:=[s.val]) rfl fun p w1 hN hb=>⟨_,rfl,?_⟩
 have hmono : ∀ {w'},Mod NoB w w'→jN w'.heap.size w' s ls:=fun {w'} hm=>by
  obtain ⟨vs,h1,h2,h3,h4⟩:=hs.mod (hm.mono fun _ _ h=>h.elim)
  have:=hm.size
  exact ⟨vs,h1,fun z hz=>by have:=h2 z hz; omega,h3,fun i a b=>(h4 i a b).le this⟩
 refine aC (qDU (R:=bX ls.flatten) (by kernel_rfl) fun w3 hm=>?_) ?_
 ·exact qLY (hb.no hm) (hmono (hN.mod.tr hm)) hK h0 hn hln
 rintro v w2 ⟨out,rs,rfl,hJ,hS,hm⟩
 exact ⟨out,0,rfl,out,rs,rfl,hJ,hS.le hN.mod.size,hN.mod.tr hm⟩
end
def qVO (b:Option Nat) (records:Slc) (w:World) (R:RW):Prop:=
 aF prog (Instr.box 58 (.agg #[.map b])) w fun v w1=>∃ b1:Option Addr,v=(.pointer b1)∧∃ (inv:List TV→World→Prop) (mu:List TV→World→Nat),inv [.i .i64 (0:Int)] w1∧(∀ x:Int,∀ w2:World,inv [.i .i64 x] w2→aG (decide (x<(records.len:Int))) (((0≤x∧x<(records.len:Nat))∧aA records.a fun a=>∃ xa:List UInt8,∃ xb xc:Int,∃ xd:Slc,∃ xe:Bool,∃ xf xg:Slc,Rd w2 (a.add (x.toNat*7)) (yR xa xb xc xd xe xf xg)∧aF prog (Instr.alloc 40 true (.tuple #[])) w2 fun v1 w3=>∃ r:Option Addr,v1=(.pointer r)∧aA r fun a1=>aJ prog (storeVar 40 a1 (zR xa xb xc xd xe xf xg)) w3 fun w4=>aA r fun a2=>∃ xa1:List UInt8,∃ xb1 xc1:Int,∃ xd1:Slc,∃ xe1:Bool,∃ xf1 xg1:Slc,Rd w4 a2 (yR xa1 xb1 xc1 xd1 xe1 xf1 xg1)∧aD prog 41 [zR xa1 xb1 xc1 xd1 xe1 xf1 xg1] w4 (aH R) fun v2 w5=>∃ x1:Bool,v2=(.bool x1)∧aG x1 (∃ sx:World→Prop,sx w5.drew∧aA b1 fun a3=>aA r fun a4=>aA b1 fun a5=>aA r fun a6=>∃ x2:Option Nat,(∀ w',sx w'→Rd w' (a3.add 0) [.map x2])∧∃ x3:List UInt8,(∀ w',sx w'→Rd w' (a4.add 0) [.string ⟨x3.toArray⟩])∧∃ x4:Option Nat,(∀ w',sx w'→Rd w' (a5.add 0) [.map x4])∧∃ x5:List UInt8,(∀ w',sx w'→Rd w' (a6.add 0) [.string ⟨x5.toArray⟩])∧aA r fun a7=>∃ xa2:List UInt8,∃ xb2 xc2:Int,∃ xd2:Slc,∃ xe2:Bool,∃ xf2 xg2:Slc,(∀ w',sx w'→Rd w' a7 (yR xa2 xb2 xc2 xd2 xe2 xf2 xg2))∧((aF prog (Instr.lookup 56 (.map x4) (.string ⟨x5.toArray⟩) false) w5.drew fun v3 w6=>∃ x6:Slc,v3=(zS x6)∧(sx w6∧((aF prog (Instr.buildSlice 22 1 #[(0,(zR xa2 xb2 xc2 xd2 xe2 xf2 xg2))]) w6 fun v4 w7=>∃ x7:Slc,v4=(zS x7)∧(sx w7∧((aF prog (Instr.buildSlice 33 1 #[(0,(zS x7))]) w7 fun v5 w8=>∃ x8:Slc,v5=(zS x8)∧(sx w8∧((aF prog (Builtin.append_ #[33,33] 33 #[zS x6,zS x8]) w8 fun v6 w9=>∃ x9:Slc,v6=(zS x9)∧(sx w9∧((aJ prog (Instr.mapUpdate 56 (.map x2) (.string ⟨x3.toArray⟩) (zS x9)) w9 fun w10=>(inv [.i .i64 (IntKind.i64.wrap (x+(1:Int)))] w10∧mu [.i .i64 (IntKind.i64.wrap (x+(1:Int)))] w10<mu [.i .i64 x] w2))∧True)))∧True)))∧True)))∧True)))∧(aF prog (Instr.buildSlice 22 1 #[(0,(zR xa2 xb2 xc2 xd2 xe2 xf2 xg2))]) w5.drew fun v7 w11=>∃ x10:Slc,v7=(zS x10)∧(sx w11∧((aF prog (Instr.lookup 56 (.map x4) (.string ⟨x5.toArray⟩) false) w11 fun v8 w12=>∃ x11:Slc,v8=(zS x11)∧(sx w12∧((aF prog (Instr.buildSlice 33 1 #[(0,(zS x10))]) w12 fun v9 w13=>∃ x12:Slc,v9=(zS x12)∧(sx w13∧((aF prog (Builtin.append_ #[33,33] 33 #[zS x11,zS x12]) w13 fun v10 w14=>∃ x13:Slc,v10=(zS x13)∧(sx w14∧((aJ prog (Instr.mapUpdate 56 (.map x2) (.string ⟨x3.toArray⟩) (zS x13)) w14 fun w15=>(inv [.i .i64 (IntKind.i64.wrap (x+(1:Int)))] w15∧mu [.i .i64 (IntKind.i64.wrap (x+(1:Int)))] w15<mu [.i .i64 x] w2))∧True)))∧True)))∧True)))∧(aF prog (Instr.buildSlice 33 1 #[(0,(zS x10))]) w11 fun v11 w16=>∃ x14:Slc,v11=(zS x14)∧(sx w16∧((aF prog (Instr.lookup 56 (.map x4) (.string ⟨x5.toArray⟩) false) w16 fun v12 w17=>∃ x15:Slc,v12=(zS x15)∧(sx w17∧((aF prog (Builtin.append_ #[33,33] 33 #[zS x15,zS x14]) w17 fun v13 w18=>∃ x16:Slc,v13=(zS x16)∧(sx w18∧((aJ prog (Instr.mapUpdate 56 (.map x2) (.string ⟨x3.toArray⟩) (zS x16)) w18 fun w19=>(inv [.i .i64 (IntKind.i64.wrap (x+(1:Int)))] w19∧mu [.i .i64 (IntKind.i64.wrap (x+(1:Int)))] w19<mu [.i .i64 x] w2))∧True)))∧True)))∧True)))∧True)))∧True)) ((inv [.i .i64 (IntKind.i64.wrap (x+(1:Int)))] w5∧mu [.i .i64 (IntKind.i64.wrap (x+(1:Int)))] w5<mu [.i .i64 x] w2)))) (R (.returned (.tuple #[])) w2))
theorem qQT (b:Option Nat) (records:Slc) {w:World} {R:RW} (hden:qVO b records w R):Calls prog 30 #[.agg #[.map b],zS records] w R:=
 aB (q0 .z (q0 .z (.block none (.loop [(8,(.i .i64))] (q0 .z (q0 (.cond .z .z) (q0 (.block none (q0 .z (q0 .z (.cond (.draw 1 (.take 0 (.take 2 (.take 4 (.take 6 (.take 1 (.take 3 (.take 5 (.take 7 (.take 9 (.all [(8,(.all [(10,(.all [(11,(.all [(12,(.all [(13,.done)]))]))]))])),(10,(.all [(8,(.all [(11,(.all [(12,(.all [(13,.done)]))]))])),(11,(.all [(8,(.all [(12,(.all [(13,.done)]))]))]))]))]))))))))))) .z)))) .z))))))) func30 (by kernel_rfl) [.agg [.m b],.sl records] (by kernel_rfl) (by kernel_rfl) hden
def qT0 (r:Option Nat) (w:World) (R:RW):Prop:=
 aF prog (Instr.box 56 (.map r)) w fun v w1=>∃ r1:Option Addr,v=(.pointer r1)∧R (.returned (.func (.func 60) #[] #[.pointer r1])) w1
theorem qRT (r:Option Nat) {w:World} {R:RW} (hden:qT0 r w R):Calls prog 31 #[.map r] w R:=
 aB (q0 .z (q0 .z .z)) func31 (by kernel_rfl) [.m r] (by kernel_rfl) (by kernel_rfl) hden
def qWD (yield:Value) (c:Option Addr) (w:World) (R:RW):Prop:=
 aA c fun a=>∃ x:Option Nat,Rd w a [.map x]∧aD prog 62 [.map x] w (aH R) fun v w1=>∃ x1:Value,v=x1∧aD prog 61 [x1] w1 (aH R) fun v1 w2=>∃ x2:Slc,v1=(zS x2)∧∃ (inv:List TV→World→Prop) (mu:List TV→World→Nat),inv [.i .i64 (0:Int)] w2∧(∀ x3:Int,∀ w3:World,inv [.i .i64 x3] w3→aG (decide (x3<(x2.len:Int))) (((0≤x3∧x3<(x2.len:Nat))∧aA x2.a fun a1=>∃ x4:List UInt8,Rd w3 (a1.add (x3.toNat*1)) [.string ⟨x4.toArray⟩]∧aA c fun a2=>∃ x5:Option Nat,Rd w3 a2 [.map x5]∧aF prog (Instr.lookup 56 (.map x5) (.string ⟨x4.toArray⟩) false) w3 fun v2 w4=>∃ x6:Slc,v2=(zS x6)∧aD prog 63 [zS x6] w4 (aH R) fun v3 w5=>∃ xa:Slc,∃ xb:Int,v3=(.tuple #[zS xa,.int .i64 xb])∧aG (decide ((xa.len:Int) > (0:Int))) (dE prog yield [.agg #[.string ⟨x4.toArray⟩,zS xa]] w5 (aH R) fun v4 w6=>∃ x7:Bool,v4=(.bool x7)∧aG (!x7) (R (.returned (.tuple #[])) w6) ((inv [.i .i64 (IntKind.i64.wrap (x3+(1:Int)))] w6∧mu [.i .i64 (IntKind.i64.wrap (x3+(1:Int)))] w6<mu [.i .i64 x3] w3))) ((inv [.i .i64 (IntKind.i64.wrap (x3+(1:Int)))] w5∧mu [.i .i64 (IntKind.i64.wrap (x3+(1:Int)))] w5<mu [.i .i64 x3] w3)))) (R (.returned (.tuple #[])) w3))
theorem qRE (yield:Value) (c:Option Addr) {w:World} {R:RW} (hden:qWD yield c w R):Calls prog 60 #[yield,.pointer c] w R:=
 aB (q0 .z (.block none (.loop [(11,(.i .i64))] (q0 .z (q0 (.cond .z .z) (q0 (.block none (q0 .z (q0 .z (q0 .z (.cond .z .z))))) .z)))))) func60 (by kernel_rfl) [.v yield,.p c] (by kernel_rfl) (by kernel_rfl) hden
def qVJ (records:Slc) (w:World) (R:RW):Prop:=
 aF prog (Instr.makeMap 56 none) w fun v w1=>∃ x:Option Nat,v=(.map x)∧aF prog (Instr.alloc 58 true (.tuple #[])) w1 fun v1 w2=>∃ b:Option Addr,v1=(.pointer b)∧aA b fun a=>aJ prog (storeVar 58 a (.agg #[.map x])) w2 fun w3=>aA b fun a1=>∃ x1:Option Nat,Rd w3 a1 [.map x1]∧aD prog 30 [.agg #[.map x1],zS records] w3 (aH R) fun v2 w4=>v2=(.tuple #[])∧aF prog (Instr.alloc 26 true (.tuple #[])) w4 fun v3 w5=>∃ out:Option Addr,v3=(.pointer out)∧aA b fun a2=>∃ x2:Option Nat,Rd w5 (a2.add 0) [.map x2]∧aD prog 31 [.map x2] w5 (aH R) fun v4 w6=>∃ x3:Value,v4=x3∧∃ (fn:FuncId) (first cap:Array Value),x3 = .func (.func fn) first cap∧enters prog fn=true∧∀ (rec:LoopState→Option Code→Obj) (dd ll:Nat) (w7:World),dd=w6.heap.size→ll=dd+1→w7=(w6.alloc (.deferred (some []))).alloc (rec .ready none)→(∀ xa:List UInt8,∀ xb:Slc,∀ (w8:World) (kk:Value→World→Prop),w8.heap[ll]? = some (rec .ready none)→(aF prog (Instr.alloc 64 true (.tuple #[])) w8 fun v5 w9=>∃ l:Option Addr,v5=(.pointer l)∧aA l fun a3=>aJ prog (storeVar 64 a3 (.agg #[.string ⟨xa.toArray⟩,zS xb])) w9 fun w10=>(w10.heap[ll]? = some (rec .ready none)∧aA out fun a4=>∃ x4:Slc,Rd (w10.putObj ll (rec .busy none)) a4 [zS x4]∧aA l fun a5=>∃ xa1:List UInt8,∃ xb1:Slc,Rd (w10.putObj ll (rec .busy none)) a5 [.string ⟨xa1.toArray⟩,zS xb1]∧aF prog (Instr.buildSlice 26 1 #[(0,(.agg #[.string ⟨xa1.toArray⟩,zS xb1]))]) (w10.putObj ll (rec .busy none)) fun v6 w11=>∃ x5:Slc,v6=(zS x5)∧aF prog (Builtin.append_ #[26,26] 26 #[zS x4,zS x5]) w11 fun v7 w12=>∃ x6:Slc,v7=(zS x6)∧aA out fun a6=>aJ prog (storeVar 26 a6 (zS x6)) w12 fun w13=>(w13.heap[ll]? = some (rec .busy none)∧kk (.bool true) (w13.putObj ll (rec .ready none)))))→dU prog ll [.agg #[.string ⟨xa.toArray⟩,zS xb]] w8 kk)→aD prog fn (first.toList++[.func (.yield ll) #[] #[]]++cap.toList) w7 (sL R [(mkD dd)]) fun _ w14=>(w14.heap[ll]? = some (rec .ready none)∧aA out fun a7=>∃ x7:Slc,Rd (w14.putObj ll (rec .exhausted none)) a7 [zS x7]∧((w14.putObj ll (rec .exhausted none)).heap[dd]? = some (.deferred (some []))∧R (.returned (zS x7)) ((w14.putObj ll (rec .exhausted none)).putObj dd (.deferred none))))∨False∨False
theorem qRV (records:Slc) {w:World} {R:RW} (hden:qVJ records w R):Calls prog 10 #[zS records] w R:=
 aB (q0 .z (q0 .z (q0 .z (q0 .z (q0 (q0 .z (.block none (.rf false [] [.agg [.s,.sl]] .z (.block none .z)))) (q0 .z .z)))))) func10 (by kernel_rfl) [.sl records] (by kernel_rfl) (by kernel_rfl) hden
def qVP (records:Slc) (w:World) (R:RW):Prop:=
 aD prog 10 [zS records] w (aH R) fun v w1=>∃ x:Slc,v=(zS x)∧∃ (inv:List TV→World→Prop) (mu:List TV→World→Nat),inv [.sl ⟨none,0,0⟩,.i .i64 (0:Int)] w1∧(∀ out:Slc,∀ x1:Int,∀ w2:World,inv [.sl out,.i .i64 x1] w2→aG (decide (x1<(x.len:Int))) (((0≤x1∧x1<(x.len:Nat))∧aA x.a fun a=>∃ xa:List UInt8,∃ xb:Slc,Rd w2 (a.add (x1.toNat*2)) [.string ⟨xa.toArray⟩,zS xb]∧aF prog (Instr.alloc 64 true (.tuple #[])) w2 fun v1 w3=>∃ l:Option Addr,v1=(.pointer l)∧aA l fun a1=>aJ prog (storeVar 64 a1 (.agg #[.string ⟨xa.toArray⟩,zS xb])) w3 fun w4=>aA l fun a2=>∃ x2:Slc,Rd w4 (a2.add 1) [zS x2]∧aF prog (Builtin.append_ #[22,22] 22 #[zS out,zS x2]) w4 fun v2 w5=>∃ x3:Slc,v2=(zS x3)∧(inv [.sl x3,.i .i64 (IntKind.i64.wrap (x1+(1:Int)))] w5∧mu [.sl x3,.i .i64 (IntKind.i64.wrap (x1+(1:Int)))] w5<mu [.sl out,.i .i64 x1] w2))) (R (.returned (zS out)) w2))
theorem qSA (records:Slc) {w:World} {R:RW} (hden:qVP records w R):Calls prog 11 #[zS records] w R:=
 aB (q0 .z (q0 .z (q0 (q0 .z (.block none (.loop [(3,.sl),(9,(.i .i64))] (q0 .z (q0 (.cond .z .z) (q0 (.block none (q0 .z .z)) .z)))))) (q0 .z .z)))) func11 (by kernel_rfl) [.sl records] (by kernel_rfl) (by kernel_rfl) hden
end Go.Proofs.YthaefcgpbccmbaaGreatDoor
end
section
namespace Go.Proofs.YthaefcgpbccmbaaGreatDoor
open Go Go.Sh Go.MapKept
open Go.Proofs.Tryz
section
variable {P:Program} {w:World}
theorem yS {α:Type} (l:List α) (j:Nat) (f:α→α) (e:α) (he:l[j]? = some e):l.toArray.modify j f=(l.set j (f e)).toArray:=by
 apply Array.ext_getElem?
 intro i
 rw [Array.getElem?_modify,List.getElem?_toArray,List.getElem?_toArray,List.getElem?_set]
 by_cases h:j=i
 ·subst h
  have hj:j<l.length:=(List.getElem?_eq_some_iff.1 he).1
  rw [if_pos rfl,if_pos rfl,if_pos hj,he]; rfl
 ·rw [if_neg h,if_neg h]
theorem vQ {d:TypeDesc} {t kt et:TypeId} (hm:P.underlying t=some (.map kt et)) (hd:P.underlying kt=some d)
 {b:Nat} {es:List MapEntry} {clock:Nat} (hb:iT d w b es clock) {key val:Value} (hkey:IsKey d key) (hex : ∃ e∈es,e.key=key) {K:World→Prop}
 (hk : ∀ j e w',es[j]? = some e→e.key=key→iT d w' b (es.set j ⟨key,val,e.born⟩) clock→Mod (fun x=>x=b) w w'→w'.heap.size=w.heap.size→K w'):aJ P (Instr.mapUpdate t (.map (some b)) key val) w K:=by
 rcases findNow_spec hkey es 0 hb.key with ⟨g1,g2⟩ | ⟨j,e,g1,g2,g3⟩
 ·obtain ⟨e,he,h⟩:=hex
  exact absurd h (g2 e he)
 ·simp only [Nat.zero_add] at g1
  have hu:=nR (o':=.map (es.toArray.modify j fun e=>⟨key,val,e.born⟩) clock) hb.get
  have e1:=yS es j (fun e=>(⟨key,val,e.born⟩:MapEntry)) e g2
  have hj:es.toArray[j]? = some e:=by simpa using g2
  refine ⟨_,by simp [Instr.mapUpdate,run_underlying hm,MapKept.run_getObj_map hb.get,MapKept.run_checkKey hd hkey,MapKept.run_findKey hd g1,g2,g3,run_keyThatStays hkey,MapKept.run_setObj_map _ hb.get],hk j e _ g2 g3 ⟨?_,?_,?_⟩ hu.mod hu.size⟩
  ·rw [← e1]; exact hu.get
  ·rw [← e1]
   exact stamped_modify hb.st j _ (fun _ _=>rfl) fun e' _ h=>by rw [hj] at h; cases h; exact g3.symm
  ·intro x hx
   rcases List.mem_or_eq_of_mem_set hx with h | h
   ·exact hb.key x h
   ·subst h; exact hkey
end
def One (B0 B:Nat) (w:World) (v:Slc) (r:Rc):Prop:=∃ h:Hd,aK w v 7 h.cells∧cN w h r∧(∀ z,h.on z→z<B0)∧∀ z,v.blk=some z→B≤z∧z<w.heap.size
theorem One.mod {B0 B:Nat} {w w':World} {v:Slc} {r:Rc} {S:Nat→Prop} (h:One B0 B w v r) (hm:Mod S w w') (h1 : ∀ z,v.blk=some z→¬ S z) (h2 : ∀ z,z<B0→¬ S z):One B0 B w' v r:=by
 obtain ⟨h,a,b,c,d⟩:=h
 exact ⟨h,a.mod hm h1,b.mod hm fun z hz=>h2 z (c z hz),c,fun z hz=>⟨(d z hz).1,Nat.lt_of_lt_of_le (d z hz).2 hm.size⟩⟩
structure En where
 k:List UInt8
 s:Slc
 l:List (Slc×Rc)
structure lY (B0 B:Nat) (w:World) (ms:List En):Prop where
 own : ∀ m∈ms,Sh.Own w m.s 1 (m.l.map fun p=>p.1.val)
 low : ∀ m∈ms,∀ z,m.s.blk=some z→B≤z
 one : ∀ m∈ms,∀ p∈m.l,One B0 B w p.1 p.2
 ap1 : ∀ m∈ms,∀ p∈m.l,∀ z,p.1.blk=some z→∀ m'∈ms,m'.s.blk≠some z
 ap2 : ∀ m∈ms,∀ m'∈ms,m.k≠m'.k→∀ z,m.s.blk=some z→m'.s.blk≠some z
theorem lY.low' {B0 B:Nat} {w w':World} {ms:List En} {S:Nat→Prop} (h:lY B0 B w ms) (hm:Mod S w w') (hS : ∀ z,B≤z→z<w.heap.size→¬ S z) (hS2 : ∀ z,z<B0→¬ S z):lY B0 B w' ms:=
 ⟨fun m a=>(h.own m a).mod hm fun z hz=>hS z (h.low m a z hz) ((h.own m a).lt hz),h.low,fun m a p b=>by
  obtain ⟨_,_,_,_,d⟩:=h.one m a p b
  exact (h.one m a p b).mod hm (fun z hz=>hS z (d z hz).1 (d z hz).2) hS2,h.ap1,h.ap2⟩
theorem lY.no {B0 B:Nat} {w w':World} {ms:List En} (h:lY B0 B w ms) (hm:Mod NoB w w'):lY B0 B w' ms:=h.low' hm (fun _ _ _ h=>h) fun _ _ h=>h
theorem lY.step {B0 B:Nat} {w w':World} {ms ms':List En} {k:List UInt8} {s0 s1 v:Slc} {L0:List (Slc×Rc)} {r:Rc} (h:lY B0 B w ms)
 (h0:(∃ m0∈ms,m0.k=k∧m0.s=s0∧m0.l=L0)∨(s0.blk=none∧L0=[]))
 (ho:Sh.Own w' s1 1 (L0.map (fun p=>p.1.val)++[v.val])) (hb:s1.blk=s0.blk∨∀ z,s1.blk=some z→w.heap.size≤z) (hm:Mod (fun z=>s0.blk=some z) w w')
 (hv:One B0 B w' v r) (hvn : ∀ z,v.blk=some z→w.heap.size≤z∧s1.blk≠some z) (hB:B≤w.heap.size) (hB0:B0≤B)
 (hms : ∀ m∈ms',m=⟨k,s1,L0++[(v,r)]⟩∨(m∈ms∧m.k≠k)):lY B0 B w' ms':=by
 have hs0B : ∀ z,s0.blk=some z→B≤z:=fun z hz=>by
  rcases h0 with ⟨m0,a,_,rfl,_⟩ | ⟨e,_⟩
  ·exact h.low m0 a z hz
  ·rw [e] at hz; cases hz
 have hoth : ∀ m∈ms,m.k≠k→∀ z,m.s.blk=some z→s0.blk≠some z:=fun m a b z hz=>by
  rcases h0 with ⟨m0,a',e,rfl,_⟩ | ⟨e,_⟩
  ·exact h.ap2 m a m0 a' (by rw [e]; exact b) z hz
  ·rw [e]; intro h; cases h
 have hsg : ∀ m∈ms,∀ p∈m.l,∀ z,p.1.blk=some z→s0.blk≠some z:=fun m a p b z hz=>by
  rcases h0 with ⟨m0,a',e,rfl,_⟩ | ⟨e,_⟩
  ·exact h.ap1 m a p b z hz m0 a'
  ·rw [e]; intro h; cases h
 have hlt : ∀ m∈ms,∀ p∈m.l,∀ z,p.1.blk=some z→z<w.heap.size:=fun m a p b z hz=>by
  obtain ⟨_,_,_,_,d⟩:=h.one m a p b
  exact (d z hz).2
 have hL0 : ∀ p∈L0,∃ m∈ms,p∈m.l:=fun p hp=>by
  rcases h0 with ⟨m0,a',e,_,rfl⟩ | ⟨_,e⟩
  ·exact ⟨m0,a',hp⟩
  ·rw [e] at hp; cases hp
 have hs1 : ∀ z,s1.blk=some z→s0.blk=some z∨w.heap.size≤z:=fun z hz=>by
  rcases hb with e | e
  ·exact .inl (by rw [← e]; exact hz)
  ·exact .inr (e z hz)
 have hkeep : ∀ m∈ms,∀ p∈m.l,One B0 B w' p.1 p.2:=fun m a p b=>(h.one m a p b).mod hm (fun z hz=>hsg m a p b z hz) fun z hz e=>by have:=hs0B z e; omega
 refine ⟨fun m a=>?_,fun m a z hz=>?_,fun m a p b=>?_,fun m a p b z hz m' a'=>?_,fun m a m' a' hne z hz=>?_⟩
 ·rcases hms m a with rfl | ⟨a,b⟩
  ·simpa using ho
  ·exact (h.own m a).mod hm fun z hz=>hoth m a b z hz
 ·rcases hms m a with rfl | ⟨a,b⟩
  ·rcases hs1 z hz with e | e
   ·exact hs0B z e
   ·omega
  ·exact h.low m a z hz
 ·rcases hms m a with rfl | ⟨a,c⟩
  ·rcases List.mem_append.1 b with b | b
   ·obtain ⟨m2,a2,b2⟩:=hL0 p b
    exact hkeep m2 a2 p b2
   ·simp at b; subst b; exact hv
  ·exact hkeep m a p b
 ·have hpz:(∃ m∈ms,p∈m.l)∨p=(v,r):=by
   rcases hms m a with rfl | ⟨a,c⟩
   ·rcases List.mem_append.1 b with b | b
    ·exact .inl (hL0 p b)
    ·simp at b; exact .inr b
   ·exact .inl ⟨m,a,b⟩
  rcases hpz with ⟨m2,a2,b2⟩ | rfl
  ·have h1:=hlt m2 a2 p b2 z hz
   rcases hms m' a' with rfl | ⟨a',c⟩
   ·intro e
    rcases hs1 z e with e | e
    ·exact hsg m2 a2 p b2 z hz e
    ·omega
   ·exact h.ap1 m2 a2 p b2 z hz m' a'
  ·obtain ⟨h1,h2⟩:=hvn z hz
   rcases hms m' a' with rfl | ⟨a',c⟩
   ·exact h2
   ·intro e; have:=(h.own m' a').lt e; omega
 ·rcases hms m a with rfl | ⟨a,c⟩
  ·rcases hms m' a' with rfl | ⟨a',c'⟩
   ·exact absurd rfl hne
   ·intro e
    rcases hs1 z hz with e1 | e1
    ·exact hoth m' a' c' z e e1
    ·have:=(h.own m' a').lt e; omega
  ·rcases hms m' a' with rfl | ⟨a',c'⟩
   ·intro e
    rcases hs1 z e with e1 | e1
    ·exact hoth m a c z hz e1
    ·have:=(h.own m a).lt hz; omega
   ·exact h.ap2 m a m' a' hne z hz
def nL (B0 B:Nat) (w:World) (mb:Nat) (ms:List En):Prop:=
 lY B0 B w ms∧∃ es clock,iT .string w mb es clock∧es.map (fun e=>(e.key,e.val))=ms.map fun m=>(Value.string ⟨m.k.toArray⟩,m.s.val)
structure Grp (l:List Rc) (ms:List En):Prop where
 nd:(ms.map (·.k)).Nodup
 eq : ∀ m∈ms,m.l.map (·.2)=aV l m.k
 ne : ∀ m∈ms,m.l≠[]
 all : ∀ r∈l,r.right=true→∃ m∈ms,m.k=r.key
theorem Grp.none {l:List Rc} {ms:List En} (h:Grp l ms) {k:List UInt8} (hk : ∀ m∈ms,m.k≠k):aV l k=[]:=by
 refine List.filter_eq_nil_iff.2 fun r hr e=>?_
 simp at e
 obtain ⟨m,a,b⟩:=h.all r hr e.1
 exact hk m a (by rw [b,e.2])
theorem nJ (l:List Rc) (r:Rc) (k:List UInt8):aV (l++[r]) k=aV l k++(if r.right=true∧r.key=k then [r] else []):=by
 unfold aV
 rw [List.filter_append]
 congr 1
 by_cases h:r.right=true∧r.key=k
 ·rw [if_pos h,List.filter_cons_of_pos (by simp [h])]; rfl
 ·rw [if_neg h,List.filter_cons_of_neg (by simpa using h)]; rfl
theorem Grp.skip {l:List Rc} {ms:List En} (h:Grp l ms) {r:Rc} (hr:r.right=false):Grp (l++[r]) ms:=
 ⟨h.nd,fun m a=>by rw [nJ,if_neg (by simp [hr]),List.append_nil]; exact h.eq m a,h.ne,fun r' hr' e=>by
  rcases List.mem_append.1 hr' with h1 | h1
  ·exact h.all r' h1 e
  ·simp at h1; subst h1; rw [hr] at e; cases e⟩
theorem kV {a b:List UInt8} (h:Value.string ⟨a.toArray⟩=Value.string ⟨b.toArray⟩):a=b:=by simpa using h
theorem Grp.step {l:List Rc} {ms ms':List En} {r:Rc} {m1:En} (h:Grp l ms) (hr:r.right=true) (h1:m1.k=r.key) (h2:m1.l.map (·.2)=aV l r.key++[r])
 (nd:(ms'.map (·.k)).Nodup) (hms : ∀ m∈ms',m=m1∨(m∈ms∧m.k≠r.key)) (hm1:m1∈ms') (hms3 : ∀ m∈ms,m.k≠r.key→m∈ms'):Grp (l++[r]) ms':=by
 refine ⟨nd,fun m a=>?_,fun m a=>?_,fun r' hr' e=>?_⟩
 ·rw [nJ]
  rcases hms m a with rfl | ⟨a,b⟩
  ·rw [if_pos ⟨hr,h1.symm⟩,h2,h1]
  ·rw [if_neg (fun e=>b e.2.symm),List.append_nil]; exact h.eq m a
 ·rcases hms m a with rfl | ⟨a,b⟩
  ·intro e; rw [e] at h2; simp at h2
  ·exact h.ne m a
 ·by_cases hk:r'.key=r.key
  ·exact ⟨m1,hm1,by rw [h1,hk]⟩
  ·rcases List.mem_append.1 hr' with h3 | h3
   ·obtain ⟨m,a,b⟩:=h.all r' h3 e
    exact ⟨m,hms3 m a (by rw [b]; exact hk),b⟩
   ·simp at h3; subst h3; exact absurd rfl hk
theorem qG4 {ms:List En} (nd:(ms.map (·.k)).Nodup) {j:Nat} (hj:j<ms.length) {m1:En} (hk:ms[j].k=m1.k) :
 ((ms.set j m1).map (·.k)).Nodup∧(∀ m∈ms.set j m1,m=m1∨(m∈ms∧m.k≠m1.k))∧m1∈ms.set j m1∧∀ m∈ms,m.k≠m1.k→m∈ms.set j m1:=by
 have e:(ms.set j m1).map (·.k)=ms.map (·.k):=by
  rw [List.map_set]
  apply List.ext_getElem (by simp)
  intro i a b
  rw [List.getElem_set]
  split
  ·next h=>subst h; simp [hk]
  ·rfl
 refine ⟨by rw [e]; exact nd,fun m a=>?_,List.mem_set hj m1,fun m a b=>?_⟩
 ·obtain ⟨i,hi,rfl⟩:=List.getElem_of_mem a
  rw [List.getElem_set]
  split
  ·exact .inl rfl
  ·next hne=>
   have hi':i<ms.length:=by simpa using hi
   refine .inr ⟨List.getElem_mem _,fun e=>hne ?_⟩
   have:=(List.getElem_inj (xs:=ms.map (·.k)) (i:=j) (j:=i) (h₀:=by simpa using hj) (h₁:=by simpa using hi') nd).1 (by simp [hk,e])
   exact this
 ·obtain ⟨i,hi,rfl⟩:=List.getElem_of_mem a
  have hne:j≠i:=fun e=>by subst e; exact b hk
  have:(ms.set j m1)[i]'(by simpa using hi)=ms[i]:=List.getElem_set_ne hne _
  rw [← this]; exact List.getElem_mem _
theorem qO:prog.underlying 56=some (.map 9 33):=by kernel_rfl
theorem qQF : ∃ i,prog.info? 33=some i∧i.zero=some (.slice none 0 0)∧i.size=1∧i.bytes=24:=bK (by kernel_rfl) (by kernel_rfl) (by kernel_rfl)
section
variable {w:World}
theorem qUT {B0 mb:Nat} {recs:Slc} {ls:List Rc} (hmap:iT .string w mb [] 0) (hl:bP B0 w recs ls) (hB0:B0≤mb) (hn:ls.length≤1000) :
 Calls prog 30 #[.agg #[.map (some mb)],.slice recs.a recs.len recs.cap] w (Ret fun v w'=>v = .tuple #[]∧∃ ms,nL B0 (w.heap.size+1) w' mb ms∧Grp ls ms∧Mod (fun z=>z=mb) w w'):=by
 refine qQT _ _ ?_
 unfold qVO
 obtain ⟨ir,hr1,hr2,hr3,hr4⟩:=lM
 obtain ⟨is,hs1,hs2,hs3,hs4⟩:=qG5
 obtain ⟨iv,hv1,hv2,hv3,hv4⟩:=qQF
 have hmbl:=hmap.lt
 refine aU (l:=[.map (some mb)]) rfl fun b1 w1 hN hb1=>⟨_,rfl,?_⟩
 have e1:=hN.at_
 have e2:=hN.size
 let B:=w.heap.size+1
 have hB:B=w1.heap.size:=by show w.heap.size+1=_; omega
 have hrl:=hl.len
 refine ⟨fun l' w'=>match l' with | [.i _ y]=>∃ (k:Nat) (ms:List En),y=(k:Int)∧k≤ls.length∧nL B0 B w' mb ms∧Grp (ls.take k) ms∧Mod (fun z=>z=mb∨B≤z) w1 w' | _=>False,fun l' _=>match l' with | [.i _ y]=>(ls.length - y).toNat | _=>0,⟨0,[],rfl,by omega,⟨⟨by simp,by simp,by simp,by simp,by simp⟩,[],0,hmap.mod hN.mod fun h=>h,rfl⟩,⟨by simp,by simp,by simp,by simp⟩,Mod.refl _ _⟩,?_⟩
 rintro y w2 ⟨k,ms,rfl,hk,hRM,hG,hm2⟩
 have hm02:Mod (fun z=>z=mb∨B≤z) w w2:=hN.mod.no hm2
 refine aE (fun hlt=>?_) fun hge=>?_
 ·have hlt:k<ls.length:=by have:=of_decide_eq_true hlt; omega
  obtain ⟨hs,g1,g2,g3,g4⟩:=hl.mod (hm02.mono fun z _ h=>by rcases h with rfl | h <;> omega)
  have hks:k<hs.length:=by omega
  obtain ⟨A,ea,hrd⟩:=bQ Hd.len (by omega) g1 hks
  obtain ⟨H,hHB⟩:=g4 k hks hlt
  refine ⟨⟨by omega,by omega⟩,?_⟩
  rw [ea]
  let h:=hs[k]
  have H:cN w2 h ls[k]:=H
  refine ⟨h.a,h.b,h.c,h.d,h.e,h.f,h.g,hrd,?_⟩
  refine aM (l:=hz0) hr1 hr2 rfl fun q w3 hN3 hb3=>⟨_,rfl,?_⟩
  refine bY (h:=h) (by kernel_rfl) (by kernel_rfl) hb3 rfl fun w4 ht4 hq4=>?_
  have hq:=hN3.at_
  have hm24:Mod NoB w2 w4:=hN3.mod.fresh ht4.mod fun z e=>by have e:z=q:=e; omega
  refine ⟨h.a,h.b,h.c,h.d,h.e,h.f,h.g,rdH hq4,?_⟩
  refine aC (pF (h:=h) (H.no hm24)) ?_
  rintro v w5 ⟨rfl,hm5⟩
  have hm25:=hm24.tr hm5
  have etk:ls.take (k+1)=ls.take k++[ls[k]]:=aT hlt
  obtain ⟨hE,es,clock,hM,hEq⟩:=hRM
  refine ⟨_,rfl,aE (fun hrt=>?_) fun hrt=>?_⟩
  ·have hrt:ls[k].right=true:=hrt
   have hm25d:Mod NoB w2 w5.drew:=hm25.tr (Mod.drew _ _)
   have hqd:Blk w5.drew q h.cells 40:=(hq4.no hm5).drew
   have hb1l:b1<w1.heap.size:=hb1.lt
   have hb1d:Blk w5.drew b1 [.map (some mb)] 58:=(hb1.mod hm2 (by omega)).no hm25d
   have hMd:iT .string w5.drew mb es clock:=hM.mod hm25d fun h=>h
   have hEd:lY B0 B w5.drew ms:=hE.no hm25d
   have hs5:B≤w2.heap.size:=by have:=hm2.size; omega
   have hs25:w2.heap.size≤w5.drew.heap.size:=hm25d.size
   have hs2x:w2.heap.size≤w5.heap.size:=hm25.size
   have hql:=hqd.lt
   have hK:h.a=ls[k].key:=H.key
   have isK:IsKey .string (.string ⟨h.a.toArray⟩):=trivial
   have hget : ∀ j (hj:j<es.length) (hj':j<ms.length),es[j].key = .string ⟨ms[j].k.toArray⟩∧es[j].val=ms[j].s.val:=fun j hj hj'=>by
    have:=congrArg (fun l=>l[j]?) hEq
    simp only [List.getElem?_map,List.getElem?_eq_getElem hj,List.getElem?_eq_getElem hj',Option.map_some,Option.some.injEq,Prod.mk.injEq] at this
    exact this
   have hlen:es.length=ms.length:=by have:=congrArg List.length hEq; simpa using this
   obtain ⟨s0,L0,h0,hlk⟩ : ∃ (s0:Slc) (L0:List (Slc×Rc)),((∃ m0∈ms,m0.k=h.a∧m0.s=s0∧m0.l=L0)∨(s0=⟨none,0,0⟩∧L0=[]∧∀ m∈ms,m.k≠h.a))∧
    ∀ {w':World} {K:Value→World→Prop},iT .string w' mb es clock→K s0.val w'→aF prog (Instr.lookup 56 (.map (some mb)) (.string ⟨h.a.toArray⟩) false) w' K:=by
    by_cases hx : ∃ m∈ms,m.k=h.a
    ·obtain ⟨m0,a0,b0⟩:=hx
     refine ⟨m0.s,m0.l,.inl ⟨m0,a0,b0,rfl,rfl⟩,fun {w' K} hM' hK'=>mB qO oY hv1 hv2 hM' isK (fun e he hk=>?_) fun hno=>?_⟩
     ·obtain ⟨j,hj,rfl⟩:=List.getElem_of_mem he
      obtain ⟨j0,hj0,rfl⟩:=List.getElem_of_mem a0
      obtain ⟨c1,c2⟩:=hget j hj (by omega)
      have hkk:ms[j].k=h.a:=kV (c1.symm.trans hk)
      have:=(List.getElem_inj (xs:=ms.map (·.k)) (i:=j) (j:=j0) (h₀:=by simp; omega) (h₁:=by simpa using hj0) hG.nd).1 (by simp [hkk,b0])
      subst this
      rw [c2]; exact hK'
     ·obtain ⟨j0,hj0,rfl⟩:=List.getElem_of_mem a0
      obtain ⟨c1,c2⟩:=hget j0 (by omega) hj0
      exact absurd (by rw [c1,b0]) (hno es[j0] (List.getElem_mem _))
    ·have hx : ∀ m∈ms,m.k≠h.a:=fun m a e=>hx ⟨m,a,e⟩
     refine ⟨⟨none,0,0⟩,[],.inr ⟨rfl,rfl,hx⟩,fun {w' K} hM' hK'=>mB qO oY hv1 hv2 hM' isK (fun e he hk=>?_) fun hno=>hK'⟩
     obtain ⟨j,hj,rfl⟩:=List.getElem_of_mem he
     obtain ⟨c1,c2⟩:=hget j hj (by omega)
     exact absurd (kV (c1.symm.trans hk)) (hx _ (List.getElem_mem (by omega)))
   have h0':(∃ m0∈ms,m0.k=h.a∧m0.s=s0∧m0.l=L0)∨(s0.blk=none∧L0=[]):=by
    rcases h0 with h | ⟨rfl,rfl,_⟩
    ·exact .inl h
    ·exact .inr ⟨rfl,rfl⟩
   have hos0:Sh.Own w5.drew s0 1 (L0.map fun p=>p.1.val):=by
    rcases h0 with ⟨m0,a,_,rfl,rfl⟩ | ⟨rfl,rfl,_⟩
    ·exact hEd.own m0 a
    ·exact bU _ 1
   have hs0z : ∀ z,s0.blk=some z→B≤z∧z<w2.heap.size:=fun z hz=>by
    rcases h0 with ⟨m0,a,_,rfl,rfl⟩ | ⟨rfl,_,_⟩
    ·exact ⟨hE.low m0 a z hz,(hE.own m0 a).lt hz⟩
    ·simp at hz
   have hL0r:L0.map (·.2)=aV (ls.take k) h.a:=by
    rcases h0 with ⟨m0,a,e,_,rfl⟩ | ⟨_,rfl,e⟩
    ·rw [← e]; exact hG.eq m0 a
    ·rw [hG.none e]; rfl
   have hL0n:L0.length≤1000:=by
    have e:=congrArg List.length hL0r
    rw [List.length_map] at e
    have:(aV (ls.take k) h.a).length≤(ls.take k).length:=List.length_filter_le _ _
    rw [List.length_take] at this; omega
   have hfin : ∀ {w9:World} {x9 v:Slc},Sh.Own w9 x9 1 ((L0.map fun p=>p.1.val)++[v.val])→(x9.blk=s0.blk∨∀ z,x9.blk=some z→w5.drew.heap.size≤z)→Mod (fun z=>s0.blk=some z) w5.drew w9→aK w9 v 7 h.cells→
    (∀ z,v.blk=some z→w5.drew.heap.size≤z∧z<w9.heap.size∧x9.blk≠some z)→
    aJ prog (Instr.mapUpdate 56 (.map (some mb)) (.string ⟨h.a.toArray⟩) (.slice x9.a x9.len x9.cap)) w9 fun w10=>((∃ (k':Nat) (ms:List En),IntKind.i64.wrap ((k:Int)+(1:Int))=(k':Int)∧k'≤ls.length∧nL B0 B w10 mb ms∧Grp (ls.take k') ms∧Mod (fun z=>z=mb∨B≤z) w1 w10)∧((ls.length:Int) - IntKind.i64.wrap ((k:Int)+(1:Int))).toNat<((ls.length:Int) - (k:Int)).toNat):=by
    intro w9 x9 v ho9 hbk hm9 hv9 hvb
    have hmb9 : ¬ (s0.blk=some mb):=fun e=>by have:=hs0z mb e; omega
    have hM9:iT .string w9 mb es clock:=hMd.mod hm9 hmb9
    have hone:One B0 B w9 v ls[k]:=⟨h,hv9,(H.no hm25d).mod hm9 fun z hz e=>by have:=hHB z hz; have:=hs0z z e; omega,fun z hz=>hHB z hz,fun z hz=>⟨by have:=(hvb z hz).1; omega,(hvb z hz).2.1⟩⟩
    have hst : ∀ {ms':List En},(∀ m∈ms',m=⟨h.a,x9,L0++[(v,ls[k])]⟩∨(m∈ms∧m.k≠h.a))→lY B0 B w9 ms':=fun {ms'} hms=>
     hEd.step h0' ho9 hbk hm9 hone (fun z hz=>⟨(hvb z hz).1,(hvb z hz).2.2⟩) (by omega) (by omega) hms
    have hup : ∀ {w10:World},Mod (fun x=>x=mb) w9 w10→Mod (fun z=>z=mb∨B≤z) w1 w10:=fun {w10} hm10=>
     (hm2.no' hm25d).trans ((hm9.mono fun z _ hz=>.inr (hs0z z hz).1).tr (hm10.mono fun z _ hz=>.inl hz):Mod (fun z=>z=mb∨B≤z) w5.drew w10) (fun _ _ h=>h) fun _ _ h=>h
    have hE10 : ∀ {ms':List En} {w10:World},lY B0 B w9 ms'→Mod (fun x=>x=mb) w9 w10→lY B0 B w10 ms':=fun {ms' w10} hE' hm10=>hE'.low' hm10 (fun z h1 _ e=>by have e:z=mb:=e; omega) fun z h1 e=>by have e:z=mb:=e; omega
    have hl2:(L0++[(v,ls[k])]).map (·.2)=aV (ls.take k) ls[k].key++[ls[k]]:=by rw [List.map_append,hL0r,hK]; rfl
    rw [wrap_i64 (e:=(k:Int)+1) (by omega)]
    rcases h0 with ⟨m0,a0,b0,rfl,rfl⟩ | ⟨rfl,rfl,hx⟩
    ·obtain ⟨j0,hj0,rfl⟩:=List.getElem_of_mem a0
     refine vQ qO oY hM9 isK ⟨es[j0],List.getElem_mem (by omega),by rw [(hget j0 (by omega) hj0).1,b0]⟩ fun j e w10 he hke hM10 hm10 hsz=>?_
     have hj:j<es.length:=(List.getElem?_eq_some_iff.1 he).1
     have hje:es[j]=e:=(List.getElem?_eq_some_iff.1 he).2
     obtain ⟨c1,c2⟩:=hget j hj (by omega)
     have hkj:ms[j].k=h.a:=kV (c1.symm.trans (by rw [hje]; exact hke))
     obtain ⟨n1,n2,n3,n4⟩:=qG4 hG.nd (j:=j) (by omega) (m1:=⟨h.a,x9,ms[j0].l++[(v,ls[k])]⟩) hkj
     refine ⟨⟨k+1,_,by omega,by omega,⟨hE10 (hst n2) hm10,_,_,hM10,?_⟩,?_,hup hm10⟩,by omega⟩
     ·rw [List.map_set,List.map_set,hEq]; rfl
     ·rw [etk]
      exact hG.step hrt (m1:=⟨h.a,x9,ms[j0].l++[(v,ls[k])]⟩) hK hl2 n1 (fun m a=>by rw [← hK]; exact n2 m a) n3 fun m a b=>n4 m a (by rw [← hK] at b; exact b)
    ·refine uE qO oY hM9 isK (fun e he hk=>?_) fun w10 hM10 hm10 hsz=>?_
     ·obtain ⟨j,hj,rfl⟩:=List.getElem_of_mem he
      exact hx _ (List.getElem_mem (by omega)) (kV ((hget j hj (by omega)).1.symm.trans hk))
     have hms : ∀ m∈ms++[(⟨h.a,x9,[]++[(v,ls[k])]⟩:En)],m=⟨h.a,x9,[]++[(v,ls[k])]⟩∨(m∈ms∧m.k≠h.a):=fun m a=>by
      rcases List.mem_append.1 a with a | a
      ·exact .inr ⟨a,hx m a⟩
      ·exact .inl (List.mem_singleton.1 a)
     refine ⟨⟨k+1,_,by omega,by omega,⟨hE10 (hst hms) hm10,_,_,hM10,?_⟩,?_,hup hm10⟩,by omega⟩
     ·rw [List.map_append,List.map_append,hEq]; rfl
     ·rw [etk]
      refine hG.step hrt (m1:=⟨h.a,x9,[]++[(v,ls[k])]⟩) hK hl2 ?_ (fun m a=>by rw [← hK]; exact hms m a) (by simp) fun m a b=>List.mem_append_left _ a
      rw [List.map_append,List.nodup_append]
      refine ⟨hG.nd,by simp,fun a ha b hb e=>?_⟩
      obtain ⟨m,c,rfl⟩:=List.mem_map.1 ha
      simp at hb
      exact hx m c (e.trans hb)
   have hlitb : ∀ {w' lb},Blk w' lb h.cells 40→aK w' ⟨some ⟨lb,0,none⟩,1,1⟩ 7 h.cells:=fun hb=>(aX (n:=1) (k:=7) hb (by rw [Hd.len])).rd
   have hap : ∀ {w8:World} {x8 v:Slc} {K:Value→World→Prop},Mod NoB w5.drew w8→aK w8 x8 1 [v.val]→x8.len=1→(∀ (x9:Slc) w9,Sh.Own w9 x9 1 ((L0.map fun p=>p.1.val)++[v.val])→(x9.blk=s0.blk∨x9.blk=some w8.heap.size)→Mod (fun z=>s0.blk=some z) w8 w9→K (.slice x9.a x9.len x9.cap) w9)→aF prog (Builtin.append_ #[33,33] 33 #[.slice s0.a s0.len s0.cap,.slice x8.a x8.len x8.cap]) w8 K:=by
    intro w8 x8 v K hm8 hx8 hx8l hk'
    have hol:=(hos0.no hm8).1
    rw [List.length_map] at hol
    exact bC qAD hs1 hs2 hs3 rfl hs4 (hos0.no hm8) hx8 (by intro y hy; simp at hy; subst hy; rfl) (by omega) (by omega) fun x9 w9 ho9 _ hb9 hm9=>hk' x9 w9 ho9 hb9 hm9
   let SX:World→Prop:=fun w'=>Blk w' b1 [.map (some mb)] 58∧Blk w' q h.cells 40
   have hsx : ∀ {w'},Mod (fun z=>s0.blk=some z) w5.drew w'→SX w':=fun hm=>⟨hb1d.mod hm fun e=>by have:=hs0z b1 e; omega,hqd.mod hm fun e=>by have:=hs0z q e; omega⟩
   have hsx0 : ∀ {w'},Mod NoB w5.drew w'→SX w':=fun hm=>hsx (hm.mono fun _ _ h=>h.elim)
   have hend : ∀ {w8:World} {lb:Nat} {x8:Slc},Mod NoB w5.drew w8→Blk w8 lb h.cells 40→w5.drew.heap.size≤lb→aK w8 x8 1 [Slc.val ⟨some ⟨lb,0,none⟩,1,1⟩]→x8.len=1→
    aF prog (Builtin.append_ #[33,33] 33 #[.slice s0.a s0.len s0.cap,.slice x8.a x8.len x8.cap]) w8 fun v6 w9=>∃ x9:Slc,v6 = .slice x9.a x9.len x9.cap∧(SX w9∧((aJ prog (Instr.mapUpdate 56 (.map (some mb)) (.string ⟨h.a.toArray⟩) (.slice x9.a x9.len x9.cap)) w9 fun w10=>((∃ (k':Nat) (ms:List En),IntKind.i64.wrap ((k:Int)+(1:Int))=(k':Int)∧k'≤ls.length∧nL B0 B w10 mb ms∧Grp (ls.take k') ms∧Mod (fun z=>z=mb∨B≤z) w1 w10)∧((ls.length:Int) - IntKind.i64.wrap ((k:Int)+(1:Int))).toNat<((ls.length:Int) - (k:Int)).toNat))∧True)):=by
    intro w8 lb x8 hm8 hb8 hlb hx8 hx8l
    refine hap hm8 hx8 hx8l fun x9 w9 ho9 hbk hm9=>?_
    have hm59:Mod (fun z=>s0.blk=some z) w5.drew w9:=hm8.no hm9
    have hs8:=hm8.size
    have hlb8:=hb8.lt
    have hlb0 : ¬ (s0.blk=some lb):=fun e=>by have:=hs0z lb e; omega
    refine ⟨x9,rfl,hsx hm59,hfin ho9 (hbk.imp id fun e z hz=>by rw [e] at hz; cases hz; exact hs8) hm59 (hlitb (hb8.mod hm9 hlb0)) (fun z hz=>?_),trivial⟩
    have hz:lb=z:=by rw [Slc.blk_mk] at hz; simpa using hz
    subst hz
    refine ⟨hlb,Nat.lt_of_lt_of_le hlb8 hm9.size,fun e=>?_⟩
    rcases hbk with e1 | e1
    ·exact hlb0 (e1.symm.trans e)
    ·rw [e1] at e; cases e; omega
   have l22 : ∀ {w':World} {K:Value→World→Prop},(∀ lb w7,lb=w'.heap.size→Mod NoB w' w7→Blk w7 lb h.cells 40→K (.slice (some ⟨lb,0,none⟩) 1 1) w7)→aF prog (Instr.buildSlice 22 1 #[(0,h.val)]) w' K:=fun hK=>
    bT [h.val] (l:=h.cells) jX hr1 hr2 hr3 (by omega) rfl (by omega) (by omega) rfl (by intro v hv; simp at hv; subst hv; rfl) (by simp [Value.cells,Hd.val]) fun lb w7 hN7 hb7=>hK lb w7 hN7.at_ hN7.mod hb7
   have l33 : ∀ {w':World} {K:Value→World→Prop} {u:Slc},(∀ lb w7,Mod NoB w' w7→aK w7 ⟨some ⟨lb,0,none⟩,1,1⟩ 1 [u.val]→K (.slice (some ⟨lb,0,none⟩) 1 1) w7)→aF prog (Instr.buildSlice 33 1 #[(0,u.val)]) w' K:=fun {w' K u} hK=>
    bT [u.val] (l:=[u.val]) qAD hs1 hs2 hs3 (by omega) rfl (by omega) (by omega) rfl (by intro v hv; simp at hv; subst hv; rfl) (by simp [Value.cells,Slc.val]) fun lb w7 hN7 hb7=>hK lb w7 hN7.mod (aX (n:=1) (k:=1) hb7 rfl).rd
   refine ⟨SX,⟨hb1d,hqd⟩,some mb,fun w' hx=>by rw [aL]; exact hx.1.rd1 rfl,h.a,fun w' hx=>by rw [aL]; exact hx.2.rd1 rfl,some mb,fun w' hx=>by rw [aL]; exact hx.1.rd1 rfl,h.a,fun w' hx=>by rw [aL]; exact hx.2.rd1 rfl,h.a,h.b,h.c,h.d,h.e,h.f,h.g,fun w' hx=>rdH hx.2,?_,?_,trivial⟩
   ·refine hlk hMd ⟨s0,rfl,⟨hb1d,hqd⟩,?_,trivial⟩
    refine l22 fun lb w7 hlb hm7 hb7=>⟨⟨some ⟨lb,0,none⟩,1,1⟩,rfl,hsx0 hm7,?_,trivial⟩
    refine l33 fun lc w8 hm8 hx8=>⟨⟨some ⟨lc,0,none⟩,1,1⟩,rfl,hsx0 (hm7.tr hm8),?_,trivial⟩
    exact hend (hm7.tr hm8) (hb7.no hm8) (by omega) hx8 rfl
   ·refine l22 fun lb w7 hlb hm7 hb7=>⟨⟨some ⟨lb,0,none⟩,1,1⟩,rfl,hsx0 hm7,?_,?_,trivial⟩
    ·refine hlk (hMd.mod hm7 fun h=>h) ⟨s0,rfl,hsx0 hm7,?_,trivial⟩
     refine l33 fun lc w8 hm8 hx8=>⟨⟨some ⟨lc,0,none⟩,1,1⟩,rfl,hsx0 (hm7.tr hm8),?_,trivial⟩
     exact hend (hm7.tr hm8) (hb7.no hm8) (by omega) hx8 rfl
    ·refine l33 fun lc w8 hm8 hx8=>⟨⟨some ⟨lc,0,none⟩,1,1⟩,rfl,hsx0 (hm7.tr hm8),?_,trivial⟩
     refine hlk (hMd.mod (hm7.tr hm8) fun h=>h) ⟨s0,rfl,hsx0 (hm7.tr hm8),?_,trivial⟩
     exact hend (hm7.tr hm8) (hb7.no hm8) (by omega) hx8 rfl
  ·have hrt:ls[k].right=false:=hrt
   rw [wrap_i64 (e:=(k:Int)+1) (by omega)]
   exact ⟨⟨k+1,ms,by omega,by omega,⟨hE.no hm25,es,clock,hM.mod hm25 fun h=>h,hEq⟩,by rw [etk]; exact hG.skip hrt,hm2.no' hm25⟩,by (try simp only []); omega⟩
 ·have hkk:k=ls.length:=by have:=of_decide_eq_false hge; omega
  subst hkk
  rw [List.take_length] at hG
  exact ⟨rfl,ms,hRM,hG,hm02.mono fun z hz h=>h.elim id fun h=>by have:w.heap.size+1≤z:=h; omega⟩
end
end Go.Proofs.YthaefcgpbccmbaaGreatDoor
end
