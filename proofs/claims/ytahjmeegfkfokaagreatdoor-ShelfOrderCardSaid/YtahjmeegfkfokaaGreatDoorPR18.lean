/- The forms of the translated functions,their contracts and the plain laws behind them,put together by a program. -/
import Derived.Test.YtahjmeegfkfokaaGreatDoorPR17
import Derived.Shelf.SlSortCmp.NoneTotal
import Derived.Test.YtahjmeegfkfokaaGreatDoorProg
set_option linter.unusedSimpArgs false
set_option linter.unusedVariables false
set_option maxRecDepth 100000
set_option maxHeartbeats 4000000
section
namespace Go.Proofs.YtahjmeegfkfokaaGreatDoor
open Go Go.Sh Go.Sort
open Go.Proofs.Tryz
def PI (w:World) (S:Nat→Prop):Type:={p:It×Rc // iD w p.1 p.2∧∀ z,p.1.on z→¬ S z}
section
variable {w:World} {b:Nat} {S:Nat→Prop}
def encI (p:PI w S):List Value:=p.1.1.cells
theorem fV (p:PI w S):(encI p).length=8:=rfl
def cfI (p q:PI w S):Int:=qGS p.1.2 q.1.2
theorem swoI:SWO (ltOf (cfI (w:=w) (S:=S))) where
 irrefl x:=by unfold ltOf cfI; rw [decide_eq_false_iff_not,pN]; exact qBE _
 trans x y z h1 h2:=by
  unfold ltOf cfI at *
  rw [decide_eq_true_iff,pN] at *
  exact qIH h1 h2
 ntrans x y z h1 h2:=by
  unfold ltOf cfI at *
  rw [decide_eq_false_iff_not,pN] at *
  exact qAX h1 h2
theorem jV {α:Type} [Inhabited α] {f:α→List Value} {k:Nat} (hk : ∀ x,(f x).length=k) (d:Array α):flatK f k d=(aS f d.toList).toArray:=by
 refine ext_get! (by simp [cB hk]) fun t ht=>?_
 have ht:t<d.size*k:=by simpa using ht
 have k0:0<k:=by rcases Nat.eq_zero_or_pos k with h | h
                 ·subst h; simp at ht
                 ·exact h
 have hd:t / k<d.size:=Nat.div_lt_of_lt_mul (by rwa [Nat.mul_comm])
 have hm:t % k<k:=Nat.mod_lt _ k0
 have e:t / k*k+t % k=t:=Nat.div_add_mod' t k
 rw [get_flatK _ _ _ t ht]
 have hg:=oA hk (l:=d.toList) (i:=t / k) (j:=t % k) (by simpa using hd) hm
 rw [e] at hg
 have h1:(f d[t / k]!)[t % k]? = some (f d[t / k]!)[t % k]!:=by
  rw [List.getElem?_eq_getElem (by rw [hk]; exact hm),getElem!_pos (f d[t / k]!) (t % k) (by rw [hk]; exact hm)]
 have h2:d[t / k]! = d.toList[t / k]'(by simpa using hd):=by rw [getElem!_pos d _ hd]; simp
 rw [h2] at h1 ⊢
 rw [h1] at hg
 rw [Array.getElem!_eq_getD,Array.getD_eq_getD_getElem?]
 simp only [List.getElem?_toArray,hg,Option.getD_some]
theorem qAY {w w':World} (h:lX w w') : ∃ q os,w'=grow (w.drewN q) os:=by
 obtain ⟨⟨h1,h2,h3,h4,h5⟩,h6⟩:=h
 refine ⟨w'.drawn - w.drawn,w'.heap.extract w.heap.size w'.heap.size,?_⟩
 have e:w'.heap=w.heap++w'.heap.extract w.heap.size w'.heap.size:=by
  apply Array.ext_getElem?
  intro i
  by_cases hi:i<w.heap.size
  ·rw [h5 i hi fun h=>h,Array.getElem?_append_left hi]
  ·rw [Array.getElem?_append_right (by omega),Array.getElem?_extract]
   by_cases h7:i<w'.heap.size
   ·rw [if_pos (by omega)]; congr 1; omega
   ·rw [if_neg (by omega),Array.getElem?_eq_none (by omega)]
 cases w'
 simp only [grow,World.drewN] at *
 subst h1 h2 h3
 rw [← e]
 congr 1
 omega
variable [Inhabited (PI w S)]
theorem tA {o n:Nat} {d:Array (PI w S)} {os:Array Obj} : Mod (fun z=>z=b) w (sortWorldK encI 8 w b o n d os):=by
 unfold sortWorldK
 refine ⟨rfl,rfl,rfl,?_,fun x hx hn=>?_⟩
 ·rw [size_grow,size_putRowK]; exact Nat.le_add_right _ _
 ·unfold putRowK putRow mapBlock grow
  show (_++os)[x]? = _
  rw [Array.getElem?_append_left (by simpa [ahead] using hx),Array.getElem?_modify,if_neg (Ne.symm hn)]
  rfl
theorem qCM {v:Slc} {o:Nat} {l:List Value} {T:TypeId} {n:Nat} {d:Array (PI w S)} {os:Array Obj} (ha:v.a=some ⟨b,o,none⟩) (hb:Blk w b l T) (hl:o+v.cap*8≤l.length) (hc:v.len≤v.cap) (hd:d.size=v.len):Sh.Own (sortWorldK encI 8 w b o n d os) v 8 (aS encI d.toList):=by
 have hf:(aS encI d.toList).length=v.len*8:=by rw [cB fV]; simp [hd]
 obtain ⟨fr,h1,h2⟩:=hb
 have hlt:=bD h1
 refine ⟨hf,hc,.inr ⟨b,o,(putCells id o (flatK encI 8 d) l.toArray).toList,T,ha,⟨fr,?_,?_⟩,?_,?_⟩⟩
 ·unfold sortWorldK putRowK putRow mapBlock grow
  show (_++os)[b]? = _
  rw [Array.getElem?_append_left (by simpa [ahead] using hlt),Array.getElem?_modify,if_pos rfl]
  show (w.heap[b]?).map _=_
  rw [h1]; rfl
 ·simpa [putCells] using h2
 ·simpa [putCells] using hl
 ·have h8:v.len*8≤v.cap*8:=Nat.mul_le_mul_right 8 hc
  apply List.ext_getElem?
  intro j
  rw [List.getElem?_take]
  by_cases hj:j<v.len*8
  ·rw [if_pos hj,List.getElem?_drop,Array.getElem?_toList]
   simp only [putCells,Array.getElem?_mapIdx,size_flatK,hd,List.getElem?_toArray]
   rw [List.getElem?_eq_getElem (by omega),Option.map_some,if_pos ⟨by omega,by omega⟩,jV fV]
   rw [List.getElem?_eq_getElem (by omega)]
   simp only [Nat.add_sub_cancel_left,id]
   rw [getElem!_pos _ j (by simpa using (by omega:j<(aS encI d.toList).length))]
   simp
  ·rw [if_neg hj,List.getElem?_eq_none (by omega)]
theorem qIU {v:Slc} (h:v.len=0):Calls prog 103 #[.slice v.a v.len v.cap,.func (.func 104) #[] #[]] w (Ret fun u w'=>u = .tuple #[]∧w'=w):=by
 rw [h]
 refine (AnyF.slices_SortFunc_none Tryz.sortItem v.a v.cap (.func (.func 104) #[] #[]) w).mono ?_
 rintro e w' ⟨rfl,rfl⟩
 exact ⟨rfl,rfl⟩
theorem qVH {v:Slc} {o:Nat} (hS:S b) (ps:List (PI w S)) (ha:v.a=some ⟨b,o,none⟩) (hv:Sh.Own w v 8 (aS encI ps)) (hp:0<ps.length) (hn:ps.length≤1000000) :
 Calls prog 103 #[.slice v.a v.len v.cap,.func (.func 104) #[] #[]] w (Ret fun u w'=>u = .tuple #[]∧∃ ps':List (PI w S),ps'.Perm ps∧ps'.Pairwise (fun p q=>¬ ltS q.1.2 p.1.2)∧Sh.Own w' v 8 (aS encI ps')∧Mod (fun z=>z=b) w w'):=by
 have hvl:ps.length=v.len:=bM fV (by omega) hv.rd
 have hc:=hv.2.1
 rcases hv.owned with ⟨h0,h0',_⟩ | ⟨hcp,b',o',l,T,e1,e2,e3,e4⟩
 ·omega
 ·rw [ha] at e1; cases e1
  have h8:v.len*8≤v.cap*8:=Nat.mul_le_mul_right 8 hc
  have hH:HoldsK encI 8 w b o ps.toArray:=by
   unfold HoldsK
   rw [jV fV]
   intro j hj
   have hj:j<(aS encI ps).length:=by simpa using hj
   have hj8:j<v.len*8:=by rw [cB fV] at hj; rw [← hvl]; exact hj
   have hg:l[o+j]? = some (aS encI ps)[j]:=by
    have:=congrArg (fun m=>m[j]?) e4
    simp only [List.getElem?_take,List.getElem?_drop,if_pos hj8] at this
    rw [this,List.getElem?_eq_getElem hj]
   refine ⟨?_,?_⟩
   ·rw [e2.cell,hg,getElem!_pos _ j (by simpa using hj)]; simp
   ·obtain ⟨fr,h1,h2⟩:=e2
    simp only [World.frozen?,h1,Bool.and_eq_false_iff,decide_eq_false_iff_not]
    omega
  have eg : ∀ args w,(callFunc 104 args).run prog w = .ok (.enter 104 args) w:=enters_of func104 (by kernel_rfl) rfl
  have hcmp:CmpLays prog 104 #[] encI 8 cfI b o ps.toArray.size w:=fun m os dk hs x y=>by
   have hm:=tA (w:=w) (b:=b) (S:=S) (o:=o) (n:=m) (d:=dk) (os:=os)
   refine (qFM (i:=x.1.1) (j:=y.1.1) (x.2.1.mod hm fun z hz e=>x.2.2 z hz (e ▸ hS)) (y.2.1.mod hm fun z hz e=>y.2.2 z hz (e ▸ hS))).mono fun e w' h=>?_
   match e,h with
   | .returned u,⟨h1,h2⟩=>exact ⟨by rw [h1]; rfl,qAY h2⟩
  have hcon:=AnyQ.slices_SortFunc Tryz.sortItem 8 Tryz.isAgg158 Tryz.sizeOf158 encI (fun _=>rfl) (fun x=>It.one x.1.1) cfI swoI 104 #[] b o v.cap ps.toArray w eg hcmp hH e2.lt (by simp; omega)
  have es:(ps.toArray.size:Int)=v.len:=by simp [hvl]
  have es2:ps.toArray.size=v.len:=by simp [hvl]
  rw [es2] at hcon
  rw [ha]
  refine hcon.mono ?_
  rintro e w' ⟨rfl,d',n,os,hpm,hso,rfl⟩
  obtain ⟨q1,q2,q3⟩:=hpm
  have hs:d'.size=v.len:=by rw [q1,es2]
  rw [← es2,← q1] at hso
  rw [← es2] at q3
  have x1:(d'.extract 0 ps.toArray.size).toList=d'.toList:=by rw [← q1]; simp
  rw [x1] at q3
  refine ⟨rfl,d'.toList,by simpa using q3,List.pairwise_iff_getElem.2 fun i j hi hj hij=>?_,qCM ha e2 e3 hc hs,tA⟩
  have hi:i<d'.size:=by simpa using hi
  have hj:j<d'.size:=by simpa using hj
  have:=hso i j (Nat.zero_le _) hij hj
  unfold ltOf cfI at this
  rw [decide_eq_false_iff_not,pN,getElem!_pos d' i hi,getElem!_pos d' j hj] at this
  simp only [Array.getElem_toList]
  exact this
end
end Go.Proofs.YtahjmeegfkfokaaGreatDoor
end
section
namespace Go.Proofs.YtahjmeegfkfokaaGreatDoor
open Go Go.Sh
open Go.Proofs.Tryz
def it0:List Value:=It.cells ⟨⟨[],0,0,⟨none,0,0⟩,false,⟨none,0,0⟩,⟨none,0,0⟩⟩,⟨none,0,0⟩⟩
section
variable {w:World}
theorem uS {T E:TypeId} {p:Nat} {l:List Value} {i:It} {v:Value} {K:World→Prop} (hi:(prog.info? T).isSome=true) (hsz:bF prog T=8) (hb:Blk w p l E) (hl:l.length=8) (hv:v=i.val) (hk : ∀ w',Tch w w' p→Blk w' p i.cells E→K w'):aJ prog (storeVar T ⟨p,0,none⟩ v) w K:=by
 subst hv
 refine bT (vs:=i.cells) hi hsz rfl hb (by rw [It.len]; omega) (It.one i) fun w' ht hb'=>hk w' ht ?_
 have e:putAt l 0 i.cells=i.cells:=by simp [putAt,It.len,hl]
 rwa [e] at hb'
theorem qCC {α β:Type} (f:β→List Value) (g:α→β) (l:List α):aS (fun a=>f (g a)) l=aS f (l.map g):=by
 simp [aS,List.flatMap_map]
theorem kX {S:Nat→Prop} (l:List (PI w S)):aS encI l=cX (l.map fun p=>p.1.1):=qCC It.cells (fun p:PI w S=>p.1.1) l
theorem qWI {B rb:Nat} {T:TypeId} {x:Slc} {rs:List Rc} (hR:kT B w rb T x rs) (hr : ∀ r∈rs,r.right=true) (h0:0<rs.length) (hn:rs.length≤100000) :
 Calls prog 62 #[.pointer (some ⟨rb,0,none⟩)] w (Ret fun v w'=>v = .tuple #[]∧∃ x' out,kT B w' rb T x' out∧bX rs out∧Mod (fun z=>B≤z) w w'):=by
 refine qHZ _ ?_
 unfold qZW
 obtain ⟨ii,hi1,hi2,hi3,hi4x⟩:=wC
 obtain ⟨hB,is,hb,ho,hz,hl,hI⟩:=hR
 have hvl:=bM It.len (by omega) ho.rd
 have hc:=ho.2.1
 obtain ⟨b,o,ha⟩ : ∃ b o,x.a=some ⟨b,o,none⟩:=by
  rcases ho.owned with ⟨h1,h2,_⟩ | ⟨_,b,o,_,_,e1,_⟩
  ·omega
  ·exact ⟨b,o,e1⟩
 have hxb:x.blk=some b:=Slc.blk_of ha (by omega)
 have hbz:=hz b hxb
 let S:Nat→Prop:=fun z=>z=b∨z=rb
 let ps:List (PI w S):=List.ofFn fun i:Fin is.length=>⟨(is[i.1],rs[i.1]'(by have:=i.2; omega)),(hI i.1 i.2 (by have:=i.2; omega)).1,fun z hz e=>e.elim (fun e=>((hI i.1 i.2 (by have:=i.2; omega)).2 z hz).2 (by rw [e]; exact hxb)) fun e=>((hI i.1 i.2 (by have:=i.2; omega)).2 z hz).1 e⟩
 have pl:ps.length=is.length:=List.length_ofFn
 have pe : ∀ i (h:i<is.length) (h':i<rs.length),(ps[i]'(by omega)).1=(is[i],rs[i]):=fun i h h'=>congrArg Subtype.val (List.getElem_ofFn (by rw [List.length_ofFn]; exact h))
 have p1:(ps.map fun p=>p.1.1)=is:=by
  apply List.ext_getElem (by rw [List.length_map,pl])
  intro i a c
  rw [List.getElem_map,pe i c (by omega)]
 have p2:(ps.map fun p=>p.1.2)=rs:=by
  apply List.ext_getElem (by rw [List.length_map,pl,hl])
  intro i a c
  rw [List.getElem_map,pe i (by omega) c]
 haveI:Inhabited (PI w S):=⟨ps[0]'(by omega)⟩
 refine ⟨x,by rw [aK,aK]; exact hb.rd1 rfl,?_⟩
 refine aC (qVH (S:=S) (b:=b) (.inl rfl) ps ha (by rw [kX,p1]; exact ho) (by omega) (by omega)) ?_
 rintro v w1 ⟨rfl,ps',hp,hs,ho1,hm1⟩
 have pl':ps'.length=is.length:=by rw [hp.length_eq,pl]
 have hb1:=hb.mod hm1 fun e=>hbz.2 e.symm
 refine ⟨rfl,x,by rw [aK,aK]; exact hb1.rd1 rfl,?_⟩
 refine aC (sG (is:=ps'.map fun p=>p.1.1) (by rw [← kX]; exact ho1) (by rw [List.length_map]; omega)) ?_
 rintro v w2 ⟨m,rfl,ho2,hm2⟩
 refine ⟨⟨x.a,m,x.cap⟩,rfl,?_⟩
 have hb2:=hb1.mod hm2 fun e=>hbz.2 (Option.some.inj (hxb.symm.trans e))
 show aJ _ _ _ _
 rw [aK,aK]
 refine aQ (by kernel_rfl) (by kernel_rfl) rfl hb2 (by simp) fun w3 ht3 hb3=>?_
 let qs:List (PI w S):=cpt (fun p q=>eqI p.1.1 q.1.1) ps'
 have q1:(qs.map fun p=>p.1.1)=cpt eqI (ps'.map fun p=>p.1.1):=qBZ (fun p:PI w S=>p.1.1) eqI ps'
 have q2:(qs.map fun p=>p.1.2)=cpt eqR (ps'.map fun p=>p.1.2):=by
  have e:(fun p q:PI w S=>eqI p.1.1 q.1.1)=fun p q=>eqR p.1.2 q.1.2:=by
   funext p q
   show (xC p.1.1.hd q.1.1.hd==0)=(wM p.1.2 q.1.2==0)
   rw [tJ p.2.1.hd q.2.1.hd]
  show (cpt _ ps').map _=_
  rw [e]
  exact qBZ (fun p:PI w S=>p.1.2) eqR ps'
 have hrb3:rb<w3.heap.size:=hb3.lt
 have ho3:Sh.Own w3 ⟨x.a,m,x.cap⟩ 8 (aS encI qs):=by
  rw [kX,q1]
  refine ho2.mod ht3.mod fun z hz e=>?_
  have hz':x.blk=some z:=Slc.blk_le hz (Nat.le_refl _)
  have e:z=rb:=e
  rw [hxb] at hz'; cases hz'
  exact hbz.2 e
 have hmq:qs.length=m:=bM fV (by omega) ho3.rd
 subst hmq
 have hqn:qs.length≤x.cap:=ho3.2.1
 have hq3 : ∀ p:PI w S,iD w3 p.1.1 p.1.2:=fun p=>((p.2.1.mod hm1 fun z hz e=>p.2.2 z hz (.inl e)).mod hm2 fun z hz e=>p.2.2 z hz (.inl (Option.some.inj (e.symm.trans hxb)))).mod ht3.mod fun z hz e=>p.2.2 z hz (.inr e)
 have hlow : ∀ (p:PI w S) z,p.1.1.on z→z<w3.heap.size:=fun p z hz=>(hq3 p).low z hz
 have hqc:qs.length≤100000:=by
  have h1:=congrArg List.length q1
  rw [List.length_map] at h1
  have h2:(cpt (fun p q:PI w S=>eqI p.1.1 q.1.1) ps').length≤ps'.length:=by
   have : ∀ (l:List (PI w S)) p,(jE (fun p q:PI w S=>eqI p.1.1 q.1.1) p l).length≤l.length:=by
    intro l
    induction l with
    | nil=>intro p; simp [jE]
    | cons c l ih=>intro p; simp only [jE,List.length_append,List.length_cons]; have:=ih c; split <;> simp <;> omega
   cases ps' with
   | nil=>simp [cpt]
   | cons a l=>simp only [cpt,List.length_cons]; have:=this l a; omega
  have h3:qs.length≤ps'.length:=h2
  omega
 refine ⟨⟨x.a,qs.length,x.cap⟩,by exact hb3.rd1 rfl,?_⟩
 let c:List Rc:=qs.map fun p=>p.1.2
 let kp:Rc→Bool:=fun r=>!c.any fun y=>!decide (r.cl=y.cl∧r.sq=y.sq)&&y.over r
 let keep:PI w S→Bool:=fun p=>kp p.1.2
 refine ⟨fun l' w'=>match l' with | [.sl out,.i _ y]=>∃ k:Nat,y=(k:Int)∧k≤qs.length∧Sh.Own w' out 8 (aS encI ((qs.take k).filter keep))∧(∀ z,out.blk=some z→w3.heap.size≤z)∧Mod NoB w3 w' | _=>False,fun l' _=>match l' with | [.sl _,.i _ y]=>(qs.length - y).toNat | _=>0,⟨0,rfl,by omega,by rw [List.take_zero]; exact bW w3 8,fun z hz=>by simp at hz,Mod.refl _ _⟩,?_⟩
 rintro out y w4 ⟨k,rfl,hk,ho4,hz4,hm4⟩
 refine aD (fun hlt=>?_) fun hge=>?_
 ·have hlt:k<qs.length:=by have:=of_decide_eq_true hlt; simp only [] at this; omega
  obtain ⟨A,ea,hrd⟩:=bH fV (by omega) (ho3.no hm4).rd hlt
  have ea:x.a=some A:=ea
  refine ⟨⟨by omega,by show (k:Int)<(qs.length:Nat); omega⟩,?_⟩
  show aA x.a _
  rw [ea]
  let i:=qs[k].1.1
  have hi4:iD w4 i qs[k].1.2:=(hq3 qs[k]).mod hm4 fun _ _ h=>h
  refine ⟨i.hd.a,i.hd.b,i.hd.c,i.hd.d,i.hd.e,i.hd.f,i.hd.g,i.s,hrd,?_⟩
  refine aP (l:=it0) hi1 hi2 rfl fun q w5 hN5 hb5=>⟨_,rfl,?_⟩
  refine uS (i:=i) (by kernel_rfl) (by kernel_rfl) hb5 rfl rfl fun w6 ht6 hb6=>?_
  have hq:=hN5.at_
  have hm46:Mod NoB w4 w6:=hN5.mod.fresh ht6.mod fun z e=>by have e:z=q:=e; omega
  have hm46d:Mod NoB w4 w6.drew:=hm46.tr (Mod.drew _ _)
  have hm36d:=hm4.tr hm46d
  refine ⟨Mod NoB w6.drew,Mod.refl _ _,i.hd.a,i.hd.b,i.hd.c,i.hd.d,i.hd.e,i.hd.f,i.hd.g,i.s,fun w' hm=>rC (hb6.drew.no hm),?_,trivial⟩
  refine aC (zO (T:=T) (v:=⟨x.a,qs.length,x.cap⟩) (is:=qs.map fun p=>p.1.1) (rs:=c) (x:=i) (r:=qs[k].1.2) (hb3.no hm36d) (by rw [← kX]; exact (ho3.no hm36d).rd) (by simp [c]) (fun j a d=>?_) (hi4.mod hm46d fun _ _ h=>h) (by simp [c]; omega)) ?_
  ·simp only [c,List.getElem_map]; exact (hq3 _).mod hm36d fun _ _ h=>h
  rintro v w7 ⟨rfl,hm7⟩
  have hm47:=hm46d.tr hm7
  have hm37:=hm4.tr hm47
  have hb7:=hb6.drew.no hm7
  have etk:(qs.take (k+1)).filter keep=(qs.take k).filter keep++(if keep qs[k] then [qs[k]] else []):=by
   rw [aT hlt,List.filter_append]
   congr 1
   by_cases h:keep qs[k]=true
   ·rw [if_pos h,List.filter_cons_of_pos h]; rfl
   ·rw [if_neg h,List.filter_cons_of_neg h]; rfl
  have hfl:((qs.take k).filter keep).length≤k:=Nat.le_trans (List.length_filter_le _ _) (by rw [List.length_take]; omega)
  have hol:=bM fV (by omega) ho4.rd
  refine ⟨_,rfl,aD (fun hy=>?_) fun hnn=>?_⟩
  ·have hy:keep qs[k]=true:=hy
   refine ⟨i.hd.a,i.hd.b,i.hd.c,i.hd.d,i.hd.e,i.hd.f,i.hd.g,i.s,rC hb7,?_⟩
   refine cH [i.val] (l:=cX [i]) qT hi1 hi2 hi3 (by omega) rfl (by omega) (by omega) rfl (by intro v hv; simp at hv; subst hv; rfl) (by simp [cX,aS,Value.cells,It.val]) fun lb w8 hN8 hb8=>⟨⟨some ⟨lb,0,none⟩,1,1⟩,rfl,?_⟩
   have hlit:aL w8 ⟨some ⟨lb,0,none⟩,1,1⟩ 8 (cX [i]):=(aY (n:=1) (k:=8) hb8 (by rw [cX,cB It.len]; rfl)).rd
   refine bK qT hi1 hi2 hi3 rfl hi4x (((ho4.no hm47).no hN8.mod)) hlit (fK It.one _) (by simp only []; omega) (by simp only []; omega) fun x' w9 ho9 hlen hblk hm9=>⟨x',rfl,?_⟩
   rw [wrap_i64 (e:=(k:Int)+1) (by omega)]
   have hm49:Mod (fun z=>out.blk=some z) w4 w9:=(hm47.tr hN8.mod).no hm9
   have hm39:Mod NoB w3 w9:=hm4.fresh hm49 fun z hz=>hz4 z hz
   refine ⟨⟨k+1,by omega,by omega,?_,fun z hz=>?_,hm39⟩,by (try simp only []); omega⟩
   ·rw [etk,if_pos hy,dC]; exact ho9
   ·rcases hblk with e | e
    ·exact hz4 z (by rw [← e]; exact hz)
    ·rw [e] at hz; cases hz
     exact (hm37.tr hN8.mod).size
  ·have hnn:keep qs[k]=false:=hnn
   rw [wrap_i64 (e:=(k:Int)+1) (by omega)]
   refine ⟨⟨k+1,by omega,by omega,?_,hz4,hm37⟩,by (try simp only []); omega⟩
   rw [etk,if_neg (by rw [hnn]; simp),List.append_nil]; exact ho4.no hm47
 ·have hkk:k=qs.length:=by have:=of_decide_eq_false hge; simp only [] at this; omega
  subst hkk
  show aJ _ _ _ _
  rw [aK,aK]
  refine aQ (by kernel_rfl) (by kernel_rfl) rfl (hb3.no hm4) (by simp) fun w5 ht5 hb5=>?_
  rw [List.take_length] at ho4
  have hx0:Mod (fun z=>B≤z) w w3:=((jO hm1 fun z (e:z=b)=>by have:=hbz.1; omega).tr (jO hm2 fun z hz'=>(hz z hz').1)).tr (jO ht3.mod fun z (e:z=rb)=>by omega)
  have hnr : ∀ z,out.blk=some z→z≠rb:=fun z hz e=>by have:=hz4 z hz; omega
  refine ⟨rfl,out,(qs.filter keep).map (fun p=>p.1.2),⟨hB,(qs.filter keep).map (fun p=>p.1.1),hb5,?_,fun z hz=>⟨by have:=hz4 z hz; omega,hnr z hz⟩,by simp,fun j a d=>?_⟩,?_,(hx0.no' hm4).tr (jO ht5.mod fun z (e:z=rb)=>by omega)⟩
  ·rw [← kX]
   exact ho4.mod ht5.mod fun z hz e=>hnr z hz e
  ·simp only [List.getElem_map]
   refine ⟨((hq3 _).mod hm4 fun _ _ h=>h).mod ht5.mod fun z hz e=>?_,fun z hz=>⟨fun e=>?_,fun e=>?_⟩⟩
   ·exact (((qs.filter keep)[j]'(by simpa using a)).2.2 z hz (.inr e))
   ·exact (((qs.filter keep)[j]'(by simpa using a)).2.2 z hz (.inr e))
   ·have h1:=hz4 z e
    have h2:=hlow _ z hz
    omega
  ·have e1:((qs.filter keep).map fun p=>p.1.2)=iU c:=by
    show _=(qs.map fun p=>p.1.2).filter kp
    rw [List.filter_map]; rfl
   rw [e1]
   show bX rs (iU (qs.map fun p=>p.1.2))
   rw [q2,← p2]
   refine qCL (hp.map _) (List.pairwise_map.2 hs) (by rw [p2]; exact hr)
theorem qMC {B rb:Nat} {T:TypeId} {x:Slc} (hR:kT B w rb T x []) :
 Calls prog 62 #[.pointer (some ⟨rb,0,none⟩)] w (Ret fun v w'=>v = .tuple #[]∧∃ x' out,kT B w' rb T x' out∧bX [] out∧Mod (fun z=>B≤z) w w'):=by
 refine qHZ _ ?_
 unfold qZW
 have hxl:=hR.len
 obtain ⟨hB,is,hb,ho,hz,hl,hI⟩:=hR
 have hi0:is=[]:=List.eq_nil_of_length_eq_zero hl
 subst hi0
 refine ⟨x,by rw [aK,aK]; exact hb.rd1 rfl,?_⟩
 refine aC (qIU (v:=x) hxl.symm) ?_
 rintro v w1 ⟨rfl,rfl⟩
 refine ⟨rfl,x,by rw [aK,aK]; exact hb.rd1 rfl,?_⟩
 refine aC (sG (is:=[]) ho (by simp)) ?_
 rintro v w2 ⟨m,rfl,ho2,hm2⟩
 have hm0:m=0:=by have:=ho2.1; simp [cpt,cX,aS] at this; omega
 subst hm0
 refine ⟨⟨x.a,0,x.cap⟩,rfl,?_⟩
 have hb2:=hb.mod hm2 fun e=>(hz rb e).2 rfl
 have hrl:=hb2.lt
 show aJ _ _ _ _
 rw [aK,aK]
 refine aQ (by kernel_rfl) (by kernel_rfl) rfl hb2 (by simp) fun w3 ht3 hb3=>?_
 refine ⟨⟨x.a,0,x.cap⟩,by exact hb3.rd1 rfl,?_⟩
 refine ⟨fun l' w'=>match l' with | [.sl out,.i _ y]=>out=⟨none,0,0⟩∧y=0∧w'=w3 | _=>False,fun _ _=>0,⟨rfl,rfl,rfl⟩,?_⟩
 rintro out y w4 ⟨rfl,rfl,rfl⟩
 refine aD (fun hlt=>?_) fun hge=>?_
 ·cases hlt
 ·show aJ _ _ _ _
  rw [aK,aK]
  refine aQ (by kernel_rfl) (by kernel_rfl) rfl hb3 (by simp) fun w5 ht5 hb5=>?_
  exact ⟨rfl,⟨none,0,0⟩,[],⟨hB,[],hb5,bW _ 8,fun z hz=>by simp at hz,rfl,fun i h=>absurd h (by simp)⟩,⟨[],⟨List.Pairwise.nil,fun r=>by simp⟩,rfl⟩,((jO hm2 fun z hz'=>(hz z hz').1).tr (jO ht3.mod fun z (e:z=rb)=>by omega)).tr (jO ht5.mod fun z (e:z=rb)=>by omega)⟩
theorem qLF {B rb:Nat} {T:TypeId} {x:Slc} {rs:List Rc} (hR:kT B w rb T x rs) (hr : ∀ r∈rs,r.right=true) (hn:rs.length≤100000) :
 Calls prog 62 #[.pointer (some ⟨rb,0,none⟩)] w (Ret fun v w'=>v = .tuple #[]∧∃ x' out,kT B w' rb T x' out∧bX rs out∧Mod (fun z=>B≤z) w w'):=by
 cases rs with
 | nil=>exact qMC hR
 | cons a l=>exact qWI hR hr (by simp) hn
end
def iE (B:Nat) (w:World) (s:Slc) (rs:List Rc):Prop:=
 ∃ hs:List Hd,Sh.Own w s 7 (hcells hs)∧(∀ z,s.blk=some z→B≤z)∧hs.length=rs.length∧∀ i (h:i<hs.length) (h':i<rs.length),dH w hs[i] rs[i]∧∀ z,hs[i].on z→B≤z∧s.blk≠some z
theorem iE.mod {B:Nat} {w w':World} {s:Slc} {rs:List Rc} {S:Nat→Prop} (h:iE B w s rs) (hm:Mod S w w') (hS : ∀ z,B≤z→¬ S z):iE B w' s rs:=by
 obtain ⟨hs,h1,h2,h3,h4⟩:=h
 exact ⟨hs,h1.mod hm fun z hz=>hS z (h2 z hz),h2,h3,fun i a b=>⟨(h4 i a b).1.mod hm fun z hz=>hS z ((h4 i a b).2 z hz).1,(h4 i a b).2⟩⟩
theorem iE.le {B B':Nat} {w:World} {s:Slc} {rs:List Rc} (h:iE B w s rs) (hB:B'≤B):iE B' w s rs:=by
 obtain ⟨hs,h1,h2,h3,h4⟩:=h
 exact ⟨hs,h1,fun z hz=>Nat.le_trans hB (h2 z hz),h3,fun i a b=>⟨(h4 i a b).1,fun z hz=>⟨Nat.le_trans hB ((h4 i a b).2 z hz).1,((h4 i a b).2 z hz).2⟩⟩⟩
theorem bQ.le {B B':Nat} {w:World} {l:Slc} {rs:List Rc} (h:bQ B w l rs) (hB:B≤B'):bQ B' w l rs:=by
 obtain ⟨hs,h1,h2,h3,h4⟩:=h
 exact ⟨hs,h1,fun z hz=>Nat.lt_of_lt_of_le (h2 z hz) hB,h3,fun i a b=>⟨(h4 i a b).1,fun z hz=>Nat.lt_of_lt_of_le ((h4 i a b).2 z hz) hB⟩⟩
theorem gM {l out:List Rc} (h:bX l out) : ∀ r∈out,r∈l:=by
 obtain ⟨c,h1,rfl⟩:=h
 intro r hr
 exact ((h1.mem r).1 (List.mem_filter.1 hr).1).1
theorem qJ {α:Type} [BEq α] [LawfulBEq α] {lt:α→α→Prop} (irr : ∀ x,¬ lt x x) : ∀ {c l:List α},c.Pairwise lt→(∀ x∈c,x∈l)→c.length≤l.length
 | [],l,_,_=>Nat.zero_le _
 | a :: c,l,hp,hs=>by
   have ha:=hs a List.mem_cons_self
   have h1:=List.pairwise_cons.1 hp
   have ih:=qJ irr (l:=l.erase a) h1.2 fun x hx=>(List.mem_erase_of_ne fun e=>irr a (by have:=h1.1 x hx; rwa [e] at this)).2 (hs x (List.mem_cons_of_mem _ hx))
   rw [List.length_erase_of_mem ha] at ih
   have:=List.length_pos_of_mem ha
   simp only [List.length_cons]; omega
theorem qQQ:prog.underlying 99=some (.slice 32):=by kernel_rfl
theorem qUX : ∃ i,prog.info? 32=some i∧i.zero=some (.slice none 0 0)∧i.size=1∧i.bytes=24:=bN (by kernel_rfl) (by kernel_rfl) (by kernel_rfl)
theorem qGY : ∃ i,prog.info? 25=some i∧i.zero=some (.int .i64 0)∧i.size=1∧i.bytes=8:=bN (by kernel_rfl) (by kernel_rfl) (by kernel_rfl)
section
variable {w:World}
theorem qGL {B rb:Nat} {T:TypeId} {x:Slc} {rs:List Rc} (hR:kT B w rb T x rs) (hr : ∀ r∈rs,r.right=true) (hn:rs.length≤100000) :
 Calls prog 63 #[.pointer (some (Addr.add ⟨rb,0,none⟩ 0))] w (Ret fun v w'=>∃ out,v=out.val∧iE w.heap.size w' out rs∧Mod NoB w w'):=by
 refine qZU _ ?_
 unfold jEV
 obtain ⟨ii,hi1,hi2,hi3,hi4⟩:=wC
 obtain ⟨ir,hr1,hr2,hr3,hr4⟩:=pG
 obtain ⟨hB,is,hb,ho,hz,hl,hI⟩:=hR
 have hvl:=bM It.len (by omega) ho.rd
 refine ⟨x,by rw [aK,aK]; exact hb.rd1 rfl,?_⟩
 refine ⟨fun l' w'=>match l' with | [.sl out,.i _ y]=>∃ (k:Nat) (hs:List Hd),y=(k:Int)∧k≤rs.length∧Sh.Own w' out 7 (hcells hs)∧(∀ z,out.blk=some z→w.heap.size≤z)∧hs.length=k∧(∀ i (h:i<hs.length) (h':i<rs.length),dH w' hs[i] rs[i]∧∀ z,hs[i].on z→w.heap.size≤z∧out.blk≠some z)∧Mod NoB w w' | _=>False,fun l' _=>match l' with | [.sl _,.i _ y]=>(rs.length - y).toNat | _=>0,⟨0,[],rfl,by omega,bW w 7,fun z hz=>by simp at hz,rfl,fun i h=>absurd h (by simp),Mod.refl _ _⟩,?_⟩
 rintro out y w1 ⟨k,hs,rfl,hk,ho1,hz1,hl1,hI1,hm1⟩
 have hol:=bM Hd.len (by omega) ho1.rd
 refine aD (fun hlt=>?_) fun hge=>?_
 ·have hlt:k<rs.length:=by have:=of_decide_eq_true hlt; omega
  have hki:k<is.length:=by omega
  obtain ⟨A,ea,hrd⟩:=bH It.len (by omega) (ho.no hm1).rd hki
  refine ⟨⟨by omega,by omega⟩,?_⟩
  rw [ea]
  have hI0:=(hI k hki hlt).1.mod hm1 fun _ _ h=>h
  let i:=is[k]
  refine ⟨i.hd.a,i.hd.b,i.hd.c,i.hd.d,i.hd.e,i.hd.f,i.hd.g,i.s,hrd,?_⟩
  refine aP (l:=it0) hi1 hi2 rfl fun q w2 hN2 hb2=>⟨_,rfl,?_⟩
  refine uS (i:=i) (by kernel_rfl) (by kernel_rfl) hb2 rfl rfl fun w3 ht3 hb3=>?_
  have hq:=hN2.at_
  have hm13:Mod NoB w1 w3:=hN2.mod.fresh ht3.mod fun z e=>by have e:z=q:=e; omega
  have hI3:=hI0.mod hm13 fun _ _ h=>h
  refine ⟨i.s,by rw [aK]; exact hb3.rd1 rfl,?_⟩
  refine aC (qWK hI3.s hI3.lt (hr _ (List.getElem_mem hlt))) ?_
  rintro v w4 ⟨h,rfl,hH,hHN,hm4⟩
  refine ⟨h.a,h.b,h.c,h.d,h.e,h.f,h.g,0,rfl,?_⟩
  refine aP (l:=hz0) hr1 hr2 rfl fun p w5 hN5 hb5=>⟨_,rfl,?_⟩
  refine bZ (h:=h) (by kernel_rfl) (by kernel_rfl) hb5 rfl fun w6 ht6 hb6=>?_
  have hp:=hN5.at_
  have hm46:Mod NoB w4 w6:=hN5.mod.fresh ht6.mod fun z e=>by have e:z=p:=e; omega
  refine aC (nO rfl) ?_
  rintro v w7 ⟨rfl,rfl⟩
  refine ⟨rfl,h.a,h.b,h.c,h.d,h.e,h.f,h.g,rdH hb6,?_⟩
  refine cH [h.val] (l:=hcells [h]) tE hr1 hr2 hr3 (by omega) rfl (by omega) (by omega) rfl (by intro v hv; simp at hv; subst hv; rfl) (by simp [hcells,aS,Value.cells,Hd.val]) fun lb w8 hN8 hb8=>⟨⟨some ⟨lb,0,none⟩,1,1⟩,rfl,?_⟩
  have hlit:aL w8 ⟨some ⟨lb,0,none⟩,1,1⟩ 7 (hcells [h]):=(aY (n:=1) (k:=7) hb8 (by rw [hcells,cB Hd.len]; rfl)).rd
  have hm14:=hm13.tr hm4
  have hm16:=hm14.tr hm46
  have hm18:=hm16.tr hN8.mod
  refine bK tE hr1 hr2 hr3 rfl hr4 (ho1.no hm18) hlit (fK Hd.one _) (by simp only []; omega) (by simp only []; omega) fun x' w9 ho9 hlen hblk hm9=>⟨x',rfl,?_⟩
  rw [wrap_i64 (e:=(k:Int)+1) (by omega)]
  have hm19:Mod (fun z=>out.blk=some z) w1 w9:=hm18.no hm9
  have hm09:Mod NoB w w9:=hm1.fresh hm19 fun z hz=>hz1 z hz
  have hs1:w.heap.size≤w1.heap.size:=hm1.size
  have hs8:w1.heap.size≤w8.heap.size:=hm18.size
  have hx' : ∀ z,x'.blk=some z→out.blk=some z∨z=w8.heap.size:=fun z hz=>by
   rcases hblk with e | e
   ·exact .inl (by rw [← e]; exact hz)
   ·rw [e] at hz; cases hz; exact .inr rfl
  have hol1 : ∀ z,out.blk=some z→z<w1.heap.size:=fun z hz=>ho1.lt hz
  have hH9:dH w9 h rs[k]∧∀ z,h.on z→w.heap.size≤z∧x'.blk≠some z:=by
   have h8:dH w8 h rs[k]:=(hH.no hm46).no hN8.mod
   have hno : ∀ z,h.on z→w3.heap.size≤z∧z<w8.heap.size:=fun z hz=>⟨hHN z hz,h8.lt z hz⟩
   have hs3:w1.heap.size≤w3.heap.size:=hm13.size
   refine ⟨h8.mod hm9 fun z hz e=>?_,fun z hz=>⟨?_,fun e=>?_⟩⟩
   ·have:=hno z hz; have:=hol1 z e; omega
   ·have:=hno z hz; omega
   ·have h1:=hno z hz
    rcases hx' z e with e | e
    ·have:=hol1 z e; omega
    ·omega
  refine ⟨⟨k+1,hs++[h],by omega,by omega,?_,fun z hz=>?_,by simp [hl1],fun j a d=>?_,hm09⟩,by (try simp only []); omega⟩
  ·rw [hcells,dC]; exact ho9
  ·rcases hx' z hz with e | e
   ·exact hz1 z e
   ·omega
  ·rcases Nat.lt_or_ge j hs.length with hj | hj
   ·have e1:(hs++[h])[j]=hs[j]:=List.getElem_append_left hj
    rw [e1]
    obtain ⟨g1,g2⟩:=hI1 j hj d
    refine ⟨(g1.no hm18).mod hm9 fun z hz e=>(g2 z hz).2 e,fun z hz=>⟨(g2 z hz).1,fun e=>?_⟩⟩
    rcases hx' z e with e | e
    ·exact (g2 z hz).2 e
    ·have:=g1.lt z hz; omega
   ·have hje:j=hs.length:=by simp at a; omega
    subst hje
    have e1:(hs++[h])[hs.length]=h:=by simp
    rw [e1]
    subst hl1
    exact hH9
 ·have hkk:k=rs.length:=by have:=of_decide_eq_false hge; omega
  subst hkk
  exact ⟨out,rfl,⟨hs,ho1,hz1,hl1,hI1⟩,hm1⟩
theorem qVT {p q:Nat} {K:FrameMode→World→Prop} (hk:K .returning w):dL prog 100 #[.pointer (some ⟨p,0,none⟩),.pointer (some ⟨q,0,none⟩)] .returning w K:=by
 unfold dL
 refine qNT _ _ ?_
 unfold qHT
 show aU _ _ _
 refine ⟨.bool false,fun w=>?_,false,rfl,aD (fun h=>by cases h) fun _=>⟨(fun h=>(by cases h)),hk⟩⟩
 rfl
theorem qGO {f:FuncId} {first cap:Array Value} {R:List Rc→Prop} (he:enters prog f=true)
 (hc : ∀ w3,Mod NoB w w3→Calls prog f (first.toList++[]++cap.toList).toArray w3 (Ret fun v w'=>∃ out rs,v=out.val∧R rs∧iE w3.heap.size w' out rs∧Mod NoB w3 w')) :
 Calls prog 59 #[.func (.func f) first cap] w (Ret fun v w'=>∃ out rs,v = .tuple #[out.val,.int .i64 0]∧R rs∧iE w.heap.size w' out rs∧Mod NoB w w'):=by
 refine qYM _ ?_
 unfold jCL
 obtain ⟨ii,hi1,hi2,hi3,hi4⟩:=qUX
 obtain ⟨ie,he1,he2,he3,he4⟩:=qGY
 refine aP (l:=[.slice none 0 0]) hi1 hi2 rfl fun p w1 hN hb=>⟨_,rfl,?_⟩
 refine aP (l:=[.int .i64 0]) he1 he2 rfl fun q w2 hN2 hb2=>⟨_,rfl,?_⟩
 have e1:=hN.at_; have e2:=hN2.at_; have e3:=hN.size; have e4:=hN2.size
 have hM2:=hN.mod.tr hN2.mod
 refine cW he ?_
 refine aC (hc _ hM2) ?_
 rintro v w3 ⟨out,rs,rfl,hR,hS,hm3⟩
 refine ⟨out,rfl,?_⟩
 show aJ _ _ _ _
 refine aQ (by kernel_rfl) (by kernel_rfl) rfl ((hb.no hN2.mod).no hm3) (by simp) fun w4 ht4 hp4=>?_
 show aJ _ _ _ _
 refine aQ (by kernel_rfl) (by kernel_rfl) rfl ((hb2.no hm3).mod ht4.mod (by omega)) (by simp) fun w5 ht5 hq5=>?_
 refine qVT ?_
 unfold eO
 dsimp only
 have hS5:iE w2.heap.size w5 out rs:=(hS.mod ht4.mod fun z hz e=>by have e:z=p:=e; omega).mod ht5.mod fun z hz e=>by have e:z=q:=e; omega
 have hm5:Mod NoB w w5:=((hM2.tr hm3).fresh ht4.mod fun z e=>by have e:z=p:=e; omega).fresh ht5.mod fun z e=>by have e:z=q:=e; omega
 exact ⟨out,(hp4.mod ht5.mod (by omega)).rd1 rfl,0,hq5.rd1 rfl,out,rs,rfl,hR,hS5.le hM2.size,hm5⟩
def kV (B:Nat) (w:World) (s:Slc) (ls:List (List Rc)):Prop:=
 ∃ vs:List Slc,aL w s 1 (vs.map Slc.val)∧(∀ z,s.blk=some z→z<B)∧vs.length=ls.length∧∀ i (h:i<vs.length) (h':i<ls.length),bQ B w vs[i] ls[i]
theorem kV.mod {B:Nat} {w w':World} {l:Slc} {rs:List (List Rc)} (h:kV B w l rs) (hm:Mod (fun z=>B≤z) w w'):kV B w' l rs:=by
 obtain ⟨hs,h1,h2,h3,h4⟩:=h
 exact ⟨hs,h1.mod hm fun z hz e=>by have:=h2 z hz; omega,h2,h3,fun i a b=>(h4 i a b).mod hm⟩
theorem jAP {w w':World} (h:Mod (fun z=>w.heap.size≤z) w w'):Mod NoB w w':=h.mono fun z hz h=>by omega
theorem qMG {p:Nat} {T0:TypeId} {s:Slc} {ls:List (List Rc)} {K:List UInt8} (hb:Blk w p [s.val] T0) (hs:kV w.heap.size w s ls) (hK : ∀ l∈ls,∀ r∈l,r.right=true∧r.key=K) (hn:ls.flatten.length≤100000) (hln:ls.length≤100000) :
 Calls prog 60 #[.pointer (some ⟨p,0,none⟩)] w (Ret fun v w'=>∃ out rs,v=out.val∧bX ls.flatten rs∧iE w.heap.size w' out rs∧Mod NoB w w'):=by
 refine qZQ _ ?_
 unfold jAB
 refine aV (l:=[.slice none 0 0]) rfl fun rb w1 hN hb1=>⟨_,rfl,?_⟩
 have e1:=hN.at_
 refine ⟨s,(hb.no hN.mod).rd1 rfl,?_⟩
 have hs1:=hs.mod (hN.mod.mono fun _ _ h=>h.elim)
 have hsl:ls.length=s.len:=by
  obtain ⟨vs,h1,_,h3,_⟩:=hs
  have:=h1.1; simp at this; omega
 refine ⟨fun l' w'=>match l' with | [.i _ y]=>∃ (k:Nat) (x':Slc),y=(k:Int)∧k≤ls.length∧kT w.heap.size w' rb 106 x' (ls.take k).flatten∧Mod (fun z=>w.heap.size≤z) w w' | _=>False,fun l' _=>match l' with | [.i _ y]=>(ls.length - y).toNat | _=>0,⟨0,⟨none,0,0⟩,rfl,by omega,⟨by omega,[],hb1,bW w1 8,fun z hz=>by simp at hz,rfl,fun i h=>absurd h (by simp)⟩,hN.mod.mono fun _ _ h=>h.elim⟩,?_⟩
 rintro y w2 ⟨k,x',rfl,hk,hR,hm2⟩
 have hall : ∀ r∈ls.flatten,r.right=true∧r.key=K:=fun r hr=>by
  obtain ⟨l,hl,hr⟩:=List.mem_flatten.1 hr
  exact hK l hl r hr
 have htk : ∀ n,(ls.take n).flatten.length≤ls.flatten.length:=fun n=>by
  conv=>rhs; rw [← List.take_append_drop n ls,List.flatten_append,List.length_append]
  omega
 have hsub : ∀ n,∀ r∈(ls.take n).flatten,r∈ls.flatten:=fun n r hr=>by
  obtain ⟨l,hl,hr⟩:=List.mem_flatten.1 hr
  exact List.mem_flatten.2 ⟨l,List.mem_of_mem_take hl,hr⟩
 refine aD (fun hlt=>?_) fun hge=>?_
 ·have hlt:k<ls.length:=by have:=of_decide_eq_true hlt; omega
  obtain ⟨vs,g1,g2,g3,g4⟩:=hs.mod hm2
  have hkv:k<vs.length:=by omega
  obtain ⟨A,ea,hrd⟩:=g1.at (i:=k) (vs:=vs.map Slc.val) (us:=[vs[k].val]) (by omega) (by omega) fun j u hu=>by
   have:j=0:=by have:=(List.getElem?_eq_some_iff.1 hu).1; simp at this; omega
   subst this
   simp at hu; subst hu
   simp [hkv]
  refine ⟨⟨by omega,by omega⟩,?_⟩
  rw [ea]
  refine ⟨vs[k],hrd,?_⟩
  have etk:(ls.take (k+1)).flatten=(ls.take k).flatten++ls[k]:=by rw [aT hlt,List.flatten_append]; simp
  have hle:=htk (k+1)
  rw [etk,List.length_append] at hle
  show aE _ _ _ _ _ _
  refine aC (qHD (K:=K) hR (g4 k hkv hlt) (hK _ (List.getElem_mem hlt)) (fun r hr=>(hall r (hsub k r hr)).2) (by omega) hm2.size) ?_
  rintro v w3 ⟨rfl,x2,hR2,hm3⟩
  rw [wrap_i64 (e:=(k:Int)+1) (by omega)]
  exact ⟨rfl,⟨k+1,x2,by omega,by omega,by rw [etk]; exact hR2,hm2.tr hm3⟩,by (try simp only []); omega⟩
 ·have hkk:k=ls.length:=by have:=of_decide_eq_false hge; omega
  subst hkk
  rw [List.take_length] at hR
  refine aC (qLF hR (fun r hr=>(hall r hr).1) hn) ?_
  rintro v w3 ⟨rfl,x2,out,hR2,hJ,hm3⟩
  refine ⟨rfl,?_⟩
  show aE _ _ _ _ _ _
  have hol:out.length≤ls.flatten.length:=by
   obtain ⟨c,hc,rfl⟩:=hJ
   refine Nat.le_trans (List.length_filter_le _ _) ?_
   exact qJ gJ hc.pw fun r hr=>((hc.mem r).1 hr).1
  refine aC (qGL hR2 (fun r hr=>(hall r (gM hJ r hr)).1) (by omega)) ?_
  rintro v w4 ⟨o,rfl,hS,hm4⟩
  have hm03:=hm2.tr hm3
  exact ⟨o,rfl,o,out,rfl,hJ,hS.le hm03.size,jAP (hm03.no' hm4)⟩
theorem qEH {s:Slc} {ls:List (List Rc)} {K:List UInt8} (hs:kV w.heap.size w s ls) (hK : ∀ l∈ls,∀ r∈l,r.right=true∧r.key=K) (hn:ls.flatten.length≤100000) (hln:ls.length≤100000) :
 Calls prog 42 #[.slice s.a s.len s.cap] w (Ret fun v w'=>∃ out rs,v = .tuple #[out.val,.int .i64 0]∧bX ls.flatten rs∧iE w.heap.size w' out rs∧Mod NoB w w'):=by
 refine qWX _ ?_
 unfold jEX
 refine aV (l:=[s.val]) rfl fun p w1 hN hb=>⟨_,rfl,?_⟩
 have hmono : ∀ {w'},Mod NoB w w'→kV w'.heap.size w' s ls:=fun {w'} hm=>by
  obtain ⟨vs,h1,h2,h3,h4⟩:=hs.mod (hm.mono fun _ _ h=>h.elim)
  have:=hm.size
  exact ⟨vs,h1,fun z hz=>by have:=h2 z hz; omega,h3,fun i a b=>(h4 i a b).le this⟩
 refine aC (qGO (R:=bX ls.flatten) (by kernel_rfl) fun w3 hm=>?_) ?_
 ·exact qMG (hb.no hm) (hmono (hN.mod.tr hm)) hK hn hln
 rintro v w2 ⟨out,rs,rfl,hJ,hS,hm⟩
 exact ⟨out,0,rfl,out,rs,rfl,hJ,hS.le hN.mod.size,hN.mod.tr hm⟩
end
end Go.Proofs.YtahjmeegfkfokaaGreatDoor
end
section
namespace Go.Proofs.YtahjmeegfkfokaaGreatDoor
open Go Go.Sh Go.MapKept
open Go.Proofs.Tryz
def mY (k:List UInt8):Value:=.string ⟨k.toArray⟩
abbrev Lv:=List (List UInt8×List Rc)
theorem iE.len {B:Nat} {w:World} {s:Slc} {rs:List Rc} (h:iE B w s rs):rs.length=s.len:=by
 obtain ⟨hs,h1,_,h3,_⟩:=h
 have:=bM Hd.len (by omega) h1.rd; omega
theorem qXU {w:World} {s:Slc} {l:List Value} (h:aL w s 1 l) {i:Nat} (hi:i<l.length) : ∃ a,s.a=some a∧Rd w (a.add (i*1)) [l[i]]:=by
 have hl:=h.1
 refine h.at (by omega) (by omega) fun j u hu=>?_
 have:j=0:=by have:=(List.getElem?_eq_some_iff.1 hu).1; simp at this; omega
 subst this
 simp at hu; subst hu
 rw [Nat.mul_one,Nat.add_zero,List.getElem?_eq_getElem hi]
def fL (Q:Nat→Prop) (w:World) (s:Slc) (rs:List Rc):Prop:=
 ∃ hs:List Hd,Sh.Own w s 7 (hcells hs)∧(∀ z,s.blk=some z→Q z)∧hs.length=rs.length∧∀ i (h:i<hs.length) (h':i<rs.length),dH w hs[i] rs[i]∧∀ z,hs[i].on z→Q z
theorem fL.mod {Q Q':Nat→Prop} {w w':World} {s:Slc} {rs:List Rc} {S:Nat→Prop} (h:fL Q w s rs) (hm:Mod S w w') (hS : ∀ z,Q z→z<w.heap.size→¬ S z∧Q' z):fL Q' w' s rs:=by
 obtain ⟨hs,h1,h2,h3,h4⟩:=h
 exact ⟨hs,h1.mod hm fun z hz=>(hS z (h2 z hz) (h1.lt hz)).1,fun z hz=>(hS z (h2 z hz) (h1.lt hz)).2,h3,fun i a b=>⟨(h4 i a b).1.mod hm fun z hz=>(hS z ((h4 i a b).2 z hz) ((h4 i a b).1.lt z hz)).1,fun z hz=>(hS z ((h4 i a b).2 z hz) ((h4 i a b).1.lt z hz)).2⟩⟩
theorem iE.q {B:Nat} {w:World} {s:Slc} {rs:List Rc} (h:iE B w s rs):fL (fun z=>B≤z) w s rs:=by
 obtain ⟨hs,h1,h2,h3,h4⟩:=h
 exact ⟨hs,h1,h2,h3,fun i a b=>⟨(h4 i a b).1,fun z hz=>((h4 i a b).2 z hz).1⟩⟩
def bG (e:List UInt8×Slc):List Value:=[mY e.1,e.2.val]
theorem aZ (e:List UInt8×Slc):(bG e).length=2:=rfl
theorem eX (e:List UInt8×Slc) : ∀ v∈bG e,v.oneCell'=true:=by
 intro v hv
 simp [bG,mY,Slc.val] at hv
 rcases hv with rfl | rfl <;> rfl
def dI (Q:Nat→Prop) (w:World) (o:Slc) (L:Lv):Prop:=
 ∃ es:List (List UInt8×Slc),Sh.Own w o 2 (aS bG es)∧(∀ z,o.blk=some z→Q z)∧es.length=L.length∧∀ i (h:i<es.length) (h':i<L.length),es[i].1=L[i].1∧fL (fun z=>Q z∧o.blk≠some z) w es[i].2 L[i].2
theorem dI.mod {Q Q':Nat→Prop} {w w':World} {o:Slc} {L:Lv} {S:Nat→Prop} (h:dI Q w o L) (hm:Mod S w w') (hS : ∀ z,Q z→z<w.heap.size→¬ S z∧Q' z):dI Q' w' o L:=by
 obtain ⟨es,h1,h2,h3,h4⟩:=h
 exact ⟨es,h1.mod hm fun z hz=>(hS z (h2 z hz) (h1.lt hz)).1,fun z hz=>(hS z (h2 z hz) (h1.lt hz)).2,h3,fun i a b=>⟨(h4 i a b).1,(h4 i a b).2.mod hm fun z hz hl=>⟨(hS z hz.1 hl).1,(hS z hz.1 hl).2,hz.2⟩⟩⟩
theorem dV:prog.underlying 42=some (.slice 65):=by kernel_rfl
theorem oV : ∃ i,prog.info? 65=some i∧i.zero=some (.agg #[.string ⟨#[]⟩,.slice none 0 0])∧i.size=2∧i.bytes=40:=bN (by kernel_rfl) (by kernel_rfl) (by kernel_rfl)
theorem tM {ls:List Rc} {L:Lv} (h:gV ls L):L.length≤ls.length∧∀ e∈L,e.2.length≤ls.length:=by
 refine ⟨?_,fun e he=>?_⟩
 ·have:=qJ (lt:=fun a b:List UInt8=>a<b) (fun x=>List.lt_irrefl x) (c:=L.map fun e=>e.1) (l:=ls.map fun r:Rc=>r.key) (List.pairwise_map.2 h.pw) fun k hk=>by
   obtain ⟨e,he,rfl⟩:=List.mem_map.1 hk
   obtain ⟨h2,h3⟩:=(h.mem e.1 e.2).1 he
   obtain ⟨r,hr⟩:=List.exists_mem_of_ne_nil _ h2
   have h5:=List.mem_filter.1 (gM h3 r hr)
   simp at h5
   exact List.mem_map.2 ⟨r,h5.1,h5.2.2⟩
  simpa using this
 ·obtain ⟨h2,cc,hcc,h4⟩:=(h.mem e.1 e.2).1 he
  rw [h4]
  exact Nat.le_trans (List.length_filter_le _ _) (qJ gJ hcc.pw fun r hr=>(List.mem_filter.1 ((hcc.mem r).1 hr).1).1)
end Go.Proofs.YtahjmeegfkfokaaGreatDoor
end
section
namespace Go.Proofs.YtahjmeegfkfokaaGreatDoor
open Go Go.Sh
open Go.Proofs.Tryz
def jEN (a b:Slc) (w:World) (R:RW):Prop:=
 aG ((a.len:Int) != (b.len:Int)) (R (.returned (.bool false)) w) (∃ (inv:List TV→World→Prop) (mu:List TV→World→Nat),inv [.i .i64 (0:Int)] w∧(∀ i:Int,∀ w1:World,inv [.i .i64 i] w1→aG (decide (i<(a.len:Int))) (∃ sx:World→Prop,sx w1.drew∧((0≤i∧i<(a.len:Nat))∧aA a.a fun a1=>((0≤i∧i<(b.len:Nat))∧aA b.a fun a2=>∃ xa:List UInt8,∃ xb:Slc,(∀ w',sx w'→Rd w' (a1.add (i.toNat*2)) [.string ⟨xa.toArray⟩,zS xb])∧∃ xa1:List UInt8,∃ xb1:Slc,(∀ w',sx w'→Rd w' (a2.add (i.toNat*2)) [.string ⟨xa1.toArray⟩,zS xb1])∧((aE prog 32 [.agg #[.string ⟨xa.toArray⟩,zS xb],.agg #[.string ⟨xa1.toArray⟩,zS xb1]] w1.drew (aH R) fun v w2=>∃ x:Bool,v=(.bool x)∧aG (!x) (R (.returned (.bool false)) w2) ((inv [.i .i64 (IntKind.i64.wrap (i+(1:Int)))] w2∧mu [.i .i64 (IntKind.i64.wrap (i+(1:Int)))] w2<mu [.i .i64 i] w1)))∧True)))) (R (.returned (.bool true)) w1)))
theorem qVF (a b:Slc) {w:World} {R:RW} (hden:jEN a b w R):Calls prog 17 #[zS a,zS b] w R:=
 aB (q0 .z (q0 (q0 .z (.cond (q0 .z .z) .z)) (q0 (q0 .z (.block none (.loop [(5,(.i .i64))] (q0 (q0 .z (.cond .z .z)) (q0 (.block none (q0 (.draw 1 (.take 0 (.take 1 (.take 2 (.take 4 (.take 5 (.take 6 (.take 3 (.take 7 (.all [(8,(.take 9 .done))])))))))))) (.cond (q0 .z .z) .z))) .z))))) (q0 .z .z)))) func17 (by kernel_rfl) [.sl a,.sl b] (by kernel_rfl) (by kernel_rfl) hden
def jAN (a b:Slc) (w:World) (R:RW):Prop:=
 aG ((a.len:Int) != (b.len:Int)) (R (.returned (.bool false)) w) (∃ (inv:List TV→World→Prop) (mu:List TV→World→Nat),inv [.i .i64 (0:Int)] w∧(∀ i:Int,∀ w1:World,inv [.i .i64 i] w1→aG (decide (i<(a.len:Int))) (∃ sx:World→Prop,sx w1.drew∧((0≤i∧i<(a.len:Nat))∧aA a.a fun a1=>((0≤i∧i<(b.len:Nat))∧aA b.a fun a2=>∃ xa:List UInt8,∃ xb xc:Int,∃ xd:Slc,∃ xe:Bool,∃ xf xg:Slc,(∀ w',sx w'→Rd w' (a1.add (i.toNat*7)) (yR xa xb xc xd xe xf xg))∧∃ xa1:List UInt8,∃ xb1 xc1:Int,∃ xd1:Slc,∃ xe1:Bool,∃ xf1 xg1:Slc,(∀ w',sx w'→Rd w' (a2.add (i.toNat*7)) (yR xa1 xb1 xc1 xd1 xe1 xf1 xg1))∧((aE prog 20 [zR xa xb xc xd xe xf xg,zR xa1 xb1 xc1 xd1 xe1 xf1 xg1] w1.drew (aH R) fun v w2=>∃ x:Bool,v=(.bool x)∧aG (!x) (R (.returned (.bool false)) w2) ((inv [.i .i64 (IntKind.i64.wrap (i+(1:Int)))] w2∧mu [.i .i64 (IntKind.i64.wrap (i+(1:Int)))] w2<mu [.i .i64 i] w1)))∧True)))) (R (.returned (.bool true)) w1)))
theorem qWB (a b:Slc) {w:World} {R:RW} (hden:jAN a b w R):Calls prog 12 #[zS a,zS b] w R:=
 aB (q0 .z (q0 (q0 .z (.cond (q0 .z .z) .z)) (q0 (q0 .z (.block none (.loop [(5,(.i .i64))] (q0 (q0 .z (.cond .z .z)) (q0 (.block none (q0 (.draw 1 (.take 0 (.take 1 (.take 2 (.take 4 (.take 5 (.take 6 (.take 3 (.take 7 (.all [(8,(.take 9 .done))])))))))))) (.cond (q0 .z .z) .z))) .z))))) (q0 .z .z)))) func12 (by kernel_rfl) [.sl a,.sl b] (by kernel_rfl) (by kernel_rfl) hden
def jBB (aa:List UInt8) (ab ac:Int) (ad:Slc) (ae:Bool) (af ag:Slc) (ba:List UInt8) (bb bc:Int) (bd:Slc) (be:Bool) (bf bg:Slc) (w:World) (R:RW):Prop:=
 aI prog (Instr.box 30 (zR aa ab ac ad ae af ag)) w fun v w1=>∃ a:Option Addr,v=(.pointer a)∧aI prog (Instr.box 30 (zR ba bb bc bd be bf bg)) w1 fun v1 w2=>∃ b:Option Addr,v1=(.pointer b)∧aA a fun a1=>∃ x:List UInt8,Rd w2 (a1.add 0) [.string ⟨x.toArray⟩]∧aA b fun a2=>∃ x1:List UInt8,Rd w2 (a2.add 0) [.string ⟨x1.toArray⟩]∧aG (x==x1) (aA a fun a3=>∃ x2:Int,Rd w2 (a3.add 1) [.int .i64 x2]∧aA b fun a4=>∃ x3:Int,Rd w2 (a4.add 1) [.int .i64 x3]∧aG (x2==x3) (aA a fun a5=>∃ x4:Int,Rd w2 (a5.add 2) [.int .i64 x4]∧aA b fun a6=>∃ x5:Int,Rd w2 (a6.add 2) [.int .i64 x5]∧aG (x4==x5) (aA a fun a7=>∃ x6:Slc,Rd w2 (a7.add 3) [zS x6]∧aA b fun a8=>∃ x7:Slc,Rd w2 (a8.add 3) [zS x7]∧aE prog 39 [zS x6,zS x7] w2 (aH R) fun v2 w3=>∃ x8:Bool,v2=(.bool x8)∧aG x8 (aA a fun a9=>∃ x9:Bool,Rd w3 (a9.add 4) [.bool x9]∧aA b fun a10=>∃ x10:Bool,Rd w3 (a10.add 4) [.bool x10]∧aU prog (do eqGuard .eql 4 (.tmp 33) (.tmp 35) (.bool x9) (.bool x10); binOp .eql 4 (.bool x9) (.bool x10)) fun v3=>∃ x11:Bool,v3=(.bool x11)∧aG x11 (aA a fun a11=>∃ x12:Slc,Rd w3 (a11.add 5) [zS x12]∧aA b fun a12=>∃ x13:Slc,Rd w3 (a12.add 5) [zS x13]∧aE prog 40 [zS x12,zS x13] w3 (aH R) fun v4 w4=>∃ x14:Bool,v4=(.bool x14)∧aG x14 (aA a fun a13=>∃ x15:Slc,Rd w4 (a13.add 6) [zS x15]∧aA b fun a14=>∃ x16:Slc,Rd w4 (a14.add 6) [zS x16]∧aE prog 40 [zS x15,zS x16] w4 (aH R) fun v5 w5=>∃ x17:Bool,v5=(.bool x17)∧R (.returned (.bool x17)) w5) (R (.returned (.bool false)) w4)) (R (.returned (.bool false)) w3)) (R (.returned (.bool false)) w3)) (R (.returned (.bool false)) w2)) (R (.returned (.bool false)) w2)) (R (.returned (.bool false)) w2)
theorem qXY (aa:List UInt8) (ab ac:Int) (ad:Slc) (ae:Bool) (af ag:Slc) (ba:List UInt8) (bb bc:Int) (bd:Slc) (be:Bool) (bf bg:Slc) {w:World} {R:RW} (hden:jBB aa ab ac ad ae af ag ba bb bc bd be bf bg w R):Calls prog 20 #[zR aa ab ac ad ae af ag,zR ba bb bc bd be bf bg] w R:=
 aB (q0 .z (q0 .z .z)) func20 (by kernel_rfl) [.agg [.s aa,.i .i64 ab,.i .i64 ac,.sl ad,.b ae,.sl af,.sl ag],.agg [.s ba,.i .i64 bb,.i .i64 bc,.sl bd,.b be,.sl bf,.sl bg]] (by kernel_rfl) (by kernel_rfl) hden
def jBY (aa:List UInt8) (ab:Slc) (ba:List UInt8) (bb:Slc) (w:World) (R:RW):Prop:=
 aI prog (Instr.box 65 (.agg #[.string ⟨aa.toArray⟩,zS ab])) w fun v w1=>∃ a:Option Addr,v=(.pointer a)∧aI prog (Instr.box 65 (.agg #[.string ⟨ba.toArray⟩,zS bb])) w1 fun v1 w2=>∃ b:Option Addr,v1=(.pointer b)∧aA a fun a1=>∃ x:List UInt8,Rd w2 (a1.add 0) [.string ⟨x.toArray⟩]∧aA b fun a2=>∃ x1:List UInt8,Rd w2 (a2.add 0) [.string ⟨x1.toArray⟩]∧aG (x==x1) (aA a fun a3=>∃ x2:Slc,Rd w2 (a3.add 1) [zS x2]∧aA b fun a4=>∃ x3:Slc,Rd w2 (a4.add 1) [zS x3]∧aE prog 12 [zS x2,zS x3] w2 (aH R) fun v2 w3=>∃ x4:Bool,v2=(.bool x4)∧R (.returned (.bool x4)) w3) (R (.returned (.bool false)) w2)
theorem qZJ (aa:List UInt8) (ab:Slc) (ba:List UInt8) (bb:Slc) {w:World} {R:RW} (hden:jBY aa ab ba bb w R):Calls prog 32 #[.agg #[.string ⟨aa.toArray⟩,zS ab],.agg #[.string ⟨ba.toArray⟩,zS bb]] w R:=
 aB (q0 .z (q0 .z .z)) func32 (by kernel_rfl) [.agg [.s aa,.sl ab],.agg [.s ba,.sl bb]] (by kernel_rfl) (by kernel_rfl) hden
def jBS (a b:Slc) (w:World) (R:RW):Prop:=
 aG ((a.len:Int) != (b.len:Int)) (R (.returned (.bool false)) w) (∃ (inv:List TV→World→Prop) (mu:List TV→World→Nat),inv [.i .i64 (0:Int)] w∧(∀ i:Int,∀ w1:World,inv [.i .i64 i] w1→aG (decide (i<(a.len:Int))) (((0≤i∧i<(a.len:Nat))∧aA a.a fun a1=>((0≤i∧i<(b.len:Nat))∧aA b.a fun a2=>∃ xa xb:Int,Rd w1.drew (a1.add (i.toNat*2)) [.int .i64 xa,.int .i64 xb]∧∃ xa1 xb1:Int,Rd w1.drew (a2.add (i.toNat*2)) [.int .i64 xa1,.int .i64 xb1]∧aU prog (do eqGuard .neq 35 (.tmp 20) (.tmp 24) (.agg #[.int .i64 xa,.int .i64 xb]) (.agg #[.int .i64 xa1,.int .i64 xb1]); binOp .neq 35 (.agg #[.int .i64 xa,.int .i64 xb]) (.agg #[.int .i64 xa1,.int .i64 xb1])) fun v=>∃ x:Bool,v=(.bool x)∧aG x (R (.returned (.bool false)) w1.drew) ((inv [.i .i64 (IntKind.i64.wrap (i+(1:Int)))] w1.drew∧mu [.i .i64 (IntKind.i64.wrap (i+(1:Int)))] w1.drew<mu [.i .i64 i] w1))))) (R (.returned (.bool true)) w1)))
theorem qXE (a b:Slc) {w:World} {R:RW} (hden:jBS a b w R):Calls prog 39 #[zS a,zS b] w R:=
 aB (q0 .z (q0 (q0 .z (.cond (q0 .z .z) .z)) (q0 (q0 .z (.block none (.loop [(5,(.i .i64))] (q0 (q0 .z (.cond .z .z)) (q0 (.block none (q0 (.draw 2 (.take 0 (.take 1 (.take 2 (.take 4 (.take 5 (.take 6 (.take 3 (.take 7 (.take 8 .done)))))))))) (.cond (q0 .z .z) .z))) .z))))) (q0 .z .z)))) func39 (by kernel_rfl) [.sl a,.sl b] (by kernel_rfl) (by kernel_rfl) hden
end Go.Proofs.YtahjmeegfkfokaaGreatDoor
end
