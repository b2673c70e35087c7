/- The forms of the translated functions,their contracts and the plain laws behind them,put together by a program. -/
import Derived.Test.YthaefcgpbccmbaaGreatDoorPE17
import Derived.Shelf.SlSortCmp.NoneTotal
import Derived.Test.YthaefcgpbccmbaaGreatDoorProg
set_option linter.unusedSimpArgs false
set_option linter.unusedVariables false
set_option maxRecDepth 100000
set_option maxHeartbeats 4000000
section
namespace Go.Proofs.YthaefcgpbccmbaaGreatDoor
open Go Go.Sh Go.Sort
open Go.Proofs.Tryz
def PI (w:World) (S:Nat->Prop):Type:={p:It×Rc // jA w p.1 p.2/\∀ z,p.1.on z->¬ S z}
section
variable {w:World} {b:Nat} {S:Nat->Prop}
def encI (p:PI w S):List Value:=p.1.1.cells
theorem fX (p:PI w S):(encI p).length=8:=rfl
def cfI (p q:PI w S):Int:=qJX p.1.2 q.1.2
theorem swoI:SWO (ltOf (cfI (w:=w) (S:=S))) where
 irrefl x:=by unfold ltOf cfI; rw [decide_eq_false_iff_not,qR]; exact qDE _
 trans x y z h1 h2:=by
  unfold ltOf cfI at *
  rw [decide_eq_true_iff,qR] at *
  exact qJZ h1 h2
 ntrans x y z h1 h2:=by
  unfold ltOf cfI at *
  rw [decide_eq_false_iff_not,qR] at *
  exact qDJ h1 h2
theorem rO {α:Type} [Inhabited α] {f:α->List Value} {k:Nat} (hk : ∀ x,(f x).length=k) (d:Array α):flatK f k d=(aR f d.toList).toArray:=by
 refine ext_get! (by simp [cJ hk]) λt ht=>?_
 have ht:t<d.size*k:=by simpa using ht
 have k0:0<k:=by rcases Nat.eq_zero_or_pos k with h | h
                 ·subst h; simp at ht
                 ·exact h
 have hd:t / k<d.size:=Nat.div_lt_of_lt_mul (by rwa [Nat.mul_comm])
 have hm:t % k<k:=Nat.mod_lt _ k0
 have e:t / k*k+t % k=t:=Nat.div_add_mod' t k
 rw [get_flatK _ _ _ t ht]
 have hg:=oX hk (l:=d.toList) (i:=t / k) (j:=t % k) (by simpa using hd) hm
 rw [e] at hg
 have h1:(f d[t / k]!)[t % k]? = some (f d[t / k]!)[t % k]!:=by
  rw [List.getElem?_eq_getElem (by rw [hk]; exact hm),getElem!_pos (f d[t / k]!) (t % k) (by rw [hk]; exact hm)]
 have h2:d[t / k]! = d.toList[t / k]'(by simpa using hd):=by rw [getElem!_pos d _ hd]; simp
 rw [h2] at h1 ⊢
 rw [h1] at hg
 rw [Array.getElem!_eq_getD,Array.getD_eq_getD_getElem?]
 simp only [List.getElem?_toArray,hg,Option.getD_some]
theorem qPC {w w':World} (h:nA w w') : ∃ q os,w'=grow (w.drewN q) os:=by
 obtain ⟨⟨h1,h2,h3,h4,h5⟩,h6⟩:=h
 refine ⟨w'.drawn - w.drawn,w'.heap.extract w.heap.size w'.heap.size,?_⟩
 have e:w'.heap=w.heap++w'.heap.extract w.heap.size w'.heap.size:=by
  apply Array.ext_getElem?
  intro i
  by_cases hi:i<w.heap.size
  ·rw [h5 i hi λh=>h,Array.getElem?_append_left hi]
  ·rw [Array.getElem?_append_right (by omega),Array.getElem?_extract]
   by_cases h7:i<w'.heap.size
   ·rw [if_pos (by omega)]; congr 1; omega
   ·rw [if_neg (by omega),Array.getElem?_eq_none (by omega)]
 cases w'
 simp only [grow,World.drewN] at *
 subst h1 h2 h3
 rw [<-e]
 congr 1
 omega
variable [Inhabited (PI w S)]
theorem uK {o n:Nat} {d:Array (PI w S)} {os:Array Obj} : Mod (λz=>z=b) w (sortWorldK encI 8 w b o n d os):=by
 unfold sortWorldK
 refine ⟨rfl,rfl,rfl,?_,λx hx hn=>?_⟩
 ·rw [size_grow,size_putRowK]; exact Nat.le_add_right _ _
 ·unfold putRowK putRow mapBlock grow
  show (_++os)[x]? = _
  rw [Array.getElem?_append_left (by simpa [ahead] using hx),Array.getElem?_modify,if_neg (Ne.symm hn)]
  rfl
theorem qGF {v:Slc} {o:Nat} {l:List Value} {T:TypeId} {n:Nat} {d:Array (PI w S)} {os:Array Obj} (ha:v.a=some ⟨b,o,none⟩) (hb:Blk w b l T) (hl:o+v.cap*8<=l.length) (hc:v.len<=v.cap) (hd:d.size=v.len):Sh.Own (sortWorldK encI 8 w b o n d os) v 8 (aR encI d.toList):=by
 have hf:(aR encI d.toList).length=v.len*8:=by rw [cJ fX]; simp [hd]
 obtain ⟨fr,h1,h2⟩:=hb
 have hlt:=aT h1
 refine ⟨hf,hc,.inr ⟨b,o,(putCells id o (flatK encI 8 d) l.toArray).toList,T,ha,⟨fr,?_,?_⟩,?_,?_⟩⟩
 ·unfold sortWorldK putRowK putRow mapBlock grow
  show (_++os)[b]? = _
  rw [Array.getElem?_append_left (by simpa [ahead] using hlt),Array.getElem?_modify,if_pos rfl]
  show (w.heap[b]?).map _=_
  rw [h1]; rfl
 ·simpa [putCells] using h2
 ·simpa [putCells] using hl
 ·have h8:v.len*8<=v.cap*8:=Nat.mul_le_mul_right 8 hc
  apply List.ext_getElem?
  intro j
  rw [List.getElem?_take]
  by_cases hj:j<v.len*8
  ·rw [if_pos hj,List.getElem?_drop,Array.getElem?_toList]
   simp only [putCells,Array.getElem?_mapIdx,size_flatK,hd,List.getElem?_toArray]
   rw [List.getElem?_eq_getElem (by omega),Option.map_some,if_pos ⟨by omega,by omega⟩,rO fX]
   rw [List.getElem?_eq_getElem (by omega)]
   simp only [Nat.add_sub_cancel_left,id]
   rw [getElem!_pos _ j (by simpa using (by omega:j<(aR encI d.toList).length))]
   simp
  ·rw [if_neg hj,List.getElem?_eq_none (by omega)]
theorem qSE {v:Slc} (h:v.len=0):Calls prog 202 #[.slice v.a v.len v.cap,.func (.func 203) #[] #[]] w (Ret λu w'=>u = .tuple #[]/\w'=w):=by
 rw [h]
 refine (AnyF.slices_SortFunc_none Tryz.sortItem v.a v.cap (.func (.func 203) #[] #[]) w).mono ?_
 rintro e w' ⟨rfl,rfl⟩
 exact ⟨rfl,rfl⟩
theorem qZS {v:Slc} {o:Nat} (hS:S b) (ps:List (PI w S)) (ha:v.a=some ⟨b,o,none⟩) (hv:Sh.Own w v 8 (aR encI ps)) (hp:0<ps.length) (hn:ps.length<=1000000) :
 Calls prog 202 #[.slice v.a v.len v.cap,.func (.func 203) #[] #[]] w (Ret λu w'=>u = .tuple #[]/\∃ ps':List (PI w S),ps'.Perm ps/\ps'.Pairwise (λp q=>¬ ltS q.1.2 p.1.2)/\Sh.Own w' v 8 (aR encI ps')/\Mod (λz=>z=b) w w'):=by
 have k3:ps.length=v.len:=bA fX (by omega) hv.rd
 have hc:=hv.2.1
 rcases hv.owned with ⟨h0,p9,_⟩ | ⟨q8,b',o',l,T,e1,e2,e3,e4⟩
 ·omega
 ·rw [ha] at e1; cases e1
  have h8:v.len*8<=v.cap*8:=Nat.mul_le_mul_right 8 hc
  have hH:HoldsK encI 8 w b o ps.toArray:=by
   unfold HoldsK
   rw [rO fX]
   intro j hj
   have hj:j<(aR encI ps).length:=by simpa using hj
   have k6:j<v.len*8:=by rw [cJ fX] at hj; rw [<-k3]; exact hj
   have hg:l[o+j]? = some (aR encI ps)[j]:=by
    have:=congrArg (λm=>m[j]?) e4
    simp only [List.getElem?_take,List.getElem?_drop,if_pos k6] at this
    rw [this,List.getElem?_eq_getElem hj]
   refine ⟨?_,?_⟩
   ·rw [e2.cell,hg,getElem!_pos _ j (by simpa using hj)]; simp
   ·obtain ⟨fr,h1,h2⟩:=e2
    simp only [World.frozen?,h1,Bool.and_eq_false_iff,decide_eq_false_iff_not]
    omega
  have eg : ∀ args w,(callFunc 203 args).run prog w = .ok (.enter 203 args) w:=enters_of func203 (by kernel_rfl) rfl
  have k4:CmpLays prog 203 #[] encI 8 cfI b o ps.toArray.size w:=λm os dk hs x y=>by
   have hm:=uK (w:=w) (b:=b) (S:=S) (o:=o) (n:=m) (d:=dk) (os:=os)
   refine (qGT (i:=x.1.1) (j:=y.1.1) (x.2.1.mod hm λz hz e=>x.2.2 z hz (e ▸ hS)) (y.2.1.mod hm λz hz e=>y.2.2 z hz (e ▸ hS))).mono λe w' h=>?_
   match e,h with
   | .returned u,⟨h1,h2⟩=>exact ⟨by rw [h1]; rfl,qPC h2⟩
  have hcon:=AnyQ.slices_SortFunc Tryz.sortItem 8 Tryz.isAgg302 Tryz.sizeOf302 encI (λ_=>rfl) (λx=>It.one x.1.1) cfI swoI 203 #[] b o v.cap ps.toArray w eg k4 hH e2.lt (by simp; omega)
  have es:(ps.toArray.size:Int)=v.len:=by simp [k3]
  have h9:ps.toArray.size=v.len:=by simp [k3]
  rw [h9] at hcon
  rw [ha]
  refine hcon.mono ?_
  rintro e w' ⟨rfl,d',n,os,p8,k5,rfl⟩
  obtain ⟨q1,q2,q3⟩:=p8
  have hs:d'.size=v.len:=by rw [q1,h9]
  rw [<-h9,<-q1] at k5
  rw [<-h9] at q3
  have x1:(d'.extract 0 ps.toArray.size).toList=d'.toList:=by rw [<-q1]; simp
  rw [x1] at q3
  refine ⟨rfl,d'.toList,by simpa using q3,List.pairwise_iff_getElem.2 λi j hi hj hij=>?_,qGF ha e2 e3 hc hs,uK⟩
  have hi:i<d'.size:=by simpa using hi
  have hj:j<d'.size:=by simpa using hj
  have:=k5 i j (Nat.zero_le _) hij hj
  unfold ltOf cfI at this
  rw [decide_eq_false_iff_not,qR,getElem!_pos d' i hi,getElem!_pos d' j hj] at this
  simp only [Array.getElem_toList]
  exact this
end
end Go.Proofs.YthaefcgpbccmbaaGreatDoor
end
section
namespace Go.Proofs.YthaefcgpbccmbaaGreatDoor
open Go Go.Sh
open Go.Proofs.Tryz
def it0:List Value:=It.cells ⟨⟨[],0,0,⟨none,0,0⟩,false,⟨none,0,0⟩,⟨none,0,0⟩⟩,⟨none,0,0⟩⟩
section
variable {w:World}
theorem qDL {T E:TypeId} {p:Nat} {l:List Value} {i:It} {v:Value} {K:zP} (hi:(prog.info? T).isSome=true) (hsz:bE prog T=8) (hb:Blk w p l E) (hl:l.length=8) (hv:v=i.val) (hk : ∀ w',Tch w w' p->Blk w' p i.cells E->K w'):aJ prog (storeVar T ⟨p,0,none⟩ v) w K:=by
 subst hv
 refine bU (vs:=i.cells) hi hsz rfl hb (by rw [It.len]; omega) (It.one i) λw' ht h9=>hk w' ht ?_
 have e:putAt l 0 i.cells=i.cells:=by simp [putAt,It.len,hl]
 rwa [e] at h9
theorem qFL {α β:Type} (f:β->List Value) (g:α->β) (l:List α):aR (λa=>f (g a)) l=aR f (l.map g):=by
 simp [aR,List.flatMap_map]
theorem kX {S:Nat->Prop} (l:List (PI w S)):aR encI l=dI (l.map λp=>p.1.1):=qFL It.cells (λp:PI w S=>p.1.1) l
theorem jCV {B rb:Nat} {T:TypeId} {x:Slc} {rs:List Rc} (hR:mP B w rb T x rs) (hr : ∀ r∈rs,r.right=true) (h0:0<rs.length) (hn:rs.length<=100000) :
 Calls prog 122 #[.pointer (some ⟨rb,0,none⟩)] w (Ret λv w'=>v = .tuple #[]/\∃ x' out,mP B w' rb T x' out/\dR rs out/\Mod (λz=>B<=z) w w'):=by
 refine qCL _ ?_
 unfold qHH
 obtain ⟨ii,t6,t7,v1,hi4x⟩:=qDZ
 obtain ⟨hB,is,hb,ho,hz,hl,hI⟩:=hR
 have j3:=bA It.len (by omega) ho.rd
 have hc:=ho.2.1
 obtain ⟨b,o,ha⟩ : ∃ b o,x.a=some ⟨b,o,none⟩:=by
  rcases ho.owned with ⟨h1,h2,_⟩ | ⟨_,b,o,_,_,e1,_⟩
  ·omega
  ·exact ⟨b,o,e1⟩
 have k5:x.blk=some b:=Slc.blk_of ha (by omega)
 have p9:=hz b k5
 let S:Nat->Prop:=λz=>z=b\/z=rb
 let ps:List (PI w S):=List.ofFn λi:Fin is.length=>⟨(is[i.1],rs[i.1]'(by have:=i.2; omega)),(hI i.1 i.2 (by have:=i.2; omega)).1,λz hz e=>e.elim (λe=>((hI i.1 i.2 (by have:=i.2; omega)).2 z hz).2 (by rw [e]; exact k5)) λe=>((hI i.1 i.2 (by have:=i.2; omega)).2 z hz).1 e⟩
 have pl:ps.length=is.length:=List.length_ofFn
 have pe : ∀ i (h:i<is.length) (h':i<rs.length),(ps[i]'(by omega)).1=(is[i],rs[i]):=λi h h'=>congrArg Subtype.val (List.getElem_ofFn (by rw [List.length_ofFn]; exact h))
 have p1:(ps.map λp=>p.1.1)=is:=by
  apply List.ext_getElem (by rw [List.length_map,pl])
  intro i a c
  rw [List.getElem_map,pe i c (by omega)]
 have p2:(ps.map λp=>p.1.2)=rs:=by
  apply List.ext_getElem (by rw [List.length_map,pl,hl])
  intro i a c
  rw [List.getElem_map,pe i (by omega) c]
 haveI:Inhabited (PI w S):=⟨ps[0]'(by omega)⟩
 refine ⟨x,by rw [aO,aO]; exact hb.rd1 rfl,?_⟩
 refine aB (qZS (S:=S) (b:=b) (.inl rfl) ps ha (by rw [kX,p1]; exact ho) (by omega) (by omega)) ?_
 rintro v w1 ⟨rfl,ps',hp,hs,y1,u0⟩
 have pl':ps'.length=is.length:=by rw [hp.length_eq,pl]
 have hb1:=hb.mod u0 λe=>p9.2 e.symm
 refine ⟨rfl,x,by rw [aO,aO]; exact hb1.rd1 rfl,?_⟩
 refine aB (uP (is:=ps'.map λp=>p.1.1) (by rw [<-kX]; exact y1) (by rw [List.length_map]; omega)) ?_
 rintro v w2 ⟨m,rfl,y2,u1⟩
 refine ⟨⟨x.a,m,x.cap⟩,rfl,?_⟩
 have hb2:=hb1.mod u1 λe=>p9.2 (Option.some.inj (k5.symm.trans e))
 show aJ _ _ _ _
 rw [aO,aO]
 refine aX (by kernel_rfl) (by kernel_rfl) rfl hb2 (by simp) λw3 ht3 hb3=>?_
 let qs:List (PI w S):=cpt (λp q=>eqI p.1.1 q.1.1) ps'
 have q1:(qs.map λp=>p.1.1)=cpt eqI (ps'.map λp=>p.1.1):=qCK (λp:PI w S=>p.1.1) eqI ps'
 have q2:(qs.map λp=>p.1.2)=cpt eqR (ps'.map λp=>p.1.2):=by
  have e:(λp q:PI w S=>eqI p.1.1 q.1.1)=λp q=>eqR p.1.2 q.1.2:=by
   funext p q
   show (qET p.1.1.hd q.1.1.hd==0)=(zK p.1.2 q.1.2==0)
   rw [vU p.2.1.hd q.2.1.hd]
  show (cpt _ ps').map _=_
  rw [e]
  exact qCK (λp:PI w S=>p.1.2) eqR ps'
 have y5:rb<w3.heap.size:=hb3.lt
 have q8:Sh.Own w3 ⟨x.a,m,x.cap⟩ 8 (aR encI qs):=by
  rw [kX,q1]
  refine y2.mod ht3.mod λz hz e=>?_
  have q9:x.blk=some z:=Slc.blk_le hz (Nat.le_refl _)
  have e:z=rb:=e
  rw [k5] at q9; cases q9
  exact p9.2 e
 have y7:qs.length=m:=bA fX (by omega) q8.rd
 subst y7
 have j4:qs.length<=x.cap:=q8.2.1
 have hq3 : ∀ p:PI w S,jA w3 p.1.1 p.1.2:=λp=>((p.2.1.mod u0 λz hz e=>p.2.2 z hz (.inl e)).mod u1 λz hz e=>p.2.2 z hz (.inl (Option.some.inj (e.symm.trans k5)))).mod ht3.mod λz hz e=>p.2.2 z hz (.inr e)
 have hlow : ∀ (p:PI w S) z,p.1.1.on z->z<w3.heap.size:=λp z hz=>(hq3 p).low z hz
 have j5:qs.length<=100000:=by
  have h1:=congrArg List.length q1
  rw [List.length_map] at h1
  have h2:(cpt (λp q:PI w S=>eqI p.1.1 q.1.1) ps').length<=ps'.length:=by
   have : ∀ (l:List (PI w S)) p,(jM (λp q:PI w S=>eqI p.1.1 q.1.1) p l).length<=l.length:=by
    intro l
    induction l with
    | nil=>intro p; simp [jM]
    | cons c l ih=>intro p; simp only [jM,List.length_append,List.length_cons]; have:=ih c; split <;> simp <;> omega
   cases ps' with
   | nil=>simp [cpt]
   | cons a l=>simp only [cpt,List.length_cons]; have:=this l a; omega
  have h3:qs.length<=ps'.length:=h2
  omega
 refine ⟨⟨x.a,qs.length,x.cap⟩,by exact hb3.rd1 rfl,?_⟩
 let c:List Rc:=qs.map λp=>p.1.2
 let kp:Rc->Bool:=λr=>!c.any λy=>!decide (r.cl=y.cl/\r.sq=y.sq)&&y.over r
 let keep:PI w S->Bool:=λp=>kp p.1.2
 refine ⟨λl' w'=>match l' with | [.sl out,.i _ y]=>∃ k:Nat,y=(k:Int)/\k<=qs.length/\Sh.Own w' out 8 (aR encI ((qs.take k).filter keep))/\(∀ z,out.blk=some z->w3.heap.size<=z)/\Mod NoB w3 w' | _=>False,λl' _=>match l' with | [.sl _,.i _ y]=>(qs.length - y).toNat | _=>0,⟨0,rfl,by omega,by rw [List.take_zero]; exact bK w3 8,λz hz=>by simp at hz,Mod.refl _ _⟩,?_⟩
 rintro out y w4 ⟨k,rfl,hk,k6,k4,k3⟩
 refine aC (λhlt=>?_) λhge=>?_
 ·have hlt:k<qs.length:=by have:=of_decide_eq_true hlt; simp only [] at this; omega
  obtain ⟨A,ea,y8⟩:=aZ fX (by omega) (q8.no k3).rd hlt
  have ea:x.a=some A:=ea
  refine ⟨⟨by omega,by show (k:Int)<(qs.length:Nat); omega⟩,?_⟩
  show aA x.a _
  rw [ea]
  let i:=qs[k].1.1
  have y9:jA w4 i qs[k].1.2:=(hq3 qs[k]).mod k3 λ_ _ h=>h
  refine ⟨i.hd.a,i.hd.b,i.hd.c,i.hd.d,i.hd.e,i.hd.f,i.hd.g,i.s,y8,?_⟩
  refine aN (l:=it0) t6 t7 rfl λq w5 v6 u2=>⟨_,rfl,?_⟩
  refine qDL (i:=i) (by kernel_rfl) (by kernel_rfl) u2 rfl rfl λw6 z1 v7=>?_
  have hq:=v6.at_
  have u3:Mod NoB w4 w6:=v6.mod.fresh z1.mod λz e=>by have e:z=q:=e; omega
  have hm46d:Mod NoB w4 w6.drew:=u3.tr (Mod.drew _ _)
  have hm36d:=k3.tr hm46d
  refine ⟨Mod NoB w6.drew,Mod.refl _ _,i.hd.a,i.hd.b,i.hd.c,i.hd.d,i.hd.e,i.hd.f,i.hd.g,i.s,λw' hm=>zM (v7.drew.no hm),?_,trivial⟩
  refine aB (qQY (T:=T) (v:=⟨x.a,qs.length,x.cap⟩) (is:=qs.map λp=>p.1.1) (rs:=c) (x:=i) (r:=qs[k].1.2) (hb3.no hm36d) (by rw [<-kX]; exact (q8.no hm36d).rd) (by simp [c]) (λj a d=>?_) (y9.mod hm46d λ_ _ h=>h) (by simp [c]; omega)) ?_
  ·simp only [c,List.getElem_map]; exact (hq3 _).mod hm36d λ_ _ h=>h
  rintro v w7 ⟨rfl,v8⟩
  have h9:=hm46d.tr v8
  have p8:=k3.tr h9
  have z6:=v7.drew.no v8
  have etk:(qs.take (k+1)).filter keep=(qs.take k).filter keep++(if keep qs[k] then [qs[k]] else []):=by
   rw [aL hlt,List.filter_append]
   congr 1
   by_cases h:keep qs[k]=true
   ·rw [if_pos h,List.filter_cons_of_pos h]; rfl
   ·rw [if_neg h,List.filter_cons_of_neg h]; rfl
  have hfl:((qs.take k).filter keep).length<=k:=Nat.le_trans (List.length_filter_le _ _) (by rw [List.length_take]; omega)
  have j6:=bA fX (by omega) k6.rd
  refine ⟨_,rfl,aC (λhy=>?_) λhnn=>?_⟩
  ·have hy:keep qs[k]=true:=hy
   refine ⟨i.hd.a,i.hd.b,i.hd.c,i.hd.d,i.hd.e,i.hd.f,i.hd.g,i.s,zM z6,?_⟩
   refine bZ [i.val] (l:=dI [i]) rV t6 t7 v1 (by omega) rfl (by omega) (by omega) rfl (by intro v hv; simp at hv; subst hv; rfl) (by simp [dI,aR,Value.cells,It.val]) λlb w8 u4 z7=>⟨⟨some ⟨lb,0,none⟩,1,1⟩,rfl,?_⟩
   have u5:aK w8 ⟨some ⟨lb,0,none⟩,1,1⟩ 8 (dI [i]):=(aY (n:=1) (k:=8) z7 (by rw [dI,cJ It.len]; rfl)).rd
   refine aS rV t6 t7 v1 rfl hi4x (((k6.no h9).no u4.mod)) u5 (dF It.one _) (by simp only []; omega) (by simp only []; omega) λx' w9 z8 hlen hblk j2=>⟨x',rfl,?_⟩
   rw [wrap_i64 (e:=(k:Int)+1) (by omega)]
   have u6:Mod (λz=>out.blk=some z) w4 w9:=(h9.tr u4.mod).no j2
   have u7:Mod NoB w3 w9:=k3.fresh u6 λz hz=>k4 z hz
   refine ⟨⟨k+1,by omega,by omega,?_,λz hz=>?_,u7⟩,by (try simp only []); omega⟩
   ·rw [etk,if_pos hy,bP]; exact z8
   ·rcases hblk with e | e
    ·exact k4 z (by rw [<-e]; exact hz)
    ·rw [e] at hz; cases hz
     exact (p8.tr u4.mod).size
  ·have hnn:keep qs[k]=false:=hnn
   rw [wrap_i64 (e:=(k:Int)+1) (by omega)]
   refine ⟨⟨k+1,by omega,by omega,?_,k4,p8⟩,by (try simp only []); omega⟩
   rw [etk,if_neg (by rw [hnn]; simp),List.append_nil]; exact k6.no h9
 ·have hkk:k=qs.length:=by have:=of_decide_eq_false hge; simp only [] at this; omega
  subst hkk
  show aJ _ _ _ _
  rw [aO,aO]
  refine aX (by kernel_rfl) (by kernel_rfl) rfl (hb3.no k3) (by simp) λw5 u9 u2=>?_
  rw [List.take_length] at k6
  have hx0:Mod (λz=>B<=z) w w3:=((kP u0 λz (e:z=b)=>by have:=p9.1; omega).tr (kP u1 λz q9=>(hz z q9).1)).tr (kP ht3.mod λz (e:z=rb)=>by omega)
  have y0 : ∀ z,out.blk=some z->z≠rb:=λz hz e=>by have:=k4 z hz; omega
  refine ⟨rfl,out,(qs.filter keep).map (λp=>p.1.2),⟨hB,(qs.filter keep).map (λp=>p.1.1),u2,?_,λz hz=>⟨by have:=k4 z hz; omega,y0 z hz⟩,by simp,λj a d=>?_⟩,?_,(hx0.no' k3).tr (kP u9.mod λz (e:z=rb)=>by omega)⟩
  ·rw [<-kX]
   exact k6.mod u9.mod λz hz e=>y0 z hz e
  ·simp only [List.getElem_map]
   refine ⟨((hq3 _).mod k3 λ_ _ h=>h).mod u9.mod λz hz e=>?_,λz hz=>⟨λe=>?_,λe=>?_⟩⟩
   ·exact (((qs.filter keep)[j]'(by simpa using a)).2.2 z hz (.inr e))
   ·exact (((qs.filter keep)[j]'(by simpa using a)).2.2 z hz (.inr e))
   ·have h1:=k4 z e
    have h2:=hlow _ z hz
    omega
  ·have e1:((qs.filter keep).map λp=>p.1.2)=nH c:=by
    show _=(qs.map λp=>p.1.2).filter kp
    rw [List.filter_map]; rfl
   rw [e1]
   show dR rs (nH (qs.map λp=>p.1.2))
   rw [q2,<-p2]
   refine qGB (hp.map _) (List.pairwise_map.2 hs) (by rw [p2]; exact hr)
theorem qPG {B rb:Nat} {T:TypeId} {x:Slc} (hR:mP B w rb T x []) :
 Calls prog 122 #[.pointer (some ⟨rb,0,none⟩)] w (Ret λv w'=>v = .tuple #[]/\∃ x' out,mP B w' rb T x' out/\dR [] out/\Mod (λz=>B<=z) w w'):=by
 refine qCL _ ?_
 unfold qHH
 have hxl:=hR.len
 obtain ⟨hB,is,hb,ho,hz,hl,hI⟩:=hR
 have hi0:is=[]:=List.eq_nil_of_length_eq_zero hl
 subst hi0
 refine ⟨x,by rw [aO,aO]; exact hb.rd1 rfl,?_⟩
 refine aB (qSE (v:=x) hxl.symm) ?_
 rintro v w1 ⟨rfl,rfl⟩
 refine ⟨rfl,x,by rw [aO,aO]; exact hb.rd1 rfl,?_⟩
 refine aB (uP (is:=[]) ho (by simp)) ?_
 rintro v w2 ⟨m,rfl,k3,h9⟩
 have hm0:m=0:=by have:=k3.1; simp [cpt,dI,aR] at this; omega
 subst hm0
 refine ⟨⟨x.a,0,x.cap⟩,rfl,?_⟩
 have hb2:=hb.mod h9 λe=>(hz rb e).2 rfl
 have hrl:=hb2.lt
 show aJ _ _ _ _
 rw [aO,aO]
 refine aX (by kernel_rfl) (by kernel_rfl) rfl hb2 (by simp) λw3 ht3 hb3=>?_
 refine ⟨⟨x.a,0,x.cap⟩,by exact hb3.rd1 rfl,?_⟩
 refine ⟨λl' w'=>match l' with | [.sl out,.i _ y]=>out=⟨none,0,0⟩/\y=0/\w'=w3 | _=>False,λ_ _=>0,⟨rfl,rfl,rfl⟩,?_⟩
 rintro out y w4 ⟨rfl,rfl,rfl⟩
 refine aC (λhlt=>?_) λhge=>?_
 ·cases hlt
 ·show aJ _ _ _ _
  rw [aO,aO]
  refine aX (by kernel_rfl) (by kernel_rfl) rfl hb3 (by simp) λw5 k4 k5=>?_
  exact ⟨rfl,⟨none,0,0⟩,[],⟨hB,[],k5,bK _ 8,λz hz=>by simp at hz,rfl,λi h=>absurd h (by simp)⟩,⟨[],⟨List.Pairwise.nil,λr=>by simp⟩,rfl⟩,((kP h9 λz k6=>(hz z k6).1).tr (kP ht3.mod λz (e:z=rb)=>by omega)).tr (kP k4.mod λz (e:z=rb)=>by omega)⟩
theorem qOU {B rb:Nat} {T:TypeId} {x:Slc} {rs:List Rc} (hR:mP B w rb T x rs) (hr : ∀ r∈rs,r.right=true) (hn:rs.length<=100000) :
 Calls prog 122 #[.pointer (some ⟨rb,0,none⟩)] w (Ret λv w'=>v = .tuple #[]/\∃ x' out,mP B w' rb T x' out/\dR rs out/\Mod (λz=>B<=z) w w'):=by
 cases rs with
 | nil=>exact qPG hR
 | cons a l=>exact jCV hR hr (by simp) hn
end
def qEU (w:World) (hs:List Hd):Prop:=(pieces hs).Pairwise Dis/\∀ h∈hs,fN w h
theorem qEU.mod {w w':World} {hs:List Hd} {S:Nat->Prop} (h:qEU w hs) (hm:Mod S w w') (hS : ∀ x∈hs,∀ z,x.on z->¬ S z):qEU w' hs:=⟨h.1,λx hx=>(h.2 x hx).mod hm (hS x hx)⟩
def qZW (B:Nat) (w:World) (s:Slc) (rs:List Rc):Prop:=
 ∃ hs:List Hd,Sh.Own w s 7 (hcells hs)/\(∀ z,s.blk=some z->B<=z)/\hs.length=rs.length/\∀ i (h:i<hs.length) (h':i<rs.length),bH w hs[i] rs[i]/\∀ z,hs[i].on z->B<=z/\s.blk≠some z
def jV (B:Nat) (w:World) (s:Slc) (rs:List Rc) (hs:List Hd):Prop:=
 (Sh.Own w s 7 (hcells hs)/\(∀ z,s.blk=some z->B<=z)/\hs.length=rs.length/\∀ i (h:i<hs.length) (h':i<rs.length),bH w hs[i] rs[i]/\∀ z,hs[i].on z->B<=z/\s.blk≠some z)/\qEU w hs
theorem jV.n {B:Nat} {w:World} {s:Slc} {rs:List Rc} {hs:List Hd} (h:jV B w s rs hs):qZW B w s rs:=⟨hs,h.1⟩
theorem jV.on {B:Nat} {w:World} {s:Slc} {rs:List Rc} {hs:List Hd} (h:jV B w s rs hs) : ∀ x∈hs,∀ z,x.on z->(B<=z/\s.blk≠some z)/\z<w.heap.size:=λx hx z hz=>by
 obtain ⟨i,hi,rfl⟩:=List.mem_iff_getElem.1 hx
 have hn:=h.1.2.2.1
 obtain ⟨g1,g2⟩:=h.1.2.2.2 i hi (by omega)
 exact ⟨g2 z hz,g1.lt z hz⟩
theorem jV.mod {B:Nat} {w w':World} {s:Slc} {rs:List Rc} {hs:List Hd} {S:Nat->Prop} (h:jV B w s rs hs) (hm:Mod S w w') (hS : ∀ z,B<=z->¬ S z):jV B w' s rs hs:=by
 obtain ⟨⟨h1,h2,h3,h4⟩,h5⟩:=h
 exact ⟨⟨h1.mod hm λz hz=>hS z (h2 z hz),h2,h3,λi a b=>⟨(h4 i a b).1.mod hm λz hz=>hS z ((h4 i a b).2 z hz).1,(h4 i a b).2⟩⟩,h5.mod hm λx hx z hz=>by
  obtain ⟨i,hi,rfl⟩:=List.mem_iff_getElem.1 hx
  exact hS z ((h4 i hi (by omega)).2 z hz).1⟩
theorem jV.le {B B':Nat} {w:World} {s:Slc} {rs:List Rc} {hs:List Hd} (h:jV B w s rs hs) (hB:B'<=B):jV B' w s rs hs:=by
 obtain ⟨⟨h1,h2,h3,h4⟩,h5⟩:=h
 exact ⟨⟨h1,λz hz=>Nat.le_trans hB (h2 z hz),h3,λi a b=>⟨(h4 i a b).1,λz hz=>⟨Nat.le_trans hB ((h4 i a b).2 z hz).1,((h4 i a b).2 z hz).2⟩⟩⟩,h5⟩
theorem bO.le {B B':Nat} {w:World} {l:Slc} {rs:List Rc} (h:bO B w l rs) (hB:B<=B'):bO B' w l rs:=by
 obtain ⟨hs,h1,h2,h3,h4⟩:=h
 exact ⟨hs,h1,λz hz=>Nat.lt_of_lt_of_le (h2 z hz) hB,h3,λi a b=>⟨(h4 i a b).1,λz hz=>Nat.lt_of_lt_of_le ((h4 i a b).2 z hz) hB⟩⟩
theorem kJ {l out:List Rc} (h:dR l out) : ∀ r∈out,r∈l:=by
 obtain ⟨c,h1,rfl⟩:=h
 intro r hr
 exact ((h1.mem r).1 (List.mem_filter.1 hr).1).1
theorem nC {α:Type} [BEq α] [LawfulBEq α] {lt:α->α->Prop} (irr : ∀ x,¬ lt x x) : ∀ {c l:List α},c.Pairwise lt->(∀ x∈c,x∈l)->c.length<=l.length
 | [],l,_,_=>Nat.zero_le _
 | a :: c,l,hp,hs=>by
   have ha:=hs a List.mem_cons_self
   have h1:=List.pairwise_cons.1 hp
   have ih:=nC irr (l:=l.erase a) h1.2 λx hx=>(List.mem_erase_of_ne λe=>irr a (by have:=h1.1 x hx; rwa [e] at this)).2 (hs x (List.mem_cons_of_mem _ hx))
   rw [List.length_erase_of_mem ha] at ih
   have:=List.length_pos_of_mem ha
   simp only [List.length_cons]; omega
theorem qCJ:prog.underlying 33=some (.slice 22):=by kernel_rfl
theorem qZR : ∃ i,prog.info? 22=some i/\i.zero=some (.slice none 0 0)/\i.size=1/\i.bytes=24:=bC (by kernel_rfl) (by kernel_rfl) (by kernel_rfl)
theorem qZF : ∃ i,prog.info? 47=some i/\i.zero=some (.int .i64 0)/\i.size=1/\i.bytes=8:=bC (by kernel_rfl) (by kernel_rfl) (by kernel_rfl)
section
variable {w:World}
theorem qKA {B rb:Nat} {T:TypeId} {x:Slc} {rs:List Rc} (hR:mP B w rb T x rs) (hr : ∀ r∈rs,r.right=true) (hn:rs.length<=100000) :
 Calls prog 123 #[.pointer (some (Addr.add ⟨rb,0,none⟩ 0))] w (Ret λv w'=>∃ out hs,v=out.val/\jV w.heap.size w' out rs hs/\Mod NoB w w'):=by
 refine qMZ _ ?_
 unfold qUO
 obtain ⟨ii,v6,v7,j4,j5⟩:=qDZ
 obtain ⟨ir,hr1,hr2,u5,v8⟩:=iF
 obtain ⟨hB,is,hb,ho,hz,hl,hI⟩:=hR
 have j6:=bA It.len (by omega) ho.rd
 refine ⟨x,by rw [aO,aO]; exact hb.rd1 rfl,?_⟩
 refine ⟨λl' w'=>match l' with | [.sl out,.i _ y]=>∃ (k:Nat) (hs:List Hd),y=(k:Int)/\k<=rs.length/\Sh.Own w' out 7 (hcells hs)/\(∀ z,out.blk=some z->w.heap.size<=z)/\hs.length=k/\(∀ i (h:i<hs.length) (h':i<rs.length),bH w' hs[i] rs[i]/\∀ z,hs[i].on z->w.heap.size<=z/\out.blk≠some z)/\qEU w' hs/\Mod NoB w w' | _=>False,λl' _=>match l' with | [.sl _,.i _ y]=>(rs.length - y).toNat | _=>0,⟨0,[],rfl,by omega,bK w 7,λz hz=>by simp at hz,rfl,λi h=>absurd h (by simp),⟨.nil,λh hh=>by simp at hh⟩,Mod.refl _ _⟩,?_⟩
 rintro out y w1 ⟨k,hs,rfl,hk,p9,hz1,hl1,hI1,q8,k6⟩
 have b5:=bA Hd.len (by omega) p9.rd
 refine aC (λhlt=>?_) λhge=>?_
 ·have hlt:k<rs.length:=by have:=of_decide_eq_true hlt; omega
  have u6:k<is.length:=by omega
  obtain ⟨A,ea,y0⟩:=aZ It.len (by omega) (ho.no k6).rd u6
  refine ⟨⟨by omega,by omega⟩,?_⟩
  rw [ea]
  have y1:=(hI k u6 hlt).1.mod k6 λ_ _ h=>h
  let i:=is[k]
  refine ⟨i.hd.a,i.hd.b,i.hd.c,i.hd.d,i.hd.e,i.hd.f,i.hd.g,i.s,y0,?_⟩
  refine aN (l:=it0) v6 v7 rfl λq w2 u7 hb2=>⟨_,rfl,?_⟩
  refine qDL (i:=i) (by kernel_rfl) (by kernel_rfl) hb2 rfl rfl λw3 ht3 hb3=>?_
  have hq:=u7.at_
  have k3:Mod NoB w1 w3:=u7.mod.fresh ht3.mod λz e=>by have e:z=q:=e; omega
  have u9:=y1.mod k3 λ_ _ h=>h
  refine ⟨i.s,by rw [aO]; exact hb3.rd1 rfl,?_⟩
  refine aB (jAN u9.s u9.lt (hr _ (List.getElem_mem hlt))) ?_
  rintro v w4 ⟨h,rfl,hH,q9,⟨y2,y5⟩,y7⟩
  refine ⟨h.a,h.b,h.c,h.d,h.e,h.f,h.g,0,rfl,?_⟩
  refine aN (l:=hz0) hr1 hr2 rfl λp w5 v1 y8=>⟨_,rfl,?_⟩
  refine cB (h:=h) (by kernel_rfl) (by kernel_rfl) y8 rfl λw6 y9 z1=>?_
  have hp:=v1.at_
  have k4:Mod NoB w4 w6:=v1.mod.fresh y9.mod λz e=>by have e:z=p:=e; omega
  refine aB (vJ rfl) ?_
  rintro v w7 ⟨rfl,rfl⟩
  refine ⟨rfl,h.a,h.b,h.c,h.d,h.e,h.f,h.g,rdH z1,?_⟩
  refine bZ [h.val] (l:=hcells [h]) fA hr1 hr2 u5 (by omega) rfl (by omega) (by omega) rfl (by intro v hv; simp at hv; subst hv; rfl) (by simp [hcells,aR,Value.cells,Hd.val]) λlb w8 t6 z6=>⟨⟨some ⟨lb,0,none⟩,1,1⟩,rfl,?_⟩
  have t7:aK w8 ⟨some ⟨lb,0,none⟩,1,1⟩ 7 (hcells [h]):=(aY (n:=1) (k:=7) z6 (by rw [hcells,cJ Hd.len]; rfl)).rd
  have u0:=k3.tr y7
  have u1:=u0.tr k4
  have h9:=u1.tr t6.mod
  refine aS fA hr1 hr2 u5 rfl v8 (p9.no h9) t7 (dF Hd.one _) (by simp only []; omega) (by simp only []; omega) λx' w9 z7 hlen hblk p8=>⟨x',rfl,?_⟩
  rw [wrap_i64 (e:=(k:Int)+1) (by omega)]
  have u2:Mod (λz=>out.blk=some z) w1 w9:=h9.no p8
  have u3:Mod NoB w w9:=k6.fresh u2 λz hz=>hz1 z hz
  have hs1:w.heap.size<=w1.heap.size:=k6.size
  have b6:w1.heap.size<=w8.heap.size:=h9.size
  have u4 : ∀ z,x'.blk=some z->out.blk=some z\/z=w8.heap.size:=λz hz=>by
   rcases hblk with e | e
   ·exact .inl (by rw [<-e]; exact hz)
   ·rw [e] at hz; cases hz; exact .inr rfl
  have k5 : ∀ z,out.blk=some z->z<w1.heap.size:=λz hz=>p9.lt hz
  have z8:bH w9 h rs[k]/\∀ z,h.on z->w.heap.size<=z/\x'.blk≠some z:=by
   have h8:bH w8 h rs[k]:=(hH.no k4).no t6.mod
   have hno : ∀ z,h.on z->w3.heap.size<=z/\z<w8.heap.size:=λz hz=>⟨q9 z hz,h8.lt z hz⟩
   have hs3:w1.heap.size<=w3.heap.size:=k3.size
   refine ⟨h8.mod p8 λz hz e=>?_,λz hz=>⟨?_,λe=>?_⟩⟩
   ·have:=hno z hz; have:=k5 z e; omega
   ·have:=hno z hz; omega
   ·have h1:=hno z hz
    rcases u4 z e with e | e
    ·have:=k5 z e; omega
    ·omega
  have j2:qEU w9 (hs++[h]):=by
   have hs3:w1.heap.size<=w3.heap.size:=k3.size
   have hin : ∀ x∈hs,∀ z,x.on z->z<w1.heap.size/\out.blk≠some z:=λx hx z hz=>by
    obtain ⟨j,hj,rfl⟩:=List.mem_iff_getElem.1 hx
    obtain ⟨g1,g2⟩:=hI1 j hj (by omega)
    exact ⟨g1.lt z hz,(g2 z hz).2⟩
   refine ⟨qC q8.1 y5 (λx hx z hz=>(hin x hx z hz).1) λz hz=>Nat.le_trans hs3 (q9 z hz),λx hx=>?_⟩
   rcases List.mem_append.1 hx with hx | hx
   ·exact ((q8.2 x hx).no h9).mod p8 λz hz e=>(hin x hx z hz).2 e
   ·simp at hx
    subst hx
    have h8:=(y2.no k4).no t6.mod
    exact h8.mod p8 λz hz e=>by have:=q9 z hz; have:=k5 z e; omega
  refine ⟨⟨k+1,hs++[h],by omega,by omega,?_,λz hz=>?_,by simp [hl1],λj a d=>?_,j2,u3⟩,by (try simp only []); omega⟩
  ·rw [hcells,bP]; exact z7
  ·rcases u4 z hz with e | e
   ·exact hz1 z e
   ·omega
  ·rcases Nat.lt_or_ge j hs.length with hj | hj
   ·have e1:(hs++[h])[j]=hs[j]:=List.getElem_append_left hj
    rw [e1]
    obtain ⟨g1,g2⟩:=hI1 j hj d
    refine ⟨(g1.no h9).mod p8 λz hz e=>(g2 z hz).2 e,λz hz=>⟨(g2 z hz).1,λe=>?_⟩⟩
    rcases u4 z e with e | e
    ·exact (g2 z hz).2 e
    ·have:=g1.lt z hz; omega
   ·have j3:j=hs.length:=by simp at a; omega
    subst j3
    have e1:(hs++[h])[hs.length]=h:=by simp
    rw [e1]
    subst hl1
    exact z8
 ·have hkk:k=rs.length:=by have:=of_decide_eq_false hge; omega
  subst hkk
  exact ⟨out,hs,rfl,⟨⟨p9,hz1,hl1,hI1⟩,q8⟩,k6⟩
theorem jCI {p q:Nat} {K:FrameMode->zP} (hk:K .returning w):eF prog 199 #[.pointer (some ⟨p,0,none⟩),.pointer (some ⟨q,0,none⟩)] .returning w K:=by
 unfold eF
 refine qLB _ _ ?_
 unfold qJP
 show bB _ _ _
 refine ⟨.bool false,λw=>?_,false,rfl,aC (λh=>by cases h) λ_=>⟨(λh=>(by cases h)),hk⟩⟩
 rfl
theorem qGQ {f:FuncId} {first cap:Array Value} {R:List Rc->Prop} (he:enters prog f=true)
 (hc : ∀ w3,Mod NoB w w3->Calls prog f (first.toList++[]++cap.toList).toArray w3 (Ret λv w'=>∃ out rs hs,v=out.val/\R rs/\jV w3.heap.size w' out rs hs/\Mod NoB w3 w')) :
 Calls prog 119 #[.func (.func f) first cap] w (Ret λv w'=>∃ out rs hs,v = .tuple #[out.val,.int .i64 0]/\R rs/\jV w.heap.size w' out rs hs/\Mod NoB w w'):=by
 refine qRD _ ?_
 unfold qYJ
 obtain ⟨ii,k6,p8,u1,u2⟩:=qZR
 obtain ⟨ie,p9,q8,u3,u4⟩:=qZF
 refine aN (l:=[.slice none 0 0]) k6 p8 rfl λp w1 hN hb=>⟨_,rfl,?_⟩
 refine aN (l:=[.int .i64 0]) p9 q8 rfl λq w2 h9 hb2=>⟨_,rfl,?_⟩
 have e1:=hN.at_; have e2:=h9.at_; have e3:=hN.size; have e4:=h9.size
 have hM2:=hN.mod.tr h9.mod
 refine dX he ?_
 refine aB (hc _ hM2) ?_
 rintro v w3 ⟨out,rs,hs,rfl,hR,hS,k3⟩
 refine ⟨out,rfl,?_⟩
 show aJ _ _ _ _
 refine aX (by kernel_rfl) (by kernel_rfl) rfl ((hb.no h9.mod).no k3) (by simp) λw4 k4 q9=>?_
 show aJ _ _ _ _
 refine aX (by kernel_rfl) (by kernel_rfl) rfl ((hb2.no k3).mod k4.mod (by omega)) (by simp) λw5 k5 t6=>?_
 refine jCI ?_
 unfold fS
 dsimp only
 have t7:jV w2.heap.size w5 out rs hs:=(hS.mod k4.mod λz hz e=>by have e:z=p:=e; omega).mod k5.mod λz hz e=>by have e:z=q:=e; omega
 have u0:Mod NoB w w5:=((hM2.tr k3).fresh k4.mod λz e=>by have e:z=p:=e; omega).fresh k5.mod λz e=>by have e:z=q:=e; omega
 exact ⟨out,(q9.mod k5.mod (by omega)).rd1 rfl,0,t6.rd1 rfl,out,rs,hs,rfl,hR,t7.le hM2.size,u0⟩
def jX (B:Nat) (w:World) (s:Slc) (ls:List (List Rc)):Prop:=
 ∃ vs:List Slc,aK w s 1 (vs.map Slc.val)/\(∀ z,s.blk=some z->z<B)/\vs.length=ls.length/\∀ i (h:i<vs.length) (h':i<ls.length),bO B w vs[i] ls[i]
theorem jX.mod {B:Nat} {w w':World} {l:Slc} {rs:List (List Rc)} (h:jX B w l rs) (hm:Mod (λz=>B<=z) w w'):jX B w' l rs:=by
 obtain ⟨hs,h1,h2,h3,h4⟩:=h
 exact ⟨hs,h1.mod hm λz hz e=>by have:=h2 z hz; omega,h2,h3,λi a b=>(h4 i a b).mod hm⟩
theorem jFT {w w':World} (h:Mod (λz=>w.heap.size<=z) w w'):Mod NoB w w':=h.mono λz hz h=>by omega
theorem qMM {p:Nat} {T0:TypeId} {s:Slc} {ls:List (List Rc)} {K:zY} (hb:Blk w p [s.val] T0) (hs:jX w.heap.size w s ls) (hK : ∀ l∈ls,∀ r∈l,r.right=true/\r.key=K) (hn:ls.flatten.length<=100000) (hln:ls.length<=100000) :
 Calls prog 120 #[.pointer (some ⟨p,0,none⟩)] w (Ret λv w'=>∃ out rs hs,v=out.val/\dR ls.flatten rs/\jV w.heap.size w' out rs hs/\Mod NoB w w'):=by
 refine qMS _ ?_
 unfold qSV
 refine aQ (l:=[.slice none 0 0]) rfl λrb w1 hN hb1=>⟨_,rfl,?_⟩
 have e1:=hN.at_
 refine ⟨s,(hb.no hN.mod).rd1 rfl,?_⟩
 have hs1:=hs.mod (hN.mod.mono λ_ _ h=>h.elim)
 have hsl:ls.length=s.len:=by
  obtain ⟨vs,h1,_,h3,_⟩:=hs
  have:=h1.1; simp at this; omega
 refine ⟨λl' w'=>match l' with | [.i _ y]=>∃ (k:Nat) (x':Slc),y=(k:Int)/\k<=ls.length/\mP w.heap.size w' rb 179 x' (ls.take k).flatten/\Mod (λz=>w.heap.size<=z) w w' | _=>False,λl' _=>match l' with | [.i _ y]=>(ls.length - y).toNat | _=>0,⟨0,⟨none,0,0⟩,rfl,by omega,⟨by omega,[],hb1,bK w1 8,λz hz=>by simp at hz,rfl,λi h=>absurd h (by simp)⟩,hN.mod.mono λ_ _ h=>h.elim⟩,?_⟩
 rintro y w2 ⟨k,x',rfl,hk,hR,k3⟩
 have hall : ∀ r∈ls.flatten,r.right=true/\r.key=K:=λr hr=>by
  obtain ⟨l,hl,hr⟩:=List.mem_flatten.1 hr
  exact hK l hl r hr
 have htk : ∀ n,(ls.take n).flatten.length<=ls.flatten.length:=λn=>by
  conv=>rhs; rw [<-List.take_append_drop n ls,List.flatten_append,List.length_append]
  omega
 have hsub : ∀ n,∀ r∈(ls.take n).flatten,r∈ls.flatten:=λn r hr=>by
  obtain ⟨l,hl,hr⟩:=List.mem_flatten.1 hr
  exact List.mem_flatten.2 ⟨l,List.mem_of_mem_take hl,hr⟩
 refine aC (λhlt=>?_) λhge=>?_
 ·have hlt:k<ls.length:=by have:=of_decide_eq_true hlt; omega
  obtain ⟨vs,g1,g2,g3,g4⟩:=hs.mod k3
  have k6:k<vs.length:=by omega
  obtain ⟨A,ea,p8⟩:=g1.at (i:=k) (vs:=vs.map Slc.val) (us:=[vs[k].val]) (by omega) (by omega) λj u hu=>by
   have:j=0:=by have:=(List.getElem?_eq_some_iff.1 hu).1; simp at this; omega
   subst this
   simp at hu; subst hu
   simp [k6]
  refine ⟨⟨by omega,by omega⟩,?_⟩
  rw [ea]
  refine ⟨vs[k],p8,?_⟩
  have etk:(ls.take (k+1)).flatten=(ls.take k).flatten++ls[k]:=by rw [aL hlt,List.flatten_append]; simp
  have hle:=htk (k+1)
  rw [etk,List.length_append] at hle
  show aD _ _ _ _ _ _
  refine aB (jBZ (K:=K) hR (g4 k k6 hlt) (hK _ (List.getElem_mem hlt)) (λr hr=>(hall r (hsub k r hr)).2) (by omega) k3.size) ?_
  rintro v w3 ⟨rfl,x2,k4,k5⟩
  rw [wrap_i64 (e:=(k:Int)+1) (by omega)]
  exact ⟨rfl,⟨k+1,x2,by omega,by omega,by rw [etk]; exact k4,k3.tr k5⟩,by (try simp only []); omega⟩
 ·have hkk:k=ls.length:=by have:=of_decide_eq_false hge; omega
  subst hkk
  rw [List.take_length] at hR
  refine aB (qOU hR (λr hr=>(hall r hr).1) hn) ?_
  rintro v w3 ⟨rfl,x2,out,k4,hJ,k5⟩
  refine ⟨rfl,?_⟩
  show aD _ _ _ _ _ _
  have q9:out.length<=ls.flatten.length:=by
   obtain ⟨c,hc,rfl⟩:=hJ
   refine Nat.le_trans (List.length_filter_le _ _) ?_
   exact nC gX hc.pw λr hr=>((hc.mem r).1 hr).1
  refine aB (qKA k4 (λr hr=>(hall r (kJ hJ r hr)).1) (by omega)) ?_
  rintro v w4 ⟨o,p9,rfl,hS,q8⟩
  have h9:=k3.tr k5
  exact ⟨o,rfl,o,out,p9,rfl,hJ,hS.le h9.size,jFT (h9.no' q8)⟩
theorem qRJ {s:Slc} {ls:List (List Rc)} {K:zY} (hs:jX w.heap.size w s ls) (hK : ∀ l∈ls,∀ r∈l,r.right=true/\r.key=K) (hn:ls.flatten.length<=100000) (hln:ls.length<=100000) :
 Calls prog 63 #[.slice s.a s.len s.cap] w (Ret λv w'=>∃ out rs hs,v = .tuple #[out.val,.int .i64 0]/\dR ls.flatten rs/\jV w.heap.size w' out rs hs/\Mod NoB w w'):=by
 refine jBV _ ?_
 unfold jFP
 refine aQ (l:=[s.val]) rfl λp w1 hN hb=>⟨_,rfl,?_⟩
 have hmono : ∀ {w'},Mod NoB w w'->jX w'.heap.size w' s ls:=λ{w'} hm=>by
  obtain ⟨vs,h1,h2,h3,h4⟩:=hs.mod (hm.mono λ_ _ h=>h.elim)
  have:=hm.size
  exact ⟨vs,h1,λz hz=>by have:=h2 z hz; omega,h3,λi a b=>(h4 i a b).le this⟩
 refine aB (qGQ (R:=dR ls.flatten) (by kernel_rfl) λw3 hm=>?_) ?_
 ·exact qMM (hb.no hm) (hmono (hN.mod.tr hm)) hK hn hln
 rintro v w2 ⟨out,rs,hs,rfl,hJ,hS,hm⟩
 exact ⟨out,0,rfl,out,rs,hs,rfl,hJ,hS.le hN.mod.size,hN.mod.tr hm⟩
end
def jEB (b:Option Nat) (records:Slc) (w:World) (R:RW):Prop:=
 aH prog (Instr.box 58 (.agg #[.map b])) w λv w1=>∃ b1:zO,v=(.pointer b1)/\∃ (inv:zT) (mu:zU),inv [.i .i64 0] w1/\(∀ x:Int,∀ w2:World,inv [.i .i64 x] w2->aE (decide (x<records.len)) ((zB x records.len/\aA records.a λa=>∃ xa:zY,∃ xb xc:Int,∃ xd:Slc,∃ xe:Bool,∃ xf xg:Slc,Rd w2 (a.add (x.toNat*7)) (yR xa xb xc xd xe xf xg)/\aH prog (Instr.alloc 40 true (.tuple #[])) w2 λv1 w3=>∃ r:zO,v1=(.pointer r)/\aA r λa1=>aJ prog (storeVar 40 a1 (zR xa xb xc xd xe xf xg)) w3 λw4=>aA r λa2=>∃ xa1:zY,∃ xb1 xc1:Int,∃ xd1:Slc,∃ xe1:Bool,∃ xf1 xg1:Slc,Rd w4 a2 (yR xa1 xb1 xc1 xd1 xe1 xf1 xg1)/\aD prog 41 [zR xa1 xb1 xc1 xd1 xe1 xf1 xg1] w4 (aG R) λv2 w5=>∃ x1:Bool,v2=(.bool x1)/\aE x1 (∃ sx:zP,sx w5.drew/\aA b1 λa3=>aA r λa4=>aA b1 λa5=>aA r λa6=>∃ x2:Option Nat,(∀ w',sx w'->Rd w' (a3.add 0) [.map x2])/\∃ x3:zY,(∀ w',sx w'->Rd w' (a4.add 0) [.string ⟨x3.toArray⟩])/\∃ x4:Option Nat,(∀ w',sx w'->Rd w' (a5.add 0) [.map x4])/\∃ x5:zY,(∀ w',sx w'->Rd w' (a6.add 0) [.string ⟨x5.toArray⟩])/\aA r λa7=>∃ xa2:zY,∃ xb2 xc2:Int,∃ xd2:Slc,∃ xe2:Bool,∃ xf2 xg2:Slc,(∀ w',sx w'->Rd w' a7 (yR xa2 xb2 xc2 xd2 xe2 xf2 xg2))/\((aH prog (Instr.lookup 56 (.map x4) (.string ⟨x5.toArray⟩) false) w5.drew λv3 w6=>∃ x6:Slc,v3=(zS x6)/\(sx w6/\((aH prog (Instr.buildSlice 22 1 #[(0,(zR xa2 xb2 xc2 xd2 xe2 xf2 xg2))]) w6 λv4 w7=>∃ x7:Slc,v4=(zS x7)/\(sx w7/\((aH prog (Instr.buildSlice 33 1 #[(0,(zS x7))]) w7 λv5 w8=>∃ x8:Slc,v5=(zS x8)/\(sx w8/\((aH prog (Builtin.append_ #[33,33] 33 #[zS x6,zS x8]) w8 λv6 w9=>∃ x9:Slc,v6=(zS x9)/\(sx w9/\((aJ prog (Instr.mapUpdate 56 (.map x2) (.string ⟨x3.toArray⟩) (zS x9)) w9 λw10=>(inv [.i .i64 (zW (x+1))] w10/\mu [.i .i64 (zW (x+1))] w10<mu [.i .i64 x] w2))/\True)))/\True)))/\True)))/\True)))/\(aH prog (Instr.buildSlice 22 1 #[(0,(zR xa2 xb2 xc2 xd2 xe2 xf2 xg2))]) w5.drew λv7 w11=>∃ x10:Slc,v7=(zS x10)/\(sx w11/\((aH prog (Instr.lookup 56 (.map x4) (.string ⟨x5.toArray⟩) false) w11 λv8 w12=>∃ x11:Slc,v8=(zS x11)/\(sx w12/\((aH prog (Instr.buildSlice 33 1 #[(0,(zS x10))]) w12 λv9 w13=>∃ x12:Slc,v9=(zS x12)/\(sx w13/\((aH prog (Builtin.append_ #[33,33] 33 #[zS x11,zS x12]) w13 λv10 w14=>∃ x13:Slc,v10=(zS x13)/\(sx w14/\((aJ prog (Instr.mapUpdate 56 (.map x2) (.string ⟨x3.toArray⟩) (zS x13)) w14 λw15=>(inv [.i .i64 (zW (x+1))] w15/\mu [.i .i64 (zW (x+1))] w15<mu [.i .i64 x] w2))/\True)))/\True)))/\True)))/\(aH prog (Instr.buildSlice 33 1 #[(0,(zS x10))]) w11 λv11 w16=>∃ x14:Slc,v11=(zS x14)/\(sx w16/\((aH prog (Instr.lookup 56 (.map x4) (.string ⟨x5.toArray⟩) false) w16 λv12 w17=>∃ x15:Slc,v12=(zS x15)/\(sx w17/\((aH prog (Builtin.append_ #[33,33] 33 #[zS x15,zS x14]) w17 λv13 w18=>∃ x16:Slc,v13=(zS x16)/\(sx w18/\((aJ prog (Instr.mapUpdate 56 (.map x2) (.string ⟨x3.toArray⟩) (zS x16)) w18 λw19=>(inv [.i .i64 (zW (x+1))] w19/\mu [.i .i64 (zW (x+1))] w19<mu [.i .i64 x] w2))/\True)))/\True)))/\True)))/\True)))/\True)) ((inv [.i .i64 (zW (x+1))] w5/\mu [.i .i64 (zW (x+1))] w5<mu [.i .i64 x] w2)))) (R (.returned (.tuple #[])) w2))
theorem jBN (b:Option Nat) (records:Slc) {w:World} {R:RW} (h9:jEB b records w R):Calls prog 30 #[.agg #[.map b],zS records] w R:=
 zC (q0 .z (q0 .z (.block none (.loop [(8,(.i .i64))] (q0 .z (q0 (.cond .z .z) (q0 (.block none (q0 .z (q0 .z (.cond (.draw 1 (.take 0 (.take 2 (.take 4 (.take 6 (.take 1 (.take 3 (.take 5 (.take 7 (.take 9 (.all [(8,(.all [(10,(.all [(11,(.all [(12,(.all [(13,.done)]))]))]))])),(10,(.all [(8,(.all [(11,(.all [(12,(.all [(13,.done)]))]))])),(11,(.all [(8,(.all [(12,(.all [(13,.done)]))]))]))]))]))))))))))) .z)))) .z))))))) func30 [.agg [.m b],.sl records] h9
def jEL (r:Option Nat) (w:World) (R:RW):Prop:=
 aH prog (Instr.box 56 (.map r)) w λv w1=>∃ r1:zO,v=(.pointer r1)/\R (.returned (.func (.func 60) #[] #[.pointer r1])) w1
theorem jDB (r:Option Nat) {w:World} {R:RW} (h9:jEL r w R):Calls prog 31 #[.map r] w R:=
 zC (q0 .z (q0 .z .z)) func31 [.m r] h9
def jEK (yield:Value) (c:zO) (w:World) (R:RW):Prop:=
 aA c λa=>∃ x:Option Nat,Rd w a [.map x]/\aD prog 62 [.map x] w (aG R) λv w1=>∃ x1:Value,v=x1/\aD prog 61 [x1] w1 (aG R) λv1 w2=>∃ x2:Slc,v1=(zS x2)/\∃ (inv:zT) (mu:zU),inv [.i .i64 0] w2/\(∀ x3:Int,∀ w3:World,inv [.i .i64 x3] w3->aE (decide (x3<x2.len)) ((zB x3 x2.len/\aA x2.a λa1=>∃ x4:zY,Rd w3 (a1.add (x3.toNat*1)) [.string ⟨x4.toArray⟩]/\aA c λa2=>∃ x5:Option Nat,Rd w3 a2 [.map x5]/\aH prog (Instr.lookup 56 (.map x5) (.string ⟨x4.toArray⟩) false) w3 λv2 w4=>∃ x6:Slc,v2=(zS x6)/\aD prog 63 [zS x6] w4 (aG R) λv3 w5=>∃ xa:Slc,∃ xb:Int,v3=(.tuple #[zS xa,.int .i64 xb])/\aE (decide ((xa.len:Int) > (0:Int))) (dY prog yield [.agg #[.string ⟨x4.toArray⟩,zS xa]] w5 (aG R) λv4 w6=>∃ x7:Bool,v4=(.bool x7)/\aE (!x7) (R (.returned (.tuple #[])) w6) ((inv [.i .i64 (zW (x3+1))] w6/\mu [.i .i64 (zW (x3+1))] w6<mu [.i .i64 x3] w3))) ((inv [.i .i64 (zW (x3+1))] w5/\mu [.i .i64 (zW (x3+1))] w5<mu [.i .i64 x3] w3)))) (R (.returned (.tuple #[])) w3))
theorem qYR (yield:Value) (c:zO) {w:World} {R:RW} (h9:jEK yield c w R):Calls prog 60 #[yield,.pointer c] w R:=
 zC (q0 .z (.block none (.loop [(11,(.i .i64))] (q0 .z (q0 (.cond .z .z) (q0 (.block none (q0 .z (q0 .z (q0 .z (.cond .z .z))))) .z)))))) func60 [.v yield,.p c] h9
def jEV (records:Slc) (w:World) (R:RW):Prop:=
 aH prog (Instr.makeMap 56 none) w λv w1=>∃ x:Option Nat,v=(.map x)/\aH prog (Instr.alloc 58 true (.tuple #[])) w1 λv1 w2=>∃ b:zO,v1=(.pointer b)/\aA b λa=>aJ prog (storeVar 58 a (.agg #[.map x])) w2 λw3=>aA b λa1=>∃ x1:Option Nat,Rd w3 a1 [.map x1]/\aD prog 30 [.agg #[.map x1],zS records] w3 (aG R) λv2 w4=>v2=(.tuple #[])/\aH prog (Instr.alloc 26 true (.tuple #[])) w4 λv3 w5=>∃ out:zO,v3=(.pointer out)/\aA b λa2=>∃ x2:Option Nat,Rd w5 (a2.add 0) [.map x2]/\aD prog 31 [.map x2] w5 (aG R) λv4 w6=>∃ x3:Value,v4=x3/\∃ (fn:FuncId) (first cap:Array Value),x3 = .func (.func fn) first cap/\enters prog fn=true/\∀ (rec:LoopState->Option Code->Obj) (dd ll:Nat) (w7:World),dd=w6.heap.size->ll=dd+1->w7=(w6.alloc (.deferred (some []))).alloc (rec .ready none)->(∀ xa:zY,∀ xb:Slc,∀ (w8:World) (kk:Value->zP),w8.heap[ll]? = some (rec .ready none)->(aH prog (Instr.alloc 64 true (.tuple #[])) w8 λv5 w9=>∃ l:zO,v5=(.pointer l)/\aA l λa3=>aJ prog (storeVar 64 a3 (.agg #[.string ⟨xa.toArray⟩,zS xb])) w9 λw10=>(w10.heap[ll]? = some (rec .ready none)/\aA out λa4=>∃ x4:Slc,Rd (w10.putObj ll (rec .busy none)) a4 [zS x4]/\aA l λa5=>∃ xa1:zY,∃ xb1:Slc,Rd (w10.putObj ll (rec .busy none)) a5 [.string ⟨xa1.toArray⟩,zS xb1]/\aH prog (Instr.buildSlice 26 1 #[(0,(.agg #[.string ⟨xa1.toArray⟩,zS xb1]))]) (w10.putObj ll (rec .busy none)) λv6 w11=>∃ x5:Slc,v6=(zS x5)/\aH prog (Builtin.append_ #[26,26] 26 #[zS x4,zS x5]) w11 λv7 w12=>∃ x6:Slc,v7=(zS x6)/\aA out λa6=>aJ prog (storeVar 26 a6 (zS x6)) w12 λw13=>(w13.heap[ll]? = some (rec .busy none)/\kk (.bool true) (w13.putObj ll (rec .ready none)))))->eZ prog ll [.agg #[.string ⟨xa.toArray⟩,zS xb]] w8 kk)->aD prog fn (first.toList++[.func (.yield ll) #[] #[]]++cap.toList) w7 (qDQ R [(mkD dd)]) λ_ w14=>(w14.heap[ll]? = some (rec .ready none)/\aA out λa7=>∃ x7:Slc,Rd (w14.putObj ll (rec .exhausted none)) a7 [zS x7]/\((w14.putObj ll (rec .exhausted none)).heap[dd]? = some (.deferred (some []))/\R (.returned (zS x7)) ((w14.putObj ll (rec .exhausted none)).putObj dd (.deferred none))))\/False\/False
theorem jAS (records:Slc) {w:World} {R:RW} (h9:jEV records w R):Calls prog 10 #[zS records] w R:=
 zC (q0 .z (q0 .z (q0 .z (q0 .z (q0 (q0 .z (.block none (.rf false [] [.agg [.s,.sl]] .z (.block none .z)))) (q0 .z .z)))))) func10 [.sl records] h9
def jFF (records:Slc) (w:World) (R:RW):Prop:=
 aD prog 10 [zS records] w (aG R) λv w1=>∃ x:Slc,v=(zS x)/\∃ (inv:zT) (mu:zU),inv [.sl ⟨none,0,0⟩,.i .i64 0] w1/\(∀ out:Slc,∀ x1:Int,∀ w2:World,inv [.sl out,.i .i64 x1] w2->aE (decide (x1<x.len)) ((zB x1 x.len/\aA x.a λa=>∃ xa:zY,∃ xb:Slc,Rd w2 (a.add (x1.toNat*2)) [.string ⟨xa.toArray⟩,zS xb]/\aH prog (Instr.alloc 64 true (.tuple #[])) w2 λv1 w3=>∃ l:zO,v1=(.pointer l)/\aA l λa1=>aJ prog (storeVar 64 a1 (.agg #[.string ⟨xa.toArray⟩,zS xb])) w3 λw4=>aA l λa2=>∃ x2:Slc,Rd w4 (a2.add 1) [zS x2]/\aH prog (Builtin.append_ #[22,22] 22 #[zS out,zS x2]) w4 λv2 w5=>∃ x3:Slc,v2=(zS x3)/\(inv [.sl x3,.i .i64 (zW (x1+1))] w5/\mu [.sl x3,.i .i64 (zW (x1+1))] w5<mu [.sl out,.i .i64 x1] w2))) (R (.returned (zS out)) w2))
theorem jAD (records:Slc) {w:World} {R:RW} (h9:jFF records w R):Calls prog 11 #[zS records] w R:=
 zC (q0 .z (q0 .z (q0 (q0 .z (.block none (.loop [(3,.sl),(9,(.i .i64))] (q0 .z (q0 (.cond .z .z) (q0 (.block none (q0 .z .z)) .z)))))) (q0 .z .z)))) func11 [.sl records] h9
end Go.Proofs.YthaefcgpbccmbaaGreatDoor
end
section
namespace Go.Proofs.YthaefcgpbccmbaaGreatDoor
open Go Go.Sh Go.MapKept
open Go.Proofs.Tryz
section
variable {P:Program} {w:World}
theorem qBF {α:Type} (l:List α) (j:Nat) (f:α->α) (e:α) (he:l[j]? = some e):l.toArray.modify j f=(l.set j (f e)).toArray:=by
 apply Array.ext_getElem?
 intro i
 rw [Array.getElem?_modify,List.getElem?_toArray,List.getElem?_toArray,List.getElem?_set]
 by_cases h:j=i
 ·subst h
  have hj:j<l.length:=(List.getElem?_eq_some_iff.1 he).1
  rw [if_pos rfl,if_pos rfl,if_pos hj,he]; rfl
 ·rw [if_neg h,if_neg h]
theorem xV {d:TypeDesc} {t kt et:TypeId} (hm:P.underlying t=some (.map kt et)) (hd:P.underlying kt=some d)
 {b:Nat} {es:List MapEntry} {clock:Nat} (hb:mM d w b es clock) {key val:Value} (hkey:IsKey d key) (hex : ∃ e∈es,e.key=key) {K:zP}
 (hk : ∀ j e w',es[j]? = some e->e.key=key->mM d w' b (es.set j ⟨key,val,e.born⟩) clock->Mod (λx=>x=b) w w'->w'.heap.size=w.heap.size->K w'):aJ P (Instr.mapUpdate t (.map (some b)) key val) w K:=by
 rcases findNow_spec hkey es 0 hb.key with ⟨g1,g2⟩ | ⟨j,e,g1,g2,g3⟩
 ·obtain ⟨e,he,h⟩:=hex
  exact absurd h (g2 e he)
 ·simp only [Nat.zero_add] at g1
  have hu:=qN (o':=.map (es.toArray.modify j λe=>⟨key,val,e.born⟩) clock) hb.get
  have e1:=qBF es j (λe=>(⟨key,val,e.born⟩:MapEntry)) e g2
  have hj:es.toArray[j]? = some e:=by simpa using g2
  refine ⟨_,by simp [Instr.mapUpdate,run_underlying hm,MapKept.run_getObj_map hb.get,MapKept.run_checkKey hd hkey,MapKept.run_findKey hd g1,g2,g3,run_keyThatStays hkey,MapKept.run_setObj_map _ hb.get],hk j e _ g2 g3 ⟨?_,?_,?_⟩ hu.mod hu.size⟩
  ·rw [<-e1]; exact hu.get
  ·rw [<-e1]
   exact stamped_modify hb.st j _ (λ_ _=>rfl) λe' _ h=>by rw [hj] at h; cases h; exact g3.symm
  ·intro x hx
   rcases List.mem_or_eq_of_mem_set hx with h | h
   ·exact hb.key x h
   ·subst h; exact hkey
end
def One (B0 B:Nat) (w:World) (v:Slc) (r:Rc):Prop:=∃ h:Hd,aK w v 7 h.cells/\bH w h r/\(∀ z,h.on z->z<B0)/\∀ z,v.blk=some z->B<=z/\z<w.heap.size
theorem One.mod {B0 B:Nat} {w w':World} {v:Slc} {r:Rc} {S:Nat->Prop} (h:One B0 B w v r) (hm:Mod S w w') (h1 : ∀ z,v.blk=some z->¬ S z) (h2 : ∀ z,z<B0->¬ S z):One B0 B w' v r:=by
 obtain ⟨h,a,b,c,d⟩:=h
 exact ⟨h,a.mod hm h1,b.mod hm λz hz=>h2 z (c z hz),c,λz hz=>⟨(d z hz).1,Nat.lt_of_lt_of_le (d z hz).2 hm.size⟩⟩
structure En where
 k:zY
 s:Slc
 l:List (Slc×Rc)
structure mY (B0 B:Nat) (w:World) (ms:List En):Prop where
 own : ∀ m∈ms,Sh.Own w m.s 1 (m.l.map λp=>p.1.val)
 low : ∀ m∈ms,∀ z,m.s.blk=some z->B<=z
 one : ∀ m∈ms,∀ p∈m.l,One B0 B w p.1 p.2
 ap1 : ∀ m∈ms,∀ p∈m.l,∀ z,p.1.blk=some z->∀ m'∈ms,m'.s.blk≠some z
 ap2 : ∀ m∈ms,∀ m'∈ms,m.k≠m'.k->∀ z,m.s.blk=some z->m'.s.blk≠some z
theorem mY.low' {B0 B:Nat} {w w':World} {ms:List En} {S:Nat->Prop} (h:mY B0 B w ms) (hm:Mod S w w') (hS : ∀ z,B<=z->z<w.heap.size->¬ S z) (hS2 : ∀ z,z<B0->¬ S z):mY B0 B w' ms:=
 ⟨λm a=>(h.own m a).mod hm λz hz=>hS z (h.low m a z hz) ((h.own m a).lt hz),h.low,λm a p b=>by
  obtain ⟨_,_,_,_,d⟩:=h.one m a p b
  exact (h.one m a p b).mod hm (λz hz=>hS z (d z hz).1 (d z hz).2) hS2,h.ap1,h.ap2⟩
theorem mY.no {B0 B:Nat} {w w':World} {ms:List En} (h:mY B0 B w ms) (hm:Mod NoB w w'):mY B0 B w' ms:=h.low' hm (λ_ _ _ h=>h) λ_ _ h=>h
theorem mY.step {B0 B:Nat} {w w':World} {ms ms':List En} {k:zY} {s0 s1 v:Slc} {L0:List (Slc×Rc)} {r:Rc} (h:mY B0 B w ms)
 (h0:(∃ m0∈ms,m0.k=k/\m0.s=s0/\m0.l=L0)\/(s0.blk=none/\L0=[]))
 (ho:Sh.Own w' s1 1 (L0.map (λp=>p.1.val)++[v.val])) (hb:s1.blk=s0.blk\/∀ z,s1.blk=some z->w.heap.size<=z) (hm:Mod (λz=>s0.blk=some z) w w')
 (hv:One B0 B w' v r) (k4 : ∀ z,v.blk=some z->w.heap.size<=z/\s1.blk≠some z) (hB:B<=w.heap.size) (hB0:B0<=B)
 (h9 : ∀ m∈ms',m=⟨k,s1,L0++[(v,r)]⟩\/(m∈ms/\m.k≠k)):mY B0 B w' ms':=by
 have hs0B : ∀ z,s0.blk=some z->B<=z:=λz hz=>by
  rcases h0 with ⟨m0,a,_,rfl,_⟩ | ⟨e,_⟩
  ·exact h.low m0 a z hz
  ·rw [e] at hz; cases hz
 have hoth : ∀ m∈ms,m.k≠k->∀ z,m.s.blk=some z->s0.blk≠some z:=λm a b z hz=>by
  rcases h0 with ⟨m0,a',e,rfl,_⟩ | ⟨e,_⟩
  ·exact h.ap2 m a m0 a' (by rw [e]; exact b) z hz
  ·rw [e]; intro h; cases h
 have k3 : ∀ m∈ms,∀ p∈m.l,∀ z,p.1.blk=some z->s0.blk≠some z:=λm a p b z hz=>by
  rcases h0 with ⟨m0,a',e,rfl,_⟩ | ⟨e,_⟩
  ·exact h.ap1 m a p b z hz m0 a'
  ·rw [e]; intro h; cases h
 have hlt : ∀ m∈ms,∀ p∈m.l,∀ z,p.1.blk=some z->z<w.heap.size:=λm a p b z hz=>by
  obtain ⟨_,_,_,_,d⟩:=h.one m a p b
  exact (d z hz).2
 have hL0 : ∀ p∈L0,∃ m∈ms,p∈m.l:=λp hp=>by
  rcases h0 with ⟨m0,a',e,_,rfl⟩ | ⟨_,e⟩
  ·exact ⟨m0,a',hp⟩
  ·rw [e] at hp; cases hp
 have hs1 : ∀ z,s1.blk=some z->s0.blk=some z\/w.heap.size<=z:=λz hz=>by
  rcases hb with e | e
  ·exact .inl (by rw [<-e]; exact hz)
  ·exact .inr (e z hz)
 have hkeep : ∀ m∈ms,∀ p∈m.l,One B0 B w' p.1 p.2:=λm a p b=>(h.one m a p b).mod hm (λz hz=>k3 m a p b z hz) λz hz e=>by have:=hs0B z e; omega
 refine ⟨λm a=>?_,λm a z hz=>?_,λm a p b=>?_,λm a p b z hz m' a'=>?_,λm a m' a' hne z hz=>?_⟩
 ·rcases h9 m a with rfl | ⟨a,b⟩
  ·simpa using ho
  ·exact (h.own m a).mod hm λz hz=>hoth m a b z hz
 ·rcases h9 m a with rfl | ⟨a,b⟩
  ·rcases hs1 z hz with e | e
   ·exact hs0B z e
   ·omega
  ·exact h.low m a z hz
 ·rcases h9 m a with rfl | ⟨a,c⟩
  ·rcases List.mem_append.1 b with b | b
   ·obtain ⟨m2,a2,b2⟩:=hL0 p b
    exact hkeep m2 a2 p b2
   ·simp at b; subst b; exact hv
  ·exact hkeep m a p b
 ·have k5:(∃ m∈ms,p∈m.l)\/p=(v,r):=by
   rcases h9 m a with rfl | ⟨a,c⟩
   ·rcases List.mem_append.1 b with b | b
    ·exact .inl (hL0 p b)
    ·simp at b; exact .inr b
   ·exact .inl ⟨m,a,b⟩
  rcases k5 with ⟨m2,a2,b2⟩ | rfl
  ·have h1:=hlt m2 a2 p b2 z hz
   rcases h9 m' a' with rfl | ⟨a',c⟩
   ·intro e
    rcases hs1 z e with e | e
    ·exact k3 m2 a2 p b2 z hz e
    ·omega
   ·exact h.ap1 m2 a2 p b2 z hz m' a'
  ·obtain ⟨h1,h2⟩:=k4 z hz
   rcases h9 m' a' with rfl | ⟨a',c⟩
   ·exact h2
   ·intro e; have:=(h.own m' a').lt e; omega
 ·rcases h9 m a with rfl | ⟨a,c⟩
  ·rcases h9 m' a' with rfl | ⟨a',c'⟩
   ·exact absurd rfl hne
   ·intro e
    rcases hs1 z hz with e1 | e1
    ·exact hoth m' a' c' z e e1
    ·have:=(h.own m' a').lt e; omega
  ·rcases h9 m' a' with rfl | ⟨a',c'⟩
   ·intro e
    rcases hs1 z e with e1 | e1
    ·exact hoth m a c z hz e1
    ·have:=(h.own m a).lt hz; omega
   ·exact h.ap2 m a m' a' hne z hz
def oN (B0 B:Nat) (w:World) (mb:Nat) (ms:List En):Prop:=
 mY B0 B w ms/\∃ es clock,mM .string w mb es clock/\es.map (λe=>(e.key,e.val))=ms.map λm=>(Value.string ⟨m.k.toArray⟩,m.s.val)
structure Grp (l:List Rc) (ms:List En):Prop where
 nd:(ms.map (·.k)).Nodup
 eq : ∀ m∈ms,m.l.map (·.2)=bF l m.k
 ne : ∀ m∈ms,m.l≠[]
 all : ∀ r∈l,r.right=true->∃ m∈ms,m.k=r.key
theorem Grp.none {l:List Rc} {ms:List En} (h:Grp l ms) {k:zY} (hk : ∀ m∈ms,m.k≠k):bF l k=[]:=by
 refine List.filter_eq_nil_iff.2 λr hr e=>?_
 simp at e
 obtain ⟨m,a,b⟩:=h.all r hr e.1
 exact hk m a (by rw [b,e.2])
theorem kQ (l:List Rc) (r:Rc) (k:zY):bF (l++[r]) k=bF l k++(if r.right=true/\r.key=k then [r] else []):=by
 unfold bF
 rw [List.filter_append]
 congr 1
 by_cases h:r.right=true/\r.key=k
 ·rw [if_pos h,List.filter_cons_of_pos (by simp [h])]; rfl
 ·rw [if_neg h,List.filter_cons_of_neg (by simpa using h)]; rfl
theorem Grp.skip {l:List Rc} {ms:List En} (h:Grp l ms) {r:Rc} (hr:r.right=false):Grp (l++[r]) ms:=
 ⟨h.nd,λm a=>by rw [kQ,if_neg (by simp [hr]),List.append_nil]; exact h.eq m a,h.ne,λr' h9 e=>by
  rcases List.mem_append.1 h9 with h1 | h1
  ·exact h.all r' h1 e
  ·simp at h1; subst h1; rw [hr] at e; cases e⟩
theorem mE {a b:zY} (h:Value.string ⟨a.toArray⟩=Value.string ⟨b.toArray⟩):a=b:=by simpa using h
theorem Grp.step {l:List Rc} {ms ms':List En} {r:Rc} {m1:En} (h:Grp l ms) (hr:r.right=true) (h1:m1.k=r.key) (h2:m1.l.map (·.2)=bF l r.key++[r])
 (nd:(ms'.map (·.k)).Nodup) (k3 : ∀ m∈ms',m=m1\/(m∈ms/\m.k≠r.key)) (k4:m1∈ms') (h9 : ∀ m∈ms,m.k≠r.key->m∈ms'):Grp (l++[r]) ms':=by
 refine ⟨nd,λm a=>?_,λm a=>?_,λr' k5 e=>?_⟩
 ·rw [kQ]
  rcases k3 m a with rfl | ⟨a,b⟩
  ·rw [if_pos ⟨hr,h1.symm⟩,h2,h1]
  ·rw [if_neg (λe=>b e.2.symm),List.append_nil]; exact h.eq m a
 ·rcases k3 m a with rfl | ⟨a,b⟩
  ·intro e; rw [e] at h2; simp at h2
  ·exact h.ne m a
 ·by_cases hk:r'.key=r.key
  ·exact ⟨m1,k4,by rw [h1,hk]⟩
  ·rcases List.mem_append.1 k5 with h3 | h3
   ·obtain ⟨m,a,b⟩:=h.all r' h3 e
    exact ⟨m,h9 m a (by rw [b]; exact hk),b⟩
   ·simp at h3; subst h3; exact absurd rfl hk
theorem qLP {ms:List En} (nd:(ms.map (·.k)).Nodup) {j:Nat} (hj:j<ms.length) {m1:En} (hk:ms[j].k=m1.k) :
 ((ms.set j m1).map (·.k)).Nodup/\(∀ m∈ms.set j m1,m=m1\/(m∈ms/\m.k≠m1.k))/\m1∈ms.set j m1/\∀ m∈ms,m.k≠m1.k->m∈ms.set j m1:=by
 have e:(ms.set j m1).map (·.k)=ms.map (·.k):=by
  rw [List.map_set]
  apply List.ext_getElem (by simp)
  intro i a b
  rw [List.getElem_set]
  split
  ·next h=>subst h; simp [hk]
  ·rfl
 refine ⟨by rw [e]; exact nd,λm a=>?_,List.mem_set hj m1,λm a b=>?_⟩
 ·obtain ⟨i,hi,rfl⟩:=List.getElem_of_mem a
  rw [List.getElem_set]
  split
  ·exact .inl rfl
  ·next hne=>
   have h9:i<ms.length:=by simpa using hi
   refine .inr ⟨List.getElem_mem _,λe=>hne ?_⟩
   have:=(List.getElem_inj (xs:=ms.map (·.k)) (i:=j) (j:=i) (h₀:=by simpa using hj) (h₁:=by simpa using h9) nd).1 (by simp [hk,e])
   exact this
 ·obtain ⟨i,hi,rfl⟩:=List.getElem_of_mem a
  have hne:j≠i:=λe=>by subst e; exact b hk
  have:(ms.set j m1)[i]'(by simpa using hi)=ms[i]:=List.getElem_set_ne hne _
  rw [<-this]; exact List.getElem_mem _
theorem sM:prog.underlying 56=some (.map 9 33):=by kernel_rfl
theorem qWR : ∃ i,prog.info? 33=some i/\i.zero=some (.slice none 0 0)/\i.size=1/\i.bytes=24:=bC (by kernel_rfl) (by kernel_rfl) (by kernel_rfl)
section
variable {w:World}
theorem jEH {B0 mb:Nat} {recs:Slc} {ls:List Rc} (t7:mM .string w mb [] 0) (hl:bO B0 w recs ls) (hB0:B0<=mb) (hn:ls.length<=1000) :
 Calls prog 30 #[.agg #[.map (some mb)],.slice recs.a recs.len recs.cap] w (Ret λv w'=>v = .tuple #[]/\∃ ms,oN B0 (w.heap.size+1) w' mb ms/\Grp ls ms/\Mod (λz=>z=mb) w w'):=by
 refine jBN _ _ ?_
 unfold jEB
 obtain ⟨ir,hr1,hr2,a8,r7⟩:=iF
 obtain ⟨is,hs1,hs2,hs3,hs4⟩:=qZR
 obtain ⟨iv,hv1,hv2,hv3,hv4⟩:=qWR
 have i6:=t7.lt
 refine aQ (l:=[.map (some mb)]) rfl λb1 w1 hN hb1=>⟨_,rfl,?_⟩
 have e1:=hN.at_
 have e2:=hN.size
 let B:=w.heap.size+1
 have hB:B=w1.heap.size:=by show w.heap.size+1=_; omega
 have hrl:=hl.len
 refine ⟨λl' w'=>match l' with | [.i _ y]=>∃ (k:Nat) (ms:List En),y=(k:Int)/\k<=ls.length/\oN B0 B w' mb ms/\Grp (ls.take k) ms/\Mod (λz=>z=mb\/B<=z) w1 w' | _=>False,λl' _=>match l' with | [.i _ y]=>(ls.length - y).toNat | _=>0,⟨0,[],rfl,by omega,⟨⟨by simp,by simp,by simp,by simp,by simp⟩,[],0,t7.mod hN.mod λh=>h,rfl⟩,⟨by simp,by simp,by simp,by simp⟩,Mod.refl _ _⟩,?_⟩
 rintro y w2 ⟨k,ms,rfl,hk,z8,hG,u0⟩
 have u1:Mod (λz=>z=mb\/B<=z) w w2:=hN.mod.no u0
 refine aC (λhlt=>?_) λhge=>?_
 ·have hlt:k<ls.length:=by have:=of_decide_eq_true hlt; omega
  obtain ⟨hs,g1,g2,g3,g4⟩:=hl.mod (u1.mono λz _ h=>by rcases h with rfl | h <;> omega)
  have hks:k<hs.length:=by omega
  obtain ⟨A,ea,i7⟩:=aZ Hd.len (by omega) g1 hks
  obtain ⟨H,hHB⟩:=g4 k hks hlt
  refine ⟨⟨by omega,by omega⟩,?_⟩
  rw [ea]
  let h:=hs[k]
  have H:bH w2 h ls[k]:=H
  refine ⟨h.a,h.b,h.c,h.d,h.e,h.f,h.g,i7,?_⟩
  refine aN (l:=hz0) hr1 hr2 rfl λq w3 j2 hb3=>⟨_,rfl,?_⟩
  refine cB (h:=h) (by kernel_rfl) (by kernel_rfl) hb3 rfl λw4 i8 j3=>?_
  have hq:=j2.at_
  have u2:Mod NoB w2 w4:=j2.mod.fresh i8.mod λz e=>by have e:z=q:=e; omega
  refine ⟨h.a,h.b,h.c,h.d,h.e,h.f,h.g,rdH j3,?_⟩
  refine aB (qEE (h:=h) (H.no u2)) ?_
  rintro v w5 ⟨rfl,j4⟩
  have p8:=u2.tr j4
  have etk:ls.take (k+1)=ls.take k++[ls[k]]:=aL hlt
  obtain ⟨hE,es,clock,hM,u3⟩:=z8
  refine ⟨_,rfl,aC (λhrt=>?_) λhrt=>?_⟩
  ·have hrt:ls[k].right=true:=hrt
   have hm25d:Mod NoB w2 w5.drew:=p8.tr (Mod.drew _ _)
   have v8:Blk w5.drew q h.cells 40:=(j3.no j4).drew
   have hb1l:b1<w1.heap.size:=hb1.lt
   have hb1d:Blk w5.drew b1 [.map (some mb)] 58:=(hb1.mod u0 (by omega)).no hm25d
   have y0:mM .string w5.drew mb es clock:=hM.mod hm25d λh=>h
   have j5:mY B0 B w5.drew ms:=hE.no hm25d
   have hs5:B<=w2.heap.size:=by have:=u0.size; omega
   have o0:w2.heap.size<=w5.drew.heap.size:=hm25d.size
   have hs2x:w2.heap.size<=w5.heap.size:=p8.size
   have r8:=v8.lt
   have hK:h.a=ls[k].key:=H.key
   have isK:IsKey .string (.string ⟨h.a.toArray⟩):=trivial
   have hget : ∀ j (hj:j<es.length) (j6:j<ms.length),es[j].key = .string ⟨ms[j].k.toArray⟩/\es[j].val=ms[j].s.val:=λj hj j6=>by
    have:=congrArg (λl=>l[j]?) u3
    simp only [List.getElem?_map,List.getElem?_eq_getElem hj,List.getElem?_eq_getElem j6,Option.map_some,Option.some.injEq,Prod.mk.injEq] at this
    exact this
   have hlen:es.length=ms.length:=by have:=congrArg List.length u3; simpa using this
   obtain ⟨s0,L0,h0,y5⟩ : ∃ (s0:Slc) (L0:List (Slc×Rc)),((∃ m0∈ms,m0.k=h.a/\m0.s=s0/\m0.l=L0)\/(s0=⟨none,0,0⟩/\L0=[]/\∀ m∈ms,m.k≠h.a))/\
    ∀ {w':World} {K:Value->zP},mM .string w' mb es clock->K s0.val w'->aH prog (Instr.lookup 56 (.map (some mb)) (.string ⟨h.a.toArray⟩) false) w' K:=by
    by_cases hx : ∃ m∈ms,m.k=h.a
    ·obtain ⟨m0,a0,b0⟩:=hx
     refine ⟨m0.s,m0.l,.inl ⟨m0,a0,b0,rfl,rfl⟩,λ{w' K} y7 y8=>nJ sM qL hv1 hv2 y7 isK (λe he hk=>?_) λhno=>?_⟩
     ·obtain ⟨j,hj,rfl⟩:=List.getElem_of_mem he
      obtain ⟨j0,u4,rfl⟩:=List.getElem_of_mem a0
      obtain ⟨c1,c2⟩:=hget j hj (by omega)
      have hkk:ms[j].k=h.a:=mE (c1.symm.trans hk)
      have:=(List.getElem_inj (xs:=ms.map (·.k)) (i:=j) (j:=j0) (h₀:=by simp; omega) (h₁:=by simpa using u4) hG.nd).1 (by simp [hkk,b0])
      subst this
      rw [c2]; exact y8
     ·obtain ⟨j0,u4,rfl⟩:=List.getElem_of_mem a0
      obtain ⟨c1,c2⟩:=hget j0 (by omega) u4
      exact absurd (by rw [c1,b0]) (hno es[j0] (List.getElem_mem _))
    ·have hx : ∀ m∈ms,m.k≠h.a:=λm a e=>hx ⟨m,a,e⟩
     refine ⟨⟨none,0,0⟩,[],.inr ⟨rfl,rfl,hx⟩,λ{w' K} y7 y8=>nJ sM qL hv1 hv2 y7 isK (λe he hk=>?_) λhno=>y8⟩
     obtain ⟨j,hj,rfl⟩:=List.getElem_of_mem he
     obtain ⟨c1,c2⟩:=hget j hj (by omega)
     exact absurd (mE (c1.symm.trans hk)) (hx _ (List.getElem_mem (by omega)))
   have o1:(∃ m0∈ms,m0.k=h.a/\m0.s=s0/\m0.l=L0)\/(s0.blk=none/\L0=[]):=by
    rcases h0 with h | ⟨rfl,rfl,_⟩
    ·exact .inl h
    ·exact .inr ⟨rfl,rfl⟩
   have u5:Sh.Own w5.drew s0 1 (L0.map λp=>p.1.val):=by
    rcases h0 with ⟨m0,a,_,rfl,rfl⟩ | ⟨rfl,rfl,_⟩
    ·exact j5.own m0 a
    ·exact bK _ 1
   have hs0z : ∀ z,s0.blk=some z->B<=z/\z<w2.heap.size:=λz hz=>by
    rcases h0 with ⟨m0,a,_,rfl,rfl⟩ | ⟨rfl,_,_⟩
    ·exact ⟨hE.low m0 a z hz,(hE.own m0 a).lt hz⟩
    ·simp at hz
   have hL0r:L0.map (·.2)=bF (ls.take k) h.a:=by
    rcases h0 with ⟨m0,a,e,_,rfl⟩ | ⟨_,rfl,e⟩
    ·rw [<-e]; exact hG.eq m0 a
    ·rw [hG.none e]; rfl
   have hL0n:L0.length<=1000:=by
    have e:=congrArg List.length hL0r
    rw [List.length_map] at e
    have:(bF (ls.take k) h.a).length<=(ls.take k).length:=List.length_filter_le _ _
    rw [List.length_take] at this; omega
   have hfin : ∀ {w9:World} {x9 v:Slc},Sh.Own w9 x9 1 ((L0.map λp=>p.1.val)++[v.val])->(x9.blk=s0.blk\/∀ z,x9.blk=some z->w5.drew.heap.size<=z)->Mod (λz=>s0.blk=some z) w5.drew w9->aK w9 v 7 h.cells->
    (∀ z,v.blk=some z->w5.drew.heap.size<=z/\z<w9.heap.size/\x9.blk≠some z)->
    aJ prog (Instr.mapUpdate 56 (.map (some mb)) (.string ⟨h.a.toArray⟩) (.slice x9.a x9.len x9.cap)) w9 λk4=>((∃ (k':Nat) (ms:List En),zW ((k:Int)+(1:Int))=(k':Int)/\k'<=ls.length/\oN B0 B k4 mb ms/\Grp (ls.take k') ms/\Mod (λz=>z=mb\/B<=z) w1 k4)/\((ls.length:Int) - zW ((k:Int)+(1:Int))).toNat<((ls.length:Int) - (k:Int)).toNat):=by
    intro w9 x9 v u6 hbk p9 o2 hvb
    have y9 : ¬ (s0.blk=some mb):=λe=>by have:=hs0z mb e; omega
    have b5:mM .string w9 mb es clock:=y0.mod p9 y9
    have z1:One B0 B w9 v ls[k]:=⟨h,o2,(H.no hm25d).mod p9 λz hz e=>by have:=hHB z hz; have:=hs0z z e; omega,λz hz=>hHB z hz,λz hz=>⟨by have:=(hvb z hz).1; omega,(hvb z hz).2.1⟩⟩
    have hst : ∀ {ms':List En},(∀ m∈ms',m=⟨h.a,x9,L0++[(v,ls[k])]⟩\/(m∈ms/\m.k≠h.a))->mY B0 B w9 ms':=λ{ms'} y1=>
     j5.step o1 u6 hbk p9 z1 (λz hz=>⟨(hvb z hz).1,(hvb z hz).2.2⟩) (by omega) (by omega) y1
    have hup : ∀ {k4:World},Mod (λx=>x=mb) w9 k4->Mod (λz=>z=mb\/B<=z) w1 k4:=λ{k4} k3=>
     (u0.no' hm25d).trans ((p9.mono λz _ hz=>.inr (hs0z z hz).1).tr (k3.mono λz _ hz=>.inl hz):Mod (λz=>z=mb\/B<=z) w5.drew k4) (λ_ _ h=>h) λ_ _ h=>h
    have u7 : ∀ {ms':List En} {k4:World},mY B0 B w9 ms'->Mod (λx=>x=mb) w9 k4->mY B0 B k4 ms':=λ{ms' k4} o3 k3=>o3.low' k3 (λz h1 _ e=>by have e:z=mb:=e; omega) λz h1 e=>by have e:z=mb:=e; omega
    have hl2:(L0++[(v,ls[k])]).map (·.2)=bF (ls.take k) ls[k].key++[ls[k]]:=by rw [List.map_append,hL0r,hK]; rfl
    rw [wrap_i64 (e:=(k:Int)+1) (by omega)]
    rcases h0 with ⟨m0,a0,b0,rfl,rfl⟩ | ⟨rfl,rfl,hx⟩
    ·obtain ⟨j0,u4,rfl⟩:=List.getElem_of_mem a0
     refine xV sM qL b5 isK ⟨es[j0],List.getElem_mem (by omega),by rw [(hget j0 (by omega) u4).1,b0]⟩ λj e k4 he o4 t6 k3 hsz=>?_
     have hj:j<es.length:=(List.getElem?_eq_some_iff.1 he).1
     have o5:es[j]=e:=(List.getElem?_eq_some_iff.1 he).2
     obtain ⟨c1,c2⟩:=hget j hj (by omega)
     have o6:ms[j].k=h.a:=mE (c1.symm.trans (by rw [o5]; exact o4))
     obtain ⟨n1,n2,n3,n4⟩:=qLP hG.nd (j:=j) (by omega) (m1:=⟨h.a,x9,ms[j0].l++[(v,ls[k])]⟩) o6
     refine ⟨⟨k+1,_,by omega,by omega,⟨u7 (hst n2) k3,_,_,t6,?_⟩,?_,hup k3⟩,by omega⟩
     ·rw [List.map_set,List.map_set,u3]; rfl
     ·rw [etk]
      exact hG.step hrt (m1:=⟨h.a,x9,ms[j0].l++[(v,ls[k])]⟩) hK hl2 n1 (λm a=>by rw [<-hK]; exact n2 m a) n3 λm a b=>n4 m a (by rw [<-hK] at b; exact b)
    ·refine vR sM qL b5 isK (λe he hk=>?_) λk4 t6 k3 hsz=>?_
     ·obtain ⟨j,hj,rfl⟩:=List.getElem_of_mem he
      exact hx _ (List.getElem_mem (by omega)) (mE ((hget j hj (by omega)).1.symm.trans hk))
     have y1 : ∀ m∈ms++[(⟨h.a,x9,[]++[(v,ls[k])]⟩:En)],m=⟨h.a,x9,[]++[(v,ls[k])]⟩\/(m∈ms/\m.k≠h.a):=λm a=>by
      rcases List.mem_append.1 a with a | a
      ·exact .inr ⟨a,hx m a⟩
      ·exact .inl (List.mem_singleton.1 a)
     refine ⟨⟨k+1,_,by omega,by omega,⟨u7 (hst y1) k3,_,_,t6,?_⟩,?_,hup k3⟩,by omega⟩
     ·rw [List.map_append,List.map_append,u3]; rfl
     ·rw [etk]
      refine hG.step hrt (m1:=⟨h.a,x9,[]++[(v,ls[k])]⟩) hK hl2 ?_ (λm a=>by rw [<-hK]; exact y1 m a) (by simp) λm a b=>List.mem_append_left _ a
      rw [List.map_append,List.nodup_append]
      refine ⟨hG.nd,by simp,λa ha b hb e=>?_⟩
      obtain ⟨m,c,rfl⟩:=List.mem_map.1 ha
      simp at hb
      exact hx m c (e.trans hb)
   have u9 : ∀ {w' lb},Blk w' lb h.cells 40->aK w' ⟨some ⟨lb,0,none⟩,1,1⟩ 7 h.cells:=λhb=>(aY (n:=1) (k:=7) hb (by rw [Hd.len])).rd
   have hap : ∀ {w8:World} {x8 v:Slc} {K:Value->zP},Mod NoB w5.drew w8->aK w8 x8 1 [v.val]->x8.len=1->(∀ (x9:Slc) w9,Sh.Own w9 x9 1 ((L0.map λp=>p.1.val)++[v.val])->(x9.blk=s0.blk\/x9.blk=some w8.heap.size)->Mod (λz=>s0.blk=some z) w8 w9->K (.slice x9.a x9.len x9.cap) w9)->aH prog (Builtin.append_ #[33,33] 33 #[.slice s0.a s0.len s0.cap,.slice x8.a x8.len x8.cap]) w8 K:=by
    intro w8 x8 v K h9 q8 hx8l o7
    have o8:=(u5.no h9).1
    rw [List.length_map] at o8
    exact aS qCJ hs1 hs2 hs3 rfl hs4 (u5.no h9) q8 (by intro y hy; simp at hy; subst hy; rfl) (by omega) (by omega) λx9 w9 u6 _ o9 p9=>o7 x9 w9 u6 o9 p9
   let SX:zP:=λw'=>Blk w' b1 [.map (some mb)] 58/\Blk w' q h.cells 40
   have b6 : ∀ {w'},Mod (λz=>s0.blk=some z) w5.drew w'->SX w':=λhm=>⟨hb1d.mod hm λe=>by have:=hs0z b1 e; omega,v8.mod hm λe=>by have:=hs0z q e; omega⟩
   have k5 : ∀ {w'},Mod NoB w5.drew w'->SX w':=λhm=>b6 (hm.mono λ_ _ h=>h.elim)
   have hend : ∀ {w8:World} {lb:Nat} {x8:Slc},Mod NoB w5.drew w8->Blk w8 lb h.cells 40->w5.drew.heap.size<=lb->aK w8 x8 1 [Slc.val ⟨some ⟨lb,0,none⟩,1,1⟩]->x8.len=1->
    aH prog (Builtin.append_ #[33,33] 33 #[.slice s0.a s0.len s0.cap,.slice x8.a x8.len x8.cap]) w8 λv6 w9=>∃ x9:Slc,v6 = .slice x9.a x9.len x9.cap/\(SX w9/\((aJ prog (Instr.mapUpdate 56 (.map (some mb)) (.string ⟨h.a.toArray⟩) (.slice x9.a x9.len x9.cap)) w9 λk4=>((∃ (k':Nat) (ms:List En),zW ((k:Int)+(1:Int))=(k':Int)/\k'<=ls.length/\oN B0 B k4 mb ms/\Grp (ls.take k') ms/\Mod (λz=>z=mb\/B<=z) w1 k4)/\((ls.length:Int) - zW ((k:Int)+(1:Int))).toNat<((ls.length:Int) - (k:Int)).toNat))/\True)):=by
    intro w8 lb x8 h9 a6 hlb q8 hx8l
    refine hap h9 q8 hx8l λx9 w9 u6 hbk p9=>?_
    have v1:Mod (λz=>s0.blk=some z) w5.drew w9:=h9.no p9
    have r0:=h9.size
    have z6:=a6.lt
    have v7 : ¬ (s0.blk=some lb):=λe=>by have:=hs0z lb e; omega
    refine ⟨x9,rfl,b6 v1,hfin u6 (hbk.imp id λe z hz=>by rw [e] at hz; cases hz; exact r0) v1 (u9 (a6.mod p9 v7)) (λz hz=>?_),trivial⟩
    have hz:lb=z:=by rw [Slc.blk_mk] at hz; simpa using hz
    subst hz
    refine ⟨hlb,Nat.lt_of_lt_of_le z6 p9.size,λe=>?_⟩
    rcases hbk with e1 | e1
    ·exact v7 (e1.symm.trans e)
    ·rw [e1] at e; cases e; omega
   have a7 : ∀ {w':World} {K:Value->zP},(∀ lb w7,lb=w'.heap.size->Mod NoB w' w7->Blk w7 lb h.cells 40->K (.slice (some ⟨lb,0,none⟩) 1 1) w7)->aH prog (Instr.buildSlice 22 1 #[(0,h.val)]) w' K:=λhK=>
    bZ [h.val] (l:=h.cells) fA hr1 hr2 a8 (by omega) rfl (by omega) (by omega) rfl (by intro v hv; simp at hv; subst hv; rfl) (by simp [Value.cells,Hd.val]) λlb w7 y2 q9=>hK lb w7 y2.at_ y2.mod q9
   have z7 : ∀ {w':World} {K:Value->zP} {u:Slc},(∀ lb w7,Mod NoB w' w7->aK w7 ⟨some ⟨lb,0,none⟩,1,1⟩ 1 [u.val]->K (.slice (some ⟨lb,0,none⟩) 1 1) w7)->aH prog (Instr.buildSlice 33 1 #[(0,u.val)]) w' K:=λ{w' K u} hK=>
    bZ [u.val] (l:=[u.val]) qCJ hs1 hs2 hs3 (by omega) rfl (by omega) (by omega) rfl (by intro v hv; simp at hv; subst hv; rfl) (by simp [Value.cells,Slc.val]) λlb w7 y2 q9=>hK lb w7 y2.mod (aY (n:=1) (k:=1) q9 rfl).rd
   refine ⟨SX,⟨hb1d,v8⟩,some mb,λw' hx=>by rw [aO]; exact hx.1.rd1 rfl,h.a,λw' hx=>by rw [aO]; exact hx.2.rd1 rfl,some mb,λw' hx=>by rw [aO]; exact hx.1.rd1 rfl,h.a,λw' hx=>by rw [aO]; exact hx.2.rd1 rfl,h.a,h.b,h.c,h.d,h.e,h.f,h.g,λw' hx=>rdH hx.2,?_,?_,trivial⟩
   ·refine y5 y0 ⟨s0,rfl,⟨hb1d,v8⟩,?_,trivial⟩
    refine a7 λlb w7 hlb k6 q9=>⟨⟨some ⟨lb,0,none⟩,1,1⟩,rfl,k5 k6,?_,trivial⟩
    refine z7 λlc w8 h9 q8=>⟨⟨some ⟨lc,0,none⟩,1,1⟩,rfl,k5 (k6.tr h9),?_,trivial⟩
    exact hend (k6.tr h9) (q9.no h9) (by omega) q8 rfl
   ·refine a7 λlb w7 hlb k6 q9=>⟨⟨some ⟨lb,0,none⟩,1,1⟩,rfl,k5 k6,?_,?_,trivial⟩
    ·refine y5 (y0.mod k6 λh=>h) ⟨s0,rfl,k5 k6,?_,trivial⟩
     refine z7 λlc w8 h9 q8=>⟨⟨some ⟨lc,0,none⟩,1,1⟩,rfl,k5 (k6.tr h9),?_,trivial⟩
     exact hend (k6.tr h9) (q9.no h9) (by omega) q8 rfl
    ·refine z7 λlc w8 h9 q8=>⟨⟨some ⟨lc,0,none⟩,1,1⟩,rfl,k5 (k6.tr h9),?_,trivial⟩
     refine y5 (y0.mod (k6.tr h9) λh=>h) ⟨s0,rfl,k5 (k6.tr h9),?_,trivial⟩
     exact hend (k6.tr h9) (q9.no h9) (by omega) q8 rfl
  ·have hrt:ls[k].right=false:=hrt
   rw [wrap_i64 (e:=(k:Int)+1) (by omega)]
   exact ⟨⟨k+1,ms,by omega,by omega,⟨hE.no p8,es,clock,hM.mod p8 λh=>h,u3⟩,by rw [etk]; exact hG.skip hrt,u0.no' p8⟩,by (try simp only []); omega⟩
 ·have hkk:k=ls.length:=by have:=of_decide_eq_false hge; omega
  subst hkk
  rw [List.take_length] at hG
  exact ⟨rfl,ms,z8,hG,u1.mono λz hz h=>h.elim id λh=>by have:w.heap.size+1<=z:=h; omega⟩
end
end Go.Proofs.YthaefcgpbccmbaaGreatDoor
end
