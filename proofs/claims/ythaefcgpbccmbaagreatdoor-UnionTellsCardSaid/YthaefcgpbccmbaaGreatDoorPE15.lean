/- The forms of the translated functions,their contracts and the plain laws behind them,put together by a program. -/
import Derived.Test.YthaefcgpbccmbaaGreatDoorPE14
import Derived.Lib.BytesEntry
set_option linter.unusedSimpArgs false
set_option linter.unusedVariables false
set_option maxRecDepth 100000
set_option maxHeartbeats 4000000
section
namespace Go.Proofs.YthaefcgpbccmbaaGreatDoor
open Go Go.Sh
open Go.Proofs.Tryz
def nA (w w':World):Prop:=Mod NoB w w'/\w.drawn<=w'.drawn
theorem nA.tr {a b c:World} (h:nA a b) (h':nA b c):nA a c:=⟨h.1.tr h'.1,Nat.le_trans h.2 h'.2⟩
theorem nA.drew (w:World):nA w w.drew:=⟨Mod.drew _ _,Nat.le_succ _⟩
section
variable {P:Program} {w:World} {K:Value->zP}
theorem iJ {T:TypeId} {v:Value} {l:List Value} (hv:v.cells=l.toArray) (hk : ∀ b w',nA w w'->Blk w' b l T->w.heap.size<=b->K (.pointer (some ⟨b,0,none⟩)) w'):aH P (Instr.box T v) w K:=
 ⟨_,_,by simp [Instr.box,newVar,newRow,hv],hk w.heap.size (w.alloc (.cells l.toArray T)) ⟨cS _ _,Nat.le_refl _⟩ (Blk.mk (eQ w _).get) (Nat.le_refl _)⟩
end
def orI (a b:Int):Int:=if a≠0 then a else b
section
variable {w:World}
theorem qDM {s:Slc} {a b:Int} (hs:aK w s 1 (ints [a,b])):Calls prog 204 #[.slice s.a s.len s.cap] w (Ret λv w'=>v = .int .i64 (orI a b)/\w'=w):=by
 refine qPA _ ?_
 unfold qYK
 have hl:=qSI hs
 simp only [List.length_cons,List.length_nil] at hl
 refine ⟨λl' w'=>match l' with | [.i _ x]=>∃ k:Nat,x=(k:Int)/\k<=2/\(0<k->a=0)/\(1<k->b=0)/\w'=w | _=>False,λl' _=>match l' with | [.i _ x]=>(2 - x).toNat | _=>0,⟨0,rfl,by omega,by omega,by omega,rfl⟩,?_⟩
 rintro x w1 ⟨k,rfl,hk,h1,h2,rfl⟩
 refine aC (λhlt=>?_) λhge=>?_
 ·have hlt:k<2:=by have:=of_decide_eq_true hlt; omega
  obtain ⟨A,ea,hr⟩:=jBG hs (i:=k) (by simpa using hlt)
  refine ⟨⟨by omega,by omega⟩,?_⟩
  rw [ea,wrap_i64 (e:=(k:Int)+1) (by omega)]
  refine ⟨_,hr,aC (λh=>⟨congrArg _ ?_,rfl⟩) λh=>⟨⟨k+1,by omega,by omega,?_,?_,rfl⟩,by (try simp only []); omega⟩⟩
  ·have:k=0\/k=1:=by omega
   rcases this with rfl | rfl
   ·simp at h; simp [orI,h]
   ·have:=h1 (by omega); simp [orI,this]
  ·intro _
   have:k=0\/k=1:=by omega
   rcases this with rfl | rfl
   ·simpa using h
   ·exact h1 (by omega)
  ·intro hk1
   have:k=1:=by omega
   subst this
   simpa using h
 ·have hk2:k=2:=by have:=of_decide_eq_false hge; omega
  subst hk2
  exact ⟨congrArg _ (by rw [orI,if_neg (by simp [h1 (by omega)]),h2 (by omega)]),rfl⟩
theorem qDD {a b:Int} {K:Value->zP} (hk : ∀ (x:Slc) w',nA w w'->aK w' x 1 (ints [a,b])->K x.val w'):aH prog (Instr.buildSlice 36 2 #[(0,.int .i64 a),(1,.int .i64 b)]) w K:=by
 obtain ⟨ii,k3,k4,h9,k5⟩:=iI
 have hf:Instr.fill (λi=>some (i*ii.size,ii.size)) ((Array.range (2*ii.size)).map ((Value.int .i64 0).cells[· % (Value.int .i64 0).cells.size]!)) [(0,.int .i64 a),(1,.int .i64 b)]=some (ints [a,b]).toArray:=by
  rw [h9]
  exact Great.fill_whole (s:=1) (by omega) [.int .i64 a,.int .i64 b] _ (by intro v hv; simp at hv; rcases hv with rfl | rfl <;> rfl) (by simp)
 have h1 : ¬ 2*ii.size > 2 ^ 24:=by rw [h9]; omega
 have h2 : ¬ 2*ii.size=0:=by rw [h9]; omega
 refine ⟨.slice (some ⟨w.heap.size,0,none⟩) 2 2,w.alloc (.cells (ints [a,b]).toArray 3),by simp [Instr.buildSlice,run_underlying jGZ,sizeOf,typeInfo,zeroValue,k3,k4,h1,h2,hf,newRow],?_⟩
 refine hk ⟨some ⟨w.heap.size,0,none⟩,2,2⟩ _ ⟨cS _ _,Nat.le_refl _⟩ ?_
 exact (aY (n:=2) (k:=1) (T:=3) (Blk.mk (eQ w _).get) (by simp [ints])).rd
def qET (i j:Hd):Int:=orI (mU i.b j.b) (mU i.c j.c)
def It.val (i:It):Value:=.agg i.cells.toArray
theorem zM {p:Nat} {i:It} {T:TypeId} (hb:Blk w p i.cells T):Rd w ⟨p,0,none⟩ i.cells:=hb.rd λj v hj=>by simpa using hj
theorem qBA {i j:It} : Calls prog 205 #[i.val,j.val] w (Ret λv w'=>v = .int .i64 (qET i.hd j.hd)/\nA w w'):=by
 refine qLA i.hd.a i.hd.b i.hd.c i.hd.d i.hd.e i.hd.f i.hd.g i.s j.hd.a j.hd.b j.hd.c j.hd.d j.hd.e j.hd.f j.hd.g j.s ?_
 unfold qYO
 refine iJ (l:=i.cells) rfl λp w1 k4 hb1 hp=>⟨_,rfl,?_⟩
 refine iJ (l:=j.cells) rfl λq w2 k3 hb2 hq=>⟨_,rfl,?_⟩
 have k5:nA w w2.drew:=(k4.tr k3).tr (nA.drew _)
 have h1:=(hb1.no k3.1).drew
 have h2:=hb2.drew
 refine ⟨Mod NoB w2.drew,Mod.refl _ _,i.hd.b,λw' hm=>by rw [aO,aO]; exact (h1.no hm).rd1 rfl,j.hd.b,λw' hm=>by rw [aO,aO]; exact (h2.no hm).rd1 rfl,i.hd.c,λw' hm=>by rw [aO,aO]; exact (h1.no hm).rd1 rfl,j.hd.c,λw' hm=>by rw [aO,aO]; exact (h2.no hm).rd1 rfl,?_,trivial⟩
 refine aB rB ?_
 rintro v w3 ⟨rfl,rfl⟩
 refine ⟨_,rfl,Mod.refl _ _,?_,trivial⟩
 refine aB rB ?_
 rintro v w3 ⟨rfl,rfl⟩
 refine ⟨_,rfl,Mod.refl _ _,?_,trivial⟩
 refine qDD λx w4 h9 hx=>⟨x,rfl,h9.1,?_,trivial⟩
 refine aB (qDM hx) ?_
 rintro v w5 ⟨rfl,rfl⟩
 exact ⟨_,rfl,h9.1,rfl,k5.tr h9⟩
theorem oA {s:Slc} {l:zY} (h:aK w s 1 (bys l)):(Extern.Bytes.bytesOf (.slice s.a s.len s.cap)).run prog w = .ok ⟨l.toArray⟩ w:=by
 have hl:=aV h
 cases ha:s.a with
 | none=>
   have:l=[]:=by
    rcases h.2.2 with h0 | ⟨b,e1,_⟩
    ·exact vI (b:=[]) h0
    ·rw [ha] at e1; cases e1
   subst this; rfl
 | some a=>
   have h9:Rd w a (bys l):=by
    rcases h.2.2 with h0 | ⟨b,e1,e2⟩
    ·rw [h0]; intro j v hj; simp at hj
    ·rw [ha] at e1; cases e1; exact e2
   have hx:=Lib.run_loadBytesX (P:=prog) w (l.map λu=>(u.toNat:Int)) a ByteArray.empty (λj x hj=>by
    simp only [List.getElem?_map,Option.map_eq_some_iff] at hj
    obtain ⟨u,hu,rfl⟩:=hj
    exact h9 j _ (by simp [bys,hu]))
   simp only [List.length_map] at hx
   rw [hl] at hx
   show (Extern.Bytes.loadBytes a s.len ByteArray.empty).run prog w=_
   have eb:Lib.bytesOf (l.map λu=>(u.toNat:Int))=l:=by
    unfold Lib.bytesOf
    rw [List.map_map]
    conv=>rhs; rw [<-List.map_id l]
    apply List.map_congr_left
    intro u _
    simp
   rw [hx,eb]
   show Result.ok (ByteArray.mk (#[]++l.toArray)) w=_
   simp
theorem jAH {a b:Slc} {l m:zY} (ha:aK w a 1 (bys l)) (hb:aK w b 1 (bys m)):Calls prog 206 #[.slice a.a a.len a.cap,.slice b.a b.len b.cap] w (Ret λv w'=>v = .int .i64 (Lib.compareBytes l m)/\w'=w):=by
 refine qKY _ _ ?_
 unfold qXS
 refine ⟨.int .i64 (Lib.compareBytes l m),w,?_,_,rfl,rfl,rfl⟩
 rw [run_callFunc_extern func270 (by kernel_rfl) (by kernel_rfl) (by kernel_rfl) (e:=Extern.BytealgCompare.compare) (by kernel_rfl)]
 have e:(Extern.BytealgCompare.compare #[.slice a.a a.len a.cap,.slice b.a b.len b.cap]).run prog w = .ok (.int .i64 (Lib.compareBytes l m)) w:=by
  show (do pure (goInt (Extern.BytealgCompare.cmp (<-Extern.Bytes.bytesOf (.slice a.a a.len a.cap)) (<-Extern.Bytes.bytesOf (.slice b.a b.len b.cap)))):Sem Value).run prog w=_
  simp only [Sem.run_bind,oA ha,Result.andThen_ok,oA hb,Sem.run_pure,Lib.cmp_eq]
  rfl
 rw [e]; rfl
def zK (r s:Rc):Int:=orI (mU r.cl s.cl) (mU r.sq s.sq)
def qJX (r s:Rc):Int:=orI (zK r s) (Lib.compareBytes r.enc s.enc)
theorem vU {i j:Hd} {r s:Rc} (h:bH w i r) (h':bH w j s):qET i j=zK r s:=by rw [qET,zK,h.cl,h'.cl,h.sq,h'.sq]
theorem qGT {i j:It} {r s:Rc} (hi:jA w i r) (hj:jA w j s):Calls prog 203 #[i.val,j.val] w (Ret λv w'=>v = .int .i64 (qJX r s)/\nA w w'):=by
 refine qPF i.hd.a i.hd.b i.hd.c i.hd.d i.hd.e i.hd.f i.hd.g i.s j.hd.a j.hd.b j.hd.c j.hd.d j.hd.e j.hd.f j.hd.g j.s ?_
 unfold qXU
 refine iJ (l:=i.cells) rfl λp w1 k6 hb1 hp=>⟨_,rfl,?_⟩
 refine iJ (l:=j.cells) rfl λq w2 k5 hb2 hq=>⟨_,rfl,?_⟩
 have p8:nA w w2.drew:=(k6.tr k5).tr (nA.drew _)
 have h1:=(hb1.no k5.1).drew
 have h2:=hb2.drew
 refine ⟨Mod NoB w2.drew,Mod.refl _ _,i.hd.a,i.hd.b,i.hd.c,i.hd.d,i.hd.e,i.hd.f,i.hd.g,i.s,λw' hm=>zM (h1.no hm),j.hd.a,j.hd.b,j.hd.c,j.hd.d,j.hd.e,j.hd.f,j.hd.g,j.s,λw' hm=>zM (h2.no hm),i.s,λw' hm=>by rw [aO]; exact (h1.no hm).rd1 rfl,j.s,λw' hm=>by rw [aO]; exact (h2.no hm).rd1 rfl,?_,trivial⟩
 refine aB (qBA (i:=i) (j:=j)) ?_
 rintro v w3 ⟨rfl,h9⟩
 refine ⟨_,rfl,h9.1,?_,trivial⟩
 have k3:=p8.tr h9
 refine aB (jAH (hi.s.no k3.1) (hj.s.no k3.1)) ?_
 rintro v w4 ⟨rfl,rfl⟩
 refine ⟨_,rfl,h9.1,?_,trivial⟩
 refine qDD λx w5 k4 hx=>⟨x,rfl,h9.1.tr k4.1,?_,trivial⟩
 refine aB (qDM hx) ?_
 rintro v w6 ⟨rfl,rfl⟩
 exact ⟨_,rfl,h9.1.tr k4.1,by rw [qJX,vU hi.hd hj.hd],k3.tr k4⟩
theorem qVS {i j:It} : Calls prog 208 #[i.val,j.val] w (Ret λv w'=>v = .bool (qET i.hd j.hd==0)/\Mod NoB w w'):=by
 refine qOD i.hd.a i.hd.b i.hd.c i.hd.d i.hd.e i.hd.f i.hd.g i.s j.hd.a j.hd.b j.hd.c j.hd.d j.hd.e j.hd.f j.hd.g j.s ?_
 unfold qVT
 refine iJ (l:=i.cells) rfl λp w1 k3 hb1 hp=>⟨_,rfl,?_⟩
 refine iJ (l:=j.cells) rfl λq w2 h9 hb2 hq=>⟨_,rfl,?_⟩
 refine ⟨i.hd.a,i.hd.b,i.hd.c,i.hd.d,i.hd.e,i.hd.f,i.hd.g,i.s,zM (hb1.no h9.1),j.hd.a,j.hd.b,j.hd.c,j.hd.d,j.hd.e,j.hd.f,j.hd.g,j.s,zM hb2,?_⟩
 refine aB (qBA (i:=i) (j:=j)) ?_
 rintro v w3 ⟨rfl,k4⟩
 exact ⟨_,rfl,rfl,(k3.1.tr h9.1).tr k4.1⟩
theorem vQ {r s:Rc} : zK r s=0↔r.cl=s.cl/\r.sq=s.sq:=by
 unfold zK orI
 split
 ·next h=>constructor
          ·intro h2; exact absurd h2 h
          ·intro ⟨h2,_⟩; exact absurd (nO.2 h2) h
 ·next h=>
  have h:mU r.cl s.cl=0:=by simpa using h
  rw [nO] at h
  rw [nO]; simp [h]
theorem qIB {x y:It} {r s:Rc} {c:Nat} {T:TypeId} (hx:jA w x r) (hy:jA w y s) (hc:Blk w c x.cells T):Calls prog 272 #[y.val,.pointer (some ⟨c,0,none⟩)] w (Ret λv w'=>v = .bool (!decide (r.cl=s.cl/\r.sq=s.sq)&&s.over r)/\Mod NoB w w'):=by
 refine qRI y.hd.a y.hd.b y.hd.c y.hd.d y.hd.e y.hd.f y.hd.g y.s _ ?_
 unfold qWY
 refine iJ (l:=y.cells) rfl λp w1 k4 hb1 hp=>⟨_,rfl,?_⟩
 have hc1:=hc.no k4.1
 refine ⟨x.hd.a,x.hd.b,x.hd.c,x.hd.d,x.hd.e,x.hd.f,x.hd.g,x.s,zM hc1,y.hd.a,y.hd.b,y.hd.c,y.hd.d,y.hd.e,y.hd.f,y.hd.g,y.s,zM hb1,?_⟩
 refine aB (qBA (i:=x) (j:=y)) ?_
 rintro v w2 ⟨rfl,h9⟩
 have hM2:=k4.1.tr h9.1
 rw [vU hx.hd hy.hd]
 refine ⟨_,rfl,aC (λh=>?_) λh=>⟨congrArg Value.bool ?_,hM2⟩⟩
 ·have h : ¬ (r.cl=s.cl/\r.sq=s.sq):=λe=>by rw [vQ.2 e] at h; simp at h
  have ry:Rd w2 (Addr.add ⟨p,0,none⟩ 0) y.hd.cells:=by
   rw [aO]; exact (hb1.no h9.1).rd λj v hj=>by
    have k3:j<7:=(List.getElem?_eq_some_iff.1 hj).1
    simp only [Nat.zero_add]
    rw [It.cells,List.getElem?_append_left k3]; exact hj
  have rx:Rd w2 (Addr.add ⟨c,0,none⟩ 0) x.hd.cells:=by
   rw [aO]; exact (hc1.no h9.1).rd λj v hj=>by
    have k3:j<7:=(List.getElem?_eq_some_iff.1 hj).1
    simp only [Nat.zero_add]
    rw [It.cells,List.getElem?_append_left k3]; exact hj
  refine ⟨y.hd.a,y.hd.b,y.hd.c,y.hd.d,y.hd.e,y.hd.f,y.hd.g,ry,x.hd.a,x.hd.b,x.hd.c,x.hd.d,x.hd.e,x.hd.f,x.hd.g,rx,?_⟩
  refine aB (qYS (a:=y.hd) (b:=x.hd) (hy.hd.no hM2) (hx.hd.no hM2)) ?_
  rintro v w3 ⟨rfl,k5⟩
  exact ⟨_,rfl,by simp [h],hM2.tr k5⟩
 ·have h:r.cl=s.cl/\r.sq=s.sq:=vQ.1 (by simpa using h)
  simp [h]
theorem qSA {v:Slc} {is:List It} {rs:List Rc} {x:It} {r:Rc} {c:Nat} {T:TypeId} (hv:aK w v 8 (dI is)) (hl:is.length=rs.length) (hI : ∀ i (h:i<is.length) (h':i<rs.length),jA w is[i] rs[i]) (hx:jA w x r) (hc:Blk w c x.cells T) (hn:rs.length<=1000000) :
 Calls prog 333 #[.slice v.a v.len v.cap,.func (.func 272) #[] #[.pointer (some ⟨c,0,none⟩)]] w (Ret λu w'=>∃ k:Int,u = .int .i64 k/\(0<=k↔(rs.any λs=>!decide (r.cl=s.cl/\r.sq=s.sq)&&s.over r)=true)/\Mod NoB w w'):=by
 refine qSG _ _ ?_
 unfold qWE
 have k5:=bA It.len (by omega) hv
 refine ⟨λl' w'=>match l' with | [.i _ y]=>∃ k:Nat,y=(k:Int)/\k<=rs.length/\(∀ i (h:i<rs.length),i<k->(!decide (r.cl=rs[i].cl/\r.sq=rs[i].sq)&&rs[i].over r)=false)/\Mod NoB w w' | _=>False,λl' _=>match l' with | [.i _ y]=>(rs.length - y).toNat | _=>0,⟨0,rfl,by omega,λi h h'=>by omega,Mod.refl _ _⟩,?_⟩
 rintro y w1 ⟨k,rfl,hk,hall,h9⟩
 refine aC (λhlt=>?_) λhge=>?_
 ·have hlt:k<rs.length:=by have:=of_decide_eq_true hlt; omega
  have k3:k<is.length:=by omega
  obtain ⟨A,ea,hr⟩:=aZ It.len (by omega) (hv.no h9) k3
  refine ⟨⟨by omega,by omega⟩,?_⟩
  rw [ea]
  refine ⟨is[k].hd.a,is[k].hd.b,is[k].hd.c,is[k].hd.d,is[k].hd.e,is[k].hd.f,is[k].hd.g,is[k].s,hr,dX (by kernel_rfl) ?_⟩
  refine aB (qIB (x:=x) (y:=is[k]) (hx.mod h9 λ_ _ h=>h) ((hI k k3 hlt).mod h9 λ_ _ h=>h) (hc.no h9)) ?_
  rintro u w2 ⟨rfl,k4⟩
  refine ⟨_,rfl,aC (λh=>⟨k,rfl,⟨λ_=>?_,λ_=>by omega⟩,h9.tr k4⟩) λh=>?_⟩
  ·exact List.any_eq_true.2 ⟨rs[k],List.getElem_mem _,h⟩
  ·rw [wrap_i64 (e:=(k:Int)+1) (by omega)]
   refine ⟨⟨k+1,by omega,by omega,λi hi k6=>?_,h9.tr k4⟩,by (try simp only []); omega⟩
   rcases Nat.lt_or_ge i k with h2 | h2
   ·exact hall i hi h2
   ·have:i=k:=by omega
    subst this; exact h
 ·have hkk:k=rs.length:=by have:=of_decide_eq_false hge; omega
  subst hkk
  refine ⟨-1,rfl,⟨λh=>by omega,λh=>?_⟩,h9⟩
  obtain ⟨s,hs,hp⟩:=List.any_eq_true.1 h
  obtain ⟨i,hi,rfl⟩:=List.getElem_of_mem hs
  rw [hall i hi hi] at hp; cases hp
end
section
variable {w:World}
theorem qBK {v:Slc} {is:List It} {rs:List Rc} {x:It} {r:Rc} {c:Nat} {T:TypeId} (hv:aK w v 8 (dI is)) (hl:is.length=rs.length) (hI : ∀ i (h:i<is.length) (h':i<rs.length),jA w is[i] rs[i]) (hx:jA w x r) (hc:Blk w c x.cells T) (hn:rs.length<=1000000) :
 Calls prog 271 #[.slice v.a v.len v.cap,.func (.func 272) #[] #[.pointer (some ⟨c,0,none⟩)]] w (Ret λu w'=>u = .bool (rs.any λs=>!decide (r.cl=s.cl/\r.sq=s.sq)&&s.over r)/\Mod NoB w w'):=by
 refine qNZ _ _ ?_
 unfold qYM
 refine aB (qSA hv hl hI hx hc hn) ?_
 rintro u w1 ⟨k,rfl,hk,hm⟩
 refine ⟨k,rfl,congrArg Value.bool ?_,hm⟩
 apply Bool.eq_iff_iff.2
 rw [<-hk]; simp
theorem qQY {rb:Nat} {T:TypeId} {v:Slc} {is:List It} {rs:List Rc} {x:It} {r:Rc} (hb:Blk w rb [v.val] T) (hv:aK w v 8 (dI is)) (hl:is.length=rs.length) (hI : ∀ i (h:i<is.length) (h':i<rs.length),jA w is[i] rs[i]) (hx:jA w x r) (hn:rs.length<=1000000) :
 Calls prog 209 #[.pointer (some (Addr.add ⟨rb,0,none⟩ 0)),x.val] w (Ret λu w'=>u = .bool (rs.any λs=>!decide (r.cl=s.cl/\r.sq=s.sq)&&s.over r)/\Mod NoB w w'):=by
 refine qQA _ x.hd.a x.hd.b x.hd.c x.hd.d x.hd.e x.hd.f x.hd.g x.s ?_
 unfold qXY
 refine aQ (l:=x.cells) rfl λp w1 hN hb1=>⟨_,rfl,v,by rw [aO,aO]; exact (hb.no hN.mod).rd1 rfl,?_⟩
 refine aB (qBK (x:=x) (hv.no hN.mod) hl (λi a b=>(hI i a b).mod hN.mod λ_ _ h=>h) (hx.mod hN.mod λ_ _ h=>h) hb1 hn) ?_
 rintro u w2 ⟨rfl,h9⟩
 exact ⟨_,rfl,rfl,hN.mod.tr h9⟩
theorem qJ {l vs:List Value} {o i n k:Nat} (hi:i<n) (hk:vs.length=k) (hl:o+n*k<=l.length):((putAt l (o+i*k) vs).drop o).take (n*k)=putAt ((l.drop o).take (n*k)) (i*k) vs:=by
 have h1:i*k+k<=n*k:=by have:=Nat.mul_le_mul_right k hi; rw [Nat.succ_mul] at this; exact this
 apply List.ext_getElem?
 intro j
 simp only [putAt,List.getElem?_take,List.getElem?_drop]
 have hlen:((l.drop o).take (n*k)).length=n*k:=by simp; omega
 by_cases hj:j<n*k
 ·rw [if_pos hj]
  by_cases a:j<i*k
  ·rw [List.append_assoc,List.getElem?_append_left (by rw [List.length_take]; omega),List.getElem?_take,if_pos (by omega),List.append_assoc,List.getElem?_append_left (by rw [List.length_take,hlen]; omega),List.getElem?_take,if_pos a,List.getElem?_take,if_pos hj,List.getElem?_drop]
  ·by_cases b:j<i*k+k
   ·rw [List.append_assoc,List.getElem?_append_right (by rw [List.length_take]; omega),List.length_take,List.getElem?_append_left (by omega),List.append_assoc,List.getElem?_append_right (by rw [List.length_take,hlen]; omega),List.length_take,hlen,List.getElem?_append_left (by omega)]
    congr 1; omega
   ·rw [List.getElem?_append_right (by rw [List.length_append,List.length_take]; omega),List.getElem?_append_right (by rw [List.length_append,List.length_take,hlen]; omega),List.length_append,List.length_append,List.length_take,List.length_take,hlen,List.getElem?_drop,List.getElem?_drop,List.getElem?_take,if_pos (by omega),List.getElem?_drop]
    congr 1; omega
 ·rw [if_neg hj]
  refine (List.getElem?_eq_none ?_).symm
  have:(putAt ((l.drop o).take (n*k)) (i*k) vs).length=n*k:=by rw [cZ (by omega),hlen]
  simp only [putAt] at this
  omega
theorem lV {T:TypeId} {s:Slc} {k:Nat} {vs us:List Value} {a:Addr} {i:Nat} {v:Value} {K:zP} (hi:(prog.info? T).isSome=true) (hsz:bE prog T=k) (hv:v.cells=us.toArray) (hk:us.length=k) (h1 : ∀ u∈us,u.oneCell'=true)
 (ho:Sh.Own w s k vs) (ha:s.a=some a) (hil:i<s.len)
 (hK : ∀ w',Sh.Own w' s k (putAt vs (i*k) us)->Mod (λx=>s.blk=some x) w w'->w'.heap.size=w.heap.size->K w'):aJ prog (storeVar T (a.add (i*k)) v) w K:=by
 rcases ho.owned with ⟨h0,k3,_⟩ | ⟨k4,b,o,l,E,e1,e2,e3,e4⟩
 ·omega
 ·rw [ha] at e1; cases e1
  have hc:=ho.2.1
  have h9:=ho.1
  rw [aO]
  have hik:i*k+k<=s.len*k:=by have:=Nat.mul_le_mul_right k hil; rw [Nat.succ_mul] at this; exact this
  have k5:s.len*k<=s.cap*k:=Nat.mul_le_mul_right k hc
  refine bU (vs:=us) hi (by rw [hk]; exact hsz) hv e2 (by omega) h1 λw' ht hb=>hK w' ?_ (ht.mod.mono λx _ hx=>?_) ht.size
  ·refine ⟨by rw [cZ (by omega)]; exact h9,hc,.inr ⟨b,o,_,E,ha,hb,by rw [cZ (by omega)]; exact e3,?_⟩⟩
   rw [qJ hil hk (by omega),e4]
  ·have hx:x=b:=hx
   subst hx
   unfold Slc.blk
   rw [if_neg (by omega),ha]; rfl
theorem pI {α:Type} {f:α->List Value} {k:Nat} (hk : ∀ x,(f x).length=k) {l:List α} {i:Nat} {y:α} (hi:i<l.length):putAt (aR f l) (i*k) (f y)=aR f (l.set i y):=by
 have e:l.set i y=l.take i++y :: l.drop (i+1):=by rw [List.set_eq_take_append_cons_drop,if_pos hi]
 have e2:l=l.take i++l[i] :: l.drop (i+1):=by rw [<-List.drop_eq_getElem_cons hi,List.take_append_drop]
 have h9:(aR f (l.take i)).length=i*k:=by rw [cJ hk,List.length_take,Nat.min_eq_left (by omega)]
 rw [e]
 conv=>lhs; rw [e2]
 rw [bP,bP]
 have c1 : ∀ z m,aR f (z :: m)=f z++aR f m:=λz m=>by simp [aR]
 rw [c1,c1]
 simp only [putAt]
 rw [List.take_append_of_le_length (by omega),List.take_of_length_le (by omega),hk,List.append_assoc]
 congr 1
 congr 1
 rw [List.drop_append,h9,List.drop_eq_nil_of_le (by omega),List.nil_append,show i*k+k - i*k=k by omega,List.drop_append,hk,List.drop_eq_nil_of_le (by rw [hk]; exact Nat.le_refl _),List.nil_append,Nat.sub_self,List.drop_zero]
end
section
variable {α:Type}
def jM (e:α->α->Bool):α->List α->List α
 | _,[]=>[]
 | p,b :: l=>(if e b p then [] else [b])++jM e b l
def cpt (e:α->α->Bool):List α->List α
 | []=>[]
 | a :: l=>a :: jM e a l
theorem uT (e:α->α->Bool) : ∀ (l:List α) (p x:α),jM e p (l++[x])=jM e p l++(if e x ((p :: l).getLast (by simp)) then [] else [x])
 | [],p,x=>by
   show (if e x p then [] else [x])++[]=[]++(if e x p then [] else [x])
   rw [List.append_nil,List.nil_append]
 | b :: l,p,x=>by
   have ih:=uT e l b x
   simp only [List.cons_append,jM,ih,List.append_assoc]
   rw [List.getLast_cons (a:=p) (List.cons_ne_nil b l)]
theorem rA (e:α->α->Bool) {l:List α} {n:Nat} (h:n+1<l.length):cpt e (l.take (n+2))=cpt e (l.take (n+1))++(if e l[n+1] l[n] then [] else [l[n+1]]):=by
 obtain ⟨a,m,rfl⟩ : ∃ a m,l=a :: m:=by
  match l,h with
  | a :: m,_=>exact ⟨a,m,rfl⟩
 have hm:n<m.length:=by simpa using h
 simp only [List.take_succ_cons,cpt]
 rw [aL hm,uT]
 have hl:(a :: m.take n).getLast (by simp)=(a :: m)[n]'(by simp; omega):=by
  rw [List.getLast_eq_getElem]
  cases n with
  | zero=>simp
  | succ n=>simp [List.getElem_take,Nat.min_eq_left (show n+1<=m.length by omega)]
 rw [hl,List.cons_append]
 rfl
theorem qOB (e:α->α->Bool) {l:List α} (h:0<l.length):cpt e (l.take 1)=l.take 1:=by
 match l,h with
 | a :: m,_=>simp [cpt,jM]
theorem xR (e:α->α->Bool) {l:List α} {k:Nat} (hk:1<=k) (hl:k<=l.length) (h : ∀ i (hi:i<k),0<i->e (l[i]'(by omega)) (l[i - 1]'(by omega))=false):cpt e (l.take k)=l.take k:=by
 induction k with
 | zero=>omega
 | succ k ih=>
   rcases Nat.eq_zero_or_pos k with h0 | h0
   ·subst h0; exact qOB e (by omega)
   ·obtain ⟨m,rfl⟩ : ∃ m,k=m+1:=⟨k - 1,by omega⟩
    rw [rA e (by omega),ih (by omega) (by omega) λi hi h1=>h i (by omega) h1]
    have:=h (m+1) (by omega) (by omega)
    simp only [Nat.add_sub_cancel] at this
    rw [this,aL (show m+1<l.length by omega)]
    rfl
end
theorem kC {α:Type} {f:α->List Value} {k n:Nat} (hk : ∀ x,(f x).length=k) {l:List α} (hn:n<=l.length):(aR f l).take (n*k)=aR f (l.take n):=by
 have e:aR f l=aR f (l.take n)++aR f (l.drop n):=by rw [<-bP,List.take_append_drop]
 have hl:(aR f (l.take n)).length=n*k:=by rw [cJ hk,List.length_take,Nat.min_eq_left hn]
 rw [e,List.take_append_of_le_length (by omega),List.take_of_length_le (by omega)]
theorem vG {s:Slc} {k n:Nat} (h:s.len<=s.cap) (hn:n<=s.cap):aF s k 0 n s.cap=⟨s.a,n,s.cap⟩:=by
 unfold aF
 split
 ·simp
 ·congr 1
  cases s.a with
  | none=>rfl
  | some a=>simp [Addr.add]
def eqI (i j:It):Bool:=qET i.hd j.hd==0
section
variable {w:World}
theorem uP {v:Slc} {is:List It} (hv:Sh.Own w v 8 (dI is)) (hn:is.length<=1000000) :
 Calls prog 207 #[.slice v.a v.len v.cap,.func (.func 208) #[] #[]] w (Ret λu w'=>∃ m,u = .slice v.a m v.cap/\Sh.Own w' ⟨v.a,m,v.cap⟩ 8 (dI (cpt eqI is))/\Mod (λz=>v.blk=some z) w w'):=by
 refine qOT _ _ ?_
 unfold qXH
 obtain ⟨ii,u5,u6,y5,y7⟩:=qDZ
 have y8:=bA It.len (by omega) hv.rd
 have u1:=hv.2.1
 refine aC (λh=>?_) λh=>?_
 ·have h:is.length<2:=by have:=of_decide_eq_true h; omega
  refine ⟨v.len,rfl,?_,Mod.refl _ _⟩
  have:cpt eqI is=is:=by
   match is,h with
   | [],_=>rfl
   | [a],_=>simp [cpt,jM]
  rw [this]; exact hv
 have h2:2<=is.length:=by have:=of_decide_eq_false h; omega
 refine ⟨λl' w'=>match l' with | [.i _ x]=>∃ k:Nat,x=(k:Int)/\1<=k/\k<=is.length/\(∀ i (hi:i<is.length),i<k->0<i->eqI is[i] (is[i - 1]'(by omega))=false)/\Mod NoB w w' | _=>False,λl' _=>match l' with | [.i _ x]=>(is.length - x).toNat | _=>0,⟨1,rfl,by omega,by omega,λi hi h1 h0=>by omega,Mod.refl _ _⟩,?_⟩
 rintro x w1 ⟨k,rfl,hk1,hk,hall,p8⟩
 refine aC (λhlt=>?_) λhge=>?_
 ·have hlt:k<is.length:=by have:=of_decide_eq_true hlt; omega
  have e1:zW ((k:Int) - 1)=((k - 1:Nat):Int):=by rw [wrap_i64 (by omega)]; omega
  rw [e1]
  obtain ⟨A,ea,hr⟩:=aZ It.len (by omega) (hv.no p8).rd hlt
  obtain ⟨A',ea',u7⟩:=aZ It.len (by omega) (hv.no p8).rd (i:=k - 1) (by omega)
  rw [ea] at ea'; cases ea'
  refine ⟨Mod NoB w1.drew,Mod.refl _ _,⟨by omega,by omega⟩,?_⟩
  rw [ea]
  have md : ∀ {w'},Mod NoB w1.drew w'->Mod NoB w1 w':=λhm=>(Mod.drew _ _).tr hm
  refine ⟨⟨by omega,by omega⟩,is[k].hd.a,is[k].hd.b,is[k].hd.c,is[k].hd.d,is[k].hd.e,is[k].hd.f,is[k].hd.g,is[k].s,λw' hm=>hr.mod (md hm) λh=>h,is[k - 1].hd.a,is[k - 1].hd.b,is[k - 1].hd.c,is[k - 1].hd.d,is[k - 1].hd.e,is[k - 1].hd.f,is[k - 1].hd.g,is[k - 1].s,λw' hm=>u7.mod (md hm) λh=>h,dX (by kernel_rfl) ?_,trivial⟩
  refine aB (qVS (i:=is[k]) (j:=is[k - 1])) ?_
  rintro u w2 ⟨rfl,u9⟩
  have hM2:Mod NoB w w2:=(p8.tr (Mod.drew _ _)).tr u9
  refine ⟨_,rfl,aC (λheq=>?_) λhne=>?_⟩
  ·refine ⟨⟨by omega,by omega⟩,?_⟩
   have ecut:((k:Nat):Int).toNat=k:=by omega
   simp only [ecut]
   have hcap:v.cap≠k:=by omega
   have v1:aF v 8 k v.len v.cap=⟨some (A.add (k*8)),v.len - k,v.cap - k⟩:=by unfold aF; rw [if_neg hcap,ea]; rfl
   rw [v1]
   have p9:eqI is[k] (is[k - 1]'(by omega))=true:=heq
   refine ⟨λl' w'=>match l' with | [.i _ a,.i _ b]=>∃ (k1 k2:Nat) (cur:List It),a=(k1:Int)/\b=(k2:Int)/\1<=k2/\k+k2<=is.length/\k1<=k+k2 - 1/\cur.length=is.length/\Sh.Own w' v 8 (dI cur)/\cur.take k1=cpt eqI (is.take (k+k2))/\cur.drop (k+k2 - 1)=is.drop (k+k2 - 1)/\Mod (λz=>v.blk=some z) w w' | _=>False,λl' _=>match l' with | [.i _ a,.i _ b]=>(is.length - k - b).toNat | _=>0,⟨k,1,is,rfl,rfl,by omega,by omega,by omega,rfl,hv.no hM2,?_,rfl,hM2.mono λ_ _ h=>h.elim⟩,?_⟩
   ·obtain ⟨m,rfl⟩ : ∃ m,k=m+1:=⟨k - 1,by omega⟩
    rw [rA eqI (show m+1<is.length by omega),xR eqI (by omega) (by omega) λi hi h0=>hall i (by omega) hi h0]
    simp only [Nat.add_sub_cancel] at p9
    rw [if_pos p9,List.append_nil]
   rintro a b w3 ⟨k1,k2,cur,rfl,rfl,hk2,hkn,v6,hcl,k3,htk,hdr,q9⟩
   have hcurat : ∀ j (hj:j<is.length),k+k2 - 1<=j->cur[j]'(by omega)=is[j]:=λj hj hge=>by
    have:=congrArg (λl=>l[j - (k+k2 - 1)]?) hdr
    simp only [List.getElem?_drop] at this
    rw [show k+k2 - 1+(j - (k+k2 - 1))=j by omega,List.getElem?_eq_getElem (by omega),List.getElem?_eq_getElem hj] at this
    exact Option.some.inj this
   refine aC (λk4=>?_) λt6=>?_
   ·have k4:k+k2<is.length:=by have:=of_decide_eq_true k4; simp only [] at this; omega
    have e2:zW ((k2:Int) - 1)=((k2 - 1:Nat):Int):=by rw [wrap_i64 (by omega)]; omega
    have e3:zW ((k2:Int)+1)=((k2+1:Nat):Int):=by rw [wrap_i64 (by omega)]; omega
    have e4:zW ((k1:Int)+1)=((k1+1:Nat):Int):=by rw [wrap_i64 (by omega)]; omega
    simp only [e2,e3,e4,Int.toNat_natCast]
    have rdc : ∀ {w'} (hm:Mod NoB w3 w') (j:Nat) (hj:k+j<cur.length),Rd w' ((A.add (k*8)).add (j*8)) (cur[k+j]'hj).cells:=λhm j hj=>by
     obtain ⟨A2,u2,hr2⟩:=aZ It.len (by omega) (k3.no hm).rd hj
     rw [ea] at u2; cases u2
     rw [Addr.add_add',<-Nat.add_mul]; exact hr2
    have t7 : ∀ {w'},Mod NoB w3.drew w'->Mod NoB w3 w':=λhm=>(Mod.drew _ _).tr hm
    have c1:=hcurat (k+k2) k4 (by omega)
    have c0:=hcurat (k+k2 - 1) (by omega) (by omega)
    have r1 : ∀ {w'},Mod NoB w3 w'->Rd w' ((A.add (k*8)).add (k2*8)) is[k+k2].cells:=λhm=>by have:=rdc hm k2 (by omega); rwa [c1] at this
    have r0 : ∀ {w'},Mod NoB w3 w'->Rd w' ((A.add (k*8)).add ((k2 - 1)*8)) (is[k+k2 - 1]'(by omega)).cells:=λhm=>by
     have h:=rdc hm (k2 - 1) (by omega)
     have e:k+(k2 - 1)=k+k2 - 1:=by omega
     simp only [e] at h
     rwa [c0] at h
    refine ⟨Mod NoB w3.drew,Mod.refl _ _,⟨by omega,by show (k2:Int)<((v.len - k:Nat):Int); omega⟩,⟨by omega,by show ((k2 - 1:Nat):Int)<((v.len - k:Nat):Int); omega⟩,is[k+k2].hd.a,is[k+k2].hd.b,is[k+k2].hd.c,is[k+k2].hd.d,is[k+k2].hd.e,is[k+k2].hd.f,is[k+k2].hd.g,is[k+k2].s,λw' hm=>r1 (t7 hm),is[k+k2 - 1].hd.a,is[k+k2 - 1].hd.b,is[k+k2 - 1].hd.c,is[k+k2 - 1].hd.d,is[k+k2 - 1].hd.e,is[k+k2 - 1].hd.f,is[k+k2 - 1].hd.g,is[k+k2 - 1].s,λw' hm=>r0 (t7 hm),dX (by kernel_rfl) ?_,trivial⟩
    refine aB (qVS (i:=is[k+k2]) (j:=is[k+k2 - 1])) ?_
    rintro u w4 ⟨rfl,v7⟩
    have h9:=t7 v7
    have u0:=rA eqI (l:=is) (n:=k+k2 - 1) (by omega)
    simp only [show k+k2 - 1+2=k+(k2+1) by omega,show k+k2 - 1+1=k+k2 by omega] at u0
    have q8:cur.drop (k+(k2+1) - 1)=is.drop (k+(k2+1) - 1):=by
     have:=congrArg (List.drop 1) hdr
     rw [List.drop_drop,List.drop_drop] at this
     rwa [show k+k2 - 1+1=k+(k2+1) - 1 by omega] at this
    refine ⟨_,rfl,aC (λk5=>?_) λk6=>?_⟩
    ·have k5:eqI is[k+k2] (is[k+k2 - 1]'(by omega))=false:=by simpa [eqI] using k5
     refine ⟨⟨by omega,by show (k2:Int)<((v.len - k:Nat):Int); omega⟩,is[k+k2].hd.a,is[k+k2].hd.b,is[k+k2].hd.c,is[k+k2].hd.d,is[k+k2].hd.e,is[k+k2].hd.f,is[k+k2].hd.g,is[k+k2].s,r1 h9,⟨by omega,by omega⟩,?_⟩
     refine lV (us:=is[k+k2].cells) (by kernel_rfl) (by kernel_rfl) rfl (It.len _) (It.one _) (k3.no h9) ea (i:=k1) (by omega) λw5 u3 v8 hs5=>?_
     rw [dI,pI It.len (by omega)] at u3
     refine ⟨⟨k1+1,k2+1,cur.set k1 is[k+k2],by omega,by omega,by omega,by omega,by omega,by simp [hcl],u3,?_,?_,(q9.no' h9).tr v8⟩,by (try simp only []); omega⟩
     ·rw [u0,if_neg (by rw [k5]; simp),<-htk,List.take_set,aL (show k1<cur.length by omega)]
      rw [List.set_append_right _ _ (by rw [List.length_take]; omega)]
      rw [List.length_take,Nat.min_eq_left (by omega),Nat.sub_self]; rfl
     ·rw [List.drop_set,if_pos (by omega)]; exact q8
    ·have k6:eqI is[k+k2] (is[k+k2 - 1]'(by omega))=true:=by simpa [eqI] using k6
     exact ⟨⟨k1,k2+1,cur,rfl,by omega,by omega,by omega,by omega,hcl,k3.no h9,by rw [u0,if_pos k6,List.append_nil]; exact htk,q8,q9.no' h9⟩,by (try simp only []); omega⟩
   ·have hfin:k+k2=is.length:=by have:=of_decide_eq_false t6; simp only [] at this; omega
    have hk1v:k1<=v.len:=by omega
    have y0:((k1:Nat):Int).toNat=k1:=by omega
    simp only [y0]
    refine ⟨⟨by omega,by omega⟩,?_⟩
    have u4:Sh.Own w3 ⟨v.a,k1,v.cap⟩ 8 (dI (cur.take k1)):=by
     have:=k3.take hk1v
     have e:(dI cur).take (k1*8)=dI (cur.take k1):=kC It.len (by omega)
     rwa [e] at this
    rw [htk,hfin,List.take_length,ea] at u4
    have ec:aF v 8 k1 v.len v.cap=aF ⟨some A,k1,v.cap⟩ 8 k1 v.len v.cap:=by unfold aF; simp only [ea]
    rw [ec]
    refine rY (s:=⟨some A,k1,v.cap⟩) (n:=v.len) rV u5 u6 (k:=8) rfl (λu hu=>It.one ⟨⟨[],0,0,⟨none,0,0⟩,false,⟨none,0,0⟩,⟨none,0,0⟩⟩,⟨none,0,0⟩⟩ u (List.mem_toArray.1 hu)) u4 hk1v u1 λw6 y1 y2 hs6=>⟨rfl,⟨by omega,by omega⟩,?_⟩
    rw [vG u1 (by omega),ea]
    exact ⟨k1,rfl,y1,q9.tr (y2.mono λz _ hz=>by unfold Slc.blk at *; rw [ea]; exact hz)⟩
  ·rw [wrap_i64 (e:=(k:Int)+1) (by omega)]
   refine ⟨⟨k+1,by omega,by omega,by omega,λi hi h1 h0=>?_,hM2⟩,by (try simp only []); omega⟩
   rcases Nat.lt_or_ge i k with h3 | h3
   ·exact hall i hi h3 h0
   ·have:i=k:=by omega
    subst this; exact hne
 ·have hkk:k=is.length:=by have:=of_decide_eq_false hge; omega
  subst hkk
  refine ⟨v.len,rfl,?_,p8.mono λ_ _ h=>h.elim⟩
  have:=xR eqI (l:=is) (k:=is.length) (by omega) (Nat.le_refl _) λi hi h0=>hall i hi hi h0
  rw [List.take_length] at this
  rw [this]; exact hv.no p8
end
end Go.Proofs.YthaefcgpbccmbaaGreatDoor
end
