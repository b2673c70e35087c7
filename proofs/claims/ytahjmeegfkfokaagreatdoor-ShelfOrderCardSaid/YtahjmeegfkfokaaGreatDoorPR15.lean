/- The forms of the translated functions,their contracts and the plain laws behind them,put together by a program. -/
import Derived.Test.YtahjmeegfkfokaaGreatDoorPR14
import Derived.Lib.BytesEntry
set_option linter.unusedSimpArgs false
set_option linter.unusedVariables false
set_option maxRecDepth 100000
set_option maxHeartbeats 4000000
section
namespace Go.Proofs.YtahjmeegfkfokaaGreatDoor
open Go Go.Sh
open Go.Proofs.Tryz
def lX (w w':World):Prop:=Mod NoB w w'∧w.drawn≤w'.drawn
theorem lX.tr {a b c:World} (h:lX a b) (h':lX b c):lX a c:=⟨h.1.tr h'.1,Nat.le_trans h.2 h'.2⟩
theorem lX.drew (w:World):lX w w.drew:=⟨Mod.drew _ _,Nat.le_succ _⟩
section
variable {P:Program} {w:World} {K:Value→World→Prop}
theorem fE {T:TypeId} {v:Value} {l:List Value} (hv:v.cells=l.toArray) (hk : ∀ b w',lX w w'→Blk w' b l T→w.heap.size≤b→K (.pointer (some ⟨b,0,none⟩)) w'):aI P (Instr.box T v) w K:=
 ⟨_,_,by simp [Instr.box,newVar,newRow,hv],hk w.heap.size (w.alloc (.cells l.toArray T)) ⟨dD _ _,Nat.le_refl _⟩ (Blk.mk (fB w _).get) (Nat.le_refl _)⟩
end
def orI (a b:Int):Int:=if a≠0 then a else b
section
variable {w:World}
theorem zV {s:Slc} {a b:Int} (hs:aL w s 1 (ints [a,b])):Calls prog 105 #[.slice s.a s.len s.cap] w (Ret fun v w'=>v = .int .i64 (orI a b)∧w'=w):=by
 refine qOF _ ?_
 unfold qQY
 have hl:=qMW hs
 simp only [List.length_cons,List.length_nil] at hl
 refine ⟨fun l' w'=>match l' with | [.i _ x]=>∃ k:Nat,x=(k:Int)∧k≤2∧(0<k→a=0)∧(1<k→b=0)∧w'=w | _=>False,fun l' _=>match l' with | [.i _ x]=>(2 - x).toNat | _=>0,⟨0,rfl,by omega,by omega,by omega,rfl⟩,?_⟩
 rintro x w1 ⟨k,rfl,hk,h1,h2,rfl⟩
 refine aD (fun hlt=>?_) fun hge=>?_
 ·have hlt:k<2:=by have:=of_decide_eq_true hlt; omega
  obtain ⟨A,ea,hr⟩:=qYS hs (i:=k) (by simpa using hlt)
  refine ⟨⟨by omega,by omega⟩,?_⟩
  rw [ea,wrap_i64 (e:=(k:Int)+1) (by omega)]
  refine ⟨_,hr,aD (fun h=>⟨congrArg _ ?_,rfl⟩) fun h=>⟨⟨k+1,by omega,by omega,?_,?_,rfl⟩,by (try simp only []); omega⟩⟩
  ·have:k=0∨k=1:=by omega
   rcases this with rfl | rfl
   ·simp at h; simp [orI,h]
   ·have:=h1 (by omega); simp [orI,this]
  ·intro _
   have:k=0∨k=1:=by omega
   rcases this with rfl | rfl
   ·simpa using h
   ·exact h1 (by omega)
  ·intro hk1
   have:k=1:=by omega
   subst this
   simpa using h
 ·have hk2:k=2:=by have:=of_decide_eq_false hge; omega
  subst hk2
  exact ⟨congrArg _ (by rw [orI,if_neg (by simp [h1 (by omega)]),h2 (by omega)]),rfl⟩
theorem zW {a b:Int} {K:Value→World→Prop} (hk : ∀ (x:Slc) w',lX w w'→aL w' x 1 (ints [a,b])→K x.val w'):aI prog (Instr.buildSlice 37 2 #[(0,.int .i64 a),(1,.int .i64 b)]) w K:=by
 obtain ⟨ii,hi1,hi2,hi3,hi4⟩:=iI
 have hf:Instr.fill (fun i=>some (i*ii.size,ii.size)) ((Array.range (2*ii.size)).map ((Value.int .i64 0).cells[· % (Value.int .i64 0).cells.size]!)) [(0,.int .i64 a),(1,.int .i64 b)]=some (ints [a,b]).toArray:=by
  rw [hi3]
  exact Great.fill_whole (s:=1) (by omega) [.int .i64 a,.int .i64 b] _ (by intro v hv; simp at hv; rcases hv with rfl | rfl <;> rfl) (by simp)
 have h1 : ¬ 2*ii.size > 2 ^ 24:=by rw [hi3]; omega
 have h2 : ¬ 2*ii.size=0:=by rw [hi3]; omega
 refine ⟨.slice (some ⟨w.heap.size,0,none⟩) 2 2,w.alloc (.cells (ints [a,b]).toArray 3),by simp [Instr.buildSlice,run_underlying qHG,sizeOf,typeInfo,zeroValue,hi1,hi2,h1,h2,hf,newRow],?_⟩
 refine hk ⟨some ⟨w.heap.size,0,none⟩,2,2⟩ _ ⟨dD _ _,Nat.le_refl _⟩ ?_
 exact (aY (n:=2) (k:=1) (T:=3) (Blk.mk (fB w _).get) (by simp [ints])).rd
def xC (i j:Hd):Int:=orI (lW i.b j.b) (lW i.c j.c)
def It.val (i:It):Value:=.agg i.cells.toArray
theorem rC {p:Nat} {i:It} {T:TypeId} (hb:Blk w p i.cells T):Rd w ⟨p,0,none⟩ i.cells:=hb.rd fun j v hj=>by simpa using hj
theorem uV {i j:It} : Calls prog 106 #[i.val,j.val] w (Ret fun v w'=>v = .int .i64 (xC i.hd j.hd)∧lX w w'):=by
 refine qOB i.hd.a i.hd.b i.hd.c i.hd.d i.hd.e i.hd.f i.hd.g i.s j.hd.a j.hd.b j.hd.c j.hd.d j.hd.e j.hd.f j.hd.g j.s ?_
 unfold qSK
 refine fE (l:=i.cells) rfl fun p w1 hm1 hb1 hp=>⟨_,rfl,?_⟩
 refine fE (l:=j.cells) rfl fun q w2 hm2 hb2 hq=>⟨_,rfl,?_⟩
 have hmd:lX w w2.drew:=(hm1.tr hm2).tr (lX.drew _)
 have h1:=(hb1.no hm2.1).drew
 have h2:=hb2.drew
 refine ⟨Mod NoB w2.drew,Mod.refl _ _,i.hd.b,fun w' hm=>by rw [aK,aK]; exact (h1.no hm).rd1 rfl,j.hd.b,fun w' hm=>by rw [aK,aK]; exact (h2.no hm).rd1 rfl,i.hd.c,fun w' hm=>by rw [aK,aK]; exact (h1.no hm).rd1 rfl,j.hd.c,fun w' hm=>by rw [aK,aK]; exact (h2.no hm).rd1 rfl,?_,trivial⟩
 refine aC rN ?_
 rintro v w3 ⟨rfl,rfl⟩
 refine ⟨_,rfl,Mod.refl _ _,?_,trivial⟩
 refine aC rN ?_
 rintro v w3 ⟨rfl,rfl⟩
 refine ⟨_,rfl,Mod.refl _ _,?_,trivial⟩
 refine zW fun x w4 hm4 hx=>⟨x,rfl,hm4.1,?_,trivial⟩
 refine aC (zV hx) ?_
 rintro v w5 ⟨rfl,rfl⟩
 exact ⟨_,rfl,hm4.1,rfl,hmd.tr hm4⟩
theorem nT {s:Slc} {l:List UInt8} (h:aL w s 1 (bys l)):(Extern.Bytes.bytesOf (.slice s.a s.len s.cap)).run prog w = .ok ⟨l.toArray⟩ w:=by
 have hl:=aW h
 cases ha:s.a with
 | none=>
   have:l=[]:=by
    rcases h.2.2 with h0 | ⟨b,e1,_⟩
    ·exact pK (b:=[]) h0
    ·rw [ha] at e1; cases e1
   subst this; rfl
 | some a=>
   have hrd:Rd w a (bys l):=by
    rcases h.2.2 with h0 | ⟨b,e1,e2⟩
    ·rw [h0]; intro j v hj; simp at hj
    ·rw [ha] at e1; cases e1; exact e2
   have hx:=Lib.run_loadBytesX (P:=prog) w (l.map fun u=>(u.toNat:Int)) a ByteArray.empty (fun j x hj=>by
    simp only [List.getElem?_map,Option.map_eq_some_iff] at hj
    obtain ⟨u,hu,rfl⟩:=hj
    exact hrd j _ (by simp [bys,hu]))
   simp only [List.length_map] at hx
   rw [hl] at hx
   show (Extern.Bytes.loadBytes a s.len ByteArray.empty).run prog w=_
   have eb:Lib.bytesOf (l.map fun u=>(u.toNat:Int))=l:=by
    unfold Lib.bytesOf
    rw [List.map_map]
    conv=>rhs; rw [← List.map_id l]
    apply List.map_congr_left
    intro u _
    simp
   rw [hx,eb]
   show Result.ok (ByteArray.mk (#[]++l.toArray)) w=_
   simp
theorem qWT {a b:Slc} {l m:List UInt8} (ha:aL w a 1 (bys l)) (hb:aL w b 1 (bys m)):Calls prog 107 #[.slice a.a a.len a.cap,.slice b.a b.len b.cap] w (Ret fun v w'=>v = .int .i64 (Lib.compareBytes l m)∧w'=w):=by
 refine qMO _ _ ?_
 unfold qQU
 refine ⟨.int .i64 (Lib.compareBytes l m),w,?_,_,rfl,rfl,rfl⟩
 rw [run_callFunc_extern func150 (by kernel_rfl) (by kernel_rfl) (by kernel_rfl) (e:=Extern.BytealgCompare.compare) (by kernel_rfl)]
 have e:(Extern.BytealgCompare.compare #[.slice a.a a.len a.cap,.slice b.a b.len b.cap]).run prog w = .ok (.int .i64 (Lib.compareBytes l m)) w:=by
  show (do pure (goInt (Extern.BytealgCompare.cmp (← Extern.Bytes.bytesOf (.slice a.a a.len a.cap)) (← Extern.Bytes.bytesOf (.slice b.a b.len b.cap)))):Sem Value).run prog w=_
  simp only [Sem.run_bind,nT ha,Result.andThen_ok,nT hb,Sem.run_pure,Lib.cmp_eq]
  rfl
 rw [e]; rfl
def wM (r s:Rc):Int:=orI (lW r.cl s.cl) (lW r.sq s.sq)
def qGS (r s:Rc):Int:=orI (wM r s) (Lib.compareBytes r.enc s.enc)
theorem tJ {i j:Hd} {r s:Rc} (h:dH w i r) (h':dH w j s):xC i j=wM r s:=by rw [xC,wM,h.cl,h'.cl,h.sq,h'.sq]
theorem qFM {i j:It} {r s:Rc} (hi:iD w i r) (hj:iD w j s):Calls prog 104 #[i.val,j.val] w (Ret fun v w'=>v = .int .i64 (qGS r s)∧lX w w'):=by
 refine qOZ i.hd.a i.hd.b i.hd.c i.hd.d i.hd.e i.hd.f i.hd.g i.s j.hd.a j.hd.b j.hd.c j.hd.d j.hd.e j.hd.f j.hd.g j.s ?_
 unfold qSC
 refine fE (l:=i.cells) rfl fun p w1 hm1 hb1 hp=>⟨_,rfl,?_⟩
 refine fE (l:=j.cells) rfl fun q w2 hm2 hb2 hq=>⟨_,rfl,?_⟩
 have hmd:lX w w2.drew:=(hm1.tr hm2).tr (lX.drew _)
 have h1:=(hb1.no hm2.1).drew
 have h2:=hb2.drew
 refine ⟨Mod NoB w2.drew,Mod.refl _ _,i.hd.a,i.hd.b,i.hd.c,i.hd.d,i.hd.e,i.hd.f,i.hd.g,i.s,fun w' hm=>rC (h1.no hm),j.hd.a,j.hd.b,j.hd.c,j.hd.d,j.hd.e,j.hd.f,j.hd.g,j.s,fun w' hm=>rC (h2.no hm),i.s,fun w' hm=>by rw [aK]; exact (h1.no hm).rd1 rfl,j.s,fun w' hm=>by rw [aK]; exact (h2.no hm).rd1 rfl,?_,trivial⟩
 refine aC (uV (i:=i) (j:=j)) ?_
 rintro v w3 ⟨rfl,hm3⟩
 refine ⟨_,rfl,hm3.1,?_,trivial⟩
 have hM3:=hmd.tr hm3
 refine aC (qWT (hi.s.no hM3.1) (hj.s.no hM3.1)) ?_
 rintro v w4 ⟨rfl,rfl⟩
 refine ⟨_,rfl,hm3.1,?_,trivial⟩
 refine zW fun x w5 hm5 hx=>⟨x,rfl,hm3.1.tr hm5.1,?_,trivial⟩
 refine aC (zV hx) ?_
 rintro v w6 ⟨rfl,rfl⟩
 exact ⟨_,rfl,hm3.1.tr hm5.1,by rw [qGS,tJ hi.hd hj.hd],hM3.tr hm5⟩
theorem qQD {i j:It} : Calls prog 109 #[i.val,j.val] w (Ret fun v w'=>v = .bool (xC i.hd j.hd==0)∧Mod NoB w w'):=by
 refine qNE i.hd.a i.hd.b i.hd.c i.hd.d i.hd.e i.hd.f i.hd.g i.s j.hd.a j.hd.b j.hd.c j.hd.d j.hd.e j.hd.f j.hd.g j.s ?_
 unfold qTR
 refine fE (l:=i.cells) rfl fun p w1 hm1 hb1 hp=>⟨_,rfl,?_⟩
 refine fE (l:=j.cells) rfl fun q w2 hm2 hb2 hq=>⟨_,rfl,?_⟩
 refine ⟨i.hd.a,i.hd.b,i.hd.c,i.hd.d,i.hd.e,i.hd.f,i.hd.g,i.s,rC (hb1.no hm2.1),j.hd.a,j.hd.b,j.hd.c,j.hd.d,j.hd.e,j.hd.f,j.hd.g,j.s,rC hb2,?_⟩
 refine aC (uV (i:=i) (j:=j)) ?_
 rintro v w3 ⟨rfl,hm3⟩
 exact ⟨_,rfl,rfl,(hm1.1.tr hm2.1).tr hm3.1⟩
theorem vA {r s:Rc} : wM r s=0↔r.cl=s.cl∧r.sq=s.sq:=by
 unfold wM orI
 split
 ·next h=>constructor
          ·intro h2; exact absurd h2 h
          ·intro ⟨h2,_⟩; exact absurd (nW.2 h2) h
 ·next h=>
  have h:lW r.cl s.cl=0:=by simpa using h
  rw [nW] at h
  rw [nW]; simp [h]
theorem qFA {x y:It} {r s:Rc} {c:Nat} {T:TypeId} (hx:iD w x r) (hy:iD w y s) (hc:Blk w c x.cells T):Calls prog 152 #[y.val,.pointer (some ⟨c,0,none⟩)] w (Ret fun v w'=>v = .bool (!decide (r.cl=s.cl∧r.sq=s.sq)&&s.over r)∧Mod NoB w w'):=by
 refine qMM y.hd.a y.hd.b y.hd.c y.hd.d y.hd.e y.hd.f y.hd.g y.s _ ?_
 unfold qQH
 refine fE (l:=y.cells) rfl fun p w1 hm1 hb1 hp=>⟨_,rfl,?_⟩
 have hc1:=hc.no hm1.1
 refine ⟨x.hd.a,x.hd.b,x.hd.c,x.hd.d,x.hd.e,x.hd.f,x.hd.g,x.s,rC hc1,y.hd.a,y.hd.b,y.hd.c,y.hd.d,y.hd.e,y.hd.f,y.hd.g,y.s,rC hb1,?_⟩
 refine aC (uV (i:=x) (j:=y)) ?_
 rintro v w2 ⟨rfl,hm2⟩
 have hM2:=hm1.1.tr hm2.1
 rw [tJ hx.hd hy.hd]
 refine ⟨_,rfl,aD (fun h=>?_) fun h=>⟨congrArg Value.bool ?_,hM2⟩⟩
 ·have h : ¬ (r.cl=s.cl∧r.sq=s.sq):=fun e=>by rw [vA.2 e] at h; simp at h
  have ry:Rd w2 (Addr.add ⟨p,0,none⟩ 0) y.hd.cells:=by
   rw [aK]; exact (hb1.no hm2.1).rd fun j v hj=>by
    have hj7:j<7:=(List.getElem?_eq_some_iff.1 hj).1
    simp only [Nat.zero_add]
    rw [It.cells,List.getElem?_append_left hj7]; exact hj
  have rx:Rd w2 (Addr.add ⟨c,0,none⟩ 0) x.hd.cells:=by
   rw [aK]; exact (hc1.no hm2.1).rd fun j v hj=>by
    have hj7:j<7:=(List.getElem?_eq_some_iff.1 hj).1
    simp only [Nat.zero_add]
    rw [It.cells,List.getElem?_append_left hj7]; exact hj
  refine ⟨y.hd.a,y.hd.b,y.hd.c,y.hd.d,y.hd.e,y.hd.f,y.hd.g,ry,x.hd.a,x.hd.b,x.hd.c,x.hd.d,x.hd.e,x.hd.f,x.hd.g,rx,?_⟩
  refine aC (oL (a:=y.hd) (b:=x.hd) (hy.hd.no hM2) (hx.hd.no hM2)) ?_
  rintro v w3 ⟨rfl,hm3⟩
  exact ⟨_,rfl,by simp [h],hM2.tr hm3⟩
 ·have h:r.cl=s.cl∧r.sq=s.sq:=vA.1 (by simpa using h)
  simp [h]
theorem qOU {v:Slc} {is:List It} {rs:List Rc} {x:It} {r:Rc} {c:Nat} {T:TypeId} (hv:aL w v 8 (cX is)) (hl:is.length=rs.length) (hI : ∀ i (h:i<is.length) (h':i<rs.length),iD w is[i] rs[i]) (hx:iD w x r) (hc:Blk w c x.cells T) (hn:rs.length≤1000000) :
 Calls prog 207 #[.slice v.a v.len v.cap,.func (.func 152) #[] #[.pointer (some ⟨c,0,none⟩)]] w (Ret fun u w'=>∃ k:Int,u = .int .i64 k∧(0≤k↔(rs.any fun s=>!decide (r.cl=s.cl∧r.sq=s.sq)&&s.over r)=true)∧Mod NoB w w'):=by
 refine qLE _ _ ?_
 unfold qRC
 have hvl:=bM It.len (by omega) hv
 refine ⟨fun l' w'=>match l' with | [.i _ y]=>∃ k:Nat,y=(k:Int)∧k≤rs.length∧(∀ i (h:i<rs.length),i<k→(!decide (r.cl=rs[i].cl∧r.sq=rs[i].sq)&&rs[i].over r)=false)∧Mod NoB w w' | _=>False,fun l' _=>match l' with | [.i _ y]=>(rs.length - y).toNat | _=>0,⟨0,rfl,by omega,fun i h h'=>by omega,Mod.refl _ _⟩,?_⟩
 rintro y w1 ⟨k,rfl,hk,hall,hm1⟩
 refine aD (fun hlt=>?_) fun hge=>?_
 ·have hlt:k<rs.length:=by have:=of_decide_eq_true hlt; omega
  have hki:k<is.length:=by omega
  obtain ⟨A,ea,hr⟩:=bH It.len (by omega) (hv.no hm1) hki
  refine ⟨⟨by omega,by omega⟩,?_⟩
  rw [ea]
  refine ⟨is[k].hd.a,is[k].hd.b,is[k].hd.c,is[k].hd.d,is[k].hd.e,is[k].hd.f,is[k].hd.g,is[k].s,hr,cW (by kernel_rfl) ?_⟩
  refine aC (qFA (x:=x) (y:=is[k]) (hx.mod hm1 fun _ _ h=>h) ((hI k hki hlt).mod hm1 fun _ _ h=>h) (hc.no hm1)) ?_
  rintro u w2 ⟨rfl,hm2⟩
  refine ⟨_,rfl,aD (fun h=>⟨k,rfl,⟨fun _=>?_,fun _=>by omega⟩,hm1.tr hm2⟩) fun h=>?_⟩
  ·exact List.any_eq_true.2 ⟨rs[k],List.getElem_mem _,h⟩
  ·rw [wrap_i64 (e:=(k:Int)+1) (by omega)]
   refine ⟨⟨k+1,by omega,by omega,fun i hi hi'=>?_,hm1.tr hm2⟩,by (try simp only []); omega⟩
   rcases Nat.lt_or_ge i k with h2 | h2
   ·exact hall i hi h2
   ·have:i=k:=by omega
    subst this; exact h
 ·have hkk:k=rs.length:=by have:=of_decide_eq_false hge; omega
  subst hkk
  refine ⟨-1,rfl,⟨fun h=>by omega,fun h=>?_⟩,hm1⟩
  obtain ⟨s,hs,hp⟩:=List.any_eq_true.1 h
  obtain ⟨i,hi,rfl⟩:=List.getElem_of_mem hs
  rw [hall i hi hi] at hp; cases hp
end
section
variable {w:World}
theorem zE {v:Slc} {is:List It} {rs:List Rc} {x:It} {r:Rc} {c:Nat} {T:TypeId} (hv:aL w v 8 (cX is)) (hl:is.length=rs.length) (hI : ∀ i (h:i<is.length) (h':i<rs.length),iD w is[i] rs[i]) (hx:iD w x r) (hc:Blk w c x.cells T) (hn:rs.length≤1000000) :
 Calls prog 151 #[.slice v.a v.len v.cap,.func (.func 152) #[] #[.pointer (some ⟨c,0,none⟩)]] w (Ret fun u w'=>u = .bool (rs.any fun s=>!decide (r.cl=s.cl∧r.sq=s.sq)&&s.over r)∧Mod NoB w w'):=by
 refine qJS _ _ ?_
 unfold qST
 refine aC (qOU hv hl hI hx hc hn) ?_
 rintro u w1 ⟨k,rfl,hk,hm⟩
 refine ⟨k,rfl,congrArg Value.bool ?_,hm⟩
 apply Bool.eq_iff_iff.2
 rw [← hk]; simp
theorem zO {rb:Nat} {T:TypeId} {v:Slc} {is:List It} {rs:List Rc} {x:It} {r:Rc} (hb:Blk w rb [v.val] T) (hv:aL w v 8 (cX is)) (hl:is.length=rs.length) (hI : ∀ i (h:i<is.length) (h':i<rs.length),iD w is[i] rs[i]) (hx:iD w x r) (hn:rs.length≤1000000) :
 Calls prog 110 #[.pointer (some (Addr.add ⟨rb,0,none⟩ 0)),x.val] w (Ret fun u w'=>u = .bool (rs.any fun s=>!decide (r.cl=s.cl∧r.sq=s.sq)&&s.over r)∧Mod NoB w w'):=by
 refine qNK _ x.hd.a x.hd.b x.hd.c x.hd.d x.hd.e x.hd.f x.hd.g x.s ?_
 unfold qTD
 refine aV (l:=x.cells) rfl fun p w1 hN hb1=>⟨_,rfl,v,by rw [aK,aK]; exact (hb.no hN.mod).rd1 rfl,?_⟩
 refine aC (zE (x:=x) (hv.no hN.mod) hl (fun i a b=>(hI i a b).mod hN.mod fun _ _ h=>h) (hx.mod hN.mod fun _ _ h=>h) hb1 hn) ?_
 rintro u w2 ⟨rfl,hm2⟩
 exact ⟨_,rfl,rfl,hN.mod.tr hm2⟩
theorem pE {l vs:List Value} {o i n k:Nat} (hi:i<n) (hk:vs.length=k) (hl:o+n*k≤l.length):((putAt l (o+i*k) vs).drop o).take (n*k)=putAt ((l.drop o).take (n*k)) (i*k) vs:=by
 have h1:i*k+k≤n*k:=by have:=Nat.mul_le_mul_right k hi; rw [Nat.succ_mul] at this; exact this
 apply List.ext_getElem?
 intro j
 simp only [putAt,List.getElem?_take,List.getElem?_drop]
 have hlen:((l.drop o).take (n*k)).length=n*k:=by simp; omega
 by_cases hj:j<n*k
 ·rw [if_pos hj]
  by_cases a:j<i*k
  ·rw [List.append_assoc,List.getElem?_append_left (by rw [List.length_take]; omega),List.getElem?_take,if_pos (by omega),List.append_assoc,List.getElem?_append_left (by rw [List.length_take,hlen]; omega),List.getElem?_take,if_pos a,List.getElem?_take,if_pos hj,List.getElem?_drop]
  ·by_cases b:j<i*k+k
   ·rw [List.append_assoc,List.getElem?_append_right (by rw [List.length_take]; omega),List.length_take,List.getElem?_append_left (by omega),List.append_assoc,List.getElem?_append_right (by rw [List.length_take,hlen]; omega),List.length_take,hlen,List.getElem?_append_left (by omega)]
    congr 1; omega
   ·rw [List.getElem?_append_right (by rw [List.length_append,List.length_take]; omega),List.getElem?_append_right (by rw [List.length_append,List.length_take,hlen]; omega),List.length_append,List.length_append,List.length_take,List.length_take,hlen,List.getElem?_drop,List.getElem?_drop,List.getElem?_take,if_pos (by omega),List.getElem?_drop]
    congr 1; omega
 ·rw [if_neg hj]
  refine (List.getElem?_eq_none ?_).symm
  have:(putAt ((l.drop o).take (n*k)) (i*k) vs).length=n*k:=by rw [aX (by omega),hlen]
  simp only [putAt] at this
  omega
theorem tC {T:TypeId} {s:Slc} {k:Nat} {vs us:List Value} {a:Addr} {i:Nat} {v:Value} {K:World→Prop} (hi:(prog.info? T).isSome=true) (hsz:bF prog T=k) (hv:v.cells=us.toArray) (hk:us.length=k) (h1 : ∀ u∈us,u.oneCell'=true)
 (ho:Sh.Own w s k vs) (ha:s.a=some a) (hil:i<s.len)
 (hK : ∀ w',Sh.Own w' s k (putAt vs (i*k) us)→Mod (fun x=>s.blk=some x) w w'→w'.heap.size=w.heap.size→K w'):aJ prog (storeVar T (a.add (i*k)) v) w K:=by
 rcases ho.owned with ⟨h0,h0',_⟩ | ⟨hcp,b,o,l,E,e1,e2,e3,e4⟩
 ·omega
 ·rw [ha] at e1; cases e1
  have hc:=ho.2.1
  have hvl:=ho.1
  rw [aK]
  have hik:i*k+k≤s.len*k:=by have:=Nat.mul_le_mul_right k hil; rw [Nat.succ_mul] at this; exact this
  have hlk:s.len*k≤s.cap*k:=Nat.mul_le_mul_right k hc
  refine bT (vs:=us) hi (by rw [hk]; exact hsz) hv e2 (by omega) h1 fun w' ht hb=>hK w' ?_ (ht.mod.mono fun x _ hx=>?_) ht.size
  ·refine ⟨by rw [aX (by omega)]; exact hvl,hc,.inr ⟨b,o,_,E,ha,hb,by rw [aX (by omega)]; exact e3,?_⟩⟩
   rw [pE hil hk (by omega),e4]
  ·have hx:x=b:=hx
   subst hx
   unfold Slc.blk
   rw [if_neg (by omega),ha]; rfl
theorem tB {α:Type} {f:α→List Value} {k:Nat} (hk : ∀ x,(f x).length=k) {l:List α} {i:Nat} {y:α} (hi:i<l.length):putAt (aS f l) (i*k) (f y)=aS f (l.set i y):=by
 have e:l.set i y=l.take i++y :: l.drop (i+1):=by rw [List.set_eq_take_append_cons_drop,if_pos hi]
 have e2:l=l.take i++l[i] :: l.drop (i+1):=by rw [← List.drop_eq_getElem_cons hi,List.take_append_drop]
 have hti:(aS f (l.take i)).length=i*k:=by rw [cB hk,List.length_take,Nat.min_eq_left (by omega)]
 rw [e]
 conv=>lhs; rw [e2]
 rw [dC,dC]
 have c1 : ∀ z m,aS f (z :: m)=f z++aS f m:=fun z m=>by simp [aS]
 rw [c1,c1]
 simp only [putAt]
 rw [List.take_append_of_le_length (by omega),List.take_of_length_le (by omega),hk,List.append_assoc]
 congr 1
 congr 1
 rw [List.drop_append,hti,List.drop_eq_nil_of_le (by omega),List.nil_append,show i*k+k - i*k=k by omega,List.drop_append,hk,List.drop_eq_nil_of_le (by rw [hk]; exact Nat.le_refl _),List.nil_append,Nat.sub_self,List.drop_zero]
end
section
variable {α:Type}
def jE (e:α→α→Bool):α→List α→List α
 | _,[]=>[]
 | p,b :: l=>(if e b p then [] else [b])++jE e b l
def cpt (e:α→α→Bool):List α→List α
 | []=>[]
 | a :: l=>a :: jE e a l
theorem sV (e:α→α→Bool) : ∀ (l:List α) (p x:α),jE e p (l++[x])=jE e p l++(if e x ((p :: l).getLast (by simp)) then [] else [x])
 | [],p,x=>by
   show (if e x p then [] else [x])++[]=[]++(if e x p then [] else [x])
   rw [List.append_nil,List.nil_append]
 | b :: l,p,x=>by
   have ih:=sV e l b x
   simp only [List.cons_append,jE,ih,List.append_assoc]
   rw [List.getLast_cons (a:=p) (List.cons_ne_nil b l)]
theorem qH (e:α→α→Bool) {l:List α} {n:Nat} (h:n+1<l.length):cpt e (l.take (n+2))=cpt e (l.take (n+1))++(if e l[n+1] l[n] then [] else [l[n+1]]):=by
 obtain ⟨a,m,rfl⟩ : ∃ a m,l=a :: m:=by
  match l,h with
  | a :: m,_=>exact ⟨a,m,rfl⟩
 have hm:n<m.length:=by simpa using h
 simp only [List.take_succ_cons,cpt]
 rw [aT hm,sV]
 have hl:(a :: m.take n).getLast (by simp)=(a :: m)[n]'(by simp; omega):=by
  rw [List.getLast_eq_getElem]
  cases n with
  | zero=>simp
  | succ n=>simp [List.getElem_take,Nat.min_eq_left (show n+1≤m.length by omega)]
 rw [hl,List.cons_append]
 rfl
theorem qPG (e:α→α→Bool) {l:List α} (h:0<l.length):cpt e (l.take 1)=l.take 1:=by
 match l,h with
 | a :: m,_=>simp [cpt,jE]
theorem vC (e:α→α→Bool) {l:List α} {k:Nat} (hk:1≤k) (hl:k≤l.length) (h : ∀ i (hi:i<k),0<i→e (l[i]'(by omega)) (l[i - 1]'(by omega))=false):cpt e (l.take k)=l.take k:=by
 induction k with
 | zero=>omega
 | succ k ih=>
   rcases Nat.eq_zero_or_pos k with h0 | h0
   ·subst h0; exact qPG e (by omega)
   ·obtain ⟨m,rfl⟩ : ∃ m,k=m+1:=⟨k - 1,by omega⟩
    rw [qH e (by omega),ih (by omega) (by omega) fun i hi h1=>h i (by omega) h1]
    have:=h (m+1) (by omega) (by omega)
    simp only [Nat.add_sub_cancel] at this
    rw [this,aT (show m+1<l.length by omega)]
    rfl
end
theorem yC {α:Type} {f:α→List Value} {k n:Nat} (hk : ∀ x,(f x).length=k) {l:List α} (hn:n≤l.length):(aS f l).take (n*k)=aS f (l.take n):=by
 have e:aS f l=aS f (l.take n)++aS f (l.drop n):=by rw [← dC,List.take_append_drop]
 have hl:(aS f (l.take n)).length=n*k:=by rw [cB hk,List.length_take,Nat.min_eq_left hn]
 rw [e,List.take_append_of_le_length (by omega),List.take_of_length_le (by omega)]
theorem jW {s:Slc} {k n:Nat} (h:s.len≤s.cap) (hn:n≤s.cap):aF s k 0 n s.cap=⟨s.a,n,s.cap⟩:=by
 unfold aF
 split
 ·simp
 ·congr 1
  cases s.a with
  | none=>rfl
  | some a=>simp [Addr.add]
def eqI (i j:It):Bool:=xC i.hd j.hd==0
section
variable {w:World}
theorem sG {v:Slc} {is:List It} (hv:Sh.Own w v 8 (cX is)) (hn:is.length≤1000000) :
 Calls prog 108 #[.slice v.a v.len v.cap,.func (.func 109) #[] #[]] w (Ret fun u w'=>∃ m,u = .slice v.a m v.cap∧Sh.Own w' ⟨v.a,m,v.cap⟩ 8 (cX (cpt eqI is))∧Mod (fun z=>v.blk=some z) w w'):=by
 refine qKG _ _ ?_
 unfold qQN
 obtain ⟨ii,hi1,hi2,hi3,hi4⟩:=wC
 have hvl:=bM It.len (by omega) hv.rd
 have hvc:=hv.2.1
 refine aD (fun h=>?_) fun h=>?_
 ·have h:is.length<2:=by have:=of_decide_eq_true h; omega
  refine ⟨v.len,rfl,?_,Mod.refl _ _⟩
  have:cpt eqI is=is:=by
   match is,h with
   | [],_=>rfl
   | [a],_=>simp [cpt,jE]
  rw [this]; exact hv
 have h2:2≤is.length:=by have:=of_decide_eq_false h; omega
 refine ⟨fun l' w'=>match l' with | [.i _ x]=>∃ k:Nat,x=(k:Int)∧1≤k∧k≤is.length∧(∀ i (hi:i<is.length),i<k→0<i→eqI is[i] (is[i - 1]'(by omega))=false)∧Mod NoB w w' | _=>False,fun l' _=>match l' with | [.i _ x]=>(is.length - x).toNat | _=>0,⟨1,rfl,by omega,by omega,fun i hi h1 h0=>by omega,Mod.refl _ _⟩,?_⟩
 rintro x w1 ⟨k,rfl,hk1,hk,hall,hm1⟩
 refine aD (fun hlt=>?_) fun hge=>?_
 ·have hlt:k<is.length:=by have:=of_decide_eq_true hlt; omega
  have e1:IntKind.i64.wrap ((k:Int) - 1)=((k - 1:Nat):Int):=by rw [wrap_i64 (by omega)]; omega
  rw [e1]
  obtain ⟨A,ea,hr⟩:=bH It.len (by omega) (hv.no hm1).rd hlt
  obtain ⟨A',ea',hr'⟩:=bH It.len (by omega) (hv.no hm1).rd (i:=k - 1) (by omega)
  rw [ea] at ea'; cases ea'
  refine ⟨Mod NoB w1.drew,Mod.refl _ _,⟨by omega,by omega⟩,?_⟩
  rw [ea]
  have md : ∀ {w'},Mod NoB w1.drew w'→Mod NoB w1 w':=fun hm=>(Mod.drew _ _).tr hm
  refine ⟨⟨by omega,by omega⟩,is[k].hd.a,is[k].hd.b,is[k].hd.c,is[k].hd.d,is[k].hd.e,is[k].hd.f,is[k].hd.g,is[k].s,fun w' hm=>hr.mod (md hm) fun h=>h,is[k - 1].hd.a,is[k - 1].hd.b,is[k - 1].hd.c,is[k - 1].hd.d,is[k - 1].hd.e,is[k - 1].hd.f,is[k - 1].hd.g,is[k - 1].s,fun w' hm=>hr'.mod (md hm) fun h=>h,cW (by kernel_rfl) ?_,trivial⟩
  refine aC (qQD (i:=is[k]) (j:=is[k - 1])) ?_
  rintro u w2 ⟨rfl,hm2⟩
  have hM2:Mod NoB w w2:=(hm1.tr (Mod.drew _ _)).tr hm2
  refine ⟨_,rfl,aD (fun heq=>?_) fun hne=>?_⟩
  ·refine ⟨⟨by omega,by omega⟩,?_⟩
   have ecut:((k:Nat):Int).toNat=k:=by omega
   simp only [ecut]
   have hcap:v.cap≠k:=by omega
   have es2:aF v 8 k v.len v.cap=⟨some (A.add (k*8)),v.len - k,v.cap - k⟩:=by unfold aF; rw [if_neg hcap,ea]; rfl
   rw [es2]
   have heq':eqI is[k] (is[k - 1]'(by omega))=true:=heq
   refine ⟨fun l' w'=>match l' with | [.i _ a,.i _ b]=>∃ (k1 k2:Nat) (cur:List It),a=(k1:Int)∧b=(k2:Int)∧1≤k2∧k+k2≤is.length∧k1≤k+k2 - 1∧cur.length=is.length∧Sh.Own w' v 8 (cX cur)∧cur.take k1=cpt eqI (is.take (k+k2))∧cur.drop (k+k2 - 1)=is.drop (k+k2 - 1)∧Mod (fun z=>v.blk=some z) w w' | _=>False,fun l' _=>match l' with | [.i _ a,.i _ b]=>(is.length - k - b).toNat | _=>0,⟨k,1,is,rfl,rfl,by omega,by omega,by omega,rfl,hv.no hM2,?_,rfl,hM2.mono fun _ _ h=>h.elim⟩,?_⟩
   ·obtain ⟨m,rfl⟩ : ∃ m,k=m+1:=⟨k - 1,by omega⟩
    rw [qH eqI (show m+1<is.length by omega),vC eqI (by omega) (by omega) fun i hi h0=>hall i (by omega) hi h0]
    simp only [Nat.add_sub_cancel] at heq'
    rw [if_pos heq',List.append_nil]
   rintro a b w3 ⟨k1,k2,cur,rfl,rfl,hk2,hkn,hk1',hcl,hcur,htk,hdr,hm3⟩
   have hcurat : ∀ j (hj:j<is.length),k+k2 - 1≤j→cur[j]'(by omega)=is[j]:=fun j hj hge=>by
    have:=congrArg (fun l=>l[j - (k+k2 - 1)]?) hdr
    simp only [List.getElem?_drop] at this
    rw [show k+k2 - 1+(j - (k+k2 - 1))=j by omega,List.getElem?_eq_getElem (by omega),List.getElem?_eq_getElem hj] at this
    exact Option.some.inj this
   refine aD (fun hlt2=>?_) fun hge2=>?_
   ·have hlt2:k+k2<is.length:=by have:=of_decide_eq_true hlt2; simp only [] at this; omega
    have e2:IntKind.i64.wrap ((k2:Int) - 1)=((k2 - 1:Nat):Int):=by rw [wrap_i64 (by omega)]; omega
    have e3:IntKind.i64.wrap ((k2:Int)+1)=((k2+1:Nat):Int):=by rw [wrap_i64 (by omega)]; omega
    have e4:IntKind.i64.wrap ((k1:Int)+1)=((k1+1:Nat):Int):=by rw [wrap_i64 (by omega)]; omega
    simp only [e2,e3,e4,Int.toNat_natCast]
    have rdc : ∀ {w'} (hm:Mod NoB w3 w') (j:Nat) (hj:k+j<cur.length),Rd w' ((A.add (k*8)).add (j*8)) (cur[k+j]'hj).cells:=fun hm j hj=>by
     obtain ⟨A2,ea2,hr2⟩:=bH It.len (by omega) (hcur.no hm).rd hj
     rw [ea] at ea2; cases ea2
     rw [Addr.add_add',← Nat.add_mul]; exact hr2
    have md3 : ∀ {w'},Mod NoB w3.drew w'→Mod NoB w3 w':=fun hm=>(Mod.drew _ _).tr hm
    have c1:=hcurat (k+k2) hlt2 (by omega)
    have c0:=hcurat (k+k2 - 1) (by omega) (by omega)
    have r1 : ∀ {w'},Mod NoB w3 w'→Rd w' ((A.add (k*8)).add (k2*8)) is[k+k2].cells:=fun hm=>by have:=rdc hm k2 (by omega); rwa [c1] at this
    have r0 : ∀ {w'},Mod NoB w3 w'→Rd w' ((A.add (k*8)).add ((k2 - 1)*8)) (is[k+k2 - 1]'(by omega)).cells:=fun hm=>by
     have h:=rdc hm (k2 - 1) (by omega)
     have e:k+(k2 - 1)=k+k2 - 1:=by omega
     simp only [e] at h
     rwa [c0] at h
    refine ⟨Mod NoB w3.drew,Mod.refl _ _,⟨by omega,by show (k2:Int)<((v.len - k:Nat):Int); omega⟩,⟨by omega,by show ((k2 - 1:Nat):Int)<((v.len - k:Nat):Int); omega⟩,is[k+k2].hd.a,is[k+k2].hd.b,is[k+k2].hd.c,is[k+k2].hd.d,is[k+k2].hd.e,is[k+k2].hd.f,is[k+k2].hd.g,is[k+k2].s,fun w' hm=>r1 (md3 hm),is[k+k2 - 1].hd.a,is[k+k2 - 1].hd.b,is[k+k2 - 1].hd.c,is[k+k2 - 1].hd.d,is[k+k2 - 1].hd.e,is[k+k2 - 1].hd.f,is[k+k2 - 1].hd.g,is[k+k2 - 1].s,fun w' hm=>r0 (md3 hm),cW (by kernel_rfl) ?_,trivial⟩
    refine aC (qQD (i:=is[k+k2]) (j:=is[k+k2 - 1])) ?_
    rintro u w4 ⟨rfl,hm4⟩
    have hm34:=md3 hm4
    have hcp:=qH eqI (l:=is) (n:=k+k2 - 1) (by omega)
    simp only [show k+k2 - 1+2=k+(k2+1) by omega,show k+k2 - 1+1=k+k2 by omega] at hcp
    have hdr':cur.drop (k+(k2+1) - 1)=is.drop (k+(k2+1) - 1):=by
     have:=congrArg (List.drop 1) hdr
     rw [List.drop_drop,List.drop_drop] at this
     rwa [show k+k2 - 1+1=k+(k2+1) - 1 by omega] at this
    refine ⟨_,rfl,aD (fun hne2=>?_) fun heq2=>?_⟩
    ·have hne2:eqI is[k+k2] (is[k+k2 - 1]'(by omega))=false:=by simpa [eqI] using hne2
     refine ⟨⟨by omega,by show (k2:Int)<((v.len - k:Nat):Int); omega⟩,is[k+k2].hd.a,is[k+k2].hd.b,is[k+k2].hd.c,is[k+k2].hd.d,is[k+k2].hd.e,is[k+k2].hd.f,is[k+k2].hd.g,is[k+k2].s,r1 hm34,⟨by omega,by omega⟩,?_⟩
     refine tC (us:=is[k+k2].cells) (by kernel_rfl) (by kernel_rfl) rfl (It.len _) (It.one _) (hcur.no hm34) ea (i:=k1) (by omega) fun w5 ho5 hm5 hs5=>?_
     rw [cX,tB It.len (by omega)] at ho5
     refine ⟨⟨k1+1,k2+1,cur.set k1 is[k+k2],by omega,by omega,by omega,by omega,by omega,by simp [hcl],ho5,?_,?_,(hm3.no' hm34).tr hm5⟩,by (try simp only []); omega⟩
     ·rw [hcp,if_neg (by rw [hne2]; simp),← htk,List.take_set,aT (show k1<cur.length by omega)]
      rw [List.set_append_right _ _ (by rw [List.length_take]; omega)]
      rw [List.length_take,Nat.min_eq_left (by omega),Nat.sub_self]; rfl
     ·rw [List.drop_set,if_pos (by omega)]; exact hdr'
    ·have heq2:eqI is[k+k2] (is[k+k2 - 1]'(by omega))=true:=by simpa [eqI] using heq2
     exact ⟨⟨k1,k2+1,cur,rfl,by omega,by omega,by omega,by omega,hcl,hcur.no hm34,by rw [hcp,if_pos heq2,List.append_nil]; exact htk,hdr',hm3.no' hm34⟩,by (try simp only []); omega⟩
   ·have hfin:k+k2=is.length:=by have:=of_decide_eq_false hge2; simp only [] at this; omega
    have hk1v:k1≤v.len:=by omega
    have ek1:((k1:Nat):Int).toNat=k1:=by omega
    simp only [ek1]
    refine ⟨⟨by omega,by omega⟩,?_⟩
    have hot:Sh.Own w3 ⟨v.a,k1,v.cap⟩ 8 (cX (cur.take k1)):=by
     have:=hcur.take hk1v
     have e:(cX cur).take (k1*8)=cX (cur.take k1):=yC It.len (by omega)
     rwa [e] at this
    rw [htk,hfin,List.take_length,ea] at hot
    have ec:aF v 8 k1 v.len v.cap=aF ⟨some A,k1,v.cap⟩ 8 k1 v.len v.cap:=by unfold aF; simp only [ea]
    rw [ec]
    refine gL (s:=⟨some A,k1,v.cap⟩) (n:=v.len) qT hi1 hi2 (k:=8) rfl (fun u hu=>It.one ⟨⟨[],0,0,⟨none,0,0⟩,false,⟨none,0,0⟩,⟨none,0,0⟩⟩,⟨none,0,0⟩⟩ u (List.mem_toArray.1 hu)) hot hk1v hvc fun w6 ho6 hm6 hs6=>⟨rfl,⟨by omega,by omega⟩,?_⟩
    rw [jW hvc (by omega),ea]
    exact ⟨k1,rfl,ho6,hm3.tr (hm6.mono fun z _ hz=>by unfold Slc.blk at *; rw [ea]; exact hz)⟩
  ·rw [wrap_i64 (e:=(k:Int)+1) (by omega)]
   refine ⟨⟨k+1,by omega,by omega,by omega,fun i hi h1 h0=>?_,hM2⟩,by (try simp only []); omega⟩
   rcases Nat.lt_or_ge i k with h3 | h3
   ·exact hall i hi h3 h0
   ·have:i=k:=by omega
    subst this; exact hne
 ·have hkk:k=is.length:=by have:=of_decide_eq_false hge; omega
  subst hkk
  refine ⟨v.len,rfl,?_,hm1.mono fun _ _ h=>h.elim⟩
  have:=vC eqI (l:=is) (k:=is.length) (by omega) (Nat.le_refl _) fun i hi h0=>hall i hi hi h0
  rw [List.take_length] at this
  rw [this]; exact hv.no hm1
end
end Go.Proofs.YtahjmeegfkfokaaGreatDoor
end
section
namespace Go.Sh
open Go Go.Proofs Go.Proofs.YtahjmeegfkfokaaGreatDoor
theorem lH {l vs:List Value} {o:Nat} (h:o+vs.length≤l.length) (j:Nat):(putAt l o vs)[j]? = if j<o then l[j]? else if j<o+vs.length then vs[j - o]? else l[j]?:=by
 unfold putAt
 have ht:(l.take o).length=o:=by rw [List.length_take]; omega
 by_cases h1:j<o
 ·rw [if_pos h1,List.append_assoc,List.getElem?_append_left (by omega),List.getElem?_take,if_pos h1]
 ·rw [if_neg h1]
  by_cases h2:j<o+vs.length
  ·rw [if_pos h2,List.getElem?_append_left (by rw [List.length_append]; omega),List.getElem?_append_right (by omega),ht]
  ·rw [if_neg h2,List.getElem?_append_right (by rw [List.length_append]; omega),List.getElem?_drop]
   congr 1
   rw [List.length_append]; omega
def oC (vs y:List Value) (p:Nat):List Value:=vs.take p++y++vs.drop p
theorem wO {vs y:List Value} {p:Nat} (h:p≤vs.length) (j:Nat):(oC vs y p)[j]? = if j<p then vs[j]? else if j<p+y.length then y[j - p]? else vs[j - y.length]?:=by
 unfold oC
 have ht:(vs.take p).length=p:=by rw [List.length_take]; omega
 by_cases h1:j<p
 ·rw [if_pos h1,List.append_assoc,List.getElem?_append_left (by omega),List.getElem?_take,if_pos h1]
 ·rw [if_neg h1]
  by_cases h2:j<p+y.length
  ·rw [if_pos h2,List.getElem?_append_left (by rw [List.length_append]; omega),List.getElem?_append_right (by omega),ht]
  ·rw [if_neg h2,List.getElem?_append_right (by rw [List.length_append]; omega),List.getElem?_drop]
   congr 1
   rw [List.length_append]; omega
theorem nM {vs y:List Value} {p:Nat} (h:p≤vs.length):(oC vs y p).length=vs.length+y.length:=by
 unfold oC; simp; omega
theorem qGM {l vs y:List Value} {o p:Nat} (hvs:(l.drop o).take vs.length=vs) (hp:p≤vs.length) (hl:o+vs.length+y.length≤l.length) :
 ((putAt (putAt l (o+(p+y.length)) (vs.drop p)) (o+p) y).drop o).take (vs.length+y.length)=oC vs y p:=by
 have hv : ∀ j,j<vs.length→l[o+j]? = vs[j]?:=fun j hj=>by
  have:=congrArg (·[j]?) hvs
  simpa [List.getElem?_take,hj] using this
 have hd:(vs.drop p).length=vs.length - p:=List.length_drop
 have h1:o+(p+y.length)+(vs.drop p).length≤l.length:=by omega
 have h2:o+p+y.length≤(putAt l (o+(p+y.length)) (vs.drop p)).length:=by rw [aX h1]; omega
 apply List.ext_getElem?
 intro j
 rw [wO hp,List.getElem?_take,List.getElem?_drop,lH h2,lH h1]
 by_cases a:j<vs.length+y.length
 ·rw [if_pos a]
  by_cases b:j<p
  ·rw [if_pos (by omega:o+j<o+p),if_pos (by omega:o+j<o+(p+y.length)),if_pos b]
   exact hv j (by omega)
  ·rw [if_neg (by omega : ¬ o+j<o+p),if_neg b]
   by_cases c:j<p+y.length
   ·rw [if_pos (by omega:o+j<o+p+y.length),if_pos c]
    congr 1; omega
   ·rw [if_neg (by omega : ¬ o+j<o+p+y.length),if_neg c,if_neg (by omega : ¬ o+j<o+(p+y.length)),if_pos (by omega:o+j<o+(p+y.length)+(vs.drop p).length),List.getElem?_drop]
    congr 1; omega
 ·rw [if_neg a,if_neg (by omega : ¬ j<p),if_neg (by omega : ¬ j<p+y.length),List.getElem?_eq_none (by omega)]
theorem zN {l vs y:List Value} {p:Nat} (hl0:l.take p=vs.take p) (hp:p≤vs.length) (hl:vs.length+y.length≤l.length) :
 (putAt (putAt l p y) (p+y.length) (vs.drop p)).take (vs.length+y.length)=oC vs y p:=by
 have hv : ∀ j,j<p→l[j]? = vs[j]?:=fun j hj=>by
  have:=congrArg (·[j]?) hl0
  simpa [List.getElem?_take,hj] using this
 have hd:(vs.drop p).length=vs.length - p:=List.length_drop
 have h1:p+y.length≤l.length:=by omega
 have h2:p+y.length+(vs.drop p).length≤(putAt l p y).length:=by rw [aX h1]; omega
 apply List.ext_getElem?
 intro j
 rw [wO hp,List.getElem?_take,lH h2,lH h1]
 by_cases a:j<vs.length+y.length
 ·rw [if_pos a]
  by_cases b:j<p
  ·rw [if_pos (by omega:j<p+y.length),if_pos b,if_pos b]
   exact hv j b
  ·by_cases c:j<p+y.length
   ·rw [if_pos c,if_neg b,if_pos c,if_neg b,if_pos c]
   ·rw [if_neg c,if_pos (by omega:j<p+y.length+(vs.drop p).length),if_neg b,if_neg c,List.getElem?_drop]
    congr 1; omega
 ·rw [if_neg a,if_neg (by omega : ¬ j<p),if_neg (by omega : ¬ j<p+y.length),List.getElem?_eq_none (by omega)]
section
variable {P:Program} {w:World} {K:Value→World→Prop}
theorem iR {t t2 ty e:TypeId} {k2:IntKind} {i:TypeInfo} {z:Value} {k:Nat} (ht:P.underlying t=some (.slice e)) (ht2:P.underlying t2=some (.int k2)) (hi:P.info? e=some i) (hz:i.zero=some z) (hk:i.size=k) (hk0:0<k) (hzc:z.cells.size=k) {bytes:Nat} (hby:i.bytes=bytes)
 {s:Slc} {vs:List Value} {n:Nat} {xn:Int} {kn:IntKind} (hxn:xn=n) (hs:Own w s k vs) (hb:(s.len+n)*bytes≤140737488355328) (hm:s.len+n≤9223372036854775807) (hcap:s.cap<s.len+n)
 (hK : ∀ (c:Nat) (l:List Value) (w':World),Blk w' w.heap.size l e→l.length=c*k→l.take (s.len*k)=vs→s.len+n≤c→Mod NoB w w'→K (.slice (some ⟨w.heap.size,0,none⟩) (s.len+n) c) w') :
 aI P (Builtin.append_ #[t,t2] ty #[.slice s.a s.len s.cap,.int kn xn]) w K:=by
 subst hby hxn hk
 have hsl:=hs.1
 have hw:IntKind.i64.wrap (n:Int)=n:=wrap_i64 (by omega)
 have hn0 : ¬ ((n:Int)<0):=by omega
 have hbig : ¬ ((281474976710656:Int)<(n:Int)*i.bytes):=by
  have:((n:Int)*i.bytes)=((n*i.bytes:Nat):Int):=by simp
  rw [this]
  have h2:n*i.bytes≤(s.len+n)*i.bytes:=Nat.mul_le_mul_right _ (by omega)
  omega
 have h0 : ¬ n*i.size=0:=by
  have hn:0<n:=by have:=hs.2.1; omega
  have:=Nat.mul_pos hn hk0; omega
 have hm' : ¬ ((9223372036854775807:Int)<(s.len:Int)+n):=by omega
 have h48 : ¬ (281474976710656<Builtin.nextslicecap (s.len+n) s.cap*i.bytes):=by
  have:=growslice_fits hcap hb; omega
 have hfs':=bA (P:=P) (w:=w.drew) (hs.rd).drew
 have hn : ¬ (s.len+n≤s.cap):=by omega
 have hge:=grownCap_ge w (s.len+n) s.cap e
 have hrun:(Builtin.append_ #[t,t2] ty #[.slice s.a s.len s.cap,.int kn (n:Int)]).run P w = .ok (.slice (some ⟨w.heap.size,0,none⟩) (s.len+n) (grownCap w (s.len+n) s.cap e)) (w.drew.alloc (.cells (vs.toArray++Builtin.zeroCells z.cells n++Builtin.zeroCells z.cells (grownCap w (s.len+n) s.cap e - (s.len+n))) e)):=by
  simp [Builtin.append_,run_underlying ht,run_underlying ht2,sizeOf,typeInfo,zeroValue,hi,hz,asInt,asIntOf,hw,hn0,hbig,h0,hn,hm',h48,Question.forced,newRow,grownCap]
  have h0' : ¬ (n=0∨i.size=0):=fun e=>h0 (by rcases e with e | e <;> rw [e] <;> simp)
  first
   | (rw [hfs']; simp only [Result.andThen_ok]; rfl)
   | (rw [if_neg h0']; rw [hfs']; simp only [Result.andThen_ok]; rfl)
 have hn':=dX w (.cells (vs.toArray++Builtin.zeroCells z.cells n++Builtin.zeroCells z.cells (grownCap w (s.len+n) s.cap e - (s.len+n))) e)
 have hzs : ∀ m,(Builtin.zeroCells z.cells m).size=m*i.size:=fun m=>by simp [Builtin.zeroCells,hzc]
 have hblk:Blk (w.drew.alloc (.cells (vs.toArray++Builtin.zeroCells z.cells n++Builtin.zeroCells z.cells (grownCap w (s.len+n) s.cap e - (s.len+n))) e)) w.heap.size (vs++(Builtin.zeroCells z.cells n).toList++(Builtin.zeroCells z.cells (grownCap w (s.len+n) s.cap e - (s.len+n))).toList) e:=by
  refine Blk.mk ?_
  rw [hn'.get]
  congr 2
  apply Array.ext'
  simp [List.append_assoc]
 refine ⟨_,_,hrun,hK (grownCap w (s.len+n) s.cap e) _ _ hblk ?_ ?_ hge hn'.mod⟩
 ·simp only [List.length_append,Array.length_toList,hzs,hsl]
  rw [← Nat.add_mul,← Nat.add_mul]
  congr 1; omega
 ·rw [List.append_assoc,List.take_append_of_le_length (by omega),List.take_of_length_le (by omega)]
theorem iF {s:Slc} {k i n:Nat} (h:n≤s.cap) (hi:i<s.cap) {b o:Nat} (ha:s.a=some ⟨b,o,none⟩):aF s k i n s.cap=⟨some ⟨b,o+i*k,none⟩,n - i,s.cap - i⟩:=by
 unfold aF
 rw [if_neg (by omega),ha]; simp
end
end Go.Sh
end
