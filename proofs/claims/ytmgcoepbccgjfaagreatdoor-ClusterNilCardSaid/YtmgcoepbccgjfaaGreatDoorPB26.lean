/- The forms of the translated functions,their contracts and the plain laws behind them,put together by a program. -/
import Derived.Test.YtmgcoepbccgjfaaGreatDoorPB25
import Derived.Lib.MakeNoZero
import Derived.Test.YtmgcoepbccgjfaaGreatDoorProg
set_option linter.unusedSimpArgs false
set_option linter.unusedVariables false
set_option maxRecDepth 1000000
set_option maxHeartbeats 8000000
section
namespace Go.Proofs.YtmgcoepbccgjfaaGreatDoor
open Go Go.Sh Go.X
section
variable {w w0:World}
theorem c_bMul1:Calls Tryz.prog 112 #[.int .u64 (UInt64.toNat (u64OfInt (1:Nat))),.int .u64 (UInt64.toNat (u64OfInt 32))] w (Ret λv w'=>v = .tuple #[.int .u64 ((0:UInt64)).toNat,.int .u64 ((32:UInt64)).toNat]/\w'=w):=by
 refine call112 _ _ ?_
 unfold sh112
 refine callK_ret (Q:=λv w'=>v = .tuple #[.int .u64 ((0:UInt64)).toNat,.int .u64 ((32:UInt64)).toNat]/\w'=w) ?_ ?_
 ·refine call185 _ _ ?_
  unfold sh185
  refine ⟨Int.natCast_nonneg _,Int.natCast_nonneg _,Int.natCast_nonneg _,Int.natCast_nonneg _,Int.natCast_nonneg _,?_,rfl⟩
  rfl
 ·rintro v w' ⟨rfl,rfl⟩
  exact ⟨_,_,rfl,rfl,rfl⟩
theorem put_cells {l m:List Value} {o:Nat} : putAt l o m=l.take o++m++l.drop (o+m.length):=rfl
def R32c (c:UInt8) (w:World) (v:Value) (w':World):Prop:=∃ b l,v = .slice (some ⟨b,0,none⟩) 32 32/\Blk w' b l 5/\32<=l.length/\l.take 32=bys (List.replicate 32 c)/\w.heap.size<=b/\Mod NoB w w'
theorem c_bRepeat {x:Slc} {c:UInt8} (hx:SlRd w x 1 (bys [c])):Calls Tryz.prog 75 #[.slice x.a x.len x.cap,.int .i64 32] w (Ret (R32c c w)):=by
 refine call75 _ _ ?_
 unfold sh75
 obtain ⟨i5',h51,h52,h53,h54⟩:=i5
 have hl:x.len=1:=by have:=rd_len8 hx; simpa using this.symm
 obtain ⟨xa,xl,xc⟩:=x
 simp only [] at hl
 subst hl
 refine condK_i (λh=>absurd h (by decide)) λ_=>?_
 refine ⟨λl w'=>w'=w,condK_i (λh=>by simp at h) λ_=>rfl,?_⟩
 rintro w1 rfl
 refine callK_ret c_bMul1 ?_
 rintro v w2 ⟨rfl,rfl⟩
 refine ⟨_,_,rfl,λl w'=>w'=w2,condK_i (λh=>absurd h (by decide)) λ_=>condK_i (λh=>absurd h (by decide)) λ_=>rfl,?_⟩
 rintro w3 rfl
 have e32:IntKind.i64.wrap (((32:UInt64)).toNat:Int)=((32:Nat):Int):=by decide
 rw [e32]
 refine condK_i (λh=>by simp at h) λ_=>?_
 refine ⟨λl w'=>match l with | [.i _ m]=>m=32/\w'=w3 | _=>False,condK_i (λh=>absurd h (by decide)) λ_=>⟨rfl,rfl⟩,?_⟩
 rintro cm w4 ⟨rfl,rfl⟩
 obtain ⟨cs,hrun,hcs,_⟩:=Lib.run_makeNoZero (P:=Tryz.prog) w4 #[3] 23 5 u26 32 (by omega)
 refine ⟨_,w4.drew.drew.alloc (.cells cs 5),?_,⟨some ⟨w4.heap.size,0,none⟩,32,cs.size⟩,rfl,⟨by decide,by decide,?_⟩,?_⟩
 ·rw [run_callFunc_extern Tryz.func113 (by kernel_rfl) (by kernel_rfl) (by kernel_rfl) (e:=Extern.BytealgMakeNoZero.makeNoZero #[3] #[23]) (by kernel_rfl)]
  rw [hrun]; rfl
 ·show ((32:Nat):Int)<=((cs.size:Nat):Int); omega
 have hN:=new_alloc_drew w4.drew (.cells cs 5)
 have hm4:Mod NoB w4 (w4.drew.drew.alloc (.cells cs 5)):=(Mod.drew _ _).tr hN.mod
 have hb4:Blk (w4.drew.drew.alloc (.cells cs 5)) w4.heap.size cs.toList 5:=Blk.mk (by
  have:=hN.get
  have e:w4.drew.heap.size=w4.heap.size:=rfl
  rw [e] at this
  rw [this])
 have hx4:=hx.no hm4
 have ecut:cutSl ⟨some ⟨w4.heap.size,0,none⟩,32,cs.size⟩ 1 0 (((32:Nat):Int)).toNat (((32:Nat):Int)).toNat=⟨some ⟨w4.heap.size,0,none⟩,32,32⟩:=by unfold cutSl; rw [if_neg (by simp)]; simp
 simp only [ecut]
 generalize w4.drew.drew.alloc (.cells cs 5)=w5 at *
 refine sem_copyT (d:=⟨some ⟨w4.heap.size,0,none⟩,32,32⟩) (o:=0) u26 h51 h53 rfl hb4 (by simp; omega) hx4 (λy hy=>bys_one _ y (List.mem_of_mem_take hy)) λw6 hb6 hm6 hsz6=>⟨_,rfl,?_⟩
 have ey:(bys [c]).take (min (Slc.len ⟨xa,1,xc⟩) (Slc.len ⟨some ⟨w4.heap.size,0,none⟩,32,32⟩)*1)=bys [c]:=rfl
 rw [ey] at hb6
 refine ⟨λl' w'=>match l' with | [.i _ x]=>∃ n:Nat,x=(n:Int)/\1<=n/\n<=32/\∃ l,32<=l.length/\l.take n=bys (List.replicate n c)/\Blk w' w4.heap.size l 5/\Mod (λy=>y=w4.heap.size) w5 w' | _=>False,λl' _=>match l' with | [.i _ x]=>(32 - x).toNat | _=>0,
  ⟨1,rfl,by omega,by omega,_,by rw [putAt_len (by simp [bys]; omega)]; simp; omega,by simp [putAt,bys],hb6,hm6⟩,?_⟩
 rintro i w7 ⟨n,rfl,h1,h2,l,hl,htk,hbl,hm⟩
 refine condK_i (λhlt=>?_) λhge=>?_
 ·have hlt:n<32:=by have:=hlt; simp at this; omega
  have hmin:(if (32:Int)<(n:Int) then (32:Int) else (n:Int))=(n:Int):=if_neg (by omega)
  simp only [hmin]
  refine ⟨⟨by omega,by show (n:Int)<=((32:Nat):Int); omega⟩,⟨by omega,by show (n:Int)<=((32:Nat):Int); omega⟩,?_,trivial⟩
  have ec:cutSl ⟨some ⟨w4.heap.size,0,none⟩,32,32⟩ 1 n 32 32=⟨some ⟨w4.heap.size,n,none⟩,32 - n,32 - n⟩:=by unfold cutSl; rw [if_neg (by omega)]; simp
  have ec0:cutSl ⟨some ⟨w4.heap.size,0,none⟩,32,32⟩ 1 0 n 32=⟨some ⟨w4.heap.size,0,none⟩,n,32⟩:=by unfold cutSl; rw [if_neg (by omega)]; simp
  simp only [Int.toNat_natCast,ec,ec0]
  have hrd:SlRd w7.drew ⟨some ⟨w4.heap.size,0,none⟩,n,32⟩ 1 (bys (List.replicate n c)):=⟨by simp [bys],by simp only []; omega,.inr ⟨_,rfl,hbl.drew.rd λj v hj=>by
   rw [<-htk,List.getElem?_take] at hj
   simp only [Nat.zero_add]
   split at hj
   ·exact hj
   ·cases hj⟩⟩
  refine sem_copyT (d:=⟨some ⟨w4.heap.size,n,none⟩,32 - n,32 - n⟩) (o:=n) u26 h51 h53 rfl hbl.drew (by simp; omega) hrd (λy hy=>bys_one _ y (List.mem_of_mem_take hy)) λw8 hb8 hm8 hsz8=>⟨_,rfl,?_⟩
  have e1:IntKind.i64.wrap ((n:Int)+((min n (32 - n):Nat):Int))=((n+min n (32 - n):Nat):Int):=by rw [wrap_i64 (by omega)]; omega
  show (∃ m:Nat,IntKind.i64.wrap ((n:Int)+((min n (32 - n):Nat):Int))=(m:Int)/\_)/\(32 - IntKind.i64.wrap ((n:Int)+((min n (32 - n):Nat):Int))).toNat<_
  rw [e1]
  simp only [] at hb8
  have et:(bys (List.replicate n c)).take (min n (32 - n)*1)=bys (List.replicate (min n (32 - n)) c):=by
   simp [bys,List.take_replicate]
  rw [et] at hb8
  refine ⟨⟨_,rfl,by omega,by omega,_,?_,?_,hb8,(hm.tr (Mod.drew _ _)).tr hm8⟩,by omega⟩
  ·rw [putAt_len (by simp [bys]; omega)]; exact hl
  ·rw [put_cells]
   have hA:(l.take n++bys (List.replicate (min n (32 - n)) c)).length=n+min n (32 - n):=by simp [bys]; omega
   rw [List.take_append_of_le_length (by rw [hA]; exact Nat.le_refl _),List.take_of_length_le (by rw [hA]; exact Nat.le_refl _),htk]
   simp only [bys,List.map_replicate,List.replicate_append_replicate]
 ·have:n=32:=by have:=hge; simp at this; omega
  subst this
  exact ⟨_,l,rfl,hbl,hl,htk,Nat.le_refl _,hm4.fresh hm λy e=>by omega⟩
theorem c_Seed {n:Nat} (hn:(1<=n/\n<=7)\/(11<=n/\n<=18)):Calls Tryz.prog 36 #[.int .i64 n] w (Ret (R32c (UInt8.ofNat n) w)):=by
 refine call36 _ ?_
 unfold sh36
 refine ⟨λl w'=>match l with | [.b t]=>t=true/\w'=w | _=>False,?_,?_⟩
 ·refine condK_i (λh1=>condK_i (λh2=>⟨rfl,rfl⟩) λh2=>condK_i (λh3=>⟨?_,rfl⟩) λh3=>?_) λh1=>condK_i (λh3=>⟨?_,rfl⟩) λh3=>?_
  all_goals simp at *; omega
 rintro t w1 ⟨rfl,rfl⟩
 refine condK_i (λ_=>?_) λh=>by cases h
 have eu:(u8OfInt (n:Int))=UInt8.ofNat n:=by unfold u8OfInt; congr 1; omega
 rw [eu]
 refine sem_bytes [UInt8.ofNat n] rfl rfl (by omega) (by omega) λx b w2 hN2 ex hb2 ho2=>⟨x,rfl,?_⟩
 refine callK_ret (c_bRepeat ho2.rd) ?_
 rintro v w3 ⟨b',l,rfl,h1,h2,h3,h4,h5⟩
 exact ⟨⟨_,_,_⟩,rfl,b',l,rfl,h1,h2,h3,Nat.le_trans hN2.mod.size h4,hN2.mod.tr h5⟩
end
noncomputable def seedN (n:Nat):List Nat:=List.replicate 32 n
noncomputable def seedC (f:FuncId) (xs:List XV) (h:Hp):Option (XV×Hp):=X.br (Nat.beq f 36) (match xs with
 | [.int .i64 (.ofNat n)]=>X.br (X.br (X.br (Nat.ble 1 n) (Nat.ble n 7) false) true (X.br (Nat.ble 11 n) (Nat.ble n 18) false)) (some (.sl (some (h.n,0)) 32 32,newRow h (mapB (seedN n)))) none
 | _=>none) none
theorem seedC_ok : ∀ f xs h y h',seedC f xs h=some (y,h')->CallOk Tryz.prog GS f xs h y h':=λf xs h y h' hr=>by
 unfold seedC at hr
 obtain ⟨h1,hr1⟩:=br_some hr
 clear hr
 have:=Nat.eq_of_beq_eq_true h1
 subst this
 split at hr1
 ·next n=>
  obtain ⟨h2,hr2⟩:=br_some hr1
  cases hr2
  have hn:(1<=n/\n<=7)\/(11<=n/\n<=18):=by
   cases ha:X.br (Nat.ble 1 n) (Nat.ble n 7) false with
   | true=>
     obtain ⟨q1,q2⟩:=br_and ha
     exact .inl ⟨Nat.le_of_ble_eq_true q1,Nat.le_of_ble_eq_true q2⟩
   | false=>
     rw [ha,br_f] at h2
     obtain ⟨q1,q2⟩:=br_and h2
     exact .inr ⟨Nat.le_of_ble_eq_true q1,Nat.le_of_ble_eq_true q2⟩
  have hn8:n<256:=by omega
  intro S0 w0 ρ w vs hG hi hvs
  simp only [XRs,XR] at hvs
  obtain ⟨v,vs',rfl,rfl,rfl⟩:=hvs
  refine Calls.mono (c_Seed (n:=n) hn) λe w' he=>?_
  cases e <;> first | exact he.elim | skip
  obtain ⟨b,l,rfl,hb,hl,htk,hg,hm⟩:=he
  have hsp:l=bys (List.replicate 32 (UInt8.ofNat n))++l.drop 32:=by rw [<-htk,List.take_append_drop]
  have hus:XRs (λL=>if L=h.n then some (b,l.length) else ρ L) (mapB (seedN n)) (bys (List.replicate 32 (UInt8.ofNat n))):=by
   have:=XRs_mapB (ρ:=λL=>if L=h.n then some (b,l.length) else ρ L) (l:=seedN n) λb hb=>by
    have:=List.eq_of_mem_replicate hb; omega
   simpa [toB,seedN] using this
  have hob:ObjOk (λL=>if L=h.n then some (b,l.length) else ρ L) w' b l.length (.row (mapB (seedN n))):=by
   refine ⟨_,l.drop 32,5,hus,?_,?_⟩
   ·rw [<-hsp]; exact hb
   ·rw [<-hsp]
  obtain ⟨i1,i2⟩:=inv_new hi hg hm hob
  refine ⟨_,_,rfl,Lab.up_new i2,?_,i1⟩
  simp only [XR]
  exact ⟨b,l.length,by simp,rfl⟩
 ·cases hr1
theorem callD_any {P:Program} {f:FuncId} {fn:Func} {c:Code} (hf:P.funcs[f]? = some fn) (hb:fn.body=some c) (args:Array Value) (hl:args.size<=fn.ntmps) {u:FrameMode} {w:World} {R:Ending->FrameMode->World->Prop}
 (h:denS P fn.ntmps c (ktSOf P fn R) u [] w):CallsDIn Fence.wide 0 P f args u w R:=by
 refine callsDIn_of_wpSIn hf hb trivial λc0 cs hu=>?_
 have hs:Sim fn.ntmps [] (args++Array.replicate (fn.ntmps - args.size) undef):=⟨by simp; omega,λt ht=>by cases ht⟩
 have hc0:c0 = {c0 with mode:=u}:=by subst hu; rfl
 rw [hc0]
 refine wpSIn_mono (denS_wp (c0:=c0) (cs:=cs) c _ u _ _ w hs rfl h) ?_
 intro e a cs' w' hq
 cases e with
 | normal=>
   obtain ⟨hd,u',rfl,env,hs',hk⟩:=hq
   have:=retK_post (R:=λe w=>R e u' w) hs' hk
   exact ⟨hd,u',rfl,this⟩
 | ret=>
   obtain ⟨hd,u',rfl,env,hs',hk⟩:=hq
   have:=retK_post (R:=λe w=>R e u' w) hs' hk
   exact ⟨hd,u',rfl,this⟩
 | panic c=>
   obtain ⟨hd,u',rfl,hk⟩:=hq
   exact ⟨hd,u',rfl,hk⟩
 | exit i=>exact hq.elim
 | goto l=>exact hq.elim
 | outgrown=>exact hq.elim
abbrev DQ (f:FuncId):Prop:=∀ (args:Array Value) (w:World),args.size<=3->callDK Tryz.prog f args .returning w λu w'=>u = .returning/\Mod NoB w w'
theorem dq208:DQ 208:=λargs w hl=>by
 refine callD_any Tryz.func208 (bodyOf_some (by kernel_rfl)) args (Nat.le_trans hl (Nat.le_of_ble_eq_true (by kernel_rfl))) ?_
 exact Exists.intro (.bool false) (And.intro (λw=>rfl) (Exists.intro false (And.intro rfl (And.intro (λh=>by cases h) (And.intro rfl (Mod.refl _ _))))))
theorem dq247:DQ 247:=λargs w hl=>by
 refine callD_any Tryz.func247 (bodyOf_some (by kernel_rfl)) args (Nat.le_trans hl (Nat.le_of_ble_eq_true (by kernel_rfl))) ?_
 exact Exists.intro (.bool false) (And.intro (λw=>rfl) (Exists.intro false (And.intro rfl (And.intro (λh=>by cases h) (And.intro rfl (Mod.refl _ _))))))
theorem dq252:DQ 252:=λargs w hl=>by
 refine callD_any Tryz.func252 (bodyOf_some (by kernel_rfl)) args (Nat.le_trans hl (Nat.le_of_ble_eq_true (by kernel_rfl))) ?_
 exact Exists.intro (.bool false) (And.intro (λw=>rfl) (Exists.intro false (And.intro rfl (And.intro (λh=>by cases h) (And.intro rfl (Mod.refl _ _))))))
theorem dq311:DQ 311:=λargs w hl=>by
 refine callD_any Tryz.func311 (bodyOf_some (by kernel_rfl)) args (Nat.le_trans hl (Nat.le_of_ble_eq_true (by kernel_rfl))) ?_
 exact Exists.intro (.bool false) (And.intro (λw=>rfl) (Exists.intro false (And.intro rfl (And.intro (λh=>by cases h) (And.intro rfl (Mod.refl _ _))))))
theorem dq555:DQ 555:=λargs w hl=>by
 refine callD_any Tryz.func555 (bodyOf_some (by kernel_rfl)) args (Nat.le_trans hl (Nat.le_of_ble_eq_true (by kernel_rfl))) ?_
 exact Exists.intro (.bool false) (And.intro (λw=>rfl) (Exists.intro false (And.intro rfl (And.intro (λh=>by cases h) (And.intro rfl (Mod.refl _ _))))))
theorem dq557:DQ 557:=λargs w hl=>by
 refine callD_any Tryz.func557 (bodyOf_some (by kernel_rfl)) args (Nat.le_trans hl (Nat.le_of_ble_eq_true (by kernel_rfl))) ?_
 exact Exists.intro (.bool false) (And.intro (λw=>rfl) (Exists.intro false (And.intro rfl (And.intro (λh=>by cases h) (And.intro rfl (Mod.refl _ _))))))
theorem dq597:DQ 597:=λargs w hl=>by
 refine callD_any Tryz.func597 (bodyOf_some (by kernel_rfl)) args (Nat.le_trans hl (Nat.le_of_ble_eq_true (by kernel_rfl))) ?_
 exact Exists.intro (.bool false) (And.intro (λw=>rfl) (Exists.intro false (And.intro rfl (And.intro (λh=>by cases h) (And.intro rfl (Mod.refl _ _))))))
theorem dq598:DQ 598:=λargs w hl=>by
 refine callD_any Tryz.func598 (bodyOf_some (by kernel_rfl)) args (Nat.le_trans hl (Nat.le_of_ble_eq_true (by kernel_rfl))) ?_
 exact Exists.intro (.bool false) (And.intro (λw=>rfl) (Exists.intro false (And.intro rfl (And.intro (λh=>by cases h) (And.intro rfl (Mod.refl _ _))))))
theorem dq599:DQ 599:=λargs w hl=>by
 refine callD_any Tryz.func599 (bodyOf_some (by kernel_rfl)) args (Nat.le_trans hl (Nat.le_of_ble_eq_true (by kernel_rfl))) ?_
 exact Exists.intro (.bool false) (And.intro (λw=>rfl) (Exists.intro false (And.intro rfl (And.intro (λh=>by cases h) (And.intro rfl (Mod.refl _ _))))))
theorem dq604:DQ 604:=λargs w hl=>by
 refine callD_any Tryz.func604 (bodyOf_some (by kernel_rfl)) args (Nat.le_trans hl (Nat.le_of_ble_eq_true (by kernel_rfl))) ?_
 exact Exists.intro (.bool false) (And.intro (λw=>rfl) (Exists.intro false (And.intro rfl (And.intro (λh=>by cases h) (And.intro rfl (Mod.refl _ _))))))
theorem dq658:DQ 658:=λargs w hl=>by
 refine callD_any Tryz.func658 (bodyOf_some (by kernel_rfl)) args (Nat.le_trans hl (Nat.le_of_ble_eq_true (by kernel_rfl))) ?_
 exact Exists.intro (.bool false) (And.intro (λw=>rfl) (Exists.intro false (And.intro rfl (And.intro (λh=>by cases h) (And.intro rfl (Mod.refl _ _))))))
theorem dq691:DQ 691:=λargs w hl=>by
 refine callD_any Tryz.func691 (bodyOf_some (by kernel_rfl)) args (Nat.le_trans hl (Nat.le_of_ble_eq_true (by kernel_rfl))) ?_
 exact Exists.intro (.bool false) (And.intro (λw=>rfl) (Exists.intro false (And.intro rfl (And.intro (λh=>by cases h) (And.intro rfl (Mod.refl _ _))))))
theorem dq702:DQ 702:=λargs w hl=>by
 refine callD_any Tryz.func702 (bodyOf_some (by kernel_rfl)) args (Nat.le_trans hl (Nat.le_of_ble_eq_true (by kernel_rfl))) ?_
 exact Exists.intro (.bool false) (And.intro (λw=>rfl) (Exists.intro false (And.intro rfl (And.intro (λh=>by cases h) (And.intro rfl (Mod.refl _ _))))))
theorem dq756:DQ 756:=λargs w hl=>by
 refine callD_any Tryz.func756 (bodyOf_some (by kernel_rfl)) args (Nat.le_trans hl (Nat.le_of_ble_eq_true (by kernel_rfl))) ?_
 exact Exists.intro (.bool false) (And.intro (λw=>rfl) (Exists.intro false (And.intro rfl (And.intro (λh=>by cases h) (And.intro rfl (Mod.refl _ _))))))
noncomputable def anyF (f:FuncId) (l:List Nat):Bool:=List.rec (motive:=λ_=>Bool) false (λa _ ih=>X.br (Nat.beq f a) true ih) l
theorem anyF_mem {f:FuncId} : ∀ {l:List Nat},anyF f l=true->f∈l
 | [],h=>by cases h
 | a :: l,h=>by
   have h:X.br (Nat.beq f a) true (anyF f l)=true:=h
   cases h1:Nat.beq f a with
   | true=>rw [Nat.eq_of_beq_eq_true h1]; exact List.mem_cons_self
   | false=>rw [h1,br_f] at h; exact List.mem_cons_of_mem _ (anyF_mem h)
noncomputable def dF (f:FuncId):Bool:=anyF f [208,247,252,311,555,557,597,598,599,604,658,691,702,756]
theorem dF_ok:DefFn Tryz.prog dF:=λf hf=>by
 have h:=anyF_mem hf
 simp only [List.mem_cons,List.mem_nil_iff,or_false] at h
 rcases h with rfl | rfl | rfl | rfl | rfl | rfl | rfl | rfl | rfl | rfl | rfl | rfl | rfl | rfl
 ·exact ⟨by kernel_rfl,dq208⟩
 ·exact ⟨by kernel_rfl,dq247⟩
 ·exact ⟨by kernel_rfl,dq252⟩
 ·exact ⟨by kernel_rfl,dq311⟩
 ·exact ⟨by kernel_rfl,dq555⟩
 ·exact ⟨by kernel_rfl,dq557⟩
 ·exact ⟨by kernel_rfl,dq597⟩
 ·exact ⟨by kernel_rfl,dq598⟩
 ·exact ⟨by kernel_rfl,dq599⟩
 ·exact ⟨by kernel_rfl,dq604⟩
 ·exact ⟨by kernel_rfl,dq658⟩
 ·exact ⟨by kernel_rfl,dq691⟩
 ·exact ⟨by kernel_rfl,dq702⟩
 ·exact ⟨by kernel_rfl,dq756⟩
end Go.Proofs.YtmgcoepbccgjfaaGreatDoor
end
section
namespace Go.Proofs.YtmgcoepbccgjfaaGreatDoor
open Go Go.Sh
def sh129 (s:List UInt8) (w:World) (R:Ending->World->Prop):Prop:=
 callK Tryz.prog 207 [.string ⟨s.toArray⟩] w (panR R) λv w1=>∃ x:List UInt8,v=(.string ⟨x.toArray⟩)/\R (.returned (.string ⟨x.toArray⟩)) w1
theorem call129 (s:List UInt8) {w:World} {R:Ending->World->Prop} (hden:sh129 s w R):Calls Tryz.prog 129 #[.string ⟨s.toArray⟩] w R:=
 calls_of_form (.seq none .z (.seq none .z .z)) Tryz.func129 (by kernel_rfl) [.s s] (by kernel_rfl) (by kernel_rfl) hden
def sh207 (s:List UInt8) (w:World) (R:Ending->World->Prop):Prop:=
 condK ((s.length:Int)==(0:Int)) (R (.returned (.string ⟨([]).toArray⟩)) w) (semK Tryz.prog (Instr.makeSlice 23 (.int .i64 (s.length:Int)) (.int .i64 (s.length:Int))) w λv w1=>∃ x:Slc,v=(.slice x.a x.len x.cap)/\semK Tryz.prog (Builtin.copy_ #[23,9] 3 #[.slice x.a x.len x.cap,.string ⟨s.toArray⟩]) w1 λv1 w2=>∃ x1:Int,v1=(.int .i64 x1)/\((0<=(0:Int)/\(0:Int)<(x.len:Nat))/\onSome x.a λa=>semK Tryz.prog (Builtin.unsafeString_ #[462,3] 9 #[.pointer (some (a.add (((0:Int)).toNat*1))),.int .i64 (x.len:Int)]) w2 λv2 w3=>∃ x2:List UInt8,v2=(.string ⟨x2.toArray⟩)/\R (.returned (.string ⟨x2.toArray⟩)) w3))
theorem call207 (s:List UInt8) {w:World} {R:Ending->World->Prop} (hden:sh207 s w R):Calls Tryz.prog 207 #[.string ⟨s.toArray⟩] w R:=
 calls_of_form (.seq none .z (.seq none (.seq none .z (.cond (.seq none .z .z) .z)) (.seq none .z (.seq none .z (.seq none .z .z))))) Tryz.func207 (by kernel_rfl) [.s s] (by kernel_rfl) (by kernel_rfl) hden
end Go.Proofs.YtmgcoepbccgjfaaGreatDoor
end
section
namespace Go.Proofs.YtmgcoepbccgjfaaGreatDoor
open Go Go.Sh Go.X
section
variable {w:World}
theorem sem_copyStr {t t2 ty:TypeId} {K:Value->World->Prop} (ht:Tryz.prog.underlying t=some (.slice 5)) {b:Nat} {l:List Value} {T:TypeId} {s:List UInt8} (hb:Blk w b l T) (hl:l.length=s.length)
 (hK : ∀ w',Blk w' b (bys s) T->Mod (λy=>y=b) w w'->w'.heap.size=w.heap.size->K (.int .i64 s.length) w') :
 semK Tryz.prog (Builtin.copy_ #[t,t2] ty #[.slice (some ⟨b,0,none⟩) s.length s.length,.string ⟨s.toArray⟩]) w K:=by
 obtain ⟨i5',h51,h52,h53,h54⟩:=i5
 obtain ⟨w',hst,hb',ht'⟩:=store_blk (P:=Tryz.prog) (o:=0) (vs:=bys s) hb (by simp; omega) (bys_one _)
 have e:putAt l 0 (bys s)=bys s:=by
  simp only [putAt,List.take_zero,List.nil_append]
  rw [List.drop_eq_nil_of_le (by simp; omega),List.append_nil]
 rw [e] at hb'
 have hmin:Nat.min s.length s.length=s.length:=Nat.min_self _
 refine ⟨_,_,?_,hK _ hb' ht'.mod ht'.size⟩
 have hex:(ByteArray.extract ⟨s.toArray⟩ 0 s.length).data.map (λb=>Value.int .u8 b.toNat)=(bys s).toArray:=by
  have:(ByteArray.extract ⟨s.toArray⟩ 0 s.length).data=s.toArray:=by
   rw [ByteArray.data_extract]
   simp
  rw [this]; simp [bys]
 unfold Builtin.copy_
 simp only [List.getElem?_toArray,List.getElem?_cons_zero,List.getElem?_cons_succ,run_underlying ht,Sem.run_bind,Sem.run_pure,Result.andThen_ok,Builtin.lenOf,Builtin.firstCells,goInt,Go.Sh.run_sizeOf h51]
 have hsz:(ByteArray.mk s.toArray).size=s.length:=by simp [ByteArray.size]
 simp only [hsz,hmin,hex,hst,Result.andThen_ok]
theorem c_sclone {s:List UInt8} (hn:s.length<=1000000000):Calls Tryz.prog 129 #[.string ⟨s.toArray⟩] w (Ret λv w'=>v = .string ⟨s.toArray⟩/\Mod NoB w w'):=by
 refine call129 _ ?_
 unfold sh129
 have hc:Calls Tryz.prog 207 #[.string ⟨s.toArray⟩] w (Ret λv w'=>v = .string ⟨s.toArray⟩/\Mod NoB w w'):=by
  refine call207 _ ?_
  unfold sh207
  obtain ⟨i5',h51,h52,h53,h54⟩:=i5
  refine condK_i (λh=>?_) λh=>?_
  ·have:s=[]:=List.eq_nil_of_length_eq_zero (by have:=h; simp at this; simp [this])
   subst this
   exact ⟨rfl,Mod.refl _ _⟩
  ·have h0:s≠[]:=by rintro rfl; simp at h
   have hp:0<s.length:=List.length_pos_iff.2 h0
   refine sem_makeSlice (l:=s.length) (c:=s.length) u26 h51 h52 h53 rfl h54 rfl rfl (by omega) (by omega) (by omega) λb w1 hN1 hb1 ho1=>⟨⟨some ⟨b,0,none⟩,s.length,s.length⟩,rfl,?_⟩
   have hat:=hN1.at_
   refine sem_copyStr u26 hb1 (by simp) λw2 hb2 hm2 hs2=>⟨_,rfl,⟨by omega,by show (0:Int)<((s.length:Nat):Int); omega⟩,?_⟩
   show semK _ _ _ _
   refine ⟨_,_,Lib.run_unsafeString_row _ 462 3 9 5 uPB (by kernel_rfl) b (bys s).length (shape_of hb2) s h0 (by simp) (by omega) (λj x hj=>?_),s,rfl,rfl,?_⟩
   ·rw [addl,Nat.zero_add,hb2.cell]
    simp [bys,hj]
   ·exact (hN1.mod.fresh hm2 λx e=>by omega).fresh (freeze_tch hb2) λx e=>by omega
 refine callK_ret hc ?_
 rintro v w1 ⟨rfl,hm⟩
 exact ⟨_,rfl,rfl,hm⟩
end
noncomputable def cloneQ (f:FuncId) (xs:List XV):Option XV:=X.br (Nat.beq f 129) (match xs with
 | [.str l]=>X.br (Nat.ble (len l) 1000) (some (.str l)) none
 | _=>none) none
theorem cloneQ_ok {f:FuncId} {xs:List XV} {y:XV} (hr:cloneQ f xs=some y) (h:Hp):QuietOk Tryz.prog GS f xs h y:=by
 unfold cloneQ at hr
 obtain ⟨h1,hr1⟩:=br_some hr
 clear hr
 have:=Nat.eq_of_beq_eq_true h1
 subst this
 split at hr1
 ·next l=>
  obtain ⟨h2,hr2⟩:=br_some hr1
  cases hr2
  have h2:=Nat.le_of_ble_eq_true h2
  rw [len_eq] at h2
  intro S0 w0 ρ w vs hG hi hx
  simp only [XRs] at hx
  obtain ⟨v,vs',rfl,h4,rfl⟩:=hx
  simp only [XR] at h4
  obtain ⟨h5,rfl⟩:=h4
  refine Calls.mono (c_sclone (s:=l.map UInt8.ofNat) (by simp; omega)) λe w' he=>?_
  cases e <;> first | exact he.elim | skip
  obtain ⟨rfl,hm⟩:=he
  exact ⟨_,rfl,by simp only [XR]; exact ⟨h5,rfl⟩,hi.no hm⟩
 ·cases hr1
noncomputable def cloneX (f:FuncId) (xs:List XV) (h:Hp):Option (XV×Hp):=br (Nat.beq f 242) (match xs with
 | [.ifc t (.map (some L))]=>onO (mapAt h L) λq=>some (.ifc t (.map (some h.n)),⟨h.t.set (some (.map q.1 q.2)) h.n,Nat.succ h.n⟩)
 | _=>none) none
theorem run_clone (es:Array MapEntry) (c r:Nat) (t:TypeId) (w:World) (hb:w.heap[r]? = some (.map es c)):(callFunc (242:Nat) #[.iface t (.map (some r))]).run Tryz.prog w = .ok (.value (.iface t (.map (some w.heap.size)))) (w.alloc (.map es c)):=by
 rw [run_callFunc_extern Tryz.func242 (by kernel_rfl) (by kernel_rfl) (by kernel_rfl) (e:=Extern.MapsClone.clone) (by kernel_rfl)]
 have e:Extern.MapsClone.clone #[.iface t (.map (some r))]=(getObj r >>=λo=>match o with
  | .map entries clock=>(newObj (.map entries clock) >>=λn=>pure (.iface t (.map (some n))))
  | _=>stuck "maps.clone: a map expected"):=rfl
 have g1:(getObj r).run Tryz.prog w = .ok (.map es c) w:=by simp [getObj,Sem.run,hb]
 rw [e]
 simp only [Sem.run_bind,g1,Result.andThen_ok,run_newObj_alloc,Sem.run_pure]
theorem cloneX_ok {f:FuncId} {xs:List XV} {h h':Hp} {y:XV} (hr:cloneX f xs h=some (y,h')):ExtHOk Tryz.prog f xs h y h':=by
 intro S0 w0 ρ w vs hi hxs
 unfold cloneX at hr
 have hq:=br_some hr
 clear hr
 obtain ⟨h1,hr⟩:=hq
 have h1:=Nat.eq_of_beq_eq_true h1
 subst h1
 split at hr
 ·next t L=>
  obtain ⟨⟨es,c⟩,h2,hr⟩:=onO_some hr
  cases hr
  obtain ⟨b,s,ms,q1,q2,q3,q4⟩:=hi.map h2
  simp only [XRs,XR] at hxs
  obtain ⟨v,vs',rfl,⟨u,⟨b',s',e1,rfl⟩,rfl⟩,rfl⟩:=hxs
  rw [q2] at e1; cases e1
  obtain ⟨g1,g2⟩:=hi.new (o:=.map es c) (b:=w.heap.size) (s:=0) rfl (alloc_mod w (.map ms.toArray c)) ⟨ms,ERs.le (le_new hi _ _) _ _ q3,heap_alloc_new w _⟩
  have hrun:=run_clone ms.toArray c b t w q4
  refine ⟨.iface t (.map (some w.heap.size)),w.alloc (.map ms.toArray c),_,?_,Lab.up_new g2,?_,g1⟩
  ·exact hrun
  ·simp only [XR]
   exact ⟨_,⟨w.heap.size,0,by rw [if_pos trivial],rfl⟩,rfl⟩
 ·cases hr
end Go.Proofs.YtmgcoepbccgjfaaGreatDoor
end
section
namespace Go.Proofs.YtmgcoepbccgjfaaGreatDoor
open Go Go.Sh
def sh603 (a b:Slc) (w:World) (R:Ending->World->Prop):Prop:=
 ∃ v w1,(callFunc 668 #[.slice a.a a.len a.cap,.slice b.a b.len b.cap]).run Tryz.prog w = .ok (.value v) w1/\∃ x:Int,v=(.int .i64 x)/\R (.returned (.int .i64 x)) w1
theorem call603 (a b:Slc) {w:World} {R:Ending->World->Prop} (hden:sh603 a b w R):Calls Tryz.prog 603 #[.slice a.a a.len a.cap,.slice b.a b.len b.cap] w R:=
 calls_of_form (.seq none .z (.seq none .z .z)) Tryz.func603 (by kernel_rfl) [.sl a,.sl b] (by kernel_rfl) (by kernel_rfl) hden
end Go.Proofs.YtmgcoepbccgjfaaGreatDoor
end
