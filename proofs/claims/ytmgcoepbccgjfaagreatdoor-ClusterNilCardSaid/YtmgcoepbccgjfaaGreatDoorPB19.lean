/- The forms of the translated functions,their contracts and the plain laws behind them,put together by a program. -/
import Derived.Test.YtmgcoepbccgjfaaGreatDoorPB18
import Derived.Laws.Externs
set_option linter.unusedSimpArgs false
set_option linter.unusedVariables false
set_option maxRecDepth 1000000
set_option maxHeartbeats 8000000
section
namespace Go.Proofs.YtmgcoepbccgjfaaGreatDoor
open Go Go.Sh
theorem iNum : ∃ i,Tryz.prog.info? 645=some i/\i.zero=some (.agg (us [0,0,0,0,0]).toArray)/\i.size=5/\i.bytes=40:=info_of (by kernel_rfl) (by kernel_rfl) (by kernel_rfl)
theorem iRest : ∃ i,Tryz.prog.info? 647=some i/\i.zero=some (.agg (us [0,0,0,0,0]).toArray)/\i.size=5/\i.bytes=40:=info_of (by kernel_rfl) (by kernel_rfl) (by kernel_rfl)
theorem uNum:Tryz.prog.underlying 645=some (.array 5 304):=by kernel_rfl
theorem list5 {α:Type} {l:List α} (h:l.length=5) : ∃ a b c d e,l=[a,b,c,d,e]:=by
 match l,h with
 | [a,b,c,d,e],_=>exact ⟨a,b,c,d,e,rfl⟩
theorem c_order {w:World} : Calls Tryz.prog 688 #[] w (Ret λv w'=>v = .agg (us lLimbs).toArray/\Mod NoB w w'):=by
 refine call688 ?_
 unfold sh688
 obtain ⟨i,h1,h2,h3,h4⟩:=iNum
 refine sem_alloc (l:=us [0,0,0,0,0]) h1 h2 (by simp [Value.cells]) λb w1 hN hb=>⟨_,rfl,?_⟩
 refine semU_store (b:=b) (o:=0) (vs:=us lLimbs) (l:=us [0,0,0,0,0]) (by kernel_rfl) (by kernel_rfl) rfl hb (by decide) (us_one _) λw2 ht hb2=>?_
 have e:putAt (us [0,0,0,0,0]) 0 (us lLimbs)=us lLimbs:=rfl
 rw [e] at hb2
 have hat:=hN.at_
 exact ⟨6346243789798364141,1503914060200516822,0,1152921504606846976,0,hb2.rd (o:=0) (λj v hv=>by simp only [Nat.zero_add]; exact hv),rfl,hN.mod.fresh ht.mod λx hx=>by omega⟩
theorem c_less {w:World} {n m:List UInt64} (hn:n.length=5) (hm:m.length=5) {a0 a1 a2 a3 a4 b0 b1 b2 b3 b4:UInt64} (en:n=[a0,a1,a2,a3,a4]) (em:m=[b0,b1,b2,b3,b4]) :
 Calls Tryz.prog 689 #[.agg #[.int .u64 a0.toNat,.int .u64 a1.toNat,.int .u64 a2.toNat,.int .u64 a3.toNat,.int .u64 a4.toNat],.agg #[.int .u64 b0.toNat,.int .u64 b1.toNat,.int .u64 b2.toNat,.int .u64 b3.toNat,.int .u64 b4.toNat]] w
  (Ret λv w'=>v = .bool (decide (val64 n<val64 m))/\Mod NoB w w'):=by
 refine call689 _ _ _ _ _ _ _ _ _ _ ?_
 unfold sh689
 obtain ⟨i,h1,h2,h3,h4⟩:=i44
 refine sem_box (l:=us n) (by rw [en]; rfl) λp w1 hN1 hb1=>⟨_,rfl,?_⟩
 refine sem_box (l:=us m) (by rw [em]; rfl) λq w2 hN2 hb2=>⟨_,rfl,?_⟩
 have hm2:Mod NoB w w2:=hN1.mod.tr hN2.mod
 have hp2:=hb1.no hN2.mod
 refine ⟨a0,a1,a2,a3,a4,hp2.rd (o:=0) (λj v hv=>by rw [en]; simp only [Nat.zero_add]; exact hv),b0,b1,b2,b3,b4,hb2.rd (o:=0) (λj v hv=>by rw [em]; simp only [Nat.zero_add]; exact hv),?_⟩
 refine ps_arr (k:=.u64) (.inl rfl) uNum (by kernel_rfl) (by kernel_rfl) h1 (by kernel_rfl) (by kernel_rfl) (l:=n.map λx=>(x.toNat:Int)) (l':=m.map λx=>(x.toNat:Int)) (by simpa using hn) (by simpa using hm) (by rw [en]; rfl) (by rw [em]; rfl) ⟨_,rfl,?_⟩
 have hinj:(n.map λx=>(x.toNat:Int))=(m.map λx=>(x.toNat:Int))->n=m:=λh=>List.map_inj_right (λx y e=>by rw [<-UInt64.toNat_inj]; omega) |>.1 h
 refine condK_i (λhe=>⟨?_,hm2⟩) λhe=>?_
 ·have:n=m:=hinj (by simpa using he)
  rw [this]; simp
 have hne:n≠m:=λe=>by rw [e] at he; simp at he
 refine ⟨λl' w'=>match l' with | [.i _ x]=>∃ k:Nat,x=(k:Int) - 1/\k<=5/\n.drop k=m.drop k/\Mod NoB w2 w' | _=>False,λl' _=>match l' with | [.i _ x]=>(x+1).toNat | _=>0,⟨5,rfl,by omega,by rw [List.drop_of_length_le (by omega),List.drop_of_length_le (by omega)],Mod.refl _ _⟩,?_⟩
 rintro x w3 ⟨k,rfl,hk,hd,hm3⟩
 refine condK_i (λhge=>?_) λhlt=>?_
 ·have hk1:0<k:=by simp at hge; omega
  have e1:((k:Int) - 1).toNat=k - 1:=by omega
  rw [e1]
  have hpd:=(hp2.no hm3).drew; have hqd:=(hb2.no hm3).drew
  refine ⟨⟨by omega,by omega⟩,⟨by omega,by omega⟩,n[k - 1]'(by omega),rda hpd (us_at (by omega)),m[k - 1]'(by omega),rda hqd (us_at (by omega)),?_⟩
  refine condK_i (λhx=>?_) λhx=>?_
  ·refine ⟨⟨by omega,by omega⟩,⟨by omega,by omega⟩,n[k - 1]'(by omega),rda hpd.drew (us_at (by omega)),m[k - 1]'(by omega),rda hqd.drew (us_at (by omega)),?_,Mod.dr (Mod.dr (hm2.tr hm3))⟩
   have:=val_cmp n m (k - 1) (by omega) (by omega) (by omega) (by rw [Nat.sub_add_cancel hk1]; exact hd) (by simpa using hx)
   simp only [this]
  ·refine ⟨⟨k - 1,by rw [wrap_i64 (by omega)]; omega,by omega,?_,Mod.dr hm3⟩,?_⟩
   ·have h':n[k - 1]'(by omega)=m[k - 1]'(by omega):=by simpa using hx
    rw [List.drop_eq_getElem_cons (by omega:k - 1<n.length),List.drop_eq_getElem_cons (by omega:k - 1<m.length),h',Nat.sub_add_cancel hk1,hd]
   ·rw [wrap_i64 (by omega)]; (try simp only []); omega
 ·have:k=0:=by simp at hlt; omega
  subst this
  exact absurd (by simpa using hd) hne
def fill5 (ws:List UInt64):List Value:=us ws++List.replicate (5 - ws.length) z64
theorem fill5_len {ws:List UInt64} (h:ws.length<=5):(fill5 ws).length=5:=by simp [fill5]; omega
theorem fill5_next {ws:List UInt64} {x:UInt64} (h:ws.length<5):(fill5 ws).set ws.length (.int .u64 x.toNat)=fill5 (ws++[x]):=by
 unfold fill5
 rw [rep_succ (by omega),set_mid (by simp)]
 have:5 - ws.length - 1=5 - (ws++[x]).length:=by simp; omega
 rw [this]
 simp [us]
theorem fill5_at {ws:List UInt64} {x:UInt64} (h:ws.length<5):(fill5 (ws++[x]))[ws.length]? = some (.int .u64 x.toNat):=by
 unfold fill5
 rw [List.getElem?_append_left (by simp)]
 simp [us]
theorem fill5_put {ws:List UInt64} {x y:UInt64} (h:ws.length<5):(fill5 (ws++[x])).set ws.length (.int .u64 y.toNat)=fill5 (ws++[y]):=by
 unfold fill5
 rw [List.set_append_left _ _ (by simp)]
 simp [us]
theorem fill5_full {ws:List UInt64} (h:ws.length=5):fill5 ws=us ws:=by simp [fill5,h]
theorem lShift_take {k i:Nat} (hi:i<5):(lShift k).take (i+1)=(lShift k).take i++[if 0<i/\0<k then shlU64 (lLimbs.getD i 0) k ||| shrU64 (lLimbs.getD (i - 1) 0) (64 - k) else shlU64 (lLimbs.getD i 0) k]:=by
 rw [take_snoc (by rw [lShift_len]; omega)]
 simp [lShift]
theorem lLimbs_at {i:Nat} (hi:i<5):(us lLimbs)[i]? = some (.int .u64 (lLimbs.getD i 0).toNat):=us_getD (by show i<5; omega)
def sub64E:Array Value->Sem Value:=(Extern.MathBitsCarry.rows.getD 1 ("",λ_=>pure .nilFunc)).2
theorem run_sub64E (x y b:Nat) (hb:b<=1) (w:World):(sub64E #[.int .u64 x,.int .u64 y,.int .u64 b]).run Tryz.prog w =
 .ok (.tuple #[.int .u64 (((x+18446744073709551616 - y - b) % 18446744073709551616:Nat):Int),.int .u64 ((if x<y+b then 1 else 0:Nat):Int)]) w:=by
 have:b=0\/b=1:=by omega
 rcases this with rfl | rfl <;> rfl
theorem run_Sub64 {x y b:UInt64} (hb:b.toNat<=1) (w:World) : ∃ d b':UInt64,(callFunc 690 #[.int .u64 x.toNat,.int .u64 y.toNat,.int .u64 b.toNat]).run Tryz.prog w = .ok (.value (.tuple #[.int .u64 d.toNat,.int .u64 b'.toNat])) w/\
 x.toNat+b'.toNat*18446744073709551616=d.toNat+y.toNat+b.toNat/\b'.toNat<=1:=by
 have hx:=x.toNat_lt; have hy:=y.toNat_lt
 have e1:(UInt64.ofNat ((x.toNat+18446744073709551616 - y.toNat - b.toNat) % 18446744073709551616)).toNat=(x.toNat+18446744073709551616 - y.toNat - b.toNat) % 18446744073709551616:=by
  rw [UInt64.toNat_ofNat']; omega
 have e2:(UInt64.ofNat (if x.toNat<y.toNat+b.toNat then 1 else 0)).toNat=if x.toNat<y.toNat+b.toNat then 1 else 0:=by
  split <;> rfl
 refine ⟨UInt64.ofNat ((x.toNat+18446744073709551616 - y.toNat - b.toNat) % 18446744073709551616),UInt64.ofNat (if x.toNat<y.toNat+b.toNat then 1 else 0),?_,?_⟩
 ·rw [run_callFunc_extern Tryz.func690 (by kernel_rfl) (by kernel_rfl) (by kernel_rfl) (e:=sub64E) (by kernel_rfl),run_sub64E _ _ _ hb,e1,e2]
  rfl
 ·rw [e1,e2]
  exact sub_step hb hx hy rfl rfl
theorem c_minus {w:World} {rb:Nat} {n:List UInt64} {T:TypeId} {k:Nat} (hr:Blk w rb (us n) T) (hn:n.length=5) (hk:k<=8) :
 Calls Tryz.prog 632 #[.pointer (some ⟨rb,0,none⟩),.int .u64 (UInt64.ofNat k).toNat] w (Ret λv w'=>v = .tuple #[]/\∃ n',Blk w' rb (us n') T/\n'.length=5/\val64 n'=(if val64 n<LO*2 ^ k then val64 n else val64 n - LO*2 ^ k)/\Mod (λx=>x=rb) w w'):=by
 refine call632 _ _ ?_
 unfold sh632
 obtain ⟨i,h1,h2,h3,h4⟩:=iNum
 have ek:(UInt64.ofNat k).toNat=k:=by rw [UInt64.toNat_ofNat']; omega
 have ek64:((64:UInt64) - UInt64.ofNat k).toNat=64 - k:=by
  rw [UInt64.toNat_sub_of_le _ _ (by rw [UInt64.le_iff_toNat_le,ek]; show k<=64; omega),ek]; rfl
 have ek0:decide ((0:UInt64)<UInt64.ofNat k)=decide (0<k):=by
  simp only [UInt64.lt_iff_toNat_lt,ek]; rfl
 refine sem_alloc (l:=us [0,0,0,0,0]) h1 h2 (by simp [Value.cells]) λm w1 hN1 hm1=>⟨_,rfl,?_⟩
 refine callK_ret c_order ?_
 rintro v w2 ⟨rfl,hm2⟩
 refine ⟨6346243789798364141,1503914060200516822,0,1152921504606846976,0,rfl,?_⟩
 refine sem_alloc (l:=us [0,0,0,0,0]) h1 h2 (by simp [Value.cells]) λl w3 hN3 hl3=>⟨_,rfl,?_⟩
 refine semU_store (b:=l) (o:=0) (vs:=us lLimbs) (l:=us [0,0,0,0,0]) (by kernel_rfl) (by kernel_rfl) rfl hl3 (by decide) (us_one _) λw4 ht4 hl4=>?_
 have e0:putAt (us [0,0,0,0,0]) 0 (us lLimbs)=us lLimbs:=rfl
 rw [e0] at hl4
 have a1:=hN1.at_; have a2:=hN1.size; have a3:=hN3.at_; have a4:=hN3.size; have a5:=hm2.size; have a6:=ht4.size; have a7:=hr.lt
 have hM4:Mod NoB w w4:=((hN1.mod.tr hm2).tr hN3.mod).fresh ht4.mod λx hx=>by omega
 have hmb4:Blk w4 m (us [0,0,0,0,0]) 645:=((hm1.no hm2).no hN3.mod).mod ht4.mod (by omega)
 refine ⟨λl' w'=>match l' with | [.i _ x]=>∃ j:Nat,x=j/\j<=5/\Blk w' m (fill5 ((lShift k).take j)) 645/\Mod (λy=>y=m) w4 w' | _=>False,λl' _=>match l' with | [.i _ x]=>(5 - x).toNat | _=>0,⟨0,rfl,by omega,hmb4,Mod.refl _ _⟩,?_⟩
 rintro x w5 ⟨j,rfl,hj,hmb5,hm5⟩
 have hl5:Blk w5 l (us lLimbs) 645:=hl4.mod hm5 (by omega)
 have htl:((lShift k).take j).length=j:=by rw [List.length_take,lShift_len]; omega
 refine condK_i (λhlt=>?_) λhge=>?_
 ·have hj':j<5:=by simp at hlt; omega
  simp only [ek,Int.toNat_natCast]
  refine ⟨⟨by omega,by omega⟩,lLimbs.getD j 0,rda hl5 (lLimbs_at hj'),by omega,⟨by omega,by omega⟩,?_⟩
  refine semU_at (b:=m) (n:=j) (by kernel_rfl) (by kernel_rfl) rfl hmb5 (by rw [fill5_len (by omega)]; omega) λw6 ht6 hmb6=>?_
  have hq:=fill5_next (ws:=(lShift k).take j) (x:=shlU64 (lLimbs.getD j 0) k) (by omega)
  rw [htl] at hq
  rw [hq] at hmb6
  have hm6:=hm5.tr ht6.mod
  refine ⟨λl' w'=>match l' with | [.b t]=>t=decide (0<j/\0<k)/\w'=w6 | _=>False,condK_i (λh=>⟨?_,rfl⟩) λh=>⟨?_,rfl⟩,?_⟩
  ·have:0<j:=by simp at h; omega
   rw [ek0]; simp [this]
  ·have : ¬ 0<j:=by simp at h; omega
   simp [this]
  rintro t w7 ⟨rfl,rfl⟩
  have hd:=lShift_take (k:=k) hj'
  refine condK_i (λh=>?_) λh=>?_
  ·have h':0<j/\0<k:=by simpa using h
   rw [if_pos h'] at hd
   have e1:IntKind.i64.wrap ((j:Int) - 1)=((j - 1:Nat):Int):=by rw [wrap_i64 (by omega)]; omega
   rw [e1]
   simp only [ek64,Int.toNat_natCast]
   have hat:=fill5_at (ws:=(lShift k).take j) (x:=shlU64 (lLimbs.getD j 0) k) (by omega)
   rw [htl] at hat
   have hl7:Blk w7 l (us lLimbs) 645:=hl4.mod hm6 (by omega)
   refine ⟨λw'=>w'=w7.drew,rfl,⟨by omega,by omega⟩,⟨by omega,by omega⟩,_,λw' hw=>by rw [hw]; exact rda hmb6.drew hat,lLimbs.getD (j - 1) 0,λw' hw=>by rw [hw]; exact rda hl7.drew (lLimbs_at (by omega)),by omega,⟨by omega,by omega⟩,?_,trivial⟩
   refine semU_at (b:=m) (n:=j) (by kernel_rfl) (by kernel_rfl) rfl hmb6.drew (by rw [fill5_len (by simp; omega)]; omega) λw8 ht8 hmb8=>⟨⟨j+1,wrap_nat (by omega),by omega,?_,?_⟩,?_⟩
   ·have hq2:=fill5_put (ws:=(lShift k).take j) (x:=shlU64 (lLimbs.getD j 0) k) (y:=shlU64 (lLimbs.getD j 0) k ||| shrU64 (lLimbs.getD (j - 1) 0) (64 - k)) (by omega)
    rw [htl] at hq2
    rw [hq2,<-hd] at hmb8
    exact hmb8
   ·exact hm6.dr.tr ht8.mod
   ·rw [wrap_nat (by omega)]; (try simp only []); omega
  ·have h' : ¬ (0<j/\0<k):=by simpa using h
   rw [if_neg h'] at hd
   rw [<-hd] at hmb6
   refine ⟨⟨j+1,wrap_nat (by omega),by omega,hmb6,hm6⟩,?_⟩
   rw [wrap_nat (by omega)]; (try simp only []); omega
 ·have hj5:j=5:=by simp at hge; omega
  subst hj5
  rw [List.take_of_length_le (by rw [lShift_len]; omega),fill5_full (lShift_len k)] at hmb5
  have hM5:Mod NoB w w5:=hM4.fresh hm5 λx hx=>by omega
  have hr5:=hr.no hM5
  obtain ⟨n0,n1,n2,n3,n4,en⟩:=list5 hn
  obtain ⟨m0,m1,m2,m3,m4,em⟩:=list5 (lShift_len k)
  have hrd : ∀ w',Mod NoB w5 w'->Rd w' ((⟨rb,0,none⟩:Addr).add 0) [.int .u64 n0.toNat,.int .u64 n1.toNat,.int .u64 n2.toNat,.int .u64 n3.toNat,.int .u64 n4.toNat]:=λw' hm=>by
   rw [addl]; exact (hr5.no hm).rd (o:=0+0) (λj v hv=>by rw [en]; simp only [Nat.zero_add]; exact hv)
  refine ⟨λw'=>Mod NoB w5 w',Mod.drew _ _,n0,n1,n2,n3,n4,hrd,m0,m1,m2,m3,m4,λw' hm=>(hmb5.no hm).rd (o:=0) (λj v hv=>by rw [em]; simp only [Nat.zero_add]; exact hv),?_,trivial⟩
  refine callK_ret (c_less hn (lShift_len k) en em) ?_
  rintro v w9 ⟨rfl,hm9⟩
  have hm9':Mod NoB w5 w9:=(Mod.drew _ _).tr hm9
  have hM9:=hM5.tr hm9'
  rw [lShift_val (by omega)]
  refine ⟨_,rfl,condK_i (λh=>⟨rfl,n,hr5.no hm9',hn,?_,hM9.mono λ_ _ h=>h.elim⟩) λh=>?_⟩
  ·rw [if_pos (by simpa using h)]
  have hge : ¬ val64 n<LO*2 ^ k:=by simpa using h
  refine ⟨λl' w'=>match l' with | [.u64 b,.i _ x]=>∃ (j:Nat) (q:List UInt64),x=j/\j<=5/\q.length=j/\Blk w' rb (us (q++n.drop j)) T/\b.toNat<=1/\val64 (n.take j)+b.toNat*18446744073709551616 ^ j=val64 q+val64 ((lShift k).take j)/\Mod (λy=>y=rb) w9 w' | _=>False,
   λl' _=>match l' with | [.u64 _,.i _ x]=>(5 - x).toNat | _=>0,⟨0,[],rfl,by omega,rfl,by simpa using hr5.no hm9',by decide,by simp [val64],Mod.refl _ _⟩,?_⟩
  rintro b x w10 ⟨j,q,rfl,hj,hq,hr10,hb,hv,hm10⟩
  have hmb10:Blk w10 m (us (lShift k)) 645:=(hmb5.no hm9').mod hm10 (by omega)
  refine condK_i (λhlt=>?_) λhge'=>?_
  ·have hj':j<5:=by simp at hlt; omega
   simp only [Int.toNat_natCast]
   have ha:(us (q++n.drop j))[j]? = some (.int .u64 (n[j]'(by omega)).toNat):=by
    rw [us_app,List.getElem?_append_right (by simp [hq]),us_len,hq,Nat.sub_self,us_at (by simp; omega)]
    simp
   have hb':(us (lShift k))[j]? = some (.int .u64 ((lShift k)[j]'(by rw [lShift_len]; omega)).toNat):=us_at (by rw [lShift_len]; omega)
   obtain ⟨d,b',hrun,hs,hb1⟩:=run_Sub64 (x:=n[j]'(by omega)) (y:=(lShift k)[j]'(by rw [lShift_len]; omega)) hb w10.drew
   refine ⟨λw'=>w'=w10.drew,rfl,⟨by omega,by omega⟩,⟨by omega,by omega⟩,_,λw' hw=>by rw [hw]; exact rda0 hr10.drew ha,_,λw' hw=>by rw [hw]; exact rda hmb10.drew hb',⟨_,_,hrun,d,b',rfl,⟨by omega,by omega⟩,?_,trivial⟩,trivial⟩
   refine semU_at0 (b:=rb) (n:=j) (by kernel_rfl) (by kernel_rfl) rfl hr10.drew (by simp [hq]; omega) λw12 ht12 hr12=>⟨⟨j+1,q++[d],wrap_nat (by omega),by omega,by simp [hq],?_,hb1,sub_keep (by omega) (by rw [lShift_len]; omega) hq hv hs,hm10.dr.tr ht12.mod⟩,?_⟩
   ·have:(us (q++n.drop j)).set j (.int .u64 d.toNat)=us (q++[d]++n.drop (j+1)):=by
     rw [List.drop_eq_getElem_cons (by omega:j<n.length),us_app,us_app,us_app]
     have e:us (n[j]'(by omega) :: n.drop (j+1)) = .int .u64 (n[j]'(by omega)).toNat :: us (n.drop (j+1)):=rfl
     rw [e,set_mid (by simp [hq])]
     simp [us]
    rw [this] at hr12
    exact hr12
   ·rw [wrap_nat (by omega)]; (try simp only []); omega
  ·have hj5:j=5:=by simp at hge'; omega
   subst hj5
   rw [List.drop_of_length_le (by omega),List.append_nil] at hr10
   rw [List.take_of_length_le (by omega),List.take_of_length_le (by rw [lShift_len]; omega),<-hn] at hv
   refine ⟨rfl,q,hr10,hq,?_,hM9.no hm10⟩
   rw [if_neg hge,<-lShift_val (by omega)]
   exact sub_end (by rw [lShift_len,hn]) (by omega) hv (by rw [lShift_val (by omega)]; omega)
theorem times256_at {n:List UInt64} {c:UInt8} {i:Nat} (h0:0<i) (h:i<5):(times256 n c)[i]'(by rw [times256_len]; omega)=shlU64 (n.getD i 0) 8 ||| shrU64 (n.getD (i - 1) 0) 56:=by
 have:i≠0:=by omega
 simp [times256,this]
theorem getD_at {α:Type} {l:List α} {i:Nat} {d:α} (h:i<l.length):l[i]=l.getD i d:=by rw [List.getD,List.getElem?_eq_getElem h]; rfl
theorem c_add {w:World} {rb:Nat} {n:List UInt64} {T:TypeId} {c:UInt8} (hr:Blk w rb (us n) T) (hn:n.length=5) (hv:val64 n<LO) :
 Calls Tryz.prog 524 #[.pointer (some ⟨rb,0,none⟩),.int .u8 c.toNat] w (Ret λv w'=>v = .tuple #[]/\∃ n',Blk w' rb (us n') T/\n'.length=5/\val64 n'=(256*val64 n+c.toNat) % LO/\Mod (λx=>x=rb) w w'):=by
 refine call524 _ _ ?_
 unfold sh524
 have htl:=times256_len n c
 refine ⟨λl' w'=>match l' with | [.i _ x]=>∃ k:Nat,x=k/\k<=4/\Blk w' rb (us (n.take (k+1)++(times256 n c).drop (k+1))) T/\Mod (λy=>y=rb) w w' | _=>False,λl' _=>match l' with | [.i _ x]=>x.toNat | _=>0,
  ⟨4,rfl,by omega,by rw [List.take_of_length_le (by omega),List.drop_of_length_le (by omega),List.append_nil]; exact hr,Mod.refl _ _⟩,?_⟩
 rintro x w1 ⟨k,rfl,hk,hr1,hm1⟩
 have hlen:(us (n.take (k+1)++(times256 n c).drop (k+1))).length=5:=by simp [hn,htl]; omega
 have hat : ∀ i,i<k+1->(us (n.take (k+1)++(times256 n c).drop (k+1)))[i]? = some (.int .u64 (n.getD i 0).toNat):=λi hi=>by
  rw [us_app,List.getElem?_append_left (by simp; omega),us_getD (by simp; omega)]
  simp [List.getD,List.getElem?_take,hi]
 refine condK_i (λhgt=>?_) λhle=>?_
 ·have hk0:0<k:=by simp at hgt; omega
  have e1:IntKind.i64.wrap ((k:Int) - 1)=((k - 1:Nat):Int):=by rw [wrap_i64 (by omega)]; omega
  rw [e1]
  simp only [Int.toNat_natCast]
  refine ⟨λw'=>w'=w1.drew,rfl,⟨by omega,by omega⟩,⟨by omega,by omega⟩,n.getD k 0,λw' hw=>by rw [hw]; exact rda0 hr1.drew (hat k (by omega)),by omega,n.getD (k - 1) 0,λw' hw=>by rw [hw]; exact rda0 hr1.drew (hat (k - 1) (by omega)),by omega,⟨by omega,by omega⟩,?_,trivial⟩
  refine semU_at0 (b:=rb) (n:=k) (by kernel_rfl) (by kernel_rfl) rfl hr1.drew (by omega) λw2 ht2 hr2=>⟨⟨k - 1,rfl,by omega,?_,hm1.dr.tr ht2.mod⟩,by omega⟩
  have hr2':Blk w2 rb ((us (n.take (k+1)++(times256 n c).drop (k+1))).set k (.int .u64 (shlU64 (n.getD k 0) 8 ||| shrU64 (n.getD (k - 1) 0) 56).toNat)) T:=hr2
  rw [us_set,take_snoc (by omega:k<n.length),List.append_assoc,List.singleton_append,set_mid (by simp; omega),<-times256_at hk0 (by omega),<-List.drop_eq_getElem_cons (by omega:k<(times256 n c).length)] at hr2'
  rw [Nat.sub_add_cancel hk0]
  exact hr2'
 ·have hk0:k=0:=by simp at hle; omega
  subst hk0
  refine ⟨λw'=>w'=w1.drew,rfl,⟨by omega,by omega⟩,n.getD 0 0,λw' hw=>by rw [hw]; exact rda0 (n:=0) hr1.drew (hat 0 (by omega)),by omega,⟨by omega,by omega⟩,?_,trivial⟩
  refine semU_at0 (b:=rb) (n:=0) (by kernel_rfl) (by kernel_rfl) rfl hr1.drew (by omega) λw3 ht3 hr3=>?_
  have e2:(us (n.take (0+1)++(times256 n c).drop (0+1))).set 0 (.int .u64 (shlU64 (n.getD 0 0) 8 ||| c.toUInt64).toNat)=us (times256 n c):=by
   obtain ⟨a,b,d,g,f,rfl⟩:=list5 hn
   rfl
  have hr3:Blk w3 rb (us (times256 n c)) T:=e2 ▸ hr3
  have hM3:=hm1.dr.tr ht3.mod
  have hLO:LO*2 ^ 9<2 ^ 312:=by decide +kernel
  have hval:val64 (times256 n c)=256*val64 n+c.toNat:=times256_val hn (by omega)
  have hc:=c.toNat_lt
  refine ⟨λl' w'=>match l' with | [.i _ x]=>∃ (k:Nat) (n':List UInt64),x=(k:Int) - 1/\k<=9/\Blk w' rb (us n') T/\n'.length=5/\val64 n' % LO=(256*val64 n+c.toNat) % LO/\val64 n'<LO*2 ^ k/\Mod (λy=>y=rb) w w' | _=>False,λl' _=>match l' with | [.i _ x]=>(x+1).toNat | _=>0,
   ⟨9,times256 n c,rfl,by omega,hr3,htl,by rw [hval],by rw [hval]; omega,hM3⟩,?_⟩
  rintro x w4 ⟨k,n',rfl,hk,hr4,hn4,hv4,hb4,hm4⟩
  refine condK_i (λhge=>?_) λhlt=>?_
  ·have hk0:0<k:=by simp at hge; omega
   have e4:u64OfInt ((k:Int) - 1)=UInt64.ofNat (k - 1):=by rw [show ((k:Int) - 1)=((k - 1:Nat):Int) by omega,u64_nat]
   rw [e4]
   refine callK_ret (c_minus hr4 hn4 (by omega)) ?_
   rintro v w5 ⟨rfl,n5,hr5,hn5,hv5,hm5⟩
   have:=mod_step (k:=k - 1) hv4 (by rw [Nat.sub_add_cancel hk0]; exact hb4) hv5
   refine ⟨rfl,⟨k - 1,n5,by rw [wrap_i64 (by omega)]; omega,by omega,hr5,hn5,this.1,this.2,hm4.tr hm5⟩,?_⟩
   rw [wrap_i64 (by omega)]; (try simp only []); omega
  ·have hk0:k=0:=by simp at hlt; omega
   subst hk0
   refine ⟨rfl,n',hr4,hn4,?_,hm4⟩
   rw [<-hv4,Nat.mod_eq_of_lt (by simpa using hb4)]
theorem c_backFn {w:World} {s:Slc} : Calls Tryz.prog 523 #[.slice s.a s.len s.cap] w (Ret λv w'=>∃ p,v = .func (.func 631) #[] #[.pointer (some ⟨p,0,none⟩)]/\(∃ T,Blk w' p [s.val] T)/\w.heap.size<=p/\Mod NoB w w'):=by
 refine call523 _ ?_
 unfold sh523
 refine sem_box (l:=[s.val]) rfl λp w1 hN1 hb1=>⟨_,rfl,?_⟩
 have h1:=hN1.at_
 exact ⟨p,rfl,⟨_,hb1⟩,by omega,hN1.mod⟩
theorem c_back {w:World} {ll p:Nat} {s:Slc} {l:List UInt8} {I:Nat->World->Prop} (hl:l.length=s.len) (hn:l.length<=1000000000000000) (hp : ∃ T,Blk w p [s.val] T) (h0:I l.length w)
 (hI : ∀ k w1,k<l.length->I (k+1) w1->Rd w1 ⟨p,0,none⟩ [s.val]/\SlRd w1 s 1 (bys l)/\∀ h:k<l.length,yieldK Tryz.prog ll [.int .i64 k,.int .u8 l[k].toNat] w1 λv w2=>v = .bool true/\I k w2) :
 Calls Tryz.prog 631 #[.func (.yield ll) #[] #[],.pointer (some ⟨p,0,none⟩)] w (Ret λv w'=>v = .tuple #[]/\I 0 w'):=by
 refine call631 _ _ ?_
 unfold sh631
 obtain ⟨T,hp⟩:=hp
 refine ⟨s,hp.rd1 rfl,?_⟩
 refine ⟨λl' w'=>match l' with | [.i _ x]=>∃ k:Nat,x=(k:Int) - 1/\k<=l.length/\I k w' | _=>False,λl' _=>match l' with | [.i _ x]=>(x+1).toNat | _=>0,⟨l.length,by rw [wrap_i64 (by omega),hl],by omega,h0⟩,?_⟩
 rintro i w1 ⟨k,rfl,hk,hI1⟩
 refine condK_i (λhge=>?_) λhlt=>?_
 ·have hk0:0<k:=by simp at hge; omega
  obtain ⟨hr1,hr2,hy⟩:=hI (k - 1) w1 (by omega) (by rw [Nat.sub_add_cancel hk0]; exact hI1)
  obtain ⟨a,ea,hra⟩:=rd_u8 hr2 (i:=k - 1) (by omega)
  have e1:((k:Int) - 1)=((k - 1:Nat):Int):=by omega
  rw [e1]
  refine ⟨s,hr1,⟨by omega,by omega⟩,?_⟩
  rw [ea]
  refine ⟨_,hra,?_⟩
  show yieldK _ _ _ _ _
  obtain ⟨f,tmps,assign,body,g1,g2⟩:=hy (by omega)
  refine ⟨f,tmps,assign,body,g1,RoundIn.mono g2 λe w2 he=>?_⟩
  obtain ⟨v,rfl,rfl,hI2⟩:=he
  refine ⟨_,rfl,true,rfl,?_⟩
  refine condK_i (λe=>by cases e) λ_=>⟨⟨k - 1,by rw [wrap_i64 (by omega)],by omega,hI2⟩,?_⟩
  rw [wrap_i64 (by omega)]; (try simp only []); omega
 ·have:k=0:=by simp at hlt; omega
  subst this
  exact ⟨rfl,hI1⟩
theorem le_cons_drop {l:List UInt8} {k:Nat} (h:k<l.length):le (l.drop k)=l[k].toNat+256*le (l.drop (k+1)):=by
 rw [List.drop_eq_getElem_cons h]; rfl
theorem mod_snoc (a b m:Nat):(256*(a % m)+b) % m=(b+256*a) % m:=by
 rw [Nat.add_comm,Nat.add_mod,Nat.mul_mod,Nat.mod_mod,<-Nat.mul_mod,<-Nat.add_mod]
theorem c_reducedW {w:World} {s:Slc} {l:List UInt8} (hs:SlRd w s 1 (bys l)) (hsl : ∀ x,s.blk=some x->x<w.heap.size) (hn:l.length<=1000000000000000) :
 Calls Tryz.prog 363 #[.slice s.a s.len s.cap] w (Ret λv w'=>∃ x:Slc,v=x.val/\Row0 5 w' x (bys (redN (le l)))/\x.len=32/\x.cap=32/\FB w x/\Mod NoB w w'):=by
 refine call363 _ ?_
 unfold sh363
 obtain ⟨ir,hr1,hr2,hr3,hr4⟩:=iRest
 obtain ⟨i5',h51,h52,h53,h54⟩:=i5
 have hlen:=rd_len8 hs
 refine sem_alloc (l:=us [0,0,0,0,0]) hr1 hr2 (by simp [Value.cells]) λrb w1 hN1 hb1=>⟨_,rfl,?_⟩
 have a1:=hN1.at_; have a2:=hN1.size
 refine callK_ret c_backFn ?_
 rintro v w2 ⟨p,rfl,⟨T,hp⟩,hps,hm2⟩
 refine ⟨_,rfl,631,#[],#[.pointer (some ⟨p,0,none⟩)],rfl,by kernel_rfl,?_⟩
 rintro rec dd ll w3 hdd hll hw3 hY
 have hM3:Mod NoB w2 w3:=by rw [hw3]; exact (alloc_mod _ _).tr (alloc_mod _ _)
 have hsz3:w3.heap.size=ll+1:=by rw [hw3]; simp; omega
 have hld3:w3.heap[ll]? = some (rec .ready none):=by
  rw [hw3,hll,hdd]
  have:=heap_alloc_new (w2.alloc (.deferred (some []))) (rec .ready none)
  simpa using this
 have hdd3:w3.heap[dd]? = some (.deferred (some [])):=by
  rw [hw3,hdd,heap_alloc_old _ _ (by simp)]
  exact heap_alloc_new _ _
 have hpl:=hp.lt; have s2:=hm2.size
 have hMw3:Mod NoB w w3:=(hN1.mod.tr hm2).tr hM3
 have hrb3:Blk w3 rb (us [0,0,0,0,0]) 647:=(hb1.no hm2).no hM3
 let I:Nat->World->Prop:=λk w'=>w'.heap[ll]? = some (rec .ready none)/\∃ n,Blk w' rb (us n) 647/\n.length=5/\val64 n=le (l.drop k) % LO/\Mod (λx=>x=rb\/x=ll) w3 w'
 have hseq:=c_back (w:=w3) (ll:=ll) (p:=p) (s:=s) (l:=l) (I:=I) hlen hn ⟨T,hp.no hM3⟩
  ⟨hld3,[0,0,0,0,0],hrb3,rfl,by rw [List.drop_length]; rfl,Mod.refl _ _⟩ (by
   rintro k w4 hk ⟨hl4,n,hb4,hn4,hv4,hm4⟩
   refine ⟨((hp.no hM3).mod hm4 (by omega)).rd1 rfl,(hs.no hMw3).mod hm4 (λx hx e=>by have:=hsl x hx; omega),λhk'=>?_⟩
   refine hY _ _ w4 _ hl4 ⟨hl4,?_⟩
   have hll4:=lt_of_get hl4
   obtain ⟨hmp,hgp,hsp⟩:=put_mod (o:=rec .busy none) hll4
   have hrl:=hb4.lt
   refine callK_ret (c_add (c:=l[k]) (hb4.mod hmp (by omega)) hn4 (by rw [hv4]; exact Nat.mod_lt _ LO_pos)) ?_
   rintro v w5 ⟨rfl,n5,hb5,hn5,hv5,hm5⟩
   have hl5:w5.heap[ll]? = some (rec .busy none):=by rw [hm5.block ll (by omega) (by omega)]; exact hgp
   refine ⟨rfl,hl5,rfl,?_⟩
   have hll5:=lt_of_get hl5
   obtain ⟨hmq,hgq,hsq⟩:=put_mod (o:=rec .ready none) hll5
   refine ⟨hgq,n5,hb5.mod hmq (by omega),hn5,?_,?_⟩
   ·rw [hv5,hv4,mod_snoc,le_cons_drop hk]
   ·exact ((hm4.tr (hmp.mono λx _ e=>.inr e)).tr (hm5.mono λx _ e=>.inl e)).tr (hmq.mono λx _ e=>.inr e))
 refine callK_of hseq ?_ (λ_ _ h=>h.elim) (λ_ h=>h)
 rintro v w4 ⟨rfl,hl4,n,hb4,hn4,hv4,hm4⟩
 left
 refine ⟨hl4,?_⟩
 rw [List.drop_zero] at hv4
 have hll4:=lt_of_get hl4
 obtain ⟨hmp,hgp,hsp⟩:=put_mod (o:=rec .exhausted none) hll4
 have hb5:=hb4.mod hmp (show ¬ rb=ll by omega)
 have hM5:Mod NoB w (w4.putObj ll (rec .exhausted none)):=(hMw3.fresh hm4 λx e=>by omega).fresh hmp λx e=>by omega
 refine sem_makeSlice (l:=32) (c:=32) u26 h51 h52 h53 rfl h54 rfl rfl (by omega) (by omega) (by omega) λe w7 hN7 hbe hoe=>⟨⟨_,_,_⟩,rfl,?_⟩
 have b1:=hN7.at_; have b2:=hN7.size; have b3:=hM5.size
 have b4:dd<(w4.putObj ll (rec .exhausted none)).heap.size:=by omega
 have hdd5:(w4.putObj ll (rec .exhausted none)).heap[dd]? = some (.deferred (some [])):=by
  rw [hmp.block dd (by omega) (by omega),hm4.block dd (by omega) (by omega)]; exact hdd3
 rw [bys_rep] at hbe
 refine ⟨λl' w'=>match l' with | [.i _ x]=>∃ k:Nat,x=k/\k<=32/\Blk w' e (bys ((redN (le l)).take k++List.replicate (32 - k) 0)) 5/\Mod (λy=>y=e) w7 w' | _=>False,λl' _=>match l' with | [.i _ x]=>(32 - x).toNat | _=>0,
  ⟨0,rfl,by omega,by simpa using hbe,Mod.refl _ _⟩,?_⟩
 rintro x w8 ⟨k,rfl,hk,hB8,hm8⟩
 have hb8:Blk w8 rb (us n) 647:=(hb5.no hN7.mod).mod hm8 (by have:=hb5.lt; omega)
 refine condK_i (λhlt=>?_) λhge=>?_
 ·have hk':k<32:=by simp at hlt; omega
  have e1:IntKind.i64.wrap (Int.tdiv (k:Int) 8)=((k / 8:Nat):Int):=by
   rw [show Int.tdiv (k:Int) 8=((k / 8:Nat):Int) from rfl,wrap_i64 (by omega)]
  have e2:IntKind.i64.wrap (8*Int.tmod (k:Int) 8)=((8*(k % 8):Nat):Int):=by
   rw [show Int.tmod (k:Int) 8=((k % 8:Nat):Int) from rfl,wrap_i64 (by omega)]; omega
  rw [e1,e2]
  refine ⟨by omega,⟨by omega,by omega⟩,n.getD (k / 8) 0,rda0 hb8 (us_getD (by omega)),by omega,by omega,⟨by omega,by show (k:Int)<((32:Nat):Int); omega⟩,?_⟩
  simp only [Int.toNat_natCast]
  have hbyte:(shrU64 (n.getD (k / 8) 0) (8*(k % 8))).toUInt8=(redN (le l))[k]'(by simp; omega):=by
   rw [limb_byte (by omega),hv4]
   have:=leb_at 32 (le l % LO) k hk'
   rw [<-redN,List.getElem?_eq_getElem (by simp; omega)] at this
   exact (Option.some.inj this).symm
  rw [hbyte]
  show semU _ (storeVar _ ((⟨e,0,none⟩:Addr).add (k*1)) _) _ _
  rw [addl,Nat.zero_add,Nat.mul_one]
  refine semU_store1 (by kernel_rfl) (by kernel_rfl) rfl hB8 (by simp; omega) λw9 ht9 hB9=>⟨⟨k+1,wrap_nat (by omega),by omega,?_,hm8.tr ht9.mod⟩,?_⟩
  ·rw [bys_set,fill_set (by simp; omega) hk'] at hB9
   exact hB9
  ·rw [wrap_nat (by omega)]; (try simp only []); omega
 ·have hk':k=32:=by simp at hge; omega
  subst hk'
  rw [List.take_of_length_le (by simp),Nat.sub_self,List.replicate_zero,List.append_nil] at hB8
  have hdd8:w8.heap[dd]? = some (.deferred (some [])):=by rw [hm8.block dd (by omega) (by omega),hN7.mod.block dd b4 (λh=>h)]; exact hdd5
  have hddl:=lt_of_get hdd8
  obtain ⟨hmd,-,-⟩:=put_mod (w:=w8) (o:=.deferred none) hddl
  have hM8:Mod NoB w w8:=(hM5.tr hN7.mod).fresh hm8 λx hx=>by omega
  refine ⟨hdd8,⟨some ⟨e,0,none⟩,32,32⟩,rfl,Or.inr ⟨e,32,32,_,rfl,by omega,hB8.mod hmd (by omega),by simp,List.take_of_length_le (by simp),Nat.le_refl _⟩,rfl,rfl,FB.new (by omega),hM8.fresh hmd λx hx=>by omega⟩
theorem c_reduced {w:World} {s:Slc} {l:List UInt8} (hs:SlRd w s 1 (bys l)) (hsl : ∀ x,s.blk=some x->x<w.heap.size) (hn:l.length<=1000000000000000) :
 Calls Tryz.prog 363 #[.slice s.a s.len s.cap] w (Ret λv w'=>∃ x:Slc,v=x.val/\Sh.Own w' x 1 (bys (redN (le l)))/\x.len=32/\x.cap=32/\FB w x/\Mod NoB w w'):=
 Calls.mono (c_reducedW hs hsl hn) λe w' h=>by
  cases e <;> first | exact h.elim | (obtain ⟨x,h1,h2,h3⟩:=h; exact ⟨x,h1,h2.own,h3⟩)
def redT (l:List UInt8):List UInt8:=if l.length > 64 then [] else redN (le l)
theorem c_reduce {w:World} {s:Slc} {l:List UInt8} (hs:SlRd w s 1 (bys l)) (hsl : ∀ x,s.blk=some x->x<w.heap.size) :
 Calls Tryz.prog 359 #[.slice s.a s.len s.cap] w (Ret λv w'=>∃ x:Slc,v=x.val/\Sh.Own w' x 1 (bys (redT l))/\x.cap=x.len/\FB w x/\Mod NoB w w'):=by
 refine call359 _ ?_
 unfold sh359
 have hlen:=rd_len8 hs
 refine condK_i (λh=>?_) λh=>?_
 ·have:l.length > 64:=by simp at h; omega
  exact ⟨⟨none,0,0⟩,rfl,by rw [redT,if_pos this]; exact own_nil _ _,rfl,FB.nil _,Mod.refl _ _⟩
 ·have h' : ¬ l.length > 64:=by simp at h; omega
  refine callK_ret (c_reduced hs hsl (by omega)) ?_
  rintro v w1 ⟨x,rfl,ho,hl,hc,hf,hm⟩
  exact ⟨x,rfl,x,rfl,by rw [redT,if_neg h']; exact ho,by omega,hf,hm⟩
theorem c_reduceW {w:World} {s:Slc} {l:List UInt8} (hs:SlRd w s 1 (bys l)) (hsl : ∀ x,s.blk=some x->x<w.heap.size) :
 Calls Tryz.prog 359 #[.slice s.a s.len s.cap] w (Ret λv w'=>∃ x:Slc,v=x.val/\Row0 5 w' x (bys (redT l))/\FB w x/\Mod NoB w w'):=by
 refine call359 _ ?_
 unfold sh359
 have hlen:=rd_len8 hs
 refine condK_i (λh=>?_) λh=>?_
 ·have:l.length > 64:=by simp at h; omega
  exact ⟨⟨none,0,0⟩,rfl,by rw [redT,if_pos this]; exact .inl ⟨rfl,rfl⟩,FB.nil _,Mod.refl _ _⟩
 ·have h' : ¬ l.length > 64:=by simp at h; omega
  refine callK_ret (c_reducedW hs hsl (by omega)) ?_
  rintro v w1 ⟨x,rfl,ho,hl,hc,hf,hm⟩
  exact ⟨x,rfl,x,rfl,by rw [redT,if_neg h']; exact ho,hf,hm⟩
theorem c_equal {w:World} {a b:Slc} {l m:List UInt8} (ha:SlRd w a 1 (bys l)) (hb:SlRd w b 1 (bys m)) (hn:l.length<=9000000000000000000) :
 Calls Tryz.prog 437 #[.slice a.a a.len a.cap,.slice b.a b.len b.cap] w (Ret λv w'=>v = .bool (decide (l=m))/\Mod NoB w w'):=by
 refine call437 _ _ ?_
 unfold sh437
 have hla:=rd_len8 ha; have hlb:=rd_len8 hb
 refine condK_i (λh=>⟨?_,Mod.refl _ _⟩) (λh=>?_)
 ·have:l≠m:=by rintro rfl; simp at h; omega
  simp [this]
 ·have hlen:l.length=m.length:=by simp at h; omega
  refine ⟨λl' w'=>match l' with | [.i _ x]=>∃ k:Nat,x=k/\k<=l.length/\l.take k=m.take k/\Mod NoB w w' | _=>False,λl' _=>match l' with | [.i _ x]=>(l.length - x).toNat | _=>0,⟨0,rfl,by omega,rfl,Mod.refl _ _⟩,?_⟩
  rintro x w1 ⟨k,rfl,hk,hkk,hm1⟩
  refine condK_i (λh=>?_) (λh=>?_)
  ·have hk':k<l.length:=by simp at h; omega
   obtain ⟨a1,ea,hra⟩:=rd_u8 ha hk'
   obtain ⟨a2,eb,hrb⟩:=rd_u8 hb (i:=k) (by omega)
   rw [ea,eb]
   refine ⟨⟨by omega,by omega⟩,⟨by omega,by omega⟩,_,Rd.drew (hra.mod hm1 λh=>h),_,Rd.drew (hrb.mod hm1 λh=>h),condK_i (λhne=>⟨?_,Mod.dr hm1⟩) (λhne=>⟨⟨k+1,wrap_nat (by omega),by omega,?_,Mod.dr hm1⟩,?_⟩)⟩
   ·have:l≠m:=by rintro rfl; simp at hne
    simp [this]
   ·have:l[k]=m[k]'(by omega):=by simpa using hne
    rw [take_snoc hk',take_snoc (by omega),hkk,this]
   ·rw [wrap_nat (by omega)]; (try simp only []); omega
  ·have hk':k=l.length:=by simp at h; omega
   rw [hk',List.take_length,hlen,List.take_length] at hkk
   exact ⟨by simp [hkk],hm1⟩
theorem c_right {w:World} {s:Slc} {l:List UInt8} (hs:SlRd w s 1 (bys l)) (hsl : ∀ x,s.blk=some x->x<w.heap.size) :
 Calls Tryz.prog 591 #[.slice s.a s.len s.cap] w (Ret λv w'=>v = .bool (decide (l.length=32/\le l<LO))/\Mod NoB w w'):=by
 refine call591 _ ?_
 unfold sh591
 have hlen:=rd_len8 hs
 refine condK_i (λh=>?_) λh=>?_
 ·have h32:l.length=32:=by simp at h; omega
  refine callK_ret (c_reduced hs hsl (by omega)) ?_
  rintro v w1 ⟨x,rfl,ho,hl,hc,hf,hm⟩
  refine ⟨x,rfl,callK_ret (c_equal ho.rd (hs.no hm) (by simp)) ?_⟩
  rintro v w2 ⟨rfl,hm2⟩
  refine ⟨_,rfl,?_,hm.tr hm2⟩
  congr 1
  rw [decide_eq_decide,redN_le l h32]
  exact ⟨λh=>⟨h32,h⟩,λh=>h.2⟩
 ·have h32:l.length≠32:=by intro e; simp at h; omega
  exact ⟨by simp [h32],Mod.refl _ _⟩
end Go.Proofs.YtmgcoepbccgjfaaGreatDoor
end
section
namespace Go.Sh
open Go
theorem le_take_succ {l:List UInt8} {k:Nat} (h:k<l.length):le (l.take (k+1))=le (l.take k)+256 ^ k*l[k].toNat:=by
 rw [List.take_succ_eq_append_getElem h,le_append,List.length_take,Nat.min_eq_left (by omega)]
 simp [le]
theorem val256_take_succ {l:List UInt64} {k:Nat} (h:k<l.length):val256 (l.take (k+1))=val256 (l.take k)+256 ^ k*l[k].toNat:=by
 rw [List.take_succ_eq_append_getElem h,val256_append,List.length_take,Nat.min_eq_left (by omega)]
 simp [val256]
theorem val256_add {t:List UInt64} {k d:Nat} {x:UInt64} (h:k<t.length) (hx:x.toNat=(t.getD k 0).toNat+d):val256 (t.set k x)=val256 t+256 ^ k*d:=by
 have:=val256_set t k x h
 rw [hx,Nat.mul_add] at this
 omega
theorem u64_add_small {x:UInt64} {y:UInt64} (h:x.toNat+y.toNat<18446744073709551616):(x+y).toNat=x.toNat+y.toNat:=by
 rw [UInt64.toNat_add]; exact Nat.mod_eq_of_lt h
theorem u8_mul (x y:UInt8):(x.toUInt64*y.toUInt64).toNat=x.toNat*y.toNat:=by
 have hx:=x.toNat_lt; have hy:=y.toNat_lt
 have:x.toNat*y.toNat<=255*255:=Nat.mul_le_mul (by omega) (by omega)
 rw [UInt64.toNat_mul]
 simp only [UInt8.toNat_toUInt64]
 exact Nat.mod_eq_of_lt (by omega)
structure Words (t:List UInt64) (i k:Nat) (la lb lc:List UInt8):Prop where
 len:t.length=66
 val:val256 t=le (lc.take i)+le (la.take i)*le lb+256 ^ i*((lc.getD i 0).toNat+(la.getD i 0).toNat*le (lb.take k))
 bound : ∀ j,(t.getD j 0).toNat<=if j<i+k then (i+1)*65280 else i*65280+255
structure Words0 (t:List UInt64) (i:Nat) (la lb lc:List UInt8):Prop where
 len:t.length=66
 val:val256 t=le (lc.take i)+le (la.take i)*le lb
 bound : ∀ j,(t.getD j 0).toNat<=i*65280
theorem getD_zeros (n j:Nat):(List.replicate n (0:UInt64)).getD j 0=0:=by
 rw [List.getD,List.getElem?_replicate]; split <;> rfl
theorem words0_start (la lb lc:List UInt8):Words0 (List.replicate 66 0) 0 la lb lc:=
 ⟨by simp,by rw [val256_zeros]; simp [le],λj=>by rw [getD_zeros]; exact Nat.zero_le _⟩
theorem getD_set_same {t:List UInt64} {k:Nat} {x:UInt64} (h:k<t.length):(t.set k x).getD k 0=x:=by simp [List.getD,h]
theorem getD_set_other {t:List UInt64} {k j:Nat} {x:UInt64} (h:k≠j):(t.set k x).getD j 0=t.getD j 0:=by simp [List.getD,List.getElem?_set_ne h]
theorem words_c {t:List UInt64} {i:Nat} {la lb lc:List UInt8} (h:Words0 t i la lb lc) (hi:i<32):Words (t.set i (t.getD i 0+(lc.getD i 0).toUInt64)) i 0 la lb lc:=by
 have hb:=h.bound i
 have hc:=(lc.getD i 0).toNat_lt
 have hx:(t.getD i 0+(lc.getD i 0).toUInt64).toNat=(t.getD i 0).toNat+(lc.getD i 0).toNat:=by
  rw [u64_add_small (by simp only [UInt8.toNat_toUInt64]; omega),UInt8.toNat_toUInt64]
 have hlen:=h.len
 refine ⟨by rw [List.length_set]; exact hlen,?_,λj=>?_⟩
 ·rw [val256_add (by omega) hx,h.val,List.take_zero]; simp only [le,Nat.mul_zero,Nat.add_zero]
 ·by_cases hj:i=j
  ·subst hj
   rw [getD_set_same (by omega),hx,if_neg (by omega)]; omega
  ·rw [getD_set_other hj]
   have:=h.bound j
   split
   ·exact Nat.le_trans this (Nat.mul_le_mul_right _ (Nat.le_succ i))
   ·exact Nat.le_trans this (Nat.le_add_right _ _)
theorem words_ab {t:List UInt64} {i k:Nat} {la lb lc:List UInt8} (h:Words t i k la lb lc) (hi:i<32) (hk:k<32) (hlb:lb.length=32) :
 Words (t.set (i+k) (t.getD (i+k) 0+(la.getD i 0).toUInt64*(lb.getD k 0).toUInt64)) i (k+1) la lb lc:=by
 have hb:=h.bound (i+k)
 rw [if_neg (by omega)] at hb
 have hm:(la.getD i 0).toNat*(lb.getD k 0).toNat<=255*255:=Nat.mul_le_mul (by have:=(la.getD i 0).toNat_lt; omega) (by have:=(lb.getD k 0).toNat_lt; omega)
 have hx:(t.getD (i+k) 0+(la.getD i 0).toUInt64*(lb.getD k 0).toUInt64).toNat=(t.getD (i+k) 0).toNat+(la.getD i 0).toNat*(lb.getD k 0).toNat:=by
  rw [u64_add_small (by rw [u8_mul]; omega),u8_mul]
 have hlen:=h.len
 refine ⟨by rw [List.length_set]; exact hlen,?_,λj=>?_⟩
 ·rw [val256_add (by omega) hx,h.val,le_take_succ (by omega)]
  have e:lb[k]'(by omega)=lb.getD k 0:=by rw [List.getD,List.getElem?_eq_getElem (by omega)]; rfl
  rw [e,Nat.pow_add,Nat.mul_add,Nat.mul_add,Nat.mul_add]
  have e2:256 ^ i*256 ^ k*((la.getD i 0).toNat*(lb.getD k 0).toNat)=256 ^ i*((la.getD i 0).toNat*(256 ^ k*(lb.getD k 0).toNat)):=by
   rw [Nat.mul_assoc]; congr 1; rw [<-Nat.mul_assoc,Nat.mul_comm (256 ^ k),Nat.mul_assoc]
  rw [e2,Nat.mul_add]
  omega
 ·by_cases hj:i+k=j
  ·subst hj
   rw [getD_set_same (by omega),hx,if_pos (by omega)]; omega
  ·rw [getD_set_other hj]
   have:=h.bound j
   by_cases h1:j<i+k
   ·rw [if_pos h1] at this; rw [if_pos (by omega)]; exact this
   ·rw [if_neg h1] at this; rw [if_neg (by omega)]; exact this
theorem words_row {t:List UInt64} {i:Nat} {la lb lc:List UInt8} (h:Words t i 32 la lb lc) (hi:i<32) (hla:la.length=32) (hlb:lb.length=32) (hlc:lc.length=32):Words0 t (i+1) la lb lc:=by
 refine ⟨h.len,?_,λj=>?_⟩
 ·have e1:la[i]'(by omega)=la.getD i 0:=by rw [List.getD,List.getElem?_eq_getElem (by omega)]; rfl
  have e2:lc[i]'(by omega)=lc.getD i 0:=by rw [List.getD,List.getElem?_eq_getElem (by omega)]; rfl
  rw [h.val,le_take_succ (l:=lc) (k:=i) (by omega),le_take_succ (l:=la) (k:=i) (by omega),e1,e2,List.take_of_length_le (l:=lb) (by omega),Nat.add_mul,Nat.mul_add,Nat.mul_assoc]
  omega
 ·have:=h.bound j
  split at this <;> omega
theorem carry_step {t:List UInt64} {k:Nat} {ob:List UInt8} {c:UInt64} (hk:k<t.length) (ho:ob.length=k) (hv:le ob+256 ^ k*c.toNat=val256 (t.take k)) (hc:c.toNat<=4194304) (hb:(t.getD k 0).toNat<=4194304) :
 le (ob++[(c+t.getD k 0).toUInt8])+256 ^ (k+1)*(shrU64 (c+t.getD k 0) 8).toNat=val256 (t.take (k+1))/\(shrU64 (c+t.getD k 0) 8).toNat<=4194304:=by
 have e1:(c+t.getD k 0).toNat=c.toNat+(t.getD k 0).toNat:=u64_add_small (by omega)
 have e2:(shrU64 (c+t.getD k 0) 8).toNat=(c.toNat+(t.getD k 0).toNat) / 256:=by
  have:shrU64 (c+t.getD k 0) 8=(c+t.getD k 0) >>> 8:=rfl
  rw [this,UInt64.toNat_shiftRight,e1,Nat.shiftRight_eq_div_pow]; rfl
 have e3:(c+t.getD k 0).toUInt8.toNat=(c.toNat+(t.getD k 0).toNat) % 256:=by rw [UInt64.toNat_toUInt8,e1]
 have e4:t[k]=t.getD k 0:=by rw [List.getD,List.getElem?_eq_getElem hk]; rfl
 refine ⟨?_,by omega⟩
 rw [le_append,val256_take_succ hk,e4,ho,<-hv,e2]
 simp only [le,e3,Nat.mul_zero,Nat.add_zero,Nat.pow_succ,Nat.mul_assoc]
 have h:=Nat.mod_add_div (c.toNat+(t.getD k 0).toNat) 256
 have h2:=congrArg (256 ^ k * ·) h
 simp only [Nat.mul_add] at h2
 omega
theorem carry_end {t:List UInt64} {ob:List UInt8} {c:UInt64} {la lb lc:List UInt8} (h:Words0 t 32 la lb lc) (hla:la.length=32) (hlb:lb.length=32) (hlc:lc.length=32) (ho:ob.length=66) (hv:le ob+256 ^ 66*c.toNat=val256 t):le ob=le la*le lb+le lc:=by
 have h1:=h.val
 rw [List.take_of_length_le (by omega),List.take_of_length_le (by omega)] at h1
 have a1:=le_lt la; have a2:=le_lt lb; have a3:=le_lt lc
 rw [hla] at a1; rw [hlb] at a2; rw [hlc] at a3
 have h2:le la*le lb<256 ^ 32*256 ^ 32:=Nat.mul_lt_mul'' a1 a2
 have h3:(256:Nat) ^ 66=65536*(256 ^ 32*256 ^ 32):=by decide +kernel
 have h4:(256:Nat) ^ 32<=256 ^ 32*256 ^ 32:=by decide +kernel
 rw [h3] at hv
 generalize (256:Nat) ^ 32*256 ^ 32=Q at *
 rcases Nat.eq_zero_or_pos c.toNat with e | e
 ·rw [e] at hv; omega
 ·have h5:65536*Q<=65536*Q*c.toNat:=Nat.le_mul_of_pos_right _ e
  omega
def bitOf (l:List UInt8) (i:Nat):Bool:=(shrU8 (l.getD (i / 8) 0) (i % 8) &&& 1)==1
def bitsT (l:List UInt8):List Bool:=if l.length=32 then (List.range 256).map (bitOf l) else []
def mulT (a b c:List UInt8):List UInt8:=if a.length=32/\b.length=32/\c.length=32 then redN (le a*le b+le c) else []
end Go.Sh
end
section
namespace Go.Proofs.YtmgcoepbccgjfaaGreatDoor
open Go Go.Sh
theorem c_scalars {w:World} {x:Slc} {ss:List Slc} (hx:SlRd w x 1 (ss.map Slc.val)) (hn:ss.length<=1000000000) :
 Calls Tryz.prog 362 #[.slice x.a x.len x.cap] w (Ret λv w'=>v = .bool (ss.all λs=>s.len==32)/\w'=w):=by
 have hlen:ss.length=x.len:=by have:=hx.1; simp at this; omega
 refine call362 _ ?_
 unfold sh362
 have idx:Calls Tryz.prog 110 #[.slice x.a x.len x.cap,.func (.func 522) #[] #[]] w (Ret λv w'=>∃ n:Int,v = .int .i64 n/\decide (n>=0) = !(ss.all λs=>s.len==32)/\w'=w):=by
  refine call110 _ _ ?_
  unfold sh110
  refine ⟨λl' w'=>match l' with | [.i _ y]=>∃ k:Nat,y=k/\k<=ss.length/\(ss.take k).all (λs=>s.len==32)=true/\w'=w | _=>False,λl' _=>match l' with | [.i _ y]=>(ss.length - y).toNat | _=>0,⟨0,rfl,by omega,rfl,rfl⟩,?_⟩
  rintro y w1 ⟨k,rfl,hk,hall,rfl⟩
  refine condK_i (λhlt=>?_) λhge=>?_
  ·have hk':k<ss.length:=by simp at hlt; omega
   obtain ⟨a,ea,hra⟩:=rd_slc hx hk'
   rw [ea]
   refine ⟨⟨by omega,by omega⟩,_,hra,?_⟩
   refine callFV_of (by kernel_rfl) ?_
   refine callK_ret (Q:=λv w'=>v = .bool ((ss[k].len:Int) != 32)/\w'=w1) (call522 _ ⟨rfl,rfl⟩) ?_
   rintro v w2 ⟨rfl,rfl⟩
   refine ⟨_,rfl,condK_i (λh=>⟨_,rfl,?_,rfl⟩) λh=>⟨⟨k+1,wrap_nat (by omega),by omega,?_,rfl⟩,?_⟩⟩
   ·have hne : ¬ ss[k].len=32:=by simp at h; omega
    have:ss.all (λs=>s.len==32)=false:=by
     rw [List.all_eq_false]
     exact ⟨ss[k],List.getElem_mem hk',by simpa using hne⟩
    rw [this]; simp
   ·rw [take_snoc hk',List.all_append,hall]
    have:ss[k].len=32:=by simp at h; omega
    simp [this]
   ·rw [wrap_nat (by omega)]; (try simp only []); omega
  ·have:k=ss.length:=by simp at hge; omega
   subst this
   rw [List.take_length] at hall
   exact ⟨-1,rfl,by rw [hall]; rfl,rfl⟩
 refine callK_ret (Q:=λv w'=>v = .bool (!(ss.all λs=>s.len==32))/\w'=w) ?_ ?_
 ·refine call69 _ _ ?_
  unfold sh69
  refine callK_ret idx ?_
  rintro v w1 ⟨n,rfl,h,rfl⟩
  exact ⟨_,rfl,by rw [h],rfl⟩
 ·rintro v w1 ⟨rfl,rfl⟩
  exact ⟨_,rfl,by simp,rfl⟩
theorem c_mulAdd {w:World} {a b c:Slc} {la lb lc:List UInt8} (ha:SlRd w a 1 (bys la)) (hal : ∀ x,a.blk=some x->x<w.heap.size) (hb:SlRd w b 1 (bys lb)) (hbl : ∀ x,b.blk=some x->x<w.heap.size) (hc:SlRd w c 1 (bys lc)) (hcl : ∀ x,c.blk=some x->x<w.heap.size) :
 Calls Tryz.prog 250 #[.slice a.a a.len a.cap,.slice b.a b.len b.cap,.slice c.a c.len c.cap] w (Ret λv w'=>∃ x:Slc,v=x.val/\Sh.Own w' x 1 (bys (mulT la lb lc))/\x.cap=x.len/\FB w x/\Mod NoB w w'):=by
 refine call250 _ _ _ ?_
 unfold sh250
 obtain ⟨i5',h51,h52,h53,h54⟩:=i5
 obtain ⟨i44',h441,h442,h443,h444⟩:=i44
 have hna:=rd_len8 ha; have hnb:=rd_len8 hb; have hnc:=rd_len8 hc
 refine sem_rows [a,b,c] (by rfl) rfl (by decide) (by decide) λx e w1 hN1 hx hbx hox=>⟨x,rfl,?_⟩
 refine callK_ret (c_scalars hox.rd (by simp)) ?_
 rintro v w2 ⟨rfl,rfl⟩
 refine ⟨_,rfl,condK_i (λh=>?_) λh=>?_⟩
 ·have : ¬ (la.length=32/\lb.length=32/\lc.length=32):=by
   rintro ⟨h1,h2,h3⟩
   have e1:a.len=32:=by omega
   have e2:b.len=32:=by omega
   have e3:c.len=32:=by omega
   simp [e1,e2,e3] at h
  exact ⟨⟨none,0,0⟩,rfl,by rw [mulT,if_neg this]; exact own_nil _ _,rfl,FB.nil _,hN1.mod⟩
 have h32:la.length=32/\lb.length=32/\lc.length=32:=by
  simp at h; omega
 obtain ⟨ha32,hb32,hc32⟩:=h32
 have hM1:=hN1.mod
 refine sem_makeSlice (l:=66) (c:=66) u40 h441 h442 h443 rfl h444 rfl rfl (by omega) (by omega) (by omega) λt w3 hN3 hbt hot=>⟨⟨_,_,_⟩,rfl,?_⟩
 have a1:=hN1.at_; have a2:=hN1.size; have a3:=hN3.at_; have a4:=hN3.size
 have hM3:=hM1.tr hN3.mod
 have hzero:List.replicate 66 z64=us (List.replicate 66 0):=by simp [us,z64]
 rw [hzero] at hbt
 have hra : ∀ w',Mod (λy=>y=t) w3 w'->SlRd w' a 1 (bys la):=λw' hm=>(ha.no hM3).mod hm λx hx e=>by have:=hal x hx; omega
 have hrb : ∀ w',Mod (λy=>y=t) w3 w'->SlRd w' b 1 (bys lb):=λw' hm=>(hb.no hM3).mod hm λx hx e=>by have:=hbl x hx; omega
 have hrc : ∀ w',Mod (λy=>y=t) w3 w'->SlRd w' c 1 (bys lc):=λw' hm=>(hc.no hM3).mod hm λx hx e=>by have:=hcl x hx; omega
 refine ⟨λl' w'=>match l' with | [.i _ x]=>∃ (i:Nat) (tl:List UInt64),x=i/\i<=32/\Blk w' t (us tl) 304/\Words0 tl i la lb lc/\Mod (λy=>y=t) w3 w' | _=>False,λl' _=>match l' with | [.i _ x]=>(32 - x).toNat | _=>0,
  ⟨0,_,rfl,by omega,hbt,words0_start la lb lc,Mod.refl _ _⟩,?_⟩
 rintro x1 w4 ⟨i,tl,rfl,hi,hb4,hw4,hm4⟩
 have htl:=hw4.len
 refine condK_i (λhlt=>?_) λhge=>?_
 ·have hi':i<32:=by simp at hlt; omega
  simp only [Int.toNat_natCast]
  obtain ⟨ac,eac,hrac⟩:=rd_u8 ((hrc w4 hm4).drew) (i:=i) (by omega)
  rw [getD_at (d:=0) (by omega:i<lc.length)] at hrac
  rw [eac]
  refine ⟨λw'=>w'=w4.drew,rfl,⟨by omega,by show (i:Int)<((66:Nat):Int); omega⟩,⟨by omega,by omega⟩,tl.getD i 0,λw' hw=>by rw [hw]; exact rda hb4.drew (us_getD (by omega)),_,λw' hw=>by rw [hw]; exact hrac,⟨by omega,by show (i:Int)<((66:Nat):Int); omega⟩,?_,trivial⟩
  refine semU_at (b:=t) (n:=i) (by kernel_rfl) (by kernel_rfl) rfl hb4.drew (by simp; omega) λw5 ht5 hb5=>?_
  rw [us_set] at hb5
  have hw5:=words_c hw4 hi'
  have hm5:=hm4.dr.tr ht5.mod
  refine ⟨λl' w'=>match l' with | [.i _ x]=>∃ (k:Nat) (tl:List UInt64),x=k/\k<=32/\Blk w' t (us tl) 304/\Words tl i k la lb lc/\Mod (λy=>y=t) w3 w' | _=>False,λl' _=>match l' with | [.i _ x]=>(32 - x).toNat | _=>0,
   ⟨0,_,rfl,by omega,hb5,hw5,hm5⟩,?_⟩
  rintro x2 w6 ⟨k,tk,rfl,hk,hb6,hw6,hm6⟩
  have htk:=hw6.len
  refine condK_i (λhlt2=>?_) λhge2=>?_
  ·have hk':k<32:=by simp at hlt2; omega
   have e1:IntKind.i64.wrap ((i:Int)+(k:Int))=((i+k:Nat):Int):=by rw [wrap_i64 (by omega)]; omega
   rw [e1]
   simp only [Int.toNat_natCast]
   obtain ⟨aa,eaa,hraa⟩:=rd_u8 ((hra w6 hm6).drew) (i:=i) (by omega)
   obtain ⟨ab,eab,hrab⟩:=rd_u8 ((hrb w6 hm6).drew) (i:=k) (by omega)
   rw [getD_at (d:=0) (by omega:i<la.length)] at hraa
   rw [getD_at (d:=0) (by omega:k<lb.length)] at hrab
   rw [eaa,eab]
   refine ⟨λw'=>w'=w6.drew,rfl,⟨by omega,by show ((i+k:Nat):Int)<((66:Nat):Int); omega⟩,⟨by omega,by omega⟩,⟨by omega,by omega⟩,tk.getD (i+k) 0,λw' hw=>by rw [hw]; exact rda hb6.drew (us_getD (by omega)),_,λw' hw=>by rw [hw]; exact hraa,_,λw' hw=>by rw [hw]; exact hrab,⟨by omega,by show ((i+k:Nat):Int)<((66:Nat):Int); omega⟩,?_,trivial⟩
   refine semU_at (b:=t) (n:=i+k) (by kernel_rfl) (by kernel_rfl) rfl hb6.drew (by simp; omega) λw7 ht7 hb7=>?_
   rw [us_set] at hb7
   refine ⟨⟨k+1,_,wrap_nat (by omega),by omega,hb7,words_ab hw6 hi' hk' hb32,hm6.dr.tr ht7.mod⟩,?_⟩
   rw [wrap_nat (by omega)]; (try simp only []); omega
  ·have hk':k=32:=by simp at hge2; omega
   subst hk'
   refine ⟨⟨i+1,tk,wrap_nat (by omega),by omega,hb6,words_row hw6 hi' ha32 hb32 hc32,hm6⟩,?_⟩
   rw [wrap_nat (by omega)]; (try simp only []); omega
 ·have hi':i=32:=by simp at hge; omega
  subst hi'
  have hM4:Mod NoB w w4:=hM3.fresh hm4 λx hx=>by omega
  have hs4:=hm4.size
  refine sem_makeSlice (l:=66) (c:=66) u26 h51 h52 h53 rfl h54 rfl rfl (by omega) (by omega) (by omega) λo w8 hN8 hbo hoo=>⟨⟨_,_,_⟩,rfl,?_⟩
  have b1:=hN8.at_; have b2:=hN8.size
  have hb8:=hb4.no hN8.mod
  rw [bys_rep] at hbo
  refine ⟨λl' w'=>match l' with | [.u64 cy,.i _ x]=>∃ (k:Nat) (ob:List UInt8),x=k/\k<=66/\ob.length=k/\Blk w' o (bys (ob++List.replicate (66 - k) 0)) 5/\le ob+256 ^ k*cy.toNat=val256 (tl.take k)/\cy.toNat<=4194304/\Mod (λy=>y=o) w8 w' | _=>False,λl' _=>match l' with | [.u64 _,.i _ x]=>(66 - x).toNat | _=>0,
   ⟨0,[],rfl,by omega,rfl,by simpa using hbo,by simp [le,val256],by decide,Mod.refl _ _⟩,?_⟩
  rintro cy x3 w9 ⟨k,ob,rfl,hk,hob,hb9,hv9,hc9,hm9⟩
  have hb9t:Blk w9 t (us tl) 304:=hb8.mod hm9 (by have:=hb4.lt; omega)
  refine condK_i (λhlt=>?_) λhge=>?_
  ·have hk':k<66:=by have h:(k:Int)<((66:Nat):Int):=by simpa using hlt
                     omega
   simp only [Int.toNat_natCast]
   refine ⟨⟨by omega,by show (k:Int)<((66:Nat):Int); omega⟩,tl.getD k 0,rda hb9t (us_getD (by omega)),⟨by omega,by show (k:Int)<((66:Nat):Int); omega⟩,?_⟩
   refine semU_at (b:=o) (n:=k) (by kernel_rfl) (by kernel_rfl) rfl hb9 (by simp [hob]; omega) λw10 ht10 hb10=>?_
   rw [bys_set] at hb10
   have hbd:=hw4.bound k
   have hst:=carry_step (t:=tl) (k:=k) (by omega) hob hv9 hc9 (by omega)
   have e2:(ob++List.replicate (66 - k) 0).set k (cy+tl.getD k 0).toUInt8=(ob++[(cy+tl.getD k 0).toUInt8])++List.replicate (66 - (k+1)) 0:=by
    rw [show 66 - k=(66 - (k+1))+1 by omega,List.replicate_succ,set_mid hob.symm,List.append_assoc]; rfl
   rw [e2] at hb10
   refine ⟨by omega,⟨k+1,_,wrap_nat (by omega),by omega,by simp [hob],hb10,hst.1,hst.2,hm9.tr ht10.mod⟩,?_⟩
   rw [wrap_nat (by omega)]; (try simp only []); omega
  ·have hk':k=66:=by have h : ¬ (k:Int)<((66:Nat):Int):=by simpa using hge
                     omega
   subst hk'
   rw [Nat.sub_self,List.replicate_zero,List.append_nil] at hb9
   rw [List.take_of_length_le (by omega)] at hv9
   have hM9:Mod NoB w w9:=(hM4.tr hN8.mod).fresh hm9 λx hx=>by omega
   have hro:SlRd w9 ⟨some ⟨o,0,none⟩,66,66⟩ 1 (bys ob):=(own_whole (n:=66) (k:=1) hb9 (by simp [hob])).rd
   refine callK_ret (c_reduced hro (λx hx=>by rw [Slc.blk_mk,if_neg (by omega)] at hx; cases hx; exact hb9.lt) (by omega)) ?_
   rintro v w11 ⟨y,rfl,hoy,hyl,hyc,hfy,hm11⟩
   rw [carry_end hw4 ha32 hb32 hc32 hob hv9] at hoy
   exact ⟨y,rfl,y,rfl,by rw [mulT,if_pos ⟨ha32,hb32,hc32⟩]; exact hoy,by omega,hfy.le hM9.size,hM9.tr hm11⟩
def bls (l:List Bool):List Value:=l.map .bool
@[simp] theorem bls_len (l:List Bool):(bls l).length=l.length:=by simp [bls]
theorem bls_one (l:List Bool) : ∀ y∈bls l,y.oneCell'=true:=by
 intro y hy; obtain ⟨x,_,rfl⟩:=List.mem_map.1 hy; rfl
theorem bls_app (a b:List Bool):bls (a++b)=bls a++bls b:=by simp [bls]
theorem rd_bool {w:World} {s:Slc} {l:List Bool} (h:SlRd w s 1 (bls l)) {i:Nat} (hi:i<l.length) : ∃ a,s.a=some a/\Rd w (a.add (i*1)) [.bool l[i]]:=
 h.at (by have:=h.1; simp at this; omega) (by omega) λj u hu=>by
  cases j with
  | zero=>simp at hu; subst hu; simp [bls,hi]
  | succ j=>simp at hu
theorem rd_lenB {w:World} {s:Slc} {l:List Bool} (h:SlRd w s 1 (bls l)):l.length=s.len:=by have:=h.1; simpa using this
theorem uBools:Tryz.prog.underlying 421=some (.slice 4):=by kernel_rfl
theorem iBool : ∃ i,Tryz.prog.info? 4=some i/\i.zero=some (.bool false)/\i.size=1/\i.bytes=1:=info_of (by kernel_rfl) (by kernel_rfl) (by kernel_rfl)
section
variable {K:Slc->World->Prop} {w:World}
theorem sem_truth {s:Slc} {l:List Bool} {c:Bool} (hs:Row0 4 w s (bls l)) (hn:l.length<=2000000000)
 (hK : ∀ (s':Slc) w',Row0 4 w' s' (bls (l++[c]))->s'.len=s.len+1->Mod (λx=>s.blk=some x) w w'->(s'.blk=s.blk\/∃ x,s'.blk=some x/\w.heap.size<=x)->K s' w') :
 semK Tryz.prog (Instr.buildSlice 421 1 #[(0,(.bool c))]) w λv w2=>∃ x1:Slc,v=(.slice x1.a x1.len x1.cap)/\semK Tryz.prog (Builtin.append_ #[421,421] 421 #[(.slice s.a s.len s.cap),(.slice x1.a x1.len x1.cap)]) w2 λv1 w3=>∃ x2:Slc,v1=(.slice x2.a x2.len x2.cap)/\K x2 w3:=by
 obtain ⟨i5',h51,h52,h53,h54⟩:=iBool
 have hl:=rd_lenB hs.own.rd
 refine sem_lit (l:=[.bool c]) [.bool c] uBools h51 h52 h53 (by decide) rfl (by decide) (by decide) rfl (by simp [Value.cells]) rfl λb w1 hN hb=>⟨⟨_,_,_⟩,rfl,?_⟩
 have a1:=hN.at_; have a2:=hN.size
 refine sem_append_row uBools h51 h52 h53 rfl h54 (hs.mod hN.mod λ_ _ h=>h) (own_whole (n:=1) (k:=1) hb rfl).rd (bls_one [c]) (by simp only []; omega) (by simp only []; omega) (by simp only []; omega) λs' w2 ho hlen hblk hm2=>⟨s',rfl,hK s' w2 ?_ hlen ((hN.mod.mono λ_ _ h=>h.elim).tr hm2) ?_⟩
 ·rw [bls_app]; exact ho
 ·rcases hblk with h | h
  ·exact .inl h
  ·exact .inr ⟨_,h,by omega⟩
end
theorem c_bitsW {w:World} {b:Slc} {l:List UInt8} (hb:SlRd w b 1 (bys l)) (hbl : ∀ x,b.blk=some x->x<w.heap.size) :
 Calls Tryz.prog 264 #[.slice b.a b.len b.cap] w (Ret λv w'=>∃ x:Slc,v=x.val/\Row0 4 w' x (bls (bitsT l))/\FB w x/\Mod NoB w w'):=by
 refine call264 _ ?_
 unfold sh264
 have hn:=rd_len8 hb
 refine condK_i (λh=>?_) λh=>?_
 ·have : ¬ l.length=32:=by simp at h; omega
  exact ⟨⟨none,0,0⟩,rfl,by rw [bitsT,if_neg this]; exact .inl ⟨rfl,rfl⟩,FB.nil _,Mod.refl _ _⟩
 have h32:l.length=32:=by simp at h; omega
 refine callK_ret (Q:=λv w'=>∃ p,v = .func (.func 549) #[] #[.pointer (some ⟨p,0,none⟩)]/\(∃ T,Blk w' p [b.val] T)/\w.heap.size<=p/\Mod NoB w w') ?_ ?_
 ·refine call408 _ ?_
  unfold sh408
  refine sem_box (l:=[b.val]) rfl λp w1 hN1 hb1=>⟨_,rfl,?_⟩
  have h1:=hN1.at_
  exact ⟨p,rfl,⟨_,hb1⟩,by omega,hN1.mod⟩
 rintro v w1 ⟨p,rfl,⟨T,hp⟩,hps,hm1⟩
 refine ⟨_,rfl,?_⟩
 suffices hc:Calls Tryz.prog 548 #[.slice none 0 0,.func (.func 549) #[] #[.pointer (some ⟨p,0,none⟩)]] w1 (Ret λv w'=>∃ x:Slc,v=x.val/\Row0 4 w' x (bls (bitsT l))/\FB w1 x/\Mod NoB w1 w') by
  refine callK_ret (Q:=λv w'=>∃ x:Slc,v=x.val/\Row0 4 w' x (bls (bitsT l))/\FB w1 x/\Mod NoB w1 w') ?_ ?_
  ·refine call407 _ ?_
   unfold sh407
   refine callK_ret hc ?_
   rintro v w2 ⟨x,rfl,h⟩
   exact ⟨x,rfl,x,rfl,h⟩
  ·rintro v w2 ⟨x,rfl,ho,hf,hm2⟩
   exact ⟨x,rfl,x,rfl,ho,hf.le hm1.size,hm1.tr hm2⟩
 refine call548 ⟨none,0,0⟩ _ ?_
 unfold sh548
 refine sem_box (l:=[.slice none 0 0]) rfl λq w2 hN2 hq2=>⟨_,rfl,549,#[],#[.pointer (some ⟨p,0,none⟩)],rfl,by kernel_rfl,?_⟩
 rintro rec dd ll w3 hdd hll hw3 hY
 have a1:=hN2.at_; have a2:=hN2.size
 have hM3:Mod NoB w2 w3:=by rw [hw3]; exact (alloc_mod _ _).tr (alloc_mod _ _)
 have hsz3:w3.heap.size=ll+1:=by rw [hw3]; simp; omega
 have hld3:w3.heap[ll]? = some (rec .ready none):=by
  rw [hw3,hll,hdd]
  have:=heap_alloc_new (w2.alloc (.deferred (some []))) (rec .ready none)
  simpa using this
 have hdd3:w3.heap[dd]? = some (.deferred (some [])):=by
  rw [hw3,hdd,heap_alloc_old _ _ (by simp)]
  exact heap_alloc_new _ _
 have hpl:=hp.lt
 have hM13:Mod NoB w1 w3:=hN2.mod.tr hM3
 have hb3:SlRd w3 b 1 (bys l):=(hb.no hm1).no hM13
 have hm1s:=hm1.size
 let I:Nat->World->Prop:=λk w'=>w'.heap[ll]? = some (rec .ready none)/\∃ s,Blk w' q [s.val] 421/\Row0 4 w' s (bls ((List.range k).map (bitOf l)))/\FB w3 s/\Mod (λx=>x=q\/x=ll) w3 w'
 have hseq:Calls Tryz.prog 549 #[.func (.yield ll) #[] #[],.pointer (some ⟨p,0,none⟩)] w3 (Ret λv w'=>I 256 w'):=by
  refine call549 _ _ ?_
  unfold sh549
  have e0:IntKind.i64.wrap (8*(b.len:Int))=256:=by rw [wrap_i64 (by omega)]; omega
  refine ⟨b,(hp.no hM13).rd1 rfl,?_⟩
  rw [e0]
  refine ⟨λl' w'=>match l' with | [.i _ x]=>∃ k:Nat,x=k/\k<=256/\I k w' | _=>False,λl' _=>match l' with | [.i _ x]=>(256 - x).toNat | _=>0,⟨0,rfl,by omega,hld3,⟨none,0,0⟩,hq2.no hM3,.inl ⟨rfl,rfl⟩,FB.nil _,Mod.refl _ _⟩,?_⟩
  rintro x w4 ⟨k,rfl,hk,hI4⟩
  refine condK_i (λhlt=>?_) λhge=>?_
  ·have hk':k<256:=by simp at hlt; omega
   have hI4':=hI4
   obtain ⟨hl4,s,hq4,ho4,hf4,hm4⟩:=hI4
   have hne : ∀ x,x<w2.heap.size->x≠q->¬ (x=q\/x=ll):=λx hx hxq e=>by omega
   have hp4:Blk w4 p [b.val] T:=(hp.no hM13).mod hm4 (hne p (by omega) (by omega))
   have hb4:SlRd w4 b 1 (bys l):=hb3.mod hm4 λx hx e=>by have:=hbl x hx; omega
   have e1:IntKind.i64.wrap (Int.tdiv (k:Int) 8)=((k / 8:Nat):Int):=by
    rw [show Int.tdiv (k:Int) 8=((k / 8:Nat):Int) from rfl,wrap_i64 (by omega)]
   have e2:Int.tmod (k:Int) 8=((k % 8:Nat):Int):=rfl
   obtain ⟨ab,eab,hrb⟩:=rd_u8 hb4 (i:=k / 8) (by omega)
   rw [e1,e2]
   refine ⟨b,hp4.rd1 rfl,by omega,⟨by omega,by omega⟩,?_⟩
   rw [eab]
   refine ⟨_,hrb,by omega,by omega,?_⟩
   show yieldK _ _ _ _ _
   simp only [Int.toNat_natCast]
   have e3:((shrU8 l[k / 8] (k % 8) &&& 1)==1)=bitOf l k:=by
    unfold bitOf
    rw [<-getD_at (d:=0) (by omega:k / 8<l.length)]
   rw [e3]
   refine hY _ w4 _ hl4 ⟨hl4,?_⟩
   have hll4:=lt_of_get hl4
   obtain ⟨hmp,hgp,hsp⟩:=put_mod (o:=rec .busy none) hll4
   have hql:=hq4.lt
   have hsl : ∀ x,s.blk=some x->x≠ll:=λx hx e=>by have:=hf4 x hx; omega
   have hq5:=hq4.mod hmp (show ¬ q=ll by omega)
   have ho5:=ho4.mod hmp hsl
   refine ⟨s,hq5.rd1 rfl,?_⟩
   refine sem_truth (s:=s) ho5 (by simp; omega) λs' w5 ho6 hlen6 hm6 hbk6=>?_
   have hsq : ∀ x,s.blk=some x->x≠q:=λx hx e=>by have:=hf4 x hx; omega
   have hq6:Blk w5 q [s.val] 421:=hq5.mod hm6 λe=>hsq q e rfl
   refine semU_store1 (b:=q) (o:=0) (l:=[s.val]) (by kernel_rfl) (by kernel_rfl) rfl hq6 (by simp) λw6 ht7 hq7=>?_
   have hf6:FB w3 s':=λx hx=>by
    rcases hbk6 with h | ⟨y,h,hy⟩
    ·exact hf4 x (by rw [<-h]; exact hx)
    ·rw [h] at hx; cases hx; omega
   have hl7:w6.heap[ll]? = some (rec .busy none):=by
    rw [ht7.mod.block ll (by have:=hm6.size; omega) (by omega),hm6.block ll (by omega) (λe=>hsl ll e rfl)]; exact hgp
   refine ⟨hl7,?_⟩
   have hll7:=lt_of_get hl7
   obtain ⟨hmr,hgr,hsr⟩:=put_mod (o:=rec .ready none) hll7
   refine ⟨true,rfl,?_⟩
   show condK false _ _
   refine condK_i (λe=>by cases e) λ_=>⟨⟨k+1,wrap_nat (by omega),by omega,hgr,s',?_,?_,hf6,?_⟩,?_⟩
   ·have h7:Blk w6 q [s'.val] 421:=hq7
    exact h7.mod hmr (by omega)
   ·have h8:=(ho6.mod ht7.mod λx hx e=>by have:=hf6 x hx; omega).mod hmr λx hx e=>by have:=hf6 x hx; omega
    rw [List.range_succ,List.map_append]
    exact h8
   ·have m1:Mod (λx=>x=q\/x=ll) w3 (w4.putObj ll (rec .busy none)):=hm4.tr (hmp.mono λx _ e=>.inr e)
    have m2:Mod (λx=>x=q\/x=ll) w3 w5:=m1.trans hm6 (λ_ _ h=>h) λx hx e=>by have:=hf4 x e; omega
    exact (m2.tr (ht7.mod.mono λx _ e=>.inl e)).tr (hmr.mono λx _ e=>.inr e)
   ·rw [wrap_nat (by omega)]; (try simp only []); omega
  ·have:k=256:=by simp at hge; omega
   subst this
   exact hI4
 refine callK_of hseq ?_ (λ_ _ h=>h.elim) (λ_ h=>h)
 rintro v w4 ⟨hl4,s,hq4,ho4,hf4,hm4⟩
 left
 refine ⟨hl4,?_⟩
 have hll4:=lt_of_get hl4
 obtain ⟨hmp,hgp,hsp⟩:=put_mod (o:=rec .exhausted none) hll4
 have hql:=hq4.lt
 have hq5:=hq4.mod hmp (show ¬ q=ll by omega)
 have ho5:=ho4.mod hmp λx hx e=>by have:=hf4 x hx; omega
 have hm4s:=hm4.size
 have hdd5:(w4.putObj ll (rec .exhausted none)).heap[dd]? = some (.deferred (some [])):=by
  rw [hmp.block dd (by omega) (by omega),hm4.block dd (by omega) (by omega)]; exact hdd3
 refine ⟨s,hq5.rd1 rfl,hdd5,?_⟩
 have hddl:=lt_of_get hdd5
 obtain ⟨hmd,-,-⟩:=put_mod (w:=w4.putObj ll (rec .exhausted none)) (o:=.deferred none) hddl
 have hbt:(List.range 256).map (bitOf l)=bitsT l:=by rw [bitsT,if_pos h32]
 rw [hbt] at ho5
 have hM4:=(hM13.fresh hm4 λx e=>by omega).fresh hmp λx e=>by omega
 exact ⟨s,rfl,ho5.mod hmd (λx hx e=>by have:=hf4 x hx; omega),λx hx=>by have:=hf4 x hx; have:=hM13.size; omega,hM4.fresh hmd λx e=>by omega⟩
theorem c_bitsS {w:World} {b:Slc} {l:List UInt8} (hb:SlRd w b 1 (bys l)) (hbl : ∀ x,b.blk=some x->x<w.heap.size) :
 Calls Tryz.prog 264 #[.slice b.a b.len b.cap] w (Ret λv w'=>∃ x:Slc,v=x.val/\Sh.Own w' x 1 (bls (bitsT l))/\FB w x/\Mod NoB w w'):=
 Calls.mono (c_bitsW hb hbl) λe w' h=>by
  cases e <;> first | exact h.elim | (obtain ⟨x,h1,h2,h3⟩:=h; exact ⟨x,h1,h2.own,h3⟩)
end Go.Proofs.YtmgcoepbccgjfaaGreatDoor
end
section
namespace Go.Sh
open Go Go.Proofs Go.Proofs.YtmgcoepbccgjfaaGreatDoor
def TB (w:World) (q:Nat×Nat):Prop:=∃ (l:List UInt64) (E:TypeId),l.length=q.2/\Blk w q.1 (us l) E
def TR (w:World) (q:Nat×Nat):Prop:=q.1<w.heap.size/\∃ l:List UInt64,l.length=q.2/\Rd w ⟨q.1,0,none⟩ (us l)
def J (Z:Nat->Prop) (w0:World) (L:List (Nat×Nat×Bool)) (w:World):Prop:=Mod Z w0 w/\∀ q∈L,(q.2.2=true->(Z q.1\/w0.heap.size<=q.1)/\TB w (q.1,q.2.1))/\TR w (q.1,q.2.1)
section
variable {Z:Nat->Prop} {w0 w w':World} {L:List (Nat×Nat×Bool)} {P:Program} {f:Bool}
def ZI (P:Program) (T:TypeId) (n:Nat):Prop:=∃ (i:TypeInfo) (z:Value),P.info? T=some i/\i.zero=some z/\z.cells=(us (List.replicate n 0)).toArray
end
end Go.Sh
end
