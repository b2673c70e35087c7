/- The forms of the translated functions,their contracts and the plain laws behind them,put together by a program. -/
import Derived.Test.YtihafpcnhgapdaaGreatDoorPQ15
import Derived.Test.YtihafpcnhgapdaaGreatDoorProg
set_option linter.unusedSimpArgs false
set_option linter.unusedVariables false
set_option maxRecDepth 1000000
set_option maxHeartbeats 8000000
section
namespace Go.Proofs.YtihafpcnhgapdaaGreatDoor
open Go Go.Sh
theorem turn_count : ∀ a:Fin 64,a.val≠0→(u64OfInt (IntKind.i64.wrap (0 - (a.val:Int)))) &&& 63=UInt64.ofNat (64 - a.val):=by decide
theorem c_rot {w:World} {x:UInt64} {a:Nat} (h0:0<a) (h1:a<64) {k:Int} (hk:k=IntKind.i64.wrap (0 - (a:Int))) :
 Calls Tryz.prog 614 #[.int .u64 x.toNat,.int .i64 k] w (Ret fun v w'=>v = .int .u64 (rr x a).toNat∧w'=w):=by
 subst hk
 refine call614 _ _ ?_
 unfold sh614
 rw [turn_count ⟨a,h1⟩ (by simp only; omega)]
 have e1:(UInt64.ofNat (64 - a)).toNat=64 - a:=by simp [UInt64.toNat_ofNat']; omega
 have e2:((64:UInt64) - UInt64.ofNat (64 - a)).toNat=a:=by
  rw [UInt64.toNat_sub,e1]
  simp; omega
 simp only [e1,e2,Int.toNat_natCast]
 refine ⟨by omega,by omega,?_,rfl⟩
 show Value.int .u64 _=Value.int .u64 _
 rw [UInt64.or_comm]
 rfl
theorem c_mix {w:World} {x:UInt64} {a b c:Nat} (ha:0<a∧a<64) (hb:0<b∧b<64) (hc:0<c∧c<64) :
 Calls Tryz.prog 551 #[.int .u64 x.toNat,.int .i64 a,.int .i64 b,.int .i64 c] w (Ret fun v w'=>v = .int .u64 ((rr x a ^^^ rr x b) ^^^ rr x c).toNat∧w'=w):=by
 refine call551 _ _ _ _ ?_
 unfold sh551
 refine callK_ret (c_rot ha.1 ha.2 rfl) ?_
 rintro v w1 ⟨rfl,rfl⟩
 refine ⟨_,rfl,callK_ret (c_rot hb.1 hb.2 rfl) ?_⟩
 rintro v w1 ⟨rfl,rfl⟩
 refine ⟨_,rfl,callK_ret (c_rot hc.1 hc.2 rfl) ?_⟩
 rintro v w1 ⟨rfl,rfl⟩
 exact ⟨_,rfl,rfl,rfl⟩
theorem c_small {w:World} {x:UInt64} {a b c:Nat} (ha:0<a∧a<64) (hb:0<b∧b<64) :
 Calls Tryz.prog 550 #[.int .u64 x.toNat,.int .i64 a,.int .i64 b,.int .i64 c] w (Ret fun v w'=>v = .int .u64 ((rr x a ^^^ rr x b) ^^^ shrU64 x c).toNat∧w'=w.drew):=by
 refine call550 _ _ _ _ ?_
 unfold sh550
 refine ⟨by omega,callK_ret (c_rot ha.1 ha.2 rfl) ?_,trivial⟩
 rintro v w1 ⟨rfl,rfl⟩
 refine ⟨_,rfl,callK_ret (c_rot hb.1 hb.2 rfl) ?_,trivial⟩
 rintro v w1 ⟨rfl,rfl⟩
 exact ⟨_,rfl,rfl,rfl⟩
def H0:List UInt64:=[0x6a09e667f3bcc908,0xbb67ae8584caa73b,0x3c6ef372fe94f82b,0xa54ff53a5f1d36f1,0x510e527fade682d1,0x9b05688c2b3e6c1f,0x1f83d9abfb41bd6b,0x5be0cd19137e2179]
def KS:List UInt64:=[
 0x428a2f98d728ae22,0x7137449123ef65cd,0xb5c0fbcfec4d3b2f,0xe9b5dba58189dbbc,
 0x3956c25bf348b538,0x59f111f1b605d019,0x923f82a4af194f9b,0xab1c5ed5da6d8118,
 0xd807aa98a3030242,0x12835b0145706fbe,0x243185be4ee4b28c,0x550c7dc3d5ffb4e2,
 0x72be5d74f27b896f,0x80deb1fe3b1696b1,0x9bdc06a725c71235,0xc19bf174cf692694,
 0xe49b69c19ef14ad2,0xefbe4786384f25e3,0x0fc19dc68b8cd5b5,0x240ca1cc77ac9c65,
 0x2de92c6f592b0275,0x4a7484aa6ea6e483,0x5cb0a9dcbd41fbd4,0x76f988da831153b5,
 0x983e5152ee66dfab,0xa831c66d2db43210,0xb00327c898fb213f,0xbf597fc7beef0ee4,
 0xc6e00bf33da88fc2,0xd5a79147930aa725,0x06ca6351e003826f,0x142929670a0e6e70,
 0x27b70a8546d22ffc,0x2e1b21385c26c926,0x4d2c6dfc5ac42aed,0x53380d139d95b3df,
 0x650a73548baf63de,0x766a0abb3c77b2a8,0x81c2c92e47edaee6,0x92722c851482353b,
 0xa2bfe8a14cf10364,0xa81a664bbc423001,0xc24b8b70d0f89791,0xc76c51a30654be30,
 0xd192e819d6ef5218,0xd69906245565a910,0xf40e35855771202a,0x106aa07032bbd1b8,
 0x19a4c116b8d2d0c8,0x1e376c085141ab53,0x2748774cdf8eeb99,0x34b0bcb5e19b48a8,
 0x391c0cb3c5c95a63,0x4ed8aa4ae3418acb,0x5b9cca4f7763e373,0x682e6ff3d6b2b8a3,
 0x748f82ee5defb2fc,0x78a5636f43172f60,0x84c87814a1f0ab72,0x8cc702081a6439ec,
 0x90befffa23631e28,0xa4506cebde82bde9,0xbef9a3f7b2c67915,0xc67178f2e372532b,
 0xca273eceea26619c,0xd186b8c721c0c207,0xeada7dd6cde0eb1e,0xf57d4f7fee6ed178,
 0x06f067aa72176fba,0x0a637dc5a2c898a6,0x113f9804bef90dae,0x1b710b35131c471b,
 0x28db77f523047d84,0x32caab7b40c72493,0x3c9ebe0a15c9bebc,0x431d67c49c100d4c,
 0x4cc5d4becb3e42b6,0x597f299cfc657e2a,0x5fcb6fab3ad6faec,0x6c44198c4a475817]
def sha (b:List UInt8):List UInt8:=shaBy H0 KS b
theorem H0_len:H0.length=8:=rfl
theorem KS_len:KS.length=80:=rfl
def isG (x:Nat):Prop:=x=0∨x=3
structure Glob (w:World):Prop where
 begin0:Rd w ⟨0,0,none⟩ (us H0)
 rest0:Rd w ⟨3,0,none⟩ (us KS)
theorem Glob.lt {w:World} (h:Glob w) {x:Nat} (hx:isG x):x<w.heap.size:=by
 rcases hx with rfl | rfl
 ·exact rd_lt h.begin0 (by simp [H0_len])
 ·exact rd_lt h.rest0 (by simp [KS_len])
theorem Glob.mod {w w':World} {S:Nat→Prop} (h:Glob w) (hm:Mod S w w') (hs : ∀ x,isG x→¬ S x):Glob w':=
 ⟨h.begin0.mod hm (hs _ (.inl rfl)),h.rest0.mod hm (hs _ (.inr rfl))⟩
theorem Glob.no {w w':World} (h:Glob w) (hm:Mod NoB w w'):Glob w':=h.mod hm fun _ _ h=>h
theorem Glob.drew {w:World} (h:Glob w):Glob w.drew:=⟨h.begin0,h.rest0⟩
theorem Glob.fresh {w:World} (h:Glob w) {x:Nat} (hx:w.heap.size≤x) : ¬ isG x:=fun e=>by have:=h.lt e; omega
theorem i640 : ∃ i,Tryz.prog.info? 603=some i∧i.zero=some (.agg (List.replicate 80 z64).toArray)∧i.size=80∧i.bytes=640:=info_of (by kernel_rfl) (by kernel_rfl) (by kernel_rfl)
theorem iwords : ∃ i,Tryz.prog.info? 509=some i∧i.zero=some (.agg (List.replicate 8 z64).toArray)∧i.size=8∧i.bytes=64:=info_of (by kernel_rfl) (by kernel_rfl) (by kernel_rfl)
theorem be64_snoc (l:List UInt8) (c:UInt8):be64 (l++[c])=shlU64 (be64 l) 8 ||| c.toUInt64:=by simp [be64]
def fill (ws:List UInt64):List Value:=us ws++List.replicate (80 - ws.length) z64
theorem fill_at {ws:List UInt64} {i:Nat} (h:i<ws.length):(fill ws)[i]? = some (.int .u64 (ws.getD i 0).toNat):=by
 unfold fill
 rw [List.getElem?_append_left (by simpa using h),us_getD h]
theorem fill_next {ws:List UInt64} {x:UInt64} (h:ws.length<80):(fill ws).set ws.length (.int .u64 x.toNat)=fill (ws++[x]):=by
 unfold fill
 rw [rep_succ (by omega),set_mid (by simp),us_app]
 simp only [List.length_append,List.length_cons,List.length_nil,List.append_assoc]
 congr 1
@[simp] theorem fill_len {ws:List UInt64} (h:ws.length≤80):(fill ws).length=80:=by unfold fill; simp; omega
theorem c_block1 {w:World} {b:Slc} {bs:List UInt8} (hb:SlRd w b 1 (bys bs)) (hl:bs.length=128) {m t:Nat} (ht:t<16) {w2:World} (hm:Mod NoB w w2) (hbm : ∀ x,b.blk=some x→x≠m) (hmw:w.heap.size≤m) (hM:Blk w2 m (fill (sched bs t)) 603) {R:Prop}
 {K:World→Prop} (hk : ∀ w3,Mod NoB w w3→Blk w3 m (fill (sched bs (t+1))) 603→K w3) :
 ∃ (inv1:List TV→World→Prop) (mu1:List TV→World→Nat),inv1 [.i .i64 (0:Int)] w2∧(∀ x1:Int,∀ w3:World,inv1 [.i .i64 x1] w3→condK (decide (x1<((cutSl b 1 (8*t) (8*t+8) b.cap).len:Int))) (((0≤x1∧x1<((cutSl b 1 (8*t) (8*t+8) b.cap).len:Nat))∧onSome (cutSl b 1 (8*t) (8*t+8) b.cap).a fun a=>∃ x2:UInt8,Rd w3 (a.add ((x1).toNat*1)) [(.int .u8 (x2).toNat)]∧((0≤(t:Int)∧(t:Int)<(80:Nat))∧∃ x3:UInt64,Rd w3 ((⟨m,0,none⟩:Addr).add (t*1)) [(.int .u64 (x3).toNat)]∧(0≤(((8:UInt64)).toNat:Int)∧((0≤(t:Int)∧(t:Int)<(80:Nat))∧semU Tryz.prog (storeVar 241 ((⟨m,0,none⟩:Addr).add (t*1)) (.int .u64 (((shlU64 x3 ((((8:UInt64)).toNat:Int)).toNat) ||| (x2).toUInt64)).toNat)) w3 fun w4=>(inv1 [.i .i64 (IntKind.i64.wrap (x1+(1:Int)))] w4∧mu1 [.i .i64 (IntKind.i64.wrap (x1+(1:Int)))] w4<mu1 [.i .i64 x1] w3)))))) (K w3)):=by
 have hbl:=rd_len8 hb
 have hcut:=hb.cut (l:=8*t) (n:=8*t+8) (m:=b.cap) (by omega) (by omega) (by have:=hb.2.1; omega) (Nat.le_refl _)
 have hwl:((bs.drop (8*t)).take 8).length=8:=by rw [List.length_take,List.length_drop]; omega
 rw [show 8*t+8 - 8*t=8 by omega,bys_cut] at hcut
 have hcl:(cutSl b 1 (8*t) (8*t+8) b.cap).len=8:=by simp [cutSl]
 have hsl:=sched_len bs t
 refine ⟨fun l w'=>match l with | [.i _ x]=>∃ j:Nat,x=j∧j≤8∧Blk w' m ((fill (sched bs t)).set t (.int .u64 (be64 (((bs.drop (8*t)).take 8).take j)).toNat)) 603∧Mod NoB w w' | _=>False,fun l _=>match l with | [.i _ x]=>(8 - x).toNat | _=>0,⟨0,rfl,by omega,?_,hm⟩,?_⟩
 ·have:(fill (sched bs t)).set t (.int .u64 (be64 (((bs.drop (8*t)).take 8).take 0)).toNat)=fill (sched bs t):=by
   apply List.ext_getElem?
   intro i
   rw [List.getElem?_set]
   split
   ·next h=>
    subst h
    rw [if_pos (by rw [fill_len (by omega)]; omega)]
    unfold fill
    rw [List.getElem?_append_right (by simp [hsl]),us_len,hsl,Nat.sub_self,rep_succ (by omega)]
    rfl
   ·rfl
  rw [this]; exact hM
 rintro x1 w3 ⟨j,rfl,hj,hB,hm3⟩
 rw [hcl]
 have hfl:((fill (sched bs t)).set t (Value.int .u64 (be64 (((bs.drop (8*t)).take 8).take j)).toNat)).length=80:=by rw [List.length_set,fill_len (by omega)]
 refine condK_i (fun h=>?_) (fun h=>?_)
 ·have hj8:j<8:=by simp at h; omega
  obtain ⟨a,ha,hrd⟩:=rd_u8 hcut (i:=j) (by omega)
  rw [ha]
  refine ⟨⟨by omega,by omega⟩,_,(hrd.mod hm3 fun h=>h),⟨by omega,by omega⟩,be64 (((bs.drop (8*t)).take 8).take j),?_,by decide,⟨by omega,by omega⟩,?_⟩
  ·rw [addl]
   exact hB.rd1 (by rw [Nat.zero_add,Nat.mul_one,List.getElem?_set_self (by rw [fill_len (by omega)]; omega)])
  ·rw [addl]
   refine semU_store1 (by kernel_rfl) (by kernel_rfl) rfl hB (by rw [hfl]; omega) fun w4 ht4 hB4=>⟨?_,?_⟩
   ·rw [wrap_nat (by omega)]
    refine ⟨j+1,rfl,by omega,?_,hm3.fresh ht4.mod fun x e=>by omega⟩
    rw [Nat.zero_add,Nat.mul_one,List.set_set] at hB4
    rw [take_snoc (by omega),be64_snoc]
    exact hB4
   ·rw [wrap_nat (by omega)]
    simp only []
    omega
 ·have hj8:j=8:=by simp at h; omega
  subst hj8
  refine hk w3 hm3 ?_
  rw [List.take_of_length_le (by omega)] at hB
  have e:sched bs (t+1)=sched bs t++[be64 ((bs.drop (8*t)).take 8)]:=by
   show (let l:=sched bs t; l++[wnext bs l t])=_
   simp only [wnext,if_pos ht,word]
  rw [e,← fill_next (by omega),hsl]
  exact hB
theorem Glob.k {w:World} (h:Glob w) {t:Nat} (ht:t<80):Rd w ((⟨3,0,none⟩:Addr).add (t*1)) [.int .u64 (KS.getD t 0).toNat]:=by
 intro j v hj
 cases j with
 | zero=>
   simp only [List.length_cons,List.length_nil,Nat.zero_add,Nat.lt_add_one,List.getElem?_cons_zero,Option.some.injEq] at hj
   subst hj
   have:=h.rest0 t _ (us_getD (l:=KS) (i:=t) (by rw [KS_len]; exact ht))
   simpa using this
 | succ j=>simp at hj
theorem zip_step {h v:List UInt64} {i:Nat} (hh:h.length=8) (hv:v.length=8) (hi:i<8) :
 (us (List.zipWith (fun x y=>x+y) (h.take i) (v.take i)++h.drop i)).set i (.int .u64 (h[i]+v[i]).toNat)=us (List.zipWith (fun x y=>x+y) (h.take (i+1)) (v.take (i+1))++h.drop (i+1)):=by
 have e1:h.drop i=h[i] :: h.drop (i+1):=List.drop_eq_getElem_cons (by omega)
 have hl:(List.zipWith (fun x y=>x+y) (h.take i) (v.take i)).length=i:=by simp; omega
 have e2:List.zipWith (fun x y=>x+y) (h.take (i+1)) (v.take (i+1))=List.zipWith (fun x y=>x+y) (h.take i) (v.take i)++[h[i]+v[i]]:=by
  rw [take_snoc (by omega),take_snoc (by omega),List.zipWith_append (by simp; omega)]
  rfl
 rw [e1,e2,us_app,us_app,us_app]
 have:us (h[i] :: h.drop (i+1)) = .int .u64 h[i].toNat :: us (h.drop (i+1)):=rfl
 rw [this,set_mid (by simpa using hl.symm),List.append_assoc]
 rfl
theorem c_block {w:World} {p:Nat} {h:List UInt64} {r:List Value} {T:TypeId} {b:Slc} {bs:List UInt8} (hp:Blk w p (us h++r) T) (hh:h.length=8) (hb:SlRd w b 1 (bys bs)) (hl:bs.length=128)
 (hg:Glob w) (hpg : ¬ isG p) :
 Calls Tryz.prog 444 #[.pointer (some ⟨p,0,none⟩),.slice b.a b.len b.cap] w (Ret fun v w'=>v = .tuple #[]∧Blk w' p (us (comp KS h bs)++r) T∧Mod (fun x=>x=p) w w'):=by
 refine call444 _ _ ?_
 unfold sh444
 obtain ⟨i0,hi1,hi2,-,-⟩:=i640
 obtain ⟨i1,hj1,hj2,-,-⟩:=iwords
 have hbl:=rd_len8 hb
 have hpl:=hp.lt
 refine sem_alloc (l:=List.replicate 80 z64) hi1 hi2 rfl fun m w1 hN hM0=>⟨_,rfl,?_⟩
 have hmat:=hN.at_
 have hbm : ∀ x,b.blk=some x→x≠m:=fun x hx=>by
  rcases hb.2.2 with h0 | ⟨bb,e1,e2⟩
  ·have:=congrArg List.length h0; simp [hl] at this
  ·have h1:=rd_lt e2 (by simp [hl])
   unfold Slc.blk at hx
   split at hx
   ·cases hx
   ·simp [e1] at hx; subst hx; omega
 refine ⟨fun l w'=>match l with | [.i _ x]=>∃ t:Nat,x=t∧t≤80∧Blk w' m (fill (sched bs t)) 603∧Mod NoB w w' | _=>False,fun l _=>match l with | [.i _ x]=>(80 - x).toNat | _=>0,⟨0,rfl,by omega,hM0,hN.mod⟩,?_⟩
 rintro x w2 ⟨t,rfl,ht,hM,hm2⟩
 refine condK_i (fun h80=>?_) (fun h80=>?_)
 ·have ht80:t<80:=by simp at h80; omega
  refine condK_i (fun h16=>?_) (fun h16=>?_)
  ·have ht16:t<16:=by simp at h16; omega
   have e1:IntKind.i64.wrap ((8:Int)*(t:Int))=((8*t:Nat):Int):=by rw [wrap_i64 (by omega)]; omega
   have e2:IntKind.i64.wrap (((8*t:Nat):Int)+(8:Int))=((8*t+8:Nat):Int):=by rw [wrap_i64 (by omega)]; omega
   simp only [e1,e2,Int.toNat_natCast]
   refine ⟨⟨by omega,by omega,by have:=hb.2.1; omega⟩,?_⟩
   refine c_block1 (R:=True) hb hl ht16 hm2 hbm (by omega) hM fun w3 hm3 hM3=>⟨?_,?_⟩
   ·rw [wrap_nat (by omega)]
    exact ⟨t+1,rfl,by omega,hM3,hm3⟩
   ·rw [wrap_nat (by omega)]
    (try simp only []); omega
  ·have ht16:16≤t:=by simp at h16; omega
   have hsl:=sched_len bs t
   have f2:IntKind.i64.wrap ((t:Int) - (2:Int))=((t - 2:Nat):Int):=by rw [wrap_i64 (by omega)]; omega
   have f7:IntKind.i64.wrap ((t:Int) - (7:Int))=((t - 7:Nat):Int):=by rw [wrap_i64 (by omega)]; omega
   have f15:IntKind.i64.wrap ((t:Int) - (15:Int))=((t - 15:Nat):Int):=by rw [wrap_i64 (by omega)]; omega
   have f16:IntKind.i64.wrap ((t:Int) - (16:Int))=((t - 16:Nat):Int):=by rw [wrap_i64 (by omega)]; omega
   simp only [f2,f7,f15,f16,Int.toNat_natCast]
   refine ⟨fun w'=>Blk w' m (fill (sched bs t)) 603,hM,⟨by omega,by omega⟩,⟨by omega,by omega⟩,⟨by omega,by omega⟩,⟨by omega,by omega⟩,
    (sched bs t).getD (t - 2) 0,fun w' h=>rda h (fill_at (by omega)),(sched bs t).getD (t - 7) 0,fun w' h=>rda h (fill_at (by omega)),(sched bs t).getD (t - 15) 0,fun w' h=>rda h (fill_at (by omega)),(sched bs t).getD (t - 16) 0,fun w' h=>rda h (fill_at (by omega)),?_,trivial⟩
   refine callK_ret (c_small (a:=19) (b:=61) (c:=6) (by omega) (by omega)) ?_
   rintro v w5 ⟨rfl,rfl⟩
   refine ⟨_,rfl,hM,?_,trivial⟩
   refine callK_ret (c_small (a:=1) (b:=8) (c:=7) (by omega) (by omega)) ?_
   rintro v w5 ⟨rfl,rfl⟩
   refine ⟨_,rfl,hM,⟨by omega,by omega⟩,?_,trivial⟩
   rw [addl]
   refine semU_store1 (l:=fill (sched bs t)) (by kernel_rfl) (by kernel_rfl) rfl (w:=w2.drew.drew.drew) (E:=603) hM (by rw [fill_len (by omega)]; omega) fun w7 ht7 hM7=>⟨?_,?_⟩
   ·rw [wrap_nat (by omega)]
    refine ⟨t+1,rfl,by omega,?_,(Mod.dr (Mod.dr (Mod.dr hm2))).fresh ht7.mod fun x e=>by omega⟩
    rw [Nat.zero_add,Nat.mul_one] at hM7
    have e:sched bs (t+1)=sched bs t++[wnext bs (sched bs t) t]:=rfl
    rw [e,← fill_next (by omega),hsl]
    unfold wnext
    rw [if_neg (by omega)]
    exact hM7
   ·rw [wrap_nat (by omega)]
    (try simp only []); omega
 ·have ht80:t=80:=by simp at h80; omega
  subst ht80
  obtain ⟨k0,k1,k2,k3,k4,k5,k6,k7,rfl⟩:=list8 hh
  have hp2:=hp.no hm2
  have hMf:fill (sched bs 80)=us (sched bs 80):=by unfold fill; rw [sched_len]; simp
  rw [hMf] at hM
  refine ⟨k0,k1,k2,k3,k4,k5,k6,k7,(hp2.rd (o:=0) (vs:=us [k0,k1,k2,k3,k4,k5,k6,k7]) fun j v hj=>by
   rw [Nat.zero_add,List.getElem?_append_left (List.getElem?_eq_some_iff.1 hj).1,hj]),?_⟩
  refine sem_alloc (l:=List.replicate 8 z64) hj1 hj2 rfl fun vB w8 hN8 hV8=>⟨_,rfl,?_⟩
  have hvat:=hN8.at_
  refine semU_store (vs:=us [k0,k1,k2,k3,k4,k5,k6,k7]) (by kernel_rfl) (by kernel_rfl) rfl hV8 (by simp) (us_one _) fun w9 ht9 hV9=>?_
  have hM9:Blk w9 m (us (sched bs 80)) 603:=(hM.no hN8.mod).mod ht9.mod (by have:=hM.lt; omega)
  have hm9:Mod NoB w w9:=(hm2.tr hN8.mod).fresh ht9.mod fun x e=>by have:=hm2.size; omega
  refine ⟨sched bs 80,sched_len bs 80,by rw [cellsL_us]; exact hM9.rd (o:=0) fun j v hj=>by rw [Nat.zero_add]; exact hj,?_⟩
  have hvg:w.heap.size≤vB:=by have:=hm2.size; omega
  refine ⟨fun l w'=>match l with | [.i _ x]=>∃ t:Nat,x=t∧t≤80∧Blk w' vB (us (rounds KS (sched bs 80) [k0,k1,k2,k3,k4,k5,k6,k7] t)) 509∧Mod NoB w w' | _=>False,fun l _=>match l with | [.i _ x]=>(80 - x).toNat | _=>0,⟨0,rfl,by omega,hV9,hm9⟩,?_⟩
  rintro x w10 ⟨t,rfl,ht,hV,hm10⟩
  have hg10:=hg.no hm10
  refine condK_i (fun h8=>?_) (fun h8=>?_)
  ·have ht80:t<80:=by simp at h8; omega
   obtain ⟨a,b',c,d,e,f,g,k,hr⟩:=list8 (rounds_len (ks:=KS) (ws:=sched bs 80) (v:=[k0,k1,k2,k3,k4,k5,k6,k7]) rfl t)
   have hnext:rounds KS (sched bs 80) [k0,k1,k2,k3,k4,k5,k6,k7] (t+1)=rnd [a,b',c,d,e,f,g,k] (KS.getD t 0) ((sched bs 80).getD t 0):=by
    show rnd (rounds KS (sched bs 80) _ t) _ _=_
    rw [hr]
   rw [hr] at hV
   refine ⟨⟨by omega,by omega⟩,?_,(sched bs 80).getD t 0,?_,⟨by omega,by omega⟩,⟨by omega,by omega⟩,a,rda (w:=w10.drew) hV rfl,e,rda (w:=w10.drew) hV rfl,?_⟩
   ·intro z hz
    obtain ⟨y,_,rfl⟩:=List.mem_map.1 hz
    rfl
   ·rw [Int.toNat_natCast]
    have hlt:t<(sched bs 80).length:=by rw [sched_len]; omega
    rw [List.getElem?_map,List.getElem?_eq_getElem hlt,List.getD_eq_getElem?_getD,List.getElem?_eq_getElem hlt]
    rfl
   refine ⟨fun w'=>Blk w' vB (us [a,b',c,d,e,f,g,k]) 509∧Glob w',⟨hV,hg10.drew.drew⟩,⟨by omega,by omega⟩,⟨by omega,by omega⟩,⟨by omega,by omega⟩,⟨by omega,by omega⟩,
    k,fun w' h=>rda h.1 rfl,f,fun w' h=>rda h.1 rfl,g,fun w' h=>rda h.1 rfl,KS.getD t 0,fun w' h=>Glob.k h.2 ht80,?_,trivial⟩
   refine callK_ret (c_mix (a:=14) (b:=18) (c:=41) (by omega) (by omega) (by omega)) ?_
   rintro v w5 ⟨rfl,rfl⟩
   refine ⟨_,rfl,⟨hV,hg10.drew.drew⟩,fun w'=>Blk w' vB (us [a,b',c,d,e,f,g,k]) 509,hV,⟨by omega,by omega⟩,⟨by omega,by omega⟩,⟨by omega,by omega⟩,⟨by omega,by omega⟩,
    b',fun w' h=>rda h rfl,c,fun w' h=>rda h rfl,b',fun w' h=>rda h rfl,c,fun w' h=>rda h rfl,?_,trivial⟩
   refine callK_ret (c_mix (a:=28) (b:=34) (c:=39) (by omega) (by omega) (by omega)) ?_
   rintro v w5 ⟨rfl,rfl⟩
   refine ⟨_,rfl,hV,⟨by omega,by omega⟩,⟨by omega,by omega⟩,?_,trivial⟩
   obtain ⟨i4,h41,h42,h43,h44⟩:=i44
   have hVo:Sh.Own w10.drew.drew.drew.drew ⟨some ⟨vB,0,none⟩,8,8⟩ 1 (us [a,b',c,d,e,f,g,k]):=own_whole (n:=8) (k:=1) (T:=509) hV rfl
   have hsrc:SlRd w10.drew.drew.drew.drew (cutSl ⟨some ⟨vB,0,none⟩,8,8⟩ 1 0 7 8) 1 (us [a,b',c,d,e,f,g]):=hVo.rd.cut (l:=0) (n:=7) (m:=8) (by omega) (by simp only []; omega) (by omega) (by simp only []; omega)
   refine sem_copy (d:=cutSl ⟨some ⟨vB,0,none⟩,8,8⟩ 1 1 8 8) (x:=cutSl ⟨some ⟨vB,0,none⟩,8,8⟩ 1 0 7 8) (b:=vB) (o:=1) (T:=509) (l:=us [a,b',c,d,e,f,g,k]) u40 h41 h43 rfl hV (by simp [cutSl]) hsrc (us_one _) fun w13 hV13 hm13 hs13=>⟨_,rfl,?_⟩
   have hV13':Blk w13 vB (us [a,a,b',c,d,e,f,g]) 509:=hV13
   refine ⟨⟨by omega,by omega⟩,d,rda hV13' rfl,⟨by omega,by omega⟩,?_⟩
   refine semU_store1 (b:=vB) (o:=0) (by kernel_rfl) (by kernel_rfl) rfl hV13' (by simp) fun w14 ht14 hV14=>⟨⟨by omega,by omega⟩,?_⟩
   refine semU_store1 (b:=vB) (o:=4) (by kernel_rfl) (by kernel_rfl) rfl hV14 (by simp) fun w15 ht15 hV15=>⟨?_,?_⟩
   ·rw [wrap_nat (by omega)]
    refine ⟨t+1,rfl,by omega,?_,?_⟩
    ·rw [hnext]
     exact hV15
    ·exact (((Mod.dr (Mod.dr (Mod.dr (Mod.dr hm10)))).fresh hm13 fun x e=>by omega).fresh ht14.mod fun x e=>by omega).fresh ht15.mod fun x e=>by omega
   ·rw [wrap_nat (by omega)]
    (try simp only []); omega
  ·have ht80:t=80:=by simp at h8; omega
   subst ht80
   obtain ⟨hv,hvl⟩ : ∃ hv,hv=rounds KS (sched bs 80) [k0,k1,k2,k3,k4,k5,k6,k7] 80:=⟨_,rfl⟩
   have hvlen:hv.length=8:=by rw [hvl]; exact rounds_len rfl 80
   rw [← hvl] at hV
   have hcomp:comp KS [k0,k1,k2,k3,k4,k5,k6,k7] bs=List.zipWith (fun x y=>x+y) [k0,k1,k2,k3,k4,k5,k6,k7] hv:=by rw [hvl]; rfl
   rw [hcomp]
   clear hcomp hvl
   obtain ⟨hk,hkl⟩ : ∃ hk,hk=[k0,k1,k2,k3,k4,k5,k6,k7]:=⟨_,rfl⟩
   rw [← hkl] at hp ⊢
   have hkn:hk.length=8:=by rw [hkl]; rfl
   clear hkl
   have hpv:p≠vB:=by omega
   refine ⟨fun l w'=>match l with | [.i _ x]=>∃ i:Nat,x=i∧i≤8∧Blk w' p (us (List.zipWith (fun x y=>x+y) (hk.take i) (hv.take i)++hk.drop i)++r) T∧Blk w' vB (us hv) 509∧Mod (fun x=>x=p) w w' | _=>False,fun l _=>match l with | [.i _ x]=>(8 - x).toNat | _=>0,
    ⟨0,rfl,by omega,by simpa using hp.no hm10,hV,hm10.mono fun _ _ e=>e.elim⟩,?_⟩
   rintro x w16 ⟨i,rfl,hi,hP,hV,hm16⟩
   refine condK_i (fun h8=>?_) (fun h8=>?_)
   ·have hi8:i<8:=by simp at h8; omega
    have hzl:(List.zipWith (fun x y=>x+y) (hk.take i) (hv.take i)).length=i:=by simp; omega
    have hget:(us (List.zipWith (fun x y=>x+y) (hk.take i) (hv.take i)++hk.drop i)++r)[i]? = some (.int .u64 hk[i].toNat):=by
     rw [List.getElem?_append_left (by simp; omega),us_app,List.getElem?_append_right (by simp; omega)]
     simp only [us_len,hzl,Nat.sub_self]
     rw [us_at (by simp; omega)]
     simp
    refine ⟨fun w'=>Blk w' p (us (List.zipWith (fun x y=>x+y) (hk.take i) (hv.take i)++hk.drop i)++r) T∧Blk w' vB (us hv) 509,⟨hP,hV⟩,⟨by omega,by omega⟩,⟨by omega,by omega⟩,
     hk[i],fun w' h=>rda h.1 hget,hv[i],fun w' h=>rda h.2 (us_at (by omega)),⟨by omega,by omega⟩,?_,trivial⟩
    rw [addl]
    refine semU_store1 (l:=us (List.zipWith (fun x y=>x+y) (hk.take i) (hv.take i)++hk.drop i)++r) (w:=w16.drew) (E:=T) (by kernel_rfl) (by kernel_rfl) rfl hP (by simp; omega) fun w17 ht17 hP17=>⟨?_,?_⟩
    ·rw [wrap_nat (by omega)]
     refine ⟨i+1,rfl,by omega,?_,Blk.mod (w:=w16.drew) hV ht17.mod (fun e=>hpv e.symm),(Mod.dr hm16).tr ht17.mod⟩
     rw [Nat.zero_add,Int.toNat_natCast,Nat.mul_one,List.set_append_left _ _ (by simp; omega),zip_step hkn hvlen hi8] at hP17
     exact hP17
    ·rw [wrap_nat (by omega)]
     (try simp only []); omega
   ·have hi8:i=8:=by simp at h8; omega
    subst hi8
    refine ⟨rfl,?_,hm16⟩
    rw [List.take_of_length_le (by omega),List.take_of_length_le (by omega),List.drop_eq_nil_of_le (by omega),List.append_nil] at hP
    exact hP
def HW (st:List UInt64) (s:Slc) (n:UInt64):List Value:=us st++[s.val,.int .u64 n.toNat,.bool true]
section
variable {st:List UInt64} {s:Slc} {n:UInt64}
theorem hw8 (h:st.length=8):(HW st s n)[8]? = some s.val:=by unfold HW; rw [List.getElem?_append_right (by simp [h])]; simp [h]
theorem hw9 (h:st.length=8):(HW st s n)[9]? = some (.int .u64 n.toNat):=by unfold HW; rw [List.getElem?_append_right (by simp [h])]; simp [h]
theorem hw10 (h:st.length=8):(HW st s n)[10]? = some (.bool true):=by unfold HW; rw [List.getElem?_append_right (by simp [h])]; simp [h]
theorem hw_len (h:st.length=8):(HW st s n).length=11:=by simp [HW,h]
theorem hw_set8 (h:st.length=8) (s':Slc):(HW st s n).set 8 s'.val=HW st s' n:=by
 unfold HW; rw [List.set_append_right _ _ (by simp [h])]; simp [h]
theorem hw_set9 (h:st.length=8) (n':UInt64):(HW st s n).set 9 (.int .u64 n'.toNat)=HW st s n':=by
 unfold HW; rw [List.set_append_right _ _ (by simp [h])]; simp [h]
end
abbrev THash:TypeId:=511
structure HashAt (w:World) (p:Nat) (s:Slc) (b:List UInt8):Prop where
 blk:Blk w p (HW (state KS H0 b) s (UInt64.ofNat b.length)) THash
 own:Sh.Own w s 1 (bys (rest b))
 ne:s.blk≠some p
 pg : ¬ isG p
 sg : ∀ x,s.blk=some x→¬ isG x
theorem HashAt.mod {w w':World} {p:Nat} {s:Slc} {b:List UInt8} {S:Nat→Prop} (h:HashAt w p s b) (hm:Mod S w w') (hp : ¬ S p) (hs : ∀ x,s.blk=some x→¬ S x):HashAt w' p s b:=
 ⟨h.blk.mod hm hp,h.own.mod hm hs,h.ne,h.pg,h.sg⟩
theorem HashAt.no {w w':World} {p:Nat} {s:Slc} {b:List UInt8} (h:HashAt w p s b) (hm:Mod NoB w w'):HashAt w' p s b:=h.mod hm (fun h=>h) fun _ _ h=>h
theorem st_len (b:List UInt8):(state KS H0 b).length=8:=state_len H0_len
theorem c_there {w:World} {p:Nat} {st:List UInt64} {s:Slc} {n:UInt64} (h:Blk w p (HW st s n) THash) (hst:st.length=8) :
 Calls Tryz.prog 443 #[.pointer (some ⟨p,0,none⟩)] w (Ret fun v w'=>v = .bool true∧w'=w):=by
 refine call443 _ ?_
 unfold sh443
 refine ps_neq_ptr (e:=THash) (by kernel_rfl) ⟨_,rfl,true,?_,rfl,rfl⟩
 exact h.rd1 (o:=10) (hw10 hst)
structure Mid (w0 w':World) (p:Nat) (s0:Slc) (X:Nat→Prop) (b' c:List UInt8) (n':UInt64) (q:Slc):Prop where
 ex : ∃ (s3:Slc) (c1 c2:List UInt8),c=c1++c2∧(rest b'++c1).length % 128=0∧SlRd w' q 1 (bys c2)∧(∀ x,q.blk=some x→X x)∧
  Blk w' p (HW (absorb KS (state KS H0 b') (rest b'++c1) ((rest b'++c1).length / 128)) s3 n') THash∧Sh.Own w' s3 1 (bys [])∧BO w0 s0 s3
 mod:Mod (fun x=>x=p∨s0.blk=some x) w0 w'
set_option maxRecDepth 10000 in
theorem c_write {w:World} {p:Nat} {s:Slc} {b:List UInt8} {parts:Slc} {pl:List (List UInt8)} {X:Nat→Prop} (h:HashAt w p s b) (hg:Glob w) (hp:PartsAt w parts pl X)
 (hXp : ¬ X p) (hXs : ∀ x,s.blk=some x→¬ X x) (hXl : ∀ x,X x→x<w.heap.size) (hn:b.length+(pl.flatten).length≤1000000000) (hm:pl.length≤1000000000) :
 Calls Tryz.prog 298 #[.pointer (some ⟨p,0,none⟩),.slice parts.a parts.len parts.cap] w (Ret fun v w'=>v = .int .i64 0∧∃ s',HashAt w' p s' (b++pl.flatten)∧BO w s s'∧Mod (fun x=>x=p∨s.blk=some x) w w'):=by
 refine call298 _ _ ?_
 unfold sh298
 refine callK_ret (c_there h.blk (st_len b)) ?_
 rintro v w1 ⟨rfl,rfl⟩
 refine ⟨true,rfl,?_⟩
 show condK false _ _
 refine condK_i (fun e=>by cases e) fun _=>?_
 obtain ⟨i5',h51,h52,h53,h54⟩:=i5
 have hpl:=h.blk.lt
 have hY : ∀ x,s.blk=some x→¬ (x=p∨isG x∨X x):=fun x hx e=>e.elim (fun e=>h.ne (by rw [hx,e])) fun e=>e.elim (h.sg x hx) (hXs x hx)
 have hYl : ∀ x,(x=p∨isG x∨X x)→x<w1.heap.size:=fun x e=>e.elim (fun e=>by omega) fun e=>e.elim hg.lt (hXl x)
 have hBs : ∀ x,s.blk=some x→(x=p∨s.blk=some x):=fun x hx=>.inr hx
 have hXn : ∀ x,X x→¬ (x=p∨s.blk=some x):=fun x hx e=>e.elim (fun e=>hXp (by rw [← e]; exact hx)) fun e=>hXs x e hx
 have hGn : ∀ x,isG x→¬ (x=p∨s.blk=some x):=fun x hx e=>e.elim (fun e=>h.pg (by rw [← e]; exact hx)) fun e=>h.sg x e hx
 obtain ⟨ss,hr10,hr2,hr3,hr4⟩:=hp
 refine ⟨fun l w'=>match l with | [.i _ x]=>∃ i:Nat,x=i∧i≤pl.length∧(∃ s',HashAt w' p s' (b++(pl.take i).flatten)∧BO w1 s s')∧Mod (fun x=>x=p∨s.blk=some x) w1 w' | _=>False,
  fun l _=>match l with | [.i _ x]=>(pl.length - x).toNat | _=>0,⟨0,rfl,by omega,⟨s,by simpa using h,BO.refl _ _⟩,Mod.refl _ _⟩,?_⟩
 rintro x w2 ⟨i,rfl,hi,⟨s2,h2,hb2⟩,hm2⟩
 have hr1:=hr10.mod hm2 fun x hx=>hXn x (hr2 x hx)
 have hpn:parts.len=pl.length:=by have:=hr1.1; simp at this; omega
 refine condK_i (fun hc=>?_) (fun hc=>?_)
 ·have hi':i<pl.length:=by simp at hc; omega
  obtain ⟨a,ha,hrd⟩:=rd_slc hr1 (i:=i) (by omega)
  obtain ⟨hrs0,hrx⟩:=hr4 i (by omega) hi'
  have hrs:=hrs0.mod hm2 fun x hx=>hXn x (hrx x hx)
  obtain ⟨q,hq⟩ : ∃ q,q=ss[i]'(by omega):=⟨_,rfl⟩
  rw [← hq] at hrd hrs hrx hrs0
  obtain ⟨c,hcd⟩ : ∃ c,c=pl[i]:=⟨_,rfl⟩
  rw [← hcd] at hrs hrs0
  obtain ⟨b',hbd⟩ : ∃ b',b'=b++(pl.take i).flatten:=⟨_,rfl⟩
  rw [← hbd] at h2
  have hb'n:b'.length+c.length≤1000000000:=by
   have e1:pl.flatten=(pl.take i).flatten++c++(pl.drop (i+1)).flatten:=by
    conv=>lhs; rw [← List.take_append_drop (i+1) pl]
    rw [List.flatten_append,take_snoc hi',List.flatten_append,hcd]
    simp
   have:=congrArg List.length e1
   simp only [List.length_append] at this
   rw [hbd,List.length_append]; omega
  have hnx:b++(pl.take (i+1)).flatten=b'++c:=by rw [take_snoc hi',List.flatten_append,hbd,hcd]; simp
  have hcl:=rd_len8 hrs
  have hqc:=hrs.2.1
  rw [ha]
  have hst:=st_len b'
  have hrl:=rest_len b'
  refine ⟨⟨by omega,by omega⟩,q,hrd,UInt64.ofNat b'.length,h2.blk.rd1 (o:=9) (hw9 hst),?_⟩
  have hmany:UInt64.ofNat b'.length+u64OfInt (q.len:Int)=UInt64.ofNat (b'++c).length:=by
   rw [List.length_append,hcl]
   apply UInt64.toNat_inj.1
   have hu:(u64OfInt (q.len:Int)).toNat=q.len:=by unfold u64OfInt; simp [UInt64.toNat_ofNat']; omega
   rw [UInt64.toNat_add,hu]
   simp [UInt64.toNat_ofNat']
  rw [hmany]
  refine semU_store1 (b:=p) (o:=9) (by kernel_rfl) (by kernel_rfl) rfl h2.blk (by rw [hw_len hst]; omega) fun w3 ht3 hB3=>?_
  rw [hw_set9 hst] at hB3
  have hm3:Mod (fun x=>x=p∨s.blk=some x) w1 w3:=hm2.tr (ht3.mod.mono fun _ _ e=>.inl e)
  have ho3:Sh.Own w3 s2 1 (bys (rest b')):=h2.own.mod ht3.mod fun x hx e=>h2.ne (by rw [hx,e])
  have hrs3:SlRd w3 q 1 (bys c):=hrs.mod ht3.mod fun x hx e=>hXp (by rw [← e]; exact hrx x hx)
  have hol:(rest b').length=s2.len:=by have:=ho3.1; simpa using this
  have hend : ∀ (w':World) (s':Slc),HashAt w' p s' (b'++c)→BO w1 s s'→Mod (fun x=>x=p∨s.blk=some x) w1 w'→
   ∃ i':Nat,IntKind.i64.wrap ((i:Int)+(1:Int))=i'∧i'≤pl.length∧(∃ s',HashAt w' p s' (b++(pl.take i').flatten)∧BO w1 s s')∧Mod (fun x=>x=p∨s.blk=some x) w1 w':=fun w' s' ha hb hm=>
   ⟨i+1,wrap_nat (by omega),by omega,⟨s',by rw [hnx]; exact ha,hb⟩,hm⟩
  have hmu:(pl.length - IntKind.i64.wrap ((i:Int)+(1:Int))).toNat<((pl.length:Int) - i).toNat:=by rw [wrap_nat (by omega)]; omega
  refine ⟨fun l w'=>match l with | [.sl q']=>Mid w1 w' p s X b' c (UInt64.ofNat (b'++c).length) q' | _=>False,⟨s2,hB3.rd1 (o:=8) (hw8 hst),s2,hB3.rd1 (o:=8) (hw8 hst),?_⟩,?_⟩
  ·refine condK_i (fun hl=>?_) (fun hl=>?_)
   ·have hs2:0<s2.len:=by simpa using hl
    have e1:IntKind.i64.wrap ((128:Int) - (s2.len:Int))=((128 - s2.len:Nat):Int):=by rw [wrap_i64 (by omega)]; omega
    rw [e1]
    obtain ⟨n0,hn0⟩ : ∃ n0,n0=min (128 - s2.len) q.len:=⟨_,rfl⟩
    have e2:(if (q.len:Int)<((128 - s2.len:Nat):Int) then (q.len:Int) else ((128 - s2.len:Nat):Int))=(n0:Int):=by split <;> omega
    rw [e2]
    simp only [Int.toNat_natCast]
    have hcut:=SlRd.cut (SlRd.drew hrs3) (l:=0) (n:=n0) (m:=q.cap) (by omega) (by omega) (by omega) (Nat.le_refl _)
    rw [Nat.sub_zero,bys_cut,List.drop_zero] at hcut
    refine ⟨fun w'=>Blk w' p (HW (state KS H0 b') s2 (UInt64.ofNat (b'++c).length)) THash,hB3,⟨by omega,by omega⟩,⟨by omega,by omega⟩,s2,fun w' h=>h.rd1 (o:=8) (hw8 hst),?_,trivial⟩
    refine sem_append u26 h51 h52 h53 rfl h54 (w:=w3.drew) ho3 hcut (bys_one _) (by simp only [cutSl]; omega) (by simp only [cutSl]; omega) fun s4 w4 ho4 hlen4 hblk4 hm4=>⟨s4,rfl,?_⟩
    rw [← bys_app] at ho4
    have hlen4':s4.len=s2.len+n0:=by simpa [cutSl] using hlen4
    have hm3d:Mod (fun x=>x=p∨s.blk=some x) w1 w3.drew:=Mod.dr hm3
    have hm4':=hb2.mod hm3d hBs hm4
    have hb4:BO w1 s s4:=hb2.step hm3d.size hblk4
    have hB4:Blk w4 p (HW (state KS H0 b') s2 (UInt64.ofNat (b'++c).length)) THash:=Blk.mod (w:=w3.drew) hB3 hm4 h2.ne
    have hno4:=hb4.not hY hYl
    refine ⟨semU_store1 (b:=p) (o:=8) (by kernel_rfl) (by kernel_rfl) rfl hB4 (by rw [hw_len hst]; omega) fun w5 ht5 hB5=>?_,trivial⟩
    have hB5:Blk w5 p (HW (state KS H0 b') s4 (UInt64.ofNat (b'++c).length)) THash:=by rw [← hw_set8 hst s4]; exact hB5
    have ho5:Sh.Own w5 s4 1 (bys (rest b'++c.take n0)):=ho4.mod ht5.mod fun x hx e=>hno4 x hx (.inl e)
    have hm5:=hm4'.tr (ht5.mod.mono fun _ _ e=>.inl e)
    refine ⟨s4,hB5.rd1 (o:=8) (hw8 hst),condK_i (fun h128=>?_) (fun h128=>?_)⟩
    ·have h128':s4.len<128:=by simp at h128; omega
     have hn0c:n0=c.length:=by omega
     rw [hn0c,List.take_length] at ho5
     have hdiv:(rest b'++c).length / 128=0:=by rw [List.length_append]; omega
     have hs5:state KS H0 (b'++c)=state KS H0 b':=by rw [state_app,hdiv]; rfl
     have hr5:rest (b'++c)=rest b'++c:=by rw [rest_app,hdiv]; simp
     exact ⟨hend w5 s4 ⟨by rw [hs5]; exact hB5,by rw [hr5]; exact ho5,fun e=>hno4 p e (.inl rfl),h.pg,fun x hx e=>hno4 x hx (.inr (.inl e))⟩ hb4 hm5,hmu⟩
    ·have h128':s4.len=128:=by simp at h128; omega
     have hlb:(rest b'++c.take n0).length=128:=by have:=ho5.1; simp at this ⊢; omega
     have hg5:Glob w5:=hg.mod hm5 hGn
     refine ⟨fun w'=>Blk w' p (HW (state KS H0 b') s4 (UInt64.ofNat (b'++c).length)) THash,hB5,s4,fun w' h=>h.rd1 (o:=8) (hw8 hst),?_,trivial⟩
     have hcb:=c_block (w:=w5.drew) (p:=p) (h:=state KS H0 b') (T:=THash) (r:=[s4.val,.int .u64 (UInt64.ofNat (b'++c).length).toNat,.bool true]) hB5 hst (SlRd.drew ho5.rd) hlb hg5.drew h.pg
     refine callK_ret hcb ?_
     rintro v w6 ⟨rfl,hB6,hm6⟩
     have hB6:Blk w6 p (HW (comp KS (state KS H0 b') (rest b'++c.take n0)) s4 (UInt64.ofNat (b'++c).length)) THash:=hB6
     have hcl8:(comp KS (state KS H0 b') (rest b'++c.take n0)).length=8:=comp_len hst
     refine ⟨rfl,s4,hB6.rd1 (o:=8) (hw8 hcl8),⟨by omega,by omega⟩,?_⟩
     have ho6:Sh.Own w6 s4 1 (bys (rest b'++c.take n0)):=Own.mod (w:=w5.drew) ho5 hm6 fun x hx e=>hno4 x hx (.inl e)
     have ho6c:=ho6.cut (l:=0) (n:=0) (m:=s4.cap) (by omega) (by omega) (by omega) (Nat.le_refl _)
     refine semU_store1 (b:=p) (o:=8) (by kernel_rfl) (by kernel_rfl) rfl hB6 (by rw [hw_len hcl8]; omega) fun w7 ht7 hB7=>?_
     have hB7:Blk w7 p (HW (comp KS (state KS H0 b') (rest b'++c.take n0)) (cutSl s4 1 0 0 s4.cap) (UInt64.ofNat (b'++c).length)) THash:=by rw [← hw_set8 hcl8 (cutSl s4 1 0 0 s4.cap)]; exact hB7
     have hno5:=(hb4.cut (k:=1) (l:=0) (n:=0) (m:=s4.cap) (Nat.le_refl _)).not hY hYl
     have hm7:=((Mod.dr hm5).tr (hm6.mono fun _ _ e=>.inl e)).tr (ht7.mod.mono fun _ _ e=>.inl e)
     have hrs5:SlRd w7 q 1 (bys c):=hrs0.mod hm7 fun x hx=>hXn x (hrx x hx)
     ·have hcut7:=hrs5.cut (l:=n0) (n:=q.len) (m:=q.cap) (by omega) (Nat.le_refl _) (by omega) (Nat.le_refl _)
      rw [bys_cut] at hcut7
      refine ⟨⟨cutSl s4 1 0 0 s4.cap,c.take n0,c.drop n0,(List.take_append_drop n0 c).symm,by omega,?_,fun x hx=>hrx x (blk_cut hx (Nat.le_refl _)),?_,?_,hb4.cut (Nat.le_refl _)⟩,hm7⟩
      ·rw [List.take_of_length_le (by rw [List.length_drop]; omega)] at hcut7
       exact hcut7
      ·have:(rest b'++c.take n0).length / 128=1:=by omega
       rw [this]
       have ha1:absorb KS (state KS H0 b') (rest b'++c.take n0) 1=comp KS (state KS H0 b') (rest b'++c.take n0):=by
        show comp KS (absorb KS (state KS H0 b') (rest b'++c.take n0) 0) _=_
        simp only [absorb,Nat.mul_zero,List.drop_zero]
        rw [List.take_of_length_le (by omega)]
       rw [ha1]
       exact hB7
      ·have:=ho6c.mod ht7.mod fun x hx e=>hno5 x hx (.inl e)
       simpa [bys] using this
   ·have hs2:s2.len=0:=by simp at hl; omega
    have hr0:rest b'=[]:=List.eq_nil_of_length_eq_zero (by omega)
    rw [hr0] at ho3
    refine ⟨⟨s2,[],c,rfl,by rw [hr0]; rfl,hrs3,hrx,?_,ho3,hb2⟩,hm3⟩
    rw [hr0]
    exact hB3
  ·rintro q1 w8 hmid
   refine ⟨fun l w'=>match l with | [.sl q']=>Mid w1 w' p s X b' c (UInt64.ofNat (b'++c).length) q' | _=>False,fun l _=>match l with | [.sl q']=>q'.len | _=>0,hmid,?_⟩
   rintro q2 w9 ⟨⟨s3,c1,c2,hcc,hmod,hrq,hqx,hB9,ho9,hb9⟩,hm9⟩
   have hal:(absorb KS (state KS H0 b') (rest b'++c1) ((rest b'++c1).length / 128)).length=8:=absorb_len hst _
   have hc2:=rd_len8 hrq
   have hno9:=hb9.not hY hYl
   refine condK_i (fun hl=>?_) (fun hl=>?_)
   ·have hq128:128≤q2.len:=by simp at hl; omega
    have hqc2:=hrq.2.1
    have hcut:=SlRd.cut (SlRd.drew hrq) (l:=0) (n:=128) (m:=q2.cap) (by omega) (by omega) (by omega) (Nat.le_refl _)
    rw [Nat.sub_zero,bys_cut,List.drop_zero] at hcut
    have hg9:Glob w9:=hg.mod hm9 hGn
    refine ⟨⟨by omega,by omega⟩,?_,trivial⟩
    refine callK_ret (c_block (w:=w9.drew) (p:=p) (h:=absorb KS (state KS H0 b') (rest b'++c1) ((rest b'++c1).length / 128)) (T:=THash) (r:=[s3.val,.int .u64 (UInt64.ofNat (b'++c).length).toNat,.bool true]) hB9 hal hcut (by rw [List.length_take]; omega) hg9.drew h.pg) ?_
    rintro v w10 ⟨rfl,hB10,hm10⟩
    have hrq10:SlRd w10 q2 1 (bys c2):=SlRd.mod (w:=w9.drew) hrq hm10 fun x hx e=>hXp (by rw [← e]; exact hqx x hx)
    have hcut2:=hrq10.cut (l:=128) (n:=q2.len) (m:=q2.cap) (by omega) (Nat.le_refl _) (by omega) (Nat.le_refl _)
    rw [bys_cut,List.take_of_length_le (by rw [List.length_drop]; omega)] at hcut2
    refine ⟨rfl,⟨by omega,by omega⟩,⟨⟨s3,c1++c2.take 128,c2.drop 128,by rw [hcc,List.append_assoc,List.take_append_drop],?_,hcut2,fun x hx=>hqx x (blk_cut hx (Nat.le_refl _)),?_,Own.mod (w:=w9.drew) ho9 hm10 fun x hx e=>hno9 x hx (.inl e),hb9⟩,(Mod.dr hm9).tr (hm10.mono fun _ _ e=>.inl e)⟩,by simp only [cutSl]; omega⟩
    ·rw [← List.append_assoc,List.length_append,List.length_take]; omega
    ·have hl2:(rest b'++(c1++c2.take 128)).length / 128=(rest b'++c1).length / 128+1:=by rw [← List.append_assoc,List.length_append,List.length_take]; omega
     rw [hl2,← List.append_assoc]
     have e3:=absorb_add (ks:=KS) (h:=state KS H0 b') (a:=rest b'++c1) (b:=c2.take 128) (m:=(rest b'++c1).length / 128) (by omega) 1
     rw [e3]
     have ha1 : ∀ st,absorb KS st (c2.take 128) 1=comp KS st (c2.take 128):=fun st=>by
      show comp KS (absorb KS st (c2.take 128) 0) _=_
      simp only [absorb,Nat.mul_zero,List.drop_zero,List.take_take,Nat.min_self]
     rw [ha1]
     exact hB10
   ·have hq128:q2.len<128:=by simp at hl; omega
    refine ⟨s3,hB9.rd1 (o:=8) (hw8 hal),?_⟩
    have hs3:s3.len=0:=by have:=ho9.1; simp [bys] at this; omega
    refine sem_append u26 h51 h52 h53 rfl h54 ho9 hrq (bys_one _) (by omega) (by omega) fun s4 w10 ho10 hlen10 hblk10 hm10=>⟨s4,rfl,?_⟩
    rw [← bys_app,List.nil_append] at ho10
    have hm10':=hb9.mod hm9 hBs hm10
    have hb10:BO w1 s s4:=hb9.step hm9.size hblk10
    have hno10:=hb10.not hY hYl
    have hB10:=hB9.mod hm10 fun e=>hno9 p e (.inl rfl)
    refine semU_store1 (b:=p) (o:=8) (by kernel_rfl) (by kernel_rfl) rfl hB10 (by rw [hw_len hal]; omega) fun w11 ht11 hB11=>⟨hend w11 s4 ⟨?_,?_,fun e=>hno10 p e (.inl rfl),h.pg,fun x hx e=>hno10 x hx (.inr (.inl e))⟩ hb10 (hm10'.tr (ht11.mod.mono fun _ _ e=>.inl e)),hmu⟩
    ·have hdiv:(rest b'++c).length / 128=(rest b'++c1).length / 128:=by rw [hcc,← List.append_assoc,List.length_append]; omega
     have:state KS H0 (b'++c)=absorb KS (state KS H0 b') (rest b'++c1) ((rest b'++c1).length / 128):=by
      rw [state_app,hdiv]
      conv=>lhs; rw [hcc,← List.append_assoc]
      exact absorb_eq _ (by omega)
     rw [this,← hw_set8 hal s4]
     exact hB11
    ·have hdiv:(rest b'++c).length / 128=(rest b'++c1).length / 128:=by rw [hcc,← List.append_assoc,List.length_append]; omega
     have:rest (b'++c)=c2:=by
      rw [rest_app,hdiv,hcc,← List.append_assoc,List.drop_append,List.drop_eq_nil_of_le (by omega),List.nil_append]
      have:128*((rest b'++c1).length / 128) - (rest b'++c1).length=0:=by omega
      rw [this,List.drop_zero]
     rw [this]
     exact ho10.mod ht11.mod fun x hx e=>hno10 x hx (.inl e)
 ·have hi':i=pl.length:=by simp at hc; omega
  subst hi'
  rw [List.take_length] at h2
  exact ⟨rfl,s2,h2,hb2,hm2⟩
theorem c_new {w:World} (hg:Glob w):Calls Tryz.prog 297 #[] w (Ret fun v w'=>∃ p,v = .pointer (some ⟨p,0,none⟩)∧HashAt w' p ⟨none,0,0⟩ []∧p=w.heap.size∧w'.heap.size=p+1∧Mod NoB w w'):=by
 refine call297 ?_
 unfold sh297
 refine ⟨_,_,_,_,_,_,_,_,hg.begin0,?_⟩
 refine sem_box (l:=HW H0 ⟨none,0,0⟩ 0) rfl fun p w1 hN hb=>⟨_,rfl,p,rfl,⟨hb,own_nil _ _,by simp,hg.fresh (by rw [hN.at_]; exact Nat.le_refl _),by simp⟩,hN.at_,hN.size,hN.mod⟩
theorem c_clone {w:World} {s:Slc} {l:List UInt8} (hs:SlRd w s 1 (bys l)) (hn:l.length≤1000000000) :
 Calls Tryz.prog 61 #[.slice s.a s.len s.cap] w (Ret fun v w'=>∃ s',v=s'.val∧Sh.Own w' s' 1 (bys l)∧(s'.blk=none∨∃ x,s'.blk=some x∧w.heap.size≤x)∧Mod NoB w w'):=by
 obtain ⟨i5',h51,h52,h53,h54⟩:=i5
 have hl:=rd_len8 hs
 refine call61 _ ?_
 unfold sh61
 refine ps_eql_slc (e:=5) u26 ⟨_,rfl,condK_i (fun h=>?_) (fun h=>?_)⟩
 ·have:l=[]:=by
   rcases hs.2.2 with h0 | ⟨b,e1,_⟩
   ·exact bys_inj (b:=[]) h0
   ·rw [e1] at h; simp at h
  subst this
  exact ⟨⟨none,0,0⟩,rfl,own_nil _ _,.inl rfl,Mod.refl _ _⟩
 ·refine sem_lit0 u26 h51 fun b w1 hN=>⟨⟨some ⟨b,0,none⟩,0,0⟩,rfl,?_⟩
  refine sem_append (s:=⟨some ⟨b,0,none⟩,0,0⟩) u26 h51 h52 h53 rfl h54 (own_zero _ _ _) (hs.no hN.mod) (bys_one _) (by simp only []; omega) (by simp only []; omega) fun s' w2 ho hlen hblk hm=>⟨s',rfl,s',rfl,by simpa using ho,?_,?_⟩
  ·rcases hblk with h | h
   ·exact .inl (by rw [h]; simp)
   ·exact .inr ⟨_,h,hN.mod.size⟩
  ·exact hN.mod.fresh hm fun x e=>by simp at e
theorem c_copy {w:World} {p:Nat} {s:Slc} {b:List UInt8} (h:HashAt w p s b) (hg:Glob w) (hn:b.length≤1000000000) :
 Calls Tryz.prog 445 #[.pointer (some ⟨p,0,none⟩)] w (Ret fun v w'=>∃ p' s',v = .pointer (some ⟨p',0,none⟩)∧HashAt w' p' s' b∧w.heap.size≤p'∧(s'.blk=none∨∃ x,s'.blk=some x∧w.heap.size≤x)∧Mod NoB w w'):=by
 refine call445 _ ?_
 unfold sh445
 refine callK_ret (c_there h.blk (st_len b)) ?_
 rintro v w1 ⟨rfl,rfl⟩
 refine ⟨true,rfl,?_⟩
 show condK false _ _
 refine condK_i (fun e=>by cases e) fun _=>?_
 obtain ⟨ih,hi1,hi2,-,-⟩:=(info_of (by kernel_rfl) (by kernel_rfl) (by kernel_rfl) : ∃ i,Tryz.prog.info? 511=some i∧i.zero=some (.agg (List.replicate 8 z64++[.slice none 0 0,z64,.bool false]).toArray)∧i.size=11∧i.bytes=104)
 obtain ⟨k0,k1,k2,k3,k4,k5,k6,k7,hk⟩:=list8 (st_len b)
 have hB:=h.blk
 rw [hk] at hB
 have hpl:=h.blk.lt
 refine ⟨k0,k1,k2,k3,k4,k5,k6,k7,s,UInt64.ofNat b.length,true,hB.rd (o:=0) (vs:=HW [k0,k1,k2,k3,k4,k5,k6,k7] s (UInt64.ofNat b.length)) (fun j v hj=>by rw [Nat.zero_add]; exact hj),?_⟩
 refine sem_alloc (l:=List.replicate 8 z64++[.slice none 0 0,z64,.bool false]) hi1 hi2 rfl fun p' w2 hN hb2=>⟨_,rfl,?_⟩
 have hat:=hN.at_; have hsz:=hN.size
 refine semU_store (b:=p') (o:=0) (vs:=HW [k0,k1,k2,k3,k4,k5,k6,k7] s (UInt64.ofNat b.length)) (by kernel_rfl) (by kernel_rfl) rfl hb2 (by simp [HW]) (by
  intro u hu
  rcases List.mem_append.1 hu with hu | hu
  ·exact us_one _ u hu
  ·simp at hu; rcases hu with rfl | rfl | rfl <;> rfl) fun w3 ht3 hb3=>?_
 have hb3:Blk w3 p' (HW [k0,k1,k2,k3,k4,k5,k6,k7] s (UInt64.ofNat b.length)) THash:=hb3
 have hm3:Mod NoB w1 w3:=hN.mod.fresh ht3.mod fun x e=>by omega
 have hB3:=h.blk.no hm3
 refine ⟨s,hB3.rd1 (o:=8) (hw8 (st_len b)),?_⟩
 have ho3:=h.own.no hm3
 refine callK_ret (c_clone ho3.rd (by rw [rest_len]; omega)) ?_
 rintro v w4 ⟨s',rfl,ho4,hblk4,hm4⟩
 refine ⟨s',rfl,?_⟩
 have hb4:=hb3.no hm4
 have hsz3:=ht3.size
 have hno : ∀ x,s'.blk=some x→w3.heap.size≤x:=fun x hx=>by
  rcases hblk4 with e | ⟨y,e,hy⟩
  ·rw [e] at hx; cases hx
  ·rw [e] at hx; cases hx; exact hy
 refine semU_store1 (b:=p') (o:=8) (by kernel_rfl) (by kernel_rfl) rfl hb4 (by simp [HW]) fun w5 ht5 hb5=>⟨p',s',rfl,⟨?_,?_,?_,hg.fresh (by omega),fun x hx=>hg.fresh (by have:=hno x hx; omega)⟩,by omega,?_,?_⟩
 ·have:(HW [k0,k1,k2,k3,k4,k5,k6,k7] s (UInt64.ofNat b.length)).set 8 s'.val=HW [k0,k1,k2,k3,k4,k5,k6,k7] s' (UInt64.ofNat b.length):=rfl
  rw [hk,← this]; exact hb5
 ·exact ho4.mod ht5.mod fun x hx e=>by have:=hno x hx; omega
 ·intro e; have:=hno p' e; omega
 ·rcases hblk4 with e | ⟨y,e,hy⟩
  ·exact .inl e
  ·exact .inr ⟨y,e,by omega⟩
 ·exact (hm3.tr hm4).fresh ht5.mod fun x e=>by omega
section
variable {K:Slc→World→Prop} {w:World}
theorem sem_byte0 {w0:World} {s:Slc} {l:List UInt8} {c:UInt8} (hs:Row0 5 w s (bys l)) (hf:FB w0 s) (hm:Mod NoB w0 w) (hn:l.length≤2000000000)
 (hK : ∀ (s':Slc) w',Row0 5 w' s' (bys (l++[c]))→FB w0 s'→Mod NoB w0 w'→s'.len=s.len+1→K s' w') :
 semK Tryz.prog (Instr.buildSlice 22 1 #[(0,(.int .u8 c.toNat))]) w fun v w2=>∃ x1:Slc,v=(.slice x1.a x1.len x1.cap)∧semK Tryz.prog (Builtin.append_ #[22,22] 22 #[(.slice s.a s.len s.cap),(.slice x1.a x1.len x1.cap)]) w2 fun v1 w3=>∃ x2:Slc,v1=(.slice x2.a x2.len x2.cap)∧K x2 w3:=by
 obtain ⟨i5',h51,h52,h53,h54⟩:=i5
 have hl:=rd_len8 hs.own.rd
 refine sem_lit (l:=[.int .u8 c.toNat]) [.int .u8 c.toNat] u26 h51 h52 h53 (by decide) rfl (by decide) (by decide) rfl (by simp [Value.cells]) rfl fun b w1 hN hb=>⟨⟨_,_,_⟩,rfl,?_⟩
 have hm1:=hm.tr hN.mod
 refine sem_append_row u26 h51 h52 h53 rfl h54 (hs.mod hN.mod fun _ _ h=>h) (own_whole (n:=1) (k:=1) hb rfl).rd (bys_one [c]) (by simp only []; omega) (by simp only []; omega) (by simp only []; omega) fun s' w2 ho hlen hblk hm2=>⟨s',rfl,hK s' w2 ?_ (hf.step hm1.size hblk) (hf.mod hm1 hm2) hlen⟩
 rw [bys_app]; exact ho
end
theorem be8_at (x:UInt64) : ∀ k,k<8→(be8 x)[k]? = some (shrU64 x (56 - 8*k)).toUInt8
 | 0,_=>rfl | 1,_=>rfl | 2,_=>rfl | 3,_=>rfl | 4,_=>rfl | 5,_=>rfl | 6,_=>rfl | 7,_=>rfl
 | n+8,h=>by omega
theorem be8_take {x:UInt64} {k:Nat} (h:k<8):(be8 x).take (k+1)=(be8 x).take k++[(shrU64 x (56 - 8*k)).toUInt8]:=by
 have:=be8_at x k h
 rw [take_snoc (by simpa using h)]
 rw [List.getElem?_eq_getElem (by simpa using h)] at this
 rw [Option.some.inj this]
theorem c_sumHW {w:World} {p:Nat} {s:Slc} {b:List UInt8} (h:HashAt w p s b) (hg:Glob w) (hn:b.length≤900000000) :
 Calls Tryz.prog 299 #[.pointer (some ⟨p,0,none⟩)] w (Ret fun v w'=>∃ x:Slc,v=x.val∧Row0 5 w' x (bys (sha b))∧FB w x∧Mod NoB w w'):=by
 refine call299 _ ?_
 unfold sh299
 obtain ⟨i5',h51,h52,h53,h54⟩:=i5
 obtain ⟨i26',h261,h262,h263,h264⟩:=i26
 refine callK_ret (c_copy h hg (by omega)) ?_
 rintro v w1 ⟨p',s1,rfl,hh1,hp1,hs1,hm1⟩
 refine ⟨_,rfl,ps_eql_ptr (e:=THash) (by kernel_rfl) ⟨_,rfl,condK_i (fun e=>by cases e) fun _=>?_⟩⟩
 have hFs:FB w s1:=FB.of hs1
 have hp1l:=hh1.blk.lt
 have hrl:=rest_len b
 have hleft:(rest b).length=s1.len:=rd_len8 hh1.own.rd
 refine ⟨UInt64.ofNat b.length,hh1.blk.rd1 (o:=9) (hw9 (st_len b)),?_⟩
 refine sem_makeSlice (l:=0) (c:=256) u26 h51 h52 h53 rfl h54 rfl rfl (by omega) (by omega) (by omega) fun e0 w2 hN2 hb2 ho2=>⟨⟨_,_,_⟩,rfl,?_⟩
 have hm2:Mod NoB w w2:=hm1.tr hN2.mod
 have hf2:FB w ⟨some ⟨e0,0,none⟩,0,256⟩:=FB.new (by rw [hN2.at_]; exact hm1.size)
 have hsep : ∀ (w':World),Mod NoB w1 w'→HashAt w' p' s1 b:=fun w' hm=>hh1.no hm
 have hf2':FB w1 ⟨some ⟨e0,0,none⟩,0,256⟩:=FB.new (by rw [hN2.at_]; exact Nat.le_refl _)
 refine sem_byte (w0:=w1) (l:=[]) (c:=128) (s:=⟨some ⟨e0,0,none⟩,0,256⟩) ho2 hf2' hN2.mod (by simp) fun s3 w3 ho3 hf3 hm3 hl3=>?_
 refine ⟨fun l w'=>match l with | [.sl q]=>∃ j:Nat,j≤padZ b.length∧Sh.Own w' q 1 (bys ([128]++List.replicate j 0))∧FB w1 q∧Mod NoB w1 w' | _=>False,fun l _=>match l with | [.sl q]=>1+padZ b.length - q.len | _=>0,⟨0,by omega,ho3,hf3,hm3⟩,?_⟩
 rintro q w4 ⟨j,hj,hoq,hfq,hm4⟩
 have hql:q.len=1+j:=by have:=rd_len8 hoq.rd; simp at this; omega
 have hh4:=hsep w4 hm4
 have hpz:padZ b.length<128:=Nat.mod_lt _ (by decide)
 have hpz2:padZ b.length=(239 - b.length % 128) % 128:=rfl
 have hw:IntKind.i64.wrap ((s1.len:Int)+(q.len:Int))=((s1.len+q.len:Nat):Int):=by rw [wrap_i64 (by omega)]; omega
 refine ⟨s1,hh4.blk.rd1 (o:=8) (hw8 (st_len b)),by decide,?_⟩
 rw [hw]
 have htm:Int.tmod ((s1.len+q.len:Nat):Int) (128:Int)=((s1.len+q.len) % 128:Nat):=rfl
 rw [htm]
 refine condK_i (fun hc=>?_) (fun hc=>?_)
 ·have hne:(s1.len+q.len) % 128≠112:=by simp at hc; omega
  have hjlt:j<padZ b.length:=by omega
  refine sem_byte (w0:=w1) (c:=0) hoq hfq hm4 (by simp; omega) fun s5 w5 ho5 hf5 hm5 hl5=>⟨⟨j+1,by omega,?_,hf5,hm5⟩,by (try simp only []); omega⟩
  rw [List.append_assoc,← List.replicate_succ'] at ho5
  exact ho5
 ·have heq:(s1.len+q.len) % 128=112:=by simp at hc; omega
  have hjeq:j=padZ b.length:=by omega
  subst hjeq
  refine sem_append_zeros (t2:=3) (k2:=.i64) (z:=.int .u8 0) (n:=8) (s:=q) u26 (by kernel_rfl) h51 h52 h53 rfl rfl h54 rfl hoq (by omega) (by omega) fun s5 w5 ho5 hl5 hblk5 hm5=>⟨s5,rfl,?_⟩
  rw [bys_rep,← bys_app] at ho5
  have hf5:=hfq.step hm4.size hblk5
  have hm5:=hfq.mod hm4 hm5
  refine ⟨fun l w'=>match l with | [.sl q,.i _ s]=>∃ k:Nat,s=56 - 8*(k:Int)∧k≤8∧Sh.Own w' q 1 (bys ([128]++List.replicate (padZ b.length) 0++List.replicate 8 0++(be8 (8*UInt64.ofNat b.length)).take k))∧FB w1 q∧Mod NoB w1 w' | _=>False,
   fun l _=>match l with | [.sl q,.i _ s]=>(s+8).toNat | _=>0,⟨0,by omega,by omega,by simpa using ho5,hf5,hm5⟩,?_⟩
  rintro q6 t w6 ⟨k,rfl,hk,ho6,hf6,hm6⟩
  refine condK_i (fun hc=>?_) (fun hc=>?_)
  ·have hk8:k<8:=by simp at hc; omega
   have hsN:(56 - 8*(k:Int)).toNat=56 - 8*k:=by omega
   rw [hsN]
   refine ⟨by omega,sem_byte (w0:=w1) ho6 hf6 hm6 (by simp; omega) fun s7 w7 ho7 hf7 hm7 hl7=>⟨⟨k+1,?_,by omega,?_,hf7,hm7⟩,?_⟩⟩
   ·rw [wrap_i64 (by omega)]; omega
   ·rw [be8_take hk8,← List.append_assoc]; exact ho7
   ·rw [wrap_i64 (by omega)]; (try simp only []); omega
  ·have hk8:k=8:=by simp at hc; omega
   subst hk8
   rw [List.take_of_length_le (by simp)] at ho6
   have hpe:[128]++List.replicate (padZ b.length) 0++List.replicate 8 0++be8 (8*UInt64.ofNat b.length)=padEnd b.length:=rfl
   rw [hpe] at ho6
   have hq6:=rd_len8 ho6.rd
   have hpel:(padEnd b.length).length≤256:=(pad_len b).2
   refine sem_lit (l:=[q6.val]) [q6.val] u22 h261 h262 h263 (by decide) rfl (by decide) (by decide) rfl (by simp [Slc.val,Value.cells]) rfl fun e7 w7 hN7 hb7=>⟨⟨_,_,_⟩,rfl,?_⟩
   have hm7:=hm6.tr hN7.mod
   have hh7:=hsep w7 hm7
   have ho7:=ho6.no hN7.mod
   have he7:=hN7.at_
   have hq6l : ∀ x,q6.blk=some x→w1.heap.size≤x∧x<w6.heap.size:=fun x hx=>⟨hf6 x hx,ho6.lt hx⟩
   have hs1l : ∀ x,s1.blk=some x→x<w1.heap.size:=fun x hx=>hh1.own.lt hx
   have hm6s:=hm6.size
   have hsz7:=hN7.size
   have hparts:PartsAt w7 ⟨some ⟨e7,0,none⟩,1,1⟩ [padEnd b.length] (fun x=>x=e7∨q6.blk=some x):=by
    refine ⟨[q6],(own_whole (n:=1) (k:=1) hb7 rfl).rd,fun x hx=>.inl ?_,rfl,fun i hi hi'=>?_⟩
    ·simp at hx; omega
    ·have:i=0:=by simp at hi; omega
     subst this
     exact ⟨ho7.rd,fun x hx=>.inr hx⟩
   refine callK_ret (c_write hh7 (hg.no (hm1.tr hm7)) hparts (fun e=>e.elim (fun e=>by omega) fun e=>by have:=hq6l _ e; omega) (fun x hx e=>e.elim (fun e=>by have:=hs1l x hx; omega) fun e=>by have:=hq6l _ e; have:=hs1l x hx; omega)
    (fun x e=>e.elim (fun e=>by omega) fun e=>by have:=hq6l _ e; omega) (by simp; omega) (by simp)) ?_
   rintro v w8 ⟨rfl,s8,hh8,hb8,hm8⟩
   have hm8':Mod NoB w w8:=(hm1.tr hm7).fresh hm8 fun x e=>e.elim (fun e=>by omega) fun e=>hFs x e
   have hpad:b++[padEnd b.length].flatten=pad b:=by simp [pad]
   rw [hpad] at hh8
   obtain ⟨k0,k1,k2,k3,k4,k5,k6,k7,hst⟩:=list8 (st_len (pad b))
   have hB8:=hh8.blk
   rw [hst] at hB8
   have hsha:sha b=digest [k0,k1,k2,k3,k4,k5,k6,k7]:=by unfold sha; rw [shaBy_eq,hst]
   refine ⟨_,rfl,k0,k1,k2,k3,k4,k5,k6,k7,hB8.rd (o:=0) (vs:=us [k0,k1,k2,k3,k4,k5,k6,k7]) (fun j v hj=>by
    rw [Nat.zero_add]; unfold HW; rw [List.getElem?_append_left (List.getElem?_eq_some_iff.1 hj).1,hj]),?_⟩
   rw [hsha]
   obtain ⟨st,hstd⟩ : ∃ st,st=[k0,k1,k2,k3,k4,k5,k6,k7]:=⟨_,rfl⟩
   have hstl:st.length=8:=by rw [hstd]; rfl
   have htv:([.u64 k0,.u64 k1,.u64 k2,.u64 k3,.u64 k4,.u64 k5,.u64 k6,.u64 k7]:List TV)=st.map TV.u64:=by rw [hstd]; rfl
   rw [htv,← hstd]
   refine ⟨fun l w'=>match l with | [.sl q,.i _ x]=>∃ i:Nat,x=i∧i≤8∧Row0 5 w' q (bys (digest (st.take i)))∧FB w q∧Mod NoB w w' | _=>False,fun l _=>match l with | [.sl q,.i _ x]=>(8 - x).toNat | _=>0,
    ⟨0,rfl,by omega,.inl ⟨rfl,rfl⟩,FB.nil _,hm8'⟩,?_⟩
   rintro out x w9 ⟨i,rfl,hi,ho9,hf9,hm9⟩
   have hdl : ∀ (l:List UInt64),(digest l).length=8*l.length:=fun l=>by
    induction l with
    | nil=>rfl
    | cons a l ih=>simp [digest] at ih ⊢; omega
   refine condK_i (fun hc=>?_) (fun hc=>?_)
   ·have hi8:i<8:=by simp at hc; omega
    refine ⟨⟨by omega,by omega⟩,?_,st[i],?_,?_⟩
    ·intro z hz
     obtain ⟨y,_,rfl⟩:=List.mem_map.1 hz
     rfl
    ·rw [Int.toNat_natCast,List.getElem?_map,List.getElem?_eq_getElem (by omega)]; rfl
    refine ⟨fun l w'=>match l with | [.sl q,.i _ s]=>∃ k:Nat,s=56 - 8*(k:Int)∧k≤8∧Row0 5 w' q (bys (digest (st.take i)++(be8 st[i]).take k))∧FB w q∧Mod NoB w w' | _=>False,
     fun l _=>match l with | [.sl q,.i _ s]=>(s+8).toNat | _=>0,⟨0,by omega,by omega,by simpa using ho9,hf9,hm9⟩,?_⟩
    rintro q10 t w10 ⟨k,rfl,hk,ho10,hf10,hm10⟩
    refine condK_i (fun hc=>?_) (fun hc=>?_)
    ·have hk8:k<8:=by simp at hc; omega
     have hsN:(56 - 8*(k:Int)).toNat=56 - 8*k:=by omega
     rw [hsN]
     refine ⟨by omega,sem_byte0 (w0:=w) ho10 hf10 hm10 (by simp [hdl]; omega) fun s7 w7 ho7 hf7 hm7 hl7=>⟨⟨k+1,?_,by omega,?_,hf7,hm7⟩,?_⟩⟩
     ·rw [wrap_i64 (by omega)]; omega
     ·rw [be8_take hk8,← List.append_assoc]; exact ho7
     ·rw [wrap_i64 (by omega)]; (try simp only []); omega
    ·have hk8:k=8:=by simp at hc; omega
     subst hk8
     rw [List.take_of_length_le (l:=be8 (st[i]'(by omega))) (by rw [be8_len]; omega)] at ho10
     refine ⟨⟨i+1,wrap_nat (by omega),by omega,?_,hf10,hm10⟩,?_⟩
     ·rw [take_snoc (by omega)]
      have:digest (st.take i++[st[i]])=digest (st.take i)++be8 st[i]:=by simp only [digest,List.flatMap_append,List.flatMap_cons,List.flatMap_nil,List.append_nil]
      rw [this]; exact ho10
     ·rw [wrap_nat (by omega)]; (try simp only []); omega
   ·have hi8:i=8:=by simp at hc; omega
    subst hi8
    rw [List.take_of_length_le (by omega)] at ho9
    exact ⟨out,rfl,ho9,hf9,hm9⟩
theorem c_sumW {w:World} {parts:Slc} {pl:List (List UInt8)} {X:Nat→Prop} (hg:Glob w) (hp:PartsAt w parts pl X) (hXl : ∀ x,X x→x<w.heap.size) (hn:(pl.flatten).length≤900000000) (hm:pl.length≤1000000000) :
 Calls Tryz.prog 175 #[.slice parts.a parts.len parts.cap] w (Ret fun v w'=>∃ x:Slc,v=x.val∧Row0 5 w' x (bys (sha pl.flatten))∧FB w x∧Mod NoB w w'):=by
 refine call175 _ ?_
 unfold sh175
 refine callK_ret (c_new hg) ?_
 rintro v w1 ⟨p,rfl,hh1,hp1,hs1,hm1⟩
 refine ⟨_,rfl,?_⟩
 refine callK_ret (c_write hh1 (hg.no hm1) (hp.mod hm1 fun _ _ h=>h) (fun e=>by have:=hXl _ e; omega) (fun x hx=>by simp at hx) (fun x e=>by have:=hXl _ e; omega) (by rw [List.length_nil,Nat.zero_add]; omega) hm) ?_
 rintro v w2 ⟨rfl,s2,hh2,hb2,hm2⟩
 have hm2':Mod NoB w w2:=hm1.fresh hm2 fun x e=>e.elim (fun e=>by omega) fun e=>by simp at e
 refine ⟨_,rfl,callK_ret (c_sumHW hh2 (hg.no hm2') (by simpa using hn)) ?_⟩
 rintro v w3 ⟨x,rfl,ho,hf,hm3⟩
 rw [List.nil_append] at ho
 exact ⟨x,rfl,x,rfl,ho,hf.le hm2'.size,hm2'.tr hm3⟩
theorem c_sum {w:World} {parts:Slc} {pl:List (List UInt8)} {X:Nat→Prop} (hg:Glob w) (hp:PartsAt w parts pl X) (hXl : ∀ x,X x→x<w.heap.size) (hn:(pl.flatten).length≤900000000) (hm:pl.length≤1000000000) :
 Calls Tryz.prog 175 #[.slice parts.a parts.len parts.cap] w (Ret fun v w'=>∃ x:Slc,v=x.val∧Sh.Own w' x 1 (bys (sha pl.flatten))∧FB w x∧Mod NoB w w'):=
 Calls.mono (c_sumW hg hp hXl hn hm) fun e w' he=>by
  cases e <;> first | exact he.elim | skip
  obtain ⟨x,h1,h2,h3⟩:=he
  exact ⟨x,h1,h2.own,h3⟩
end Go.Proofs.YtihafpcnhgapdaaGreatDoor
end
section
namespace Go.Proofs.YtihafpcnhgapdaaGreatDoor
open Go Go.Sh Go.X
structure GS (w:World):Prop where
 sha:Glob w
 ge:GE w
theorem GS.no {w w':World} (h:GS w) (hm:Mod NoB w w'):GS w':=⟨h.sha.no hm,GE_no h.ge _ hm⟩
theorem sha_len' (b:List UInt8):(sha b).length=64:=by rw [sha,shaBy_eq]; exact digest_len (st_len _)
def clampB (D:List UInt8):List UInt8:=(D.set 0 (D.getD 0 0 &&& ~~~(7:UInt8))).set 31 ((D.getD 31 0 &&& 63) ||| 64)
def secB (l:List UInt8):List UInt8:=(clampB (sha l)).take 32
def drwB (l:List UInt8):List UInt8:=(clampB (sha l)).drop 32
noncomputable def keyP (l:List UInt8):P4:=mulB baseP (bitsT (secB l))
noncomputable def pubF (l:List UInt8):List UInt8:=putP (keyP l)
theorem pubF_len (l:List UInt8):(pubF l).length=32:=putP_len _
structure OpenF (w0 w:World) (o:Nat) (l:List UInt8):Prop where
 cells : ∃ (ps:List UInt64) (s d:Slc) (T:TypeId),ps.length=20∧P4.of ps (keyP l)∧Blk w o (us ps++[s.val,d.val]) T∧SlRd w s 1 (bys (secB l))∧SlRd w d 1 (bys (drwB l))∧(∀ z,s.blk=some z→w0.heap.size≤z∧z<w.heap.size)∧(∀ z,d.blk=some z→w0.heap.size≤z∧z<w.heap.size)
 new:w0.heap.size≤o
theorem OpenF.no {w0 w w':World} {o:Nat} {l:List UInt8} (h:OpenF w0 w o l) (hm:Mod NoB w w'):OpenF w0 w' o l:=by
 obtain ⟨⟨ps,s,d,T,h1,h0,h2,h3,h4,h5,h6⟩,hn⟩:=h
 exact ⟨⟨ps,s,d,T,h1,h0,h2.no hm,h3.no hm,h4.no hm,fun z hz=>⟨(h5 z hz).1,Nat.lt_of_lt_of_le (h5 z hz).2 hm.size⟩,fun z hz=>⟨(h6 z hz).1,Nat.lt_of_lt_of_le (h6 z hz).2 hm.size⟩⟩,hn⟩
theorem c_openF {w:World} {seed:Slc} {l:List UInt8} (hg:GS w) (hs:SlRd w seed 1 (bys l)) (hsl : ∀ z,seed.blk=some z→z<w.heap.size) (hl:l.length=32) :
 Calls Tryz.prog 92 #[.slice seed.a seed.len seed.cap] w (Ret fun v w'=>∃ o,v = .tuple #[.pointer (some ⟨o,0,none⟩),.bool true]∧OpenF w w' o l∧Mod NoB w w'):=by
 refine call92 _ ?_
 unfold sh92
 have hlen:=rd_len8 hs
 refine condK_i (fun h=>by simp at h; omega) fun _=>?_
 refine sem_rows [seed] rfl rfl (by omega) (by omega) fun x vb w1 hN1 ex hB1 hx1=>⟨x,rfl,?_⟩
 subst ex
 refine callK_ret (c_sum (pl:=[l]) (X:=fun z=>z<w1.heap.size) (hg.no hN1.mod).sha ⟨[seed],hx1.rd,fun z hz=>hx1.lt hz,rfl,rows1 (hs.no hN1.mod) (fun z hz=>Nat.lt_of_lt_of_le (hsl z hz) hN1.mod.size)⟩ (fun _ h=>h) (by simp; omega) (by simp)) ?_
 rintro v w2 ⟨d,rfl,ho2,hb2,hm2⟩
 have hM2:=hN1.mod.tr hm2
 have hdl:=rd_len8 ho2.rd
 rw [sha_len'] at hdl
 have hdc:=ho2.2.1
 have hcl:clampB (sha l)=((sha [l].flatten).set 0 ((sha [l].flatten).getD 0 0 &&& ~~~(7:UInt8))).set 31 (((sha [l].flatten).getD 31 0 &&& 63) ||| 64):=by simp [clampB]
 generalize hsh:sha [l].flatten=D at *
 have hD:D.length=64:=by rw [← hsh]; exact sha_len' _
 rcases ho2.owned with ⟨e1,_,_⟩ | ⟨hz1,db,o,L,E,ea,hB,hfit,hcon⟩
 ·omega
 obtain ⟨da,dl,dc⟩:=d
 simp only [] at hdl hdc ea hz1 hfit hcon
 subst hdl ea
 have hdb:w.heap.size≤db:=Nat.le_trans hN1.mod.size (hb2 db (Slc.blk_of rfl hz1))
 have ec:cutSl ⟨some ⟨db,o,none⟩,64,dc⟩ 1 0 32 32=⟨some ⟨db,o,none⟩,32,32⟩:=by unfold cutSl; rw [if_neg (by omega)]; simp
 have ec2:cutSl ⟨some ⟨db,o,none⟩,64,dc⟩ 1 32 64 dc=⟨some ⟨db,o+32,none⟩,32,dc - 32⟩:=by unfold cutSl; rw [if_neg (by omega)]; simp
 have i32:((32:Int)).toNat=32:=rfl
 have hk : ∀ {w':World} {m:List UInt8} (ho:Sh.Own w' ⟨some ⟨db,o,none⟩,64,dc⟩ 1 (bys m)) {i:Nat} (hi:i<m.length),Rd w' ((⟨db,o,none⟩:Addr).add (i*1)) [.int .u8 m[i].toNat]:=fun ho i hi=>by
  obtain ⟨a,e,hr⟩:=rd_u8 ho.rd hi
  cases e; exact hr
 refine ⟨⟨_,_,_⟩,rfl,?_⟩
 simp only [i32,ec,ec2]
 refine ⟨⟨by omega,by omega,by omega⟩,⟨by omega,by omega⟩,_,hk ho2 (i:=0) (by omega),⟨by omega,by omega⟩,?_⟩
 refine semU_own1 (by kernel_rfl) (by kernel_rfl) rfl ho2 rfl (i:=0) (by show 0<64; omega) fun w3 ho3 hm3 hs3=>?_
 rw [bys_set] at ho3
 refine ⟨⟨by omega,by omega⟩,_,hk ho3 (i:=31) (by simp; omega),⟨by omega,by omega⟩,?_⟩
 refine semU_own1 (by kernel_rfl) (by kernel_rfl) rfl ho3 rfl (i:=31) (by show 31<64; omega) fun w4 ho4 hm4 hs4=>?_
 rw [bys_set] at ho4
 have hcD:(D.set 0 (D[0] &&& ~~~(7:UInt8))).set 31 (((D.set 0 (D[0] &&& ~~~(7:UInt8)))[31]'(by simp; omega) &&& 63) ||| 64)=clampB (sha l):=by
  rw [hcl]
  simp [List.getD,hD]
 rw [hcD] at ho4
 have hbd : ∀ z,Slc.blk ⟨some ⟨db,o,none⟩,64,dc⟩=some z→w.heap.size≤z:=fun z hz=>by rw [Slc.blk_mk,if_neg (by omega)] at hz; cases hz; exact hdb
 have hM4:Mod NoB w w4:=(hM2.fresh hm3 hbd).fresh hm4 hbd
 have hCl:(clampB (sha l)).length=64:=by simp [clampB,sha_len']
 refine ⟨⟨by omega,by show (32:Int)≤((64:Nat):Int); omega⟩,?_,trivial⟩
 refine callK_ret (c_BaseF (hg.no (hM4.tr (Mod.drew _ _))).ge) ?_
 rintro v w5 ⟨bl,hbl1,hbl2,rfl,hm5⟩
 obtain ⟨x0,x1,x2,x3,x4,x5,x6,x7,x8,x9,x10,x11,x12,x13,x14,x15,x16,x17,x18,x19,rfl⟩:=lst20 hbl1
 refine ⟨x0,x1,x2,x3,x4,x5,x6,x7,x8,x9,x10,x11,x12,x13,x14,x15,x16,x17,x18,x19,rfl,?_,trivial⟩
 have hM5:Mod NoB w w5:=(hM4.tr (Mod.drew _ _)).tr hm5
 have ho5:Sh.Own w5 ⟨some ⟨db,o,none⟩,64,dc⟩ 1 _:=ho4.no ((Mod.drew _ _).tr hm5)
 have hmk : ∀ {m:List UInt8} {w':World} (ho:Sh.Own w' ⟨some ⟨db,o,none⟩,64,dc⟩ 1 (bys m)),m.length=64→SlRd w' ⟨some ⟨db,o,none⟩,32,32⟩ 1 (bys (m.take 32))∧SlRd w' ⟨some ⟨db,o+32,none⟩,32,dc - 32⟩ 1 (bys (m.drop 32)):=fun {m w'} ho hm=>by
  have h1:=ho.rd.cut (l:=0) (n:=32) (m:=32) (by omega) (by simp only []; omega) (by omega) (by simp only []; omega)
  have h2:=ho.rd.cut (l:=32) (n:=64) (m:=dc) (by omega) (by simp only []; omega) (by omega) (by simp only []; omega)
  rw [ec,bys_cut] at h1
  rw [ec2,bys_cut] at h2
  refine ⟨by simpa using h1,?_⟩
  have:(m.drop 32).take (64 - 32)=m.drop 32:=List.take_of_length_le (by simp; omega)
  rw [this] at h2; exact h2
 have hbl:db<w5.heap.size:=ho5.lt (Slc.blk_of rfl hz1)
 have hx1:=(hmk (m:=clampB (sha l)) ho5 hCl).1
 have hmul:=c_eMulF (hg.no hM5).ge hx1 (fun z hz=>by rw [Slc.blk_mk] at hz; simp at hz; omega) hbl2
 refine callK_ret hmul ?_
 rintro v w6 ⟨kl,hk1,hk2,rfl,hm6⟩
 obtain ⟨y0,y1,y2,y3,y4,y5,y6,y7,y8,y9,y10,y11,y12,y13,y14,y15,y16,y17,y18,y19,rfl⟩:=lst20 hk1
 refine ⟨y0,y1,y2,y3,y4,y5,y6,y7,y8,y9,y10,y11,y12,y13,y14,y15,y16,y17,y18,y19,rfl,?_,trivial⟩
 have ho6:=ho5.no hm6
 refine sem_box (l:=us [y0,y1,y2,y3,y4,y5,y6,y7,y8,y9,y10,y11,y12,y13,y14,y15,y16,y17,y18,y19]++[Slc.val ⟨some ⟨db,o,none⟩,32,32⟩,Slc.val ⟨some ⟨db,o+32,none⟩,32,dc - 32⟩]) rfl fun q w7 hN7 hb7=>⟨_,rfl,q,rfl,⟨⟨_,⟨some ⟨db,o,none⟩,32,32⟩,⟨some ⟨db,o+32,none⟩,32,dc - 32⟩,_,rfl,hk2,hb7,(hmk (ho6.no hN7.mod) hCl).1,(hmk (ho6.no hN7.mod) hCl).2,fun z hz=>?_,fun z hz=>?_⟩,?_⟩,(hM5.tr hm6).tr hN7.mod⟩
 ·rw [Slc.blk_mk] at hz; simp at hz; have:=hm6.size; have:=hN7.mod.size; omega
 ·rw [Slc.blk_mk] at hz; split at hz
  ·cases hz
  ·simp at hz; have:=hm6.size; have:=hN7.mod.size; omega
 ·have:=hN7.at_; have:=(hM5.tr hm6).size; omega
theorem rd20F {w:World} {o:Nat} {ps:List UInt64} {r:List Value} {T:TypeId} {p:P4} (hB:Blk w o (us ps++r) T) (hp:ps.length=20) (hP:P4.of ps p) {K:UInt64→UInt64→UInt64→UInt64→UInt64→UInt64→UInt64→UInt64→UInt64→UInt64→UInt64→UInt64→UInt64→UInt64→UInt64→UInt64→UInt64→UInt64→UInt64→UInt64→Prop}
 (hK : ∀ x0 x1 x2 x3 x4 x5 x6 x7 x8 x9 x10 x11 x12 x13 x14 x15 x16 x17 x18 x19,P4.of [x0,x1,x2,x3,x4,x5,x6,x7,x8,x9,x10,x11,x12,x13,x14,x15,x16,x17,x18,x19] p→K x0 x1 x2 x3 x4 x5 x6 x7 x8 x9 x10 x11 x12 x13 x14 x15 x16 x17 x18 x19) :
 ∃ xaa xab xac xad xae xba xbb xbc xbd xbe xca xcb xcc xcd xce xda xdb xdc xdd xde:UInt64,Rd w ((⟨o,0,none⟩:Addr).add 0) (l20 xaa xab xac xad xae xba xbb xbc xbd xbe xca xcb xcc xcd xce xda xdb xdc xdd xde)∧K xaa xab xac xad xae xba xbb xbc xbd xbe xca xcb xcc xcd xce xda xdb xdc xdd xde:=by
 obtain ⟨x0,x1,x2,x3,x4,x5,x6,x7,x8,x9,x10,x11,x12,x13,x14,x15,x16,x17,x18,x19,rfl⟩:=lst20 hp
 refine ⟨x0,x1,x2,x3,x4,x5,x6,x7,x8,x9,x10,x11,x12,x13,x14,x15,x16,x17,x18,x19,?_,hK _ _ _ _ _ _ _ _ _ _ _ _ _ _ _ _ _ _ _ _ hP⟩
 rw [addl]
 exact hB.rd fun j v hj=>by
  rw [List.getElem?_append_left (by have:=(List.getElem?_eq_some_iff.1 hj).1; simpa [us] using this)]
  simpa [us] using hj
theorem c_publicF {w w0:World} {o:Nat} {l:List UInt8} (hw:GE w) (hO:OpenF w0 w o l):Calls Tryz.prog 93 #[.pointer (some ⟨o,0,none⟩)] w (Ret (RBy (pubF l) w)):=by
 refine call93 _ ?_
 unfold sh93
 obtain ⟨⟨ps,s,d,T,h1,h2,hB,_⟩,_⟩:=hO
 refine rd20F hB h1 h2 fun x0 x1 x2 x3 x4 x5 x6 x7 x8 x9 x10 x11 x12 x13 x14 x15 x16 x17 x18 x19 hP=>?_
 refine callK_ret (c_ePutF hw hP) ?_
 rintro v w1 ⟨b,T',rfl,h⟩
 exact ⟨⟨some ⟨b,0,none⟩,_,_⟩,rfl,b,T',rfl,h⟩
theorem c_PublicF {w:World} {seed:Slc} {l:List UInt8} (hg:GS w) (hs:SlRd w seed 1 (bys l)) (hsl : ∀ z,seed.blk=some z→z<w.heap.size) (hl:l.length=32) :
 Calls Tryz.prog 32 #[.slice seed.a seed.len seed.cap] w (Ret (RBy (pubF l) w)):=by
 refine call32 _ ?_
 unfold sh32
 refine callK_ret (c_openF hg hs hsl hl) ?_
 rintro v w1 ⟨o,rfl,hO,hm1⟩
 refine ⟨_,_,rfl,condK_i (fun h=>by simp at h) fun _=>?_⟩
 refine callK_ret (c_publicF (hg.no hm1).ge hO) ?_
 rintro v w2 ⟨b,T,rfl,h2,h3,h4⟩
 exact ⟨⟨some ⟨b,0,none⟩,_,_⟩,rfl,b,T,rfl,h2,Nat.le_trans hm1.size h3,hm1.tr h4⟩
end Go.Proofs.YtihafpcnhgapdaaGreatDoor
end
section
namespace Go.Proofs.YtihafpcnhgapdaaGreatDoor
open Go Go.Sh
def sh73 (l:Slc) (w:World) (R:Ending→World→Prop):Prop:=
 ∃ (inv:List TV→World→Prop) (mu:List TV→World→Nat),inv [.i .i64 (0:Int)] w∧(∀ i:Int,∀ w1:World,inv [.i .i64 i] w1→condK (decide (i<(l.len:Int))) (((0≤i∧i<(l.len:Nat))∧onSome l.a fun a=>∃ x:Int,Rd w1.drew ((a.add (i.toNat*3)).add 0) [.int .i64 x]∧condK (decide (x<(1:Int))) (R (.returned (.bool false)) w1.drew) (((0≤i∧i<(l.len:Nat))∧onSome l.a fun a1=>∃ x1:Int,Rd w1.drew ((a1.add (i.toNat*3)).add 0) [.int .i64 x1]∧condK (decide (x1 > (8:Int))) (R (.returned (.bool false)) w1.drew) (condK (decide (i > (0:Int))) (((0≤(IntKind.i64.wrap (i - (1:Int)))∧(IntKind.i64.wrap (i - (1:Int)))<(l.len:Nat))∧onSome l.a fun a2=>((0≤i∧i<(l.len:Nat))∧onSome l.a fun a3=>∃ x2:Int,Rd w1.drew ((a2.add (((IntKind.i64.wrap (i - (1:Int)))).toNat*3)).add 0) [.int .i64 x2]∧∃ x3:Int,Rd w1.drew ((a3.add (i.toNat*3)).add 0) [.int .i64 x3]∧condK (decide (x2≥x3)) (R (.returned (.bool false)) w1.drew) (((0≤i∧i<(l.len:Nat))∧onSome l.a fun a4=>∃ x4:Slc,Rd w1.drew ((a4.add (i.toNat*3)).add 1) [.slice x4.a x4.len x4.cap]∧condK ((x4.len:Int) != (32:Int)) (R (.returned (.bool false)) w1.drew) (((0≤i∧i<(l.len:Nat))∧onSome l.a fun a5=>∃ x5:List UInt8,Rd w1.drew ((a5.add (i.toNat*3)).add 2) [.string ⟨x5.toArray⟩]∧condK (decide ((x5.length:Int) > (64:Int))) (R (.returned (.bool false)) w1.drew) ((inv [.i .i64 (IntKind.i64.wrap (i+(1:Int)))] w1.drew∧mu [.i .i64 (IntKind.i64.wrap (i+(1:Int)))] w1.drew<mu [.i .i64 i] w1))))))))) (((0≤i∧i<(l.len:Nat))∧onSome l.a fun a6=>∃ x6:Slc,Rd w1.drew ((a6.add (i.toNat*3)).add 1) [.slice x6.a x6.len x6.cap]∧condK ((x6.len:Int) != (32:Int)) (R (.returned (.bool false)) w1.drew) (((0≤i∧i<(l.len:Nat))∧onSome l.a fun a7=>∃ x7:List UInt8,Rd w1.drew ((a7.add (i.toNat*3)).add 2) [.string ⟨x7.toArray⟩]∧condK (decide ((x7.length:Int) > (64:Int))) (R (.returned (.bool false)) w1.drew) ((inv [.i .i64 (IntKind.i64.wrap (i+(1:Int)))] w1.drew∧mu [.i .i64 (IntKind.i64.wrap (i+(1:Int)))] w1.drew<mu [.i .i64 i] w1))))))))))) (R (.returned (.bool true)) w1))
theorem call73 (l:Slc) {w:World} {R:Ending→World→Prop} (hden:sh73 l w R):Calls Tryz.prog 73 #[.slice l.a l.len l.cap] w R:=
 calls_of_form (.seq none .z (.seq none (.seq none .z (.block none (.loop [(3,(.i .i64))] (.seq none (.seq none .z (.cond .z .z)) (.seq none (.block none (.seq none (.draw 2 (.take 0 (.take 1 (.take 2 (.take 3 (.take 4 (.take 5 (.take 6 (.take 7 (.take 8 (.take 9 (.take 10 (.take 11 (.take 12 (.take 13 (.take 14 (.take 15 (.take 16 (.take 17 (.take 18 (.take 19 (.take 20 (.take 21 (.take 22 (.take 24 (.take 25 (.take 26 (.take 27 (.take 23 (.take 28 (.take 29 (.take 30 (.take 31 (.take 32 (.take 33 (.take 34 (.take 35 (.take 36 (.take 37 (.take 38 (.take 39 (.take 40 (.take 41 (.take 42 (.take 43 (.take 44 (.take 45 (.take 46 (.take 47 (.take 48 (.take 49 .done))))))))))))))))))))))))))))))))))))))))))))))))))) (.cond (.seq none .z .z) .z))) .z))))) (.seq none .z .z))) Tryz.func73 (by kernel_rfl) [.sl l] (by kernel_rfl) (by kernel_rfl) hden
def sh132 (t:Slc) (w:World) (R:Ending→World→Prop):Prop:=
 semK Tryz.prog (Instr.box 248 (.agg #[.slice t.a t.len t.cap])) w fun v w1=>∃ t1:Option Addr,v=(.pointer t1)∧onSome t1 fun a=>∃ x:Slc,Rd w1 (a.add 0) [.slice x.a x.len x.cap]∧∃ (inv:List TV→World→Prop) (mu:List TV→World→Nat),inv [.i .i64 (0:Int),.i .i64 (0:Int)] w1∧(∀ last x1:Int,∀ w2:World,inv [.i .i64 last,.i .i64 x1] w2→condK (decide (x1<(x.len:Int))) (((0≤x1∧x1<(x.len:Nat))∧onSome x.a fun a1=>∃ xa:Int,∃ xb:Slc,∃ xc:List UInt8,Rd w2 (a1.add (x1.toNat*3)) [.int .i64 xa,.slice xb.a xb.len xb.cap,.string ⟨xc.toArray⟩]∧semK Tryz.prog (Instr.alloc 29 true (.tuple #[])) w2 fun v1 w3=>∃ g:Option Addr,v1=(.pointer g)∧onSome g fun a2=>semU Tryz.prog (storeVar 29 a2 (.agg #[.int .i64 xa,.slice xb.a xb.len xb.cap,.string ⟨xc.toArray⟩])) w3 fun w4=>∃ j:List TV→World→Prop,(onSome g fun a3=>∃ x2:Int,Rd w4 (a3.add 0) [.int .i64 x2]∧condK (decide (x2≤last)) (j [.b true] w4) (onSome g fun a4=>∃ x3:Int,Rd w4 (a4.add 0) [.int .i64 x3]∧condK (decide (x3 > (8:Int))) (j [.b true] w4) (onSome g fun a5=>∃ x4:Slc,Rd w4 (a5.add 1) [.slice x4.a x4.len x4.cap]∧condK ((x4.len:Int) != (32:Int)) (j [.b true] w4) (onSome g fun a6=>∃ x5:List UInt8,Rd w4 (a6.add 2) [.string ⟨x5.toArray⟩]∧j [.b (decide ((x5.length:Int) > (64:Int)))] w4))))∧(∀ x6:Bool,∀ w5:World,j [.b x6] w5→condK x6 (R (.returned (.bool false)) w5) (onSome g fun a7=>∃ x7:Int,Rd w5 (a7.add 0) [.int .i64 x7]∧(inv [.i .i64 x7,.i .i64 (IntKind.i64.wrap (x1+(1:Int)))] w5∧mu [.i .i64 x7,.i .i64 (IntKind.i64.wrap (x1+(1:Int)))] w5<mu [.i .i64 last,.i .i64 x1] w2))))) (R (.returned (.bool true)) w2))
theorem call132 (t:Slc) {w:World} {R:Ending→World→Prop} (hden:sh132 t w R):Calls Tryz.prog 132 #[.agg #[.slice t.a t.len t.cap]] w R:=
 calls_of_form (.seq none .z (.seq none .z (.seq none (.seq none .z (.block none (.loop [(3,(.i .i64)),(9,(.i .i64))] (.seq none .z (.seq none (.cond .z .z) (.seq none (.block none (.seq none .z (.seq none (.seq (some [(33,.b)]) .z (.cond (.seq none .z .z) .z)) .z))) .z)))))) (.seq none .z .z)))) Tryz.func132 (by kernel_rfl) [.agg [.sl t]] (by kernel_rfl) (by kernel_rfl) hden
def sh58 (l:Slc) (w:World) (R:Ending→World→Prop):Prop:=
 callK Tryz.prog 132 [.agg #[.slice l.a l.len l.cap]] w (panR R) fun v w1=>∃ x:Bool,v=(.bool x)∧R (.returned (.bool x)) w1
theorem call58 (l:Slc) {w:World} {R:Ending→World→Prop} (hden:sh58 l w R):Calls Tryz.prog 58 #[.slice l.a l.len l.cap] w R:=
 calls_of_form (.seq none .z (.seq none .z .z)) Tryz.func58 (by kernel_rfl) [.sl l] (by kernel_rfl) (by kernel_rfl) hden
def sh85 (l:Slc) (w:World) (R:Ending→World→Prop):Prop:=
 semK Tryz.prog (Builtin.append_ #[22,22] 22 #[.slice none 0 0,.slice l.a l.len l.cap]) w fun v w1=>∃ x:Slc,v=(.slice x.a x.len x.cap)∧R (.returned (.slice x.a x.len x.cap)) w1
theorem call85 (l:Slc) {w:World} {R:Ending→World→Prop} (hden:sh85 l w R):Calls Tryz.prog 85 #[.slice l.a l.len l.cap] w R:=
 calls_of_form (.seq none .z (.seq none .z (.seq none .z .z))) Tryz.func85 (by kernel_rfl) [.sl l] (by kernel_rfl) (by kernel_rfl) hden
def sh174 (xa:Int) (xb:Slc) (xc:List UInt8) (w:World) (R:Ending→World→Prop):Prop:=
 semK Tryz.prog (Instr.box 29 (.agg #[.int .i64 xa,.slice xb.a xb.len xb.cap,.string ⟨xc.toArray⟩])) w fun v w1=>∃ x:Option Addr,v=(.pointer x)∧semK Tryz.prog (Instr.alloc 29 true (.tuple #[])) w1 fun v1 w2=>∃ x1:Option Addr,v1=(.pointer x1)∧onSome x fun a=>∃ x2:Slc,Rd w2 (a.add 1) [.slice x2.a x2.len x2.cap]∧callK Tryz.prog 85 [.slice x2.a x2.len x2.cap] w2 (panR R) fun v2 w3=>∃ x3:Slc,v2=(.slice x3.a x3.len x3.cap)∧onSome x fun a1=>semU Tryz.prog (storeVar 22 (a1.add 1) (.slice x3.a x3.len x3.cap)) w3 fun w4=>onSome x fun a2=>∃ xa1:Int,∃ xb1:Slc,∃ xc1:List UInt8,Rd w4 a2 [.int .i64 xa1,.slice xb1.a xb1.len xb1.cap,.string ⟨xc1.toArray⟩]∧onSome x1 fun a3=>semU Tryz.prog (storeVar 29 a3 (.agg #[.int .i64 xa1,.slice xb1.a xb1.len xb1.cap,.string ⟨xc1.toArray⟩])) w4 fun w5=>onSome x1 fun a4=>∃ xa2:Int,∃ xb2:Slc,∃ xc2:List UInt8,Rd w5 a4 [.int .i64 xa2,.slice xb2.a xb2.len xb2.cap,.string ⟨xc2.toArray⟩]∧R (.returned (.agg #[.int .i64 xa2,.slice xb2.a xb2.len xb2.cap,.string ⟨xc2.toArray⟩])) w5
theorem call174 (xa:Int) (xb:Slc) (xc:List UInt8) {w:World} {R:Ending→World→Prop} (hden:sh174 xa xb xc w R):Calls Tryz.prog 174 #[.agg #[.int .i64 xa,.slice xb.a xb.len xb.cap,.string ⟨xc.toArray⟩]] w R:=
 calls_of_form (.seq none .z (.seq none .z (.seq none .z .z))) Tryz.func174 (by kernel_rfl) [.agg [.i .i64 xa,.sl xb,.s xc]] (by kernel_rfl) (by kernel_rfl) hden
structure Gt where
 c:Int
 s:Slc
 p:List UInt8
def Gt.cells (g:Gt):List Value:=[.int .i64 g.c,g.s.val,.string ⟨g.p.toArray⟩]
def gsC (l:List Gt):List Value:=l.flatMap Gt.cells
theorem gsC_cons (g:Gt) (l:List Gt):gsC (g :: l)=g.cells++gsC l:=by simp [gsC]
theorem gsC_len : ∀ l:List Gt,(gsC l).length=l.length*3
 | []=>rfl
 | g :: l=>by rw [gsC_cons,List.length_append,gsC_len l]; simp [Gt.cells]; omega
theorem gsC_get : ∀ {l:List Gt} {i:Nat} (h:i<l.length) (j:Nat),j<3→(gsC l)[i*3+j]? = (l[i].cells)[j]?
 | g :: l,0,h,j,hj=>by
   rw [gsC_cons,List.getElem?_append_left (by simp [Gt.cells]; omega)]
   simp
 | g :: l,i+1,h,j,hj=>by
   have hl:g.cells.length=3:=rfl
   rw [gsC_cons,List.getElem?_append_right (by rw [hl]; omega),hl,show (i+1)*3+j - 3=i*3+j by omega]
   exact gsC_get (by simpa using h) j hj
theorem gsC_one (l:List Gt) : ∀ y∈gsC l,y.oneCell'=true:=by
 intro y hy
 obtain ⟨g,_,hy⟩:=List.mem_flatMap.1 hy
 simp [Gt.cells] at hy
 rcases hy with rfl | rfl | rfl <;> rfl
theorem rd_nth {w:World} {a:Addr} {vs:List Value} {v:Value} (h:Rd w a vs) (j:Nat) (hj:vs[j]? = some v):Rd w (a.add j) [v]:=by
 intro i u hu
 cases i with
 | zero=>
   simp only [List.getElem?_cons_zero,Option.some.injEq] at hu
   subst hu
   rw [Addr.add_add']
   exact h j v hj
 | succ i=>simp at hu
theorem rd_lenG {w:World} {s:Slc} {l:List Gt} (h:SlRd w s 3 (gsC l)):l.length=s.len:=by have:=h.1; rw [gsC_len] at this; omega
theorem rd_g {w:World} {s:Slc} {l:List Gt} (h:SlRd w s 3 (gsC l)) {i:Nat} (hi:i<l.length) : ∃ a,s.a=some a∧Rd w (a.add (i*3)) l[i].cells:=by
 have hl:=rd_lenG h
 refine h.at (by omega) (by omega) fun j u hu=>?_
 rw [gsC_get hi j (by have:=(List.getElem?_eq_some_iff.1 hu).1; simpa [Gt.cells] using this)]
 exact hu
theorem putg (a b:Gt):putAt a.cells 0 b.cells=b.cells:=by simp [putAt,Gt.cells]
def RG1 (l:List Gt) (i:Nat) (h:i<l.length):Prop:=1≤l[i].c∧l[i].c≤8∧(∀ h0:0<i,(l[i - 1]'(by omega)).c<l[i].c)∧l[i].s.len=32∧l[i].p.length≤64
def RGr (l:List Gt):Prop:=∀ i (h:i<l.length),RG1 l i h
def RB (p:Prop) (w:World) (v:Value) (w':World):Prop:=∃ b:Bool,v = .bool b∧(b=true↔p)∧Mod NoB w w'
theorem RB.no {p:Prop} {w w':World} (h : ¬ p) (hm:Mod NoB w w'):RB p w (.bool false) w':=⟨false,rfl,by simp [h],hm⟩
theorem RB.yes {p:Prop} {w w':World} (h:p) (hm:Mod NoB w w'):RB p w (.bool true) w':=⟨true,rfl,by simp [h],hm⟩
structure GrAt (w:World) (s:Slc) (l:List Gt) (ks:List (List UInt8)):Prop where
 rd:SlRd w s 3 (gsC l)
 lt : ∀ z,s.blk=some z→z<w.heap.size
 len:l.length=ks.length
 key : ∀ i (h:i<l.length) (h':i<ks.length),SlRd w l[i].s 1 (bys ks[i])∧∀ z,l[i].s.blk=some z→z<w.heap.size
theorem GrAt.no {w w':World} {s:Slc} {l:List Gt} {ks:List (List UInt8)} (h:GrAt w s l ks) (hm:Mod NoB w w'):GrAt w' s l ks:=
 ⟨h.rd.no hm,fun z hz=>Nat.lt_of_lt_of_le (h.lt z hz) hm.size,h.len,fun i a b=>⟨(h.key i a b).1.no hm,fun z hz=>Nat.lt_of_lt_of_le ((h.key i a b).2 z hz) hm.size⟩⟩
theorem iGrant : ∃ i,Tryz.prog.info? 29=some i∧i.zero=some (.agg #[.int .i64 0,.slice none 0 0,.string ⟨#[]⟩])∧i.size=3∧i.bytes=48:=info_of (by kernel_rfl) (by kernel_rfl) (by kernel_rfl)
theorem uGrants:Tryz.prog.underlying 24=some (.slice 29):=by kernel_rfl
def g0:Gt:=⟨0,⟨none,0,0⟩,[]⟩
section
variable {w:World} {s:Slc} {l:List Gt} {ks:List (List UInt8)}
theorem c_rRight (hg:GrAt w s l ks) (hn:l.length≤1000000):Calls Tryz.prog 73 #[.slice s.a s.len s.cap] w (Ret (RB (RGr l) w)):=by
 have hlen:=rd_lenG hg.rd
 refine call73 _ ?_
 unfold sh73
 refine ⟨fun l' w'=>match l' with | [.i _ x]=>∃ k:Nat,x=k∧k≤l.length∧(∀ i (h:i<l.length),i<k→RG1 l i h)∧Mod NoB w w' | _=>False,fun l' _=>match l' with | [.i _ x]=>(l.length - x).toNat | _=>0,⟨0,rfl,by omega,fun i h h0=>by omega,Mod.refl _ _⟩,?_⟩
 rintro x w1 ⟨k,rfl,hk,hgo,hm⟩
 refine condK_i (fun hlt=>?_) fun hge=>?_
 ·have hk':k<l.length:=by simp at hlt; omega
  have hmd:Mod NoB w w1.drew:=hm.tr (Mod.drew _ _)
  obtain ⟨a,ea,hr⟩:=rd_g (hg.rd.no hmd) hk'
  have hb:(0:Int)≤(k:Int)∧(k:Int)<(s.len:Nat):=⟨by omega,by omega⟩
  have no : ¬ RG1 l k hk'→RB (RGr l) w (.bool false) w1.drew:=fun h=>RB.no (fun hR=>h (hR k hk')) hmd
  have nx:RG1 l k hk'→∃ k':Nat,IntKind.i64.wrap ((k:Int)+1)=k'∧k'≤l.length∧(∀ i (h:i<l.length),i<k'→RG1 l i h)∧Mod NoB w w1.drew:=fun h=>⟨k+1,wrap_nat (by omega),by omega,fun i hi hik=>by
   rcases Nat.lt_or_ge i k with h1 | h1
   ·exact hgo i hi h1
   ·obtain rfl:i=k:=by omega
    exact h,hmd⟩
  rw [ea]
  simp only [Int.toNat_natCast]
  refine ⟨hb,l[k].c,rd_nth hr 0 rfl,condK_i (fun h=>no fun hR=>by have:=hR.1; simp at h; omega) fun h1=>?_⟩
  refine ⟨hb,l[k].c,rd_nth hr 0 rfl,condK_i (fun h=>no fun hR=>by have:=hR.2.1; simp at h; omega) fun h2=>?_⟩
  refine condK_i (fun h0=>?_) fun h0=>?_
  ·have h0:0<k:=by simp at h0; omega
   have ek:IntKind.i64.wrap ((k:Int) - 1)=((k - 1:Nat):Int):=by rw [wrap_i64 (by omega)]; omega
   obtain ⟨a',ea',hr'⟩:=rd_g (hg.rd.no hmd) (i:=k - 1) (by omega)
   rw [ea] at ea'; cases ea'
   rw [ek]
   simp only [Int.toNat_natCast]
   refine ⟨⟨by omega,by omega⟩,hb,(l[k - 1]'(by omega)).c,rd_nth hr' 0 rfl,l[k].c,rd_nth hr 0 rfl,condK_i (fun h=>no fun hR=>by have:=hR.2.2.1 h0; simp at h; omega) fun h3=>?_⟩
   refine ⟨hb,l[k].s,rd_nth hr 1 rfl,condK_i (fun h=>no fun hR=>by have:=hR.2.2.2.1; simp at h; omega) fun h4=>?_⟩
   refine ⟨hb,l[k].p,rd_nth hr 2 rfl,condK_i (fun h=>no fun hR=>by have:=hR.2.2.2.2; simp at h; omega) fun h5=>?_⟩
   refine ⟨nx ⟨by simp at h1; omega,by simp at h2; omega,fun _=>by simp at h3; omega,by simp at h4; omega,by simp at h5; omega⟩,?_⟩
   rw [wrap_nat (by omega)]; (try simp only []); omega
  ·have h0 : ¬ 0<k:=by simp at h0; omega
   refine ⟨hb,l[k].s,rd_nth hr 1 rfl,condK_i (fun h=>no fun hR=>by have:=hR.2.2.2.1; simp at h; omega) fun h4=>?_⟩
   refine ⟨hb,l[k].p,rd_nth hr 2 rfl,condK_i (fun h=>no fun hR=>by have:=hR.2.2.2.2; simp at h; omega) fun h5=>?_⟩
   refine ⟨nx ⟨by simp at h1; omega,by simp at h2; omega,fun h=>absurd h h0,by simp at h4; omega,by simp at h5; omega⟩,?_⟩
   rw [wrap_nat (by omega)]; (try simp only []); omega
 ·have hk':k=l.length:=by simp at hge; omega
  subst hk'
  exact RB.yes (fun i h=>hgo i h h) hm
theorem c_tright (hg:GrAt w s l ks) (hn:l.length≤1000000):Calls Tryz.prog 132 #[.agg #[.slice s.a s.len s.cap]] w (Ret (RB (RGr l) w)):=by
 have hlen:=rd_lenG hg.rd
 obtain ⟨ig,i1,i2,i3,i4⟩:=iGrant
 refine call132 _ ?_
 unfold sh132
 refine sem_box (l:=[s.val]) rfl fun tb w1 hN1 hb1=>⟨_,rfl,?_⟩
 refine ⟨s,hb1.rd1 (o:=0) rfl,?_⟩
 refine ⟨fun l' w'=>match l' with | [.i _ y,.i _ x]=>∃ k:Nat,x=k∧k≤l.length∧(k=0→y=0)∧(∀ (h0:0<k) (h:k - 1<l.length),y=l[k - 1].c)∧(∀ i (h:i<l.length),i<k→RG1 l i h)∧Mod NoB w w' | _=>False,fun l' _=>match l' with | [.i _ _,.i _ x]=>(l.length - x).toNat | _=>0,⟨0,rfl,by omega,fun _=>rfl,fun h=>by omega,fun i h h0=>by omega,hN1.mod⟩,?_⟩
 rintro y x w2 ⟨k,rfl,hk,hy0,hyk,hgo,hm⟩
 refine condK_i (fun hlt=>?_) fun hge=>?_
 ·have hk':k<l.length:=by simp at hlt; omega
  obtain ⟨a,ea,hr⟩:=rd_g (hg.rd.no hm) hk'
  rw [ea]
  simp only [Int.toNat_natCast]
  refine ⟨⟨by omega,by omega⟩,l[k].c,l[k].s,l[k].p,hr,?_⟩
  refine sem_alloc (l:=g0.cells) i1 i2 rfl fun g w3 hN3 hb3=>⟨_,rfl,?_⟩
  refine semU_store (o:=0) (vs:=l[k].cells) (by kernel_rfl) (by kernel_rfl) rfl hb3 (by simp [Gt.cells]) (by intro u hu; simp [Gt.cells] at hu; rcases hu with rfl | rfl | rfl <;> rfl) fun w4 ht4 hb4=>?_
  obtain ⟨E4,hb4⟩ : ∃ E,Blk w4 g l[k].cells E:=⟨_,by simpa [putAt,Gt.cells] using hb4⟩
  have hgs:=hN3.at_
  have hm4:Mod NoB w w4:=(hm.tr hN3.mod).fresh ht4.mod fun z e=>by have:=hm.size; have:z=g:=e; omega
  refine ⟨fun l' w'=>match l' with | [.b t]=>w'=w4∧(t=false↔RG1 l k hk') | _=>False,?_,?_⟩
  ·refine ⟨l[k].c,hb4.rd1 (o:=0) rfl,condK_i (fun h=>⟨rfl,?_⟩) fun h1=>?_⟩
   ·simp only [Bool.true_eq_false,false_iff]
    intro hR
    have h:l[k].c≤y:=by simpa using h
    rcases Nat.eq_zero_or_pos k with h0 | h0
    ·have:=hy0 h0; have:=hR.1; omega
    ·have:=hyk h0 (by omega); have:=hR.2.2.1 h0; omega
   refine ⟨l[k].c,hb4.rd1 (o:=0) rfl,condK_i (fun h=>⟨rfl,?_⟩) fun h2=>?_⟩
   ·simp only [Bool.true_eq_false,false_iff]
    intro hR
    have:=hR.2.1; simp at h; omega
   refine ⟨l[k].s,hb4.rd1 (o:=1) rfl,condK_i (fun h=>⟨rfl,?_⟩) fun h3=>?_⟩
   ·simp only [Bool.true_eq_false,false_iff]
    intro hR
    have:=hR.2.2.2.1; simp at h; omega
   refine ⟨l[k].p,hb4.rd1 (o:=2) rfl,rfl,?_⟩
   have h1:y<l[k].c:=by simp at h1; omega
   have h2:l[k].c≤8:=by simp at h2; omega
   have h3:l[k].s.len=32:=by simp at h3; omega
   constructor
   ·intro h
    have h:l[k].p.length≤64:=by simp at h; omega
    refine ⟨?_,h2,fun h0=>?_,h3,h⟩
    ·rcases Nat.eq_zero_or_pos k with h0 | h0
     ·have:=hy0 h0; omega
     ·have:=hyk h0 (by omega); have:=(hgo (k - 1) (by omega) (by omega)).1; omega
    ·have:=hyk h0 (by omega); omega
   ·intro hR
    have:=hR.2.2.2.2; simp; omega
  ·rintro t w5 ⟨rfl,ht⟩
   refine condK_i (fun h=>?_) fun h=>?_
   ·subst h
    exact RB.no (fun hR=>by have:=ht.2 (hR k hk'); cases this) hm4
   ·have hR:=ht.1 h
    refine ⟨l[k].c,hb4.rd1 (o:=0) rfl,⟨k+1,wrap_nat (by omega),by omega,fun h=>by omega,fun _ _=>rfl,fun i hi hik=>?_,hm4⟩,?_⟩
    ·rcases Nat.lt_or_ge i k with h1 | h1
     ·exact hgo i hi h1
     ·obtain rfl:i=k:=by omega
      exact hR
    ·rw [wrap_nat (by omega)]; (try simp only []); omega
 ·have hk':k=l.length:=by simp at hge; omega
  subst hk'
  exact RB.yes (fun i h=>hgo i h h) hm
theorem c_gRight (hg:GrAt w s l ks) (hn:l.length≤1000000):Calls Tryz.prog 58 #[.slice s.a s.len s.cap] w (Ret (RB (RGr l) w)):=by
 refine call58 _ ?_
 unfold sh58
 refine callK_ret (c_tright hg hn) ?_
 rintro v w1 ⟨b,rfl,h⟩
 exact ⟨b,rfl,b,rfl,h⟩
theorem c_copyB {s:Slc} {l:List UInt8} (hs:SlRd w s 1 (bys l)) (hn:l.length≤1000000):Calls Tryz.prog 85 #[.slice s.a s.len s.cap] w (Ret fun v w'=>∃ x:Slc,v=x.val∧Sh.Own w' x 1 (bys l)∧FB w x∧Mod NoB w w'):=by
 refine call85 _ ?_
 unfold sh85
 obtain ⟨i5',h51,h52,h53,h54⟩:=i5
 have hl:=rd_len8 hs
 exact sem_append (s:=⟨none,0,0⟩) u26 h51 h52 h53 rfl h54 (own_nil _ 1) hs (bys_one _) (by simp only []; omega) (by simp only []; omega) fun x w1 ho hlen hblk hm=>⟨x,rfl,x,rfl,ho,(FB.nil w).step (Nat.le_refl _) hblk,(FB.nil w).mod (Mod.refl _ _) hm⟩
theorem c_copyG {g:Gt} {k:List UInt8} (hs:SlRd w g.s 1 (bys k)) (hn:k.length≤1000000):Calls Tryz.prog 174 #[.agg g.cells.toArray] w (Ret fun v w'=>∃ x:Slc,v = .agg (Gt.cells ⟨g.c,x,g.p⟩).toArray∧Sh.Own w' x 1 (bys k)∧FB w x∧Mod NoB w w'):=by
 obtain ⟨ig,i1,i2,i3,i4⟩:=iGrant
 refine call174 g.c g.s g.p ?_
 unfold sh174
 refine sem_box (l:=g.cells) rfl fun p w1 hN1 hb1=>⟨_,rfl,?_⟩
 refine sem_alloc (l:=g0.cells) i1 i2 rfl fun q w2 hN2 hb2=>⟨_,rfl,?_⟩
 have e1:=hN1.at_; have e2:=hN2.at_; have hpl:=hb1.lt; have hql:=hb2.lt
 have hM2:=hN1.mod.tr hN2.mod
 refine ⟨g.s,(hb1.no hN2.mod).rd1 (o:=1) rfl,?_⟩
 refine callK_ret (c_copyB (hs.no hM2) hn) ?_
 rintro v w3 ⟨x,rfl,ho3,hf3,hm3⟩
 refine ⟨x,rfl,?_⟩
 have hp3:=(hb1.no hN2.mod).no hm3
 have hs1:=hN1.mod.size; have hs2:=hN2.mod.size; have hs3:=hm3.size
 refine semU_store1 (b:=p) (o:=1) (by kernel_rfl) (by kernel_rfl) rfl hp3 (by simp [Gt.cells]) fun w4 ht4 hp4=>?_
 have hp4:Blk w4 p (Gt.cells ⟨g.c,x,g.p⟩) _:=hp4
 refine ⟨g.c,x,g.p,hp4.rd fun j v hj=>by simpa [Gt.cells,Slc.val] using hj,?_⟩
 have hq4:=((hb2.no hm3).mod ht4.mod (fun e=>by have:q=p:=e; omega))
 refine semU_store (o:=0) (vs:=Gt.cells ⟨g.c,x,g.p⟩) (by kernel_rfl) (by kernel_rfl) rfl hq4 (by simp [Gt.cells,g0]) (by intro u hu; simp [Gt.cells] at hu; rcases hu with rfl | rfl | rfl <;> rfl) fun w5 ht5 hq5=>?_
 rw [putg] at hq5
 refine ⟨g.c,x,g.p,hq5.rd fun j v hj=>by simpa [Gt.cells,Slc.val] using hj,?_⟩
 have hxp : ∀ z,x.blk=some z→z≠p∧z≠q:=fun z hz=>by have:=hf3 z hz; omega
 have hx5:=(ho3.mod ht4.mod fun z hz e=>(hxp z hz).1 e).mod ht5.mod fun z hz e=>(hxp z hz).2 e
 exact ⟨x,rfl,hx5,hf3.le hM2.size,((hM2.tr hm3).fresh ht4.mod fun z e=>by have:z=p:=e; omega).fresh ht5.mod fun z e=>by have:z=q:=e; omega⟩
end
def sh52 (xa:Int) (xb:Slc) (xc:List UInt8) (w:World) (R:Ending→World→Prop):Prop:=
 semK Tryz.prog (Instr.box 29 (.agg #[.int .i64 xa,.slice xb.a xb.len xb.cap,.string ⟨xc.toArray⟩])) w fun v w1=>∃ x:Option Addr,v=(.pointer x)∧semK Tryz.prog (Instr.alloc 29 true (.tuple #[])) w1 fun v1 w2=>∃ x1:Option Addr,v1=(.pointer x1)∧onSome x fun a=>∃ x2:Slc,Rd w2 (a.add 1) [.slice x2.a x2.len x2.cap]∧callK Tryz.prog 15 [.slice x2.a x2.len x2.cap] w2 (panR R) fun v2 w3=>∃ x3:Slc,v2=(.slice x3.a x3.len x3.cap)∧onSome x fun a1=>semU Tryz.prog (storeVar 22 (a1.add 1) (.slice x3.a x3.len x3.cap)) w3 fun w4=>onSome x fun a2=>∃ xa1:Int,∃ xb1:Slc,∃ xc1:List UInt8,Rd w4 a2 [.int .i64 xa1,.slice xb1.a xb1.len xb1.cap,.string ⟨xc1.toArray⟩]∧onSome x1 fun a3=>semU Tryz.prog (storeVar 29 a3 (.agg #[.int .i64 xa1,.slice xb1.a xb1.len xb1.cap,.string ⟨xc1.toArray⟩])) w4 fun w5=>onSome x1 fun a4=>∃ xa2:Int,∃ xb2:Slc,∃ xc2:List UInt8,Rd w5 a4 [.int .i64 xa2,.slice xb2.a xb2.len xb2.cap,.string ⟨xc2.toArray⟩]∧R (.returned (.agg #[.int .i64 xa2,.slice xb2.a xb2.len xb2.cap,.string ⟨xc2.toArray⟩])) w5
theorem call52 (xa:Int) (xb:Slc) (xc:List UInt8) {w:World} {R:Ending→World→Prop} (hden:sh52 xa xb xc w R):Calls Tryz.prog 52 #[.agg #[.int .i64 xa,.slice xb.a xb.len xb.cap,.string ⟨xc.toArray⟩]] w R:=
 calls_of_form (.seq none .z (.seq none .z (.seq none .z .z))) Tryz.func52 (by kernel_rfl) [.agg [.i .i64 xa,.sl xb,.s xc]] (by kernel_rfl) (by kernel_rfl) hden
def sh53 (k i:Int) (w:World) (R:Ending→World→Prop):Prop:=
 semK Tryz.prog (Instr.alloc 29 true (.tuple #[])) w fun v w1=>∃ x:Option Addr,v=(.pointer x)∧callK Tryz.prog 128 [.int .i64 k,.int .i64 i] w1 (panR R) fun v1 w2=>∃ x1:Int,v1=(.int .i64 x1)∧onSome x fun a=>semU Tryz.prog (storeVar 29 a (.agg #[.int .i64 x1,.slice none 0 0,.string ⟨([]).toArray⟩])) w2 fun w3=>onSome x fun a1=>∃ xa:Int,∃ xb:Slc,∃ xc:List UInt8,Rd w3 a1 [.int .i64 xa,.slice xb.a xb.len xb.cap,.string ⟨xc.toArray⟩]∧R (.returned (.agg #[.int .i64 xa,.slice xb.a xb.len xb.cap,.string ⟨xc.toArray⟩])) w3
theorem call53 (k i:Int) {w:World} {R:Ending→World→Prop} (hden:sh53 k i w R):Calls Tryz.prog 53 #[.int .i64 k,.int .i64 i] w R:=
 calls_of_form (.seq none .z (.seq none .z .z)) Tryz.func53 (by kernel_rfl) [.i .i64 k,.i .i64 i] (by kernel_rfl) (by kernel_rfl) hden
def sh91 (aa:Int) (ab:Slc) (ac:List UInt8) (ba:Int) (bb:Slc) (bc:List UInt8) (w:World) (R:Ending→World→Prop):Prop:=
 semK Tryz.prog (Instr.box 29 (.agg #[.int .i64 aa,.slice ab.a ab.len ab.cap,.string ⟨ac.toArray⟩])) w fun v w1=>∃ a:Option Addr,v=(.pointer a)∧semK Tryz.prog (Instr.box 29 (.agg #[.int .i64 ba,.slice bb.a bb.len bb.cap,.string ⟨bc.toArray⟩])) w1 fun v1 w2=>∃ b:Option Addr,v1=(.pointer b)∧onSome a fun a1=>∃ x:Int,Rd w2 (a1.add 0) [.int .i64 x]∧onSome b fun a2=>∃ x1:Int,Rd w2 (a2.add 0) [.int .i64 x1]∧condK (x==x1) (onSome a fun a3=>∃ x2:Slc,Rd w2 (a3.add 1) [.slice x2.a x2.len x2.cap]∧onSome b fun a4=>∃ x3:Slc,Rd w2 (a4.add 1) [.slice x3.a x3.len x3.cap]∧callK Tryz.prog 74 [.slice x2.a x2.len x2.cap,.slice x3.a x3.len x3.cap] w2 (panR R) fun v2 w3=>∃ x4:Bool,v2=(.bool x4)∧condK x4 (onSome a fun a5=>∃ x5:List UInt8,Rd w3 (a5.add 2) [.string ⟨x5.toArray⟩]∧onSome b fun a6=>∃ x6:List UInt8,Rd w3 (a6.add 2) [.string ⟨x6.toArray⟩]∧R (.returned (.bool (x5==x6))) w3) (R (.returned (.bool false)) w3)) (R (.returned (.bool false)) w2)
theorem call91 (aa:Int) (ab:Slc) (ac:List UInt8) (ba:Int) (bb:Slc) (bc:List UInt8) {w:World} {R:Ending→World→Prop} (hden:sh91 aa ab ac ba bb bc w R):Calls Tryz.prog 91 #[.agg #[.int .i64 aa,.slice ab.a ab.len ab.cap,.string ⟨ac.toArray⟩],.agg #[.int .i64 ba,.slice bb.a bb.len bb.cap,.string ⟨bc.toArray⟩]] w R:=
 calls_of_form (.seq none .z (.seq none .z .z)) Tryz.func91 (by kernel_rfl) [.agg [.i .i64 aa,.sl ab,.s ac],.agg [.i .i64 ba,.sl bb,.s bc]] (by kernel_rfl) (by kernel_rfl) hden
def sh90 (xa:Int) (xb:Slc) (xc:List UInt8) (ya:Int) (yb:Slc) (yc:List UInt8) (w:World) (R:Ending→World→Prop):Prop:=
 semK Tryz.prog (Instr.box 29 (.agg #[.int .i64 xa,.slice xb.a xb.len xb.cap,.string ⟨xc.toArray⟩])) w fun v w1=>∃ x:Option Addr,v=(.pointer x)∧semK Tryz.prog (Instr.box 29 (.agg #[.int .i64 ya,.slice yb.a yb.len yb.cap,.string ⟨yc.toArray⟩])) w1 fun v1 w2=>∃ y:Option Addr,v1=(.pointer y)∧onSome x fun a=>∃ xa1:Int,∃ xb1:Slc,∃ xc1:List UInt8,Rd w2 a [.int .i64 xa1,.slice xb1.a xb1.len xb1.cap,.string ⟨xc1.toArray⟩]∧onSome y fun a1=>∃ xa2:Int,∃ xb2:Slc,∃ xc2:List UInt8,Rd w2 a1 [.int .i64 xa2,.slice xb2.a xb2.len xb2.cap,.string ⟨xc2.toArray⟩]∧callK Tryz.prog 91 [.agg #[.int .i64 xa1,.slice xb1.a xb1.len xb1.cap,.string ⟨xc1.toArray⟩],.agg #[.int .i64 xa2,.slice xb2.a xb2.len xb2.cap,.string ⟨xc2.toArray⟩]] w2 (panR R) fun v2 w3=>∃ x1:Bool,v2=(.bool x1)∧condK x1 (onSome x fun a2=>∃ x2:Slc,Rd w3 (a2.add 1) [.slice x2.a x2.len x2.cap]∧onSome y fun a3=>∃ x3:Slc,Rd w3 (a3.add 1) [.slice x3.a x3.len x3.cap]∧callK Tryz.prog 28 [.slice x2.a x2.len x2.cap,.slice x3.a x3.len x3.cap] w3 (panR R) fun v3 w4=>∃ x4:Bool,v3=(.bool x4)∧R (.returned (.bool x4)) w4) (R (.returned (.bool false)) w3)
theorem call90 (xa:Int) (xb:Slc) (xc:List UInt8) (ya:Int) (yb:Slc) (yc:List UInt8) {w:World} {R:Ending→World→Prop} (hden:sh90 xa xb xc ya yb yc w R):Calls Tryz.prog 90 #[.agg #[.int .i64 xa,.slice xb.a xb.len xb.cap,.string ⟨xc.toArray⟩],.agg #[.int .i64 ya,.slice yb.a yb.len yb.cap,.string ⟨yc.toArray⟩]] w R:=
 calls_of_form (.seq none .z (.seq none .z .z)) Tryz.func90 (by kernel_rfl) [.agg [.i .i64 xa,.sl xb,.s xc],.agg [.i .i64 ya,.sl yb,.s yc]] (by kernel_rfl) (by kernel_rfl) hden
def sh17 (l:Slc) (w:World) (R:Ending→World→Prop):Prop:=
 semK Tryz.prog (Instr.makeSlice 24 (.int .i64 (0:Int)) (.int .i64 (IntKind.i64.wrap ((l.len:Int)+(12:Int))))) w fun v w1=>∃ x:Slc,v=(.slice x.a x.len x.cap)∧∃ (inv:List TV→World→Prop) (mu:List TV→World→Nat),inv [.sl x,.i .i64 (0:Int)] w1∧(∀ out:Slc,∀ i:Int,∀ w2:World,inv [.sl out,.i .i64 i] w2→condK (decide (i<(l.len:Int))) (((0≤i∧i<(l.len:Nat))∧onSome l.a fun a=>∃ xa:Int,∃ xb:Slc,∃ xc:List UInt8,Rd w2 (a.add (i.toNat*3)) [.int .i64 xa,.slice xb.a xb.len xb.cap,.string ⟨xc.toArray⟩]∧callK Tryz.prog 52 [.agg #[.int .i64 xa,.slice xb.a xb.len xb.cap,.string ⟨xc.toArray⟩]] w2 (panR R) fun v1 w3=>∃ xa1:Int,∃ xb1:Slc,∃ xc1:List UInt8,v1=(.agg #[.int .i64 xa1,.slice xb1.a xb1.len xb1.cap,.string ⟨xc1.toArray⟩])∧semK Tryz.prog (Instr.alloc 29 true (.tuple #[])) w3 fun v2 w4=>∃ x1:Option Addr,v2=(.pointer x1)∧onSome x1 fun a1=>semU Tryz.prog (storeVar 29 a1 (.agg #[.int .i64 xa1,.slice xb1.a xb1.len xb1.cap,.string ⟨xc1.toArray⟩])) w4 fun w5=>onSome x1 fun a2=>∃ xa2:Int,∃ xb2:Slc,∃ xc2:List UInt8,Rd w5 a2 [.int .i64 xa2,.slice xb2.a xb2.len xb2.cap,.string ⟨xc2.toArray⟩]∧semK Tryz.prog (Instr.buildSlice 24 1 #[(0,(.agg #[.int .i64 xa2,.slice xb2.a xb2.len xb2.cap,.string ⟨xc2.toArray⟩]))]) w5 fun v3 w6=>∃ x2:Slc,v3=(.slice x2.a x2.len x2.cap)∧semK Tryz.prog (Builtin.append_ #[24,24] 24 #[.slice out.a out.len out.cap,.slice x2.a x2.len x2.cap]) w6 fun v4 w7=>∃ x3:Slc,v4=(.slice x3.a x3.len x3.cap)∧(inv [.sl x3,.i .i64 (IntKind.i64.wrap (i+(1:Int)))] w7∧mu [.sl x3,.i .i64 (IntKind.i64.wrap (i+(1:Int)))] w7<mu [.sl out,.i .i64 i] w2))) (∃ (inv1:List TV→World→Prop) (mu1:List TV→World→Nat),inv1 [.sl out,.i .i64 (0:Int)] w2∧(∀ out1:Slc,∀ i1:Int,∀ w8:World,inv1 [.sl out1,.i .i64 i1] w8→condK (decide (i1<(12:Int))) (callK Tryz.prog 53 [.int .i64 (1:Int),.int .i64 i1] w8 (panR R) fun v5 w9=>∃ xa3:Int,∃ xb3:Slc,∃ xc3:List UInt8,v5=(.agg #[.int .i64 xa3,.slice xb3.a xb3.len xb3.cap,.string ⟨xc3.toArray⟩])∧semK Tryz.prog (Instr.buildSlice 24 1 #[(0,(.agg #[.int .i64 xa3,.slice xb3.a xb3.len xb3.cap,.string ⟨xc3.toArray⟩]))]) w9 fun v6 w10=>∃ x4:Slc,v6=(.slice x4.a x4.len x4.cap)∧semK Tryz.prog (Builtin.append_ #[24,24] 24 #[.slice out1.a out1.len out1.cap,.slice x4.a x4.len x4.cap]) w10 fun v7 w11=>∃ x5:Slc,v7=(.slice x5.a x5.len x5.cap)∧(inv1 [.sl x5,.i .i64 (IntKind.i64.wrap (i1+(1:Int)))] w11∧mu1 [.sl x5,.i .i64 (IntKind.i64.wrap (i1+(1:Int)))] w11<mu1 [.sl out1,.i .i64 i1] w8)) (((0≤(l.len:Int)∧(l.len:Int)≤(out1.cap:Nat))∧R (.returned (.slice (cutSl out1 3 0 (((l.len:Int)).toNat) out1.cap).a (cutSl out1 3 0 (((l.len:Int)).toNat) out1.cap).len (cutSl out1 3 0 (((l.len:Int)).toNat) out1.cap).cap)) w8)))))
theorem call17 (l:Slc) {w:World} {R:Ending→World→Prop} (hden:sh17 l w R):Calls Tryz.prog 17 #[.slice l.a l.len l.cap] w R:=
 calls_of_form (.seq none .z (.seq none .z (.seq none (.seq none .z (.block none (.loop [(3,.sl),(4,(.i .i64))] (.seq none (.seq none .z (.cond .z .z)) (.seq none (.block none (.seq none .z .z)) .z))))) (.seq none (.seq none .z (.block none (.loop [(3,.sl),(6,(.i .i64))] (.seq none (.seq none .z (.cond .z .z)) (.seq none (.block none .z) .z))))) (.seq none .z .z))))) Tryz.func17 (by kernel_rfl) [.sl l] (by kernel_rfl) (by kernel_rfl) hden
def sh30 (out l:Slc) (w:World) (R:Ending→World→Prop):Prop:=
 condK ((out.len:Int) != (l.len:Int)) (R (.returned (.bool false)) w) (((0≤(IntKind.i64.wrap ((l.len:Int)+(12:Int)))∧(IntKind.i64.wrap ((l.len:Int)+(12:Int)))≤(out.cap:Nat))∧∃ (inv:List TV→World→Prop) (mu:List TV→World→Nat),inv [.i .i64 (0:Int)] w∧(∀ i:Int,∀ w1:World,inv [.i .i64 i] w1→condK (decide (i<((cutSl out 3 0 (((IntKind.i64.wrap ((l.len:Int)+(12:Int)))).toNat) out.cap).len:Int))) (∃ sx:World→Prop,sx w1.drew∧condK (decide (i<(l.len:Int))) (((0≤i∧i<((cutSl out 3 0 (((IntKind.i64.wrap ((l.len:Int)+(12:Int)))).toNat) out.cap).len:Nat))∧onSome (cutSl out 3 0 (((IntKind.i64.wrap ((l.len:Int)+(12:Int)))).toNat) out.cap).a fun a=>((0≤i∧i<(l.len:Nat))∧onSome l.a fun a1=>∃ xa:Int,∃ xb:Slc,∃ xc:List UInt8,(∀ w',sx w'→Rd w' (a.add (i.toNat*3)) [.int .i64 xa,.slice xb.a xb.len xb.cap,.string ⟨xc.toArray⟩])∧∃ xa1:Int,∃ xb1:Slc,∃ xc1:List UInt8,(∀ w',sx w'→Rd w' (a1.add (i.toNat*3)) [.int .i64 xa1,.slice xb1.a xb1.len xb1.cap,.string ⟨xc1.toArray⟩])∧((callK Tryz.prog 90 [.agg #[.int .i64 xa,.slice xb.a xb.len xb.cap,.string ⟨xc.toArray⟩],.agg #[.int .i64 xa1,.slice xb1.a xb1.len xb1.cap,.string ⟨xc1.toArray⟩]] w1.drew (panR R) fun v w2=>∃ x:Bool,v=(.bool x)∧(sx w2∧condK (!x) ((((sx w2∧(((sx w2∧R (.returned (.bool false)) w2))∧True)))∧True)) (condK (decide (i≥(l.len:Int))) (((0≤i∧i<((cutSl out 3 0 (((IntKind.i64.wrap ((l.len:Int)+(12:Int)))).toNat) out.cap).len:Nat))∧onSome (cutSl out 3 0 (((IntKind.i64.wrap ((l.len:Int)+(12:Int)))).toNat) out.cap).a fun a2=>∃ xa2:Int,∃ xb2:Slc,∃ xc2:List UInt8,(∀ w',sx w'→Rd w' (a2.add (i.toNat*3)) [.int .i64 xa2,.slice xb2.a xb2.len xb2.cap,.string ⟨xc2.toArray⟩])∧((callK Tryz.prog 53 [.int .i64 (1:Int),.int .i64 (IntKind.i64.wrap (i - (l.len:Int)))] w2 (panR R) fun v1 w3=>∃ xa3:Int,∃ xb3:Slc,∃ xc3:List UInt8,v1=(.agg #[.int .i64 xa3,.slice xb3.a xb3.len xb3.cap,.string ⟨xc3.toArray⟩])∧(sx w3∧((callK Tryz.prog 91 [.agg #[.int .i64 xa2,.slice xb2.a xb2.len xb2.cap,.string ⟨xc2.toArray⟩],.agg #[.int .i64 xa3,.slice xb3.a xb3.len xb3.cap,.string ⟨xc3.toArray⟩]] w3 (panR R) fun v2 w4=>∃ x1:Bool,v2=(.bool x1)∧(sx w4∧condK (!x1) (R (.returned (.bool false)) w4) ((inv [.i .i64 (IntKind.i64.wrap (i+(1:Int)))] w4∧mu [.i .i64 (IntKind.i64.wrap (i+(1:Int)))] w4<mu [.i .i64 i] w1))))∧True)))∧True))) ((((sx w2∧(((sx w2∧(inv [.i .i64 (IntKind.i64.wrap (i+(1:Int)))] w2∧mu [.i .i64 (IntKind.i64.wrap (i+(1:Int)))] w2<mu [.i .i64 i] w1)))∧True)))∧True)))))∧True)))) ((((sx w1.drew∧condK (decide (i≥(l.len:Int))) (((0≤i∧i<((cutSl out 3 0 (((IntKind.i64.wrap ((l.len:Int)+(12:Int)))).toNat) out.cap).len:Nat))∧onSome (cutSl out 3 0 (((IntKind.i64.wrap ((l.len:Int)+(12:Int)))).toNat) out.cap).a fun a3=>∃ xa4:Int,∃ xb4:Slc,∃ xc4:List UInt8,(∀ w',sx w'→Rd w' (a3.add (i.toNat*3)) [.int .i64 xa4,.slice xb4.a xb4.len xb4.cap,.string ⟨xc4.toArray⟩])∧((callK Tryz.prog 53 [.int .i64 (1:Int),.int .i64 (IntKind.i64.wrap (i - (l.len:Int)))] w1.drew (panR R) fun v3 w5=>∃ xa5:Int,∃ xb5:Slc,∃ xc5:List UInt8,v3=(.agg #[.int .i64 xa5,.slice xb5.a xb5.len xb5.cap,.string ⟨xc5.toArray⟩])∧(sx w5∧((callK Tryz.prog 91 [.agg #[.int .i64 xa4,.slice xb4.a xb4.len xb4.cap,.string ⟨xc4.toArray⟩],.agg #[.int .i64 xa5,.slice xb5.a xb5.len xb5.cap,.string ⟨xc5.toArray⟩]] w5 (panR R) fun v4 w6=>∃ x2:Bool,v4=(.bool x2)∧(sx w6∧condK (!x2) (R (.returned (.bool false)) w6) ((inv [.i .i64 (IntKind.i64.wrap (i+(1:Int)))] w6∧mu [.i .i64 (IntKind.i64.wrap (i+(1:Int)))] w6<mu [.i .i64 i] w1))))∧True)))∧True))) ((((sx w1.drew∧(((sx w1.drew∧(inv [.i .i64 (IntKind.i64.wrap (i+(1:Int)))] w1.drew∧mu [.i .i64 (IntKind.i64.wrap (i+(1:Int)))] w1.drew<mu [.i .i64 i] w1)))∧True)))∧True))))∧True))) (R (.returned (.bool true)) w1))))
theorem call30 (out l:Slc) {w:World} {R:Ending→World→Prop} (hden:sh30 out l w R):Calls Tryz.prog 30 #[.slice out.a out.len out.cap,.slice l.a l.len l.cap] w R:=
 calls_of_form (.seq none .z (.seq none (.seq none .z (.cond (.seq none .z .z) .z)) (.seq none .z (.seq none (.seq none .z (.block none (.loop [(6,(.i .i64))] (.seq none (.seq none .z (.cond .z .z)) (.seq none (.block none (.seq none (.draw 1 (.take 0 (.take 1 (.take 2 (.take 3 (.take 4 (.take 5 (.take 6 (.take 7 (.take 9 (.take 10 (.take 11 (.take 8 (.take 12 (.all [(13,(.take 14 (.take 15 (.take 16 (.take 17 (.take 18 (.take 19 (.take 20 (.take 21 (.take 22 (.take 23 (.take 24 (.take 26 (.take 27 (.take 28 (.take 29 (.take 25 (.all [(30,(.all [(31,(.take 32 (.take 33 (.take 34 .done))))]))]))))))))))))))))))]))))))))))))))) (.cond (.seq none .z .z) .z))) .z))))) (.seq none .z .z))))) Tryz.func30 (by kernel_rfl) [.sl out,.sl l] (by kernel_rfl) (by kernel_rfl) hden
def sh89 (a b:Slc) (w:World) (R:Ending→World→Prop):Prop:=
 condK ((a.len:Int) != (b.len:Int)) (R (.returned (.bool false)) w) (∃ (inv:List TV→World→Prop) (mu:List TV→World→Nat),inv [.i .i64 (0:Int)] w∧(∀ i:Int,∀ w1:World,inv [.i .i64 i] w1→condK (decide (i<(a.len:Int))) (∃ sx:World→Prop,sx w1.drew∧((0≤i∧i<(a.len:Nat))∧onSome a.a fun a1=>((0≤i∧i<(b.len:Nat))∧onSome b.a fun a2=>∃ xa:Int,∃ xb:Slc,∃ xc:List UInt8,(∀ w',sx w'→Rd w' (a1.add (i.toNat*3)) [.int .i64 xa,.slice xb.a xb.len xb.cap,.string ⟨xc.toArray⟩])∧∃ xa1:Int,∃ xb1:Slc,∃ xc1:List UInt8,(∀ w',sx w'→Rd w' (a2.add (i.toNat*3)) [.int .i64 xa1,.slice xb1.a xb1.len xb1.cap,.string ⟨xc1.toArray⟩])∧((callK Tryz.prog 91 [.agg #[.int .i64 xa,.slice xb.a xb.len xb.cap,.string ⟨xc.toArray⟩],.agg #[.int .i64 xa1,.slice xb1.a xb1.len xb1.cap,.string ⟨xc1.toArray⟩]] w1.drew (panR R) fun v w2=>∃ x:Bool,v=(.bool x)∧condK (!x) (R (.returned (.bool false)) w2) ((inv [.i .i64 (IntKind.i64.wrap (i+(1:Int)))] w2∧mu [.i .i64 (IntKind.i64.wrap (i+(1:Int)))] w2<mu [.i .i64 i] w1)))∧True)))) (R (.returned (.bool true)) w1)))
theorem call89 (a b:Slc) {w:World} {R:Ending→World→Prop} (hden:sh89 a b w R):Calls Tryz.prog 89 #[.slice a.a a.len a.cap,.slice b.a b.len b.cap] w R:=
 calls_of_form (.seq none .z (.seq none (.seq none .z (.cond (.seq none .z .z) .z)) (.seq none (.seq none .z (.block none (.loop [(5,(.i .i64))] (.seq none (.seq none .z (.cond .z .z)) (.seq none (.block none (.seq none (.draw 1 (.take 0 (.take 1 (.take 2 (.take 4 (.take 5 (.take 6 (.take 3 (.take 7 (.all [(8,(.take 9 .done))])))))))))) (.cond (.seq none .z .z) .z))) .z))))) (.seq none .z .z)))) Tryz.func89 (by kernel_rfl) [.sl a,.sl b] (by kernel_rfl) (by kernel_rfl) hden
def sh88 (a b:Slc) (w:World) (R:Ending→World→Prop):Prop:=
 condK ((a.len:Int) != (b.len:Int)) (R (.returned (.bool false)) w) (∃ (inv:List TV→World→Prop) (mu:List TV→World→Nat),inv [.i .i64 (0:Int)] w∧(∀ i:Int,∀ w1:World,inv [.i .i64 i] w1→condK (decide (i<(a.len:Int))) (∃ sx:World→Prop,sx w1.drew∧((0≤i∧i<(a.len:Nat))∧onSome a.a fun a1=>((0≤i∧i<(b.len:Nat))∧onSome b.a fun a2=>∃ x:Slc,(∀ w',sx w'→Rd w' (a1.add (i.toNat*1)) [.slice x.a x.len x.cap])∧∃ x1:Slc,(∀ w',sx w'→Rd w' (a2.add (i.toNat*1)) [.slice x1.a x1.len x1.cap])∧((callK Tryz.prog 74 [.slice x.a x.len x.cap,.slice x1.a x1.len x1.cap] w1.drew (panR R) fun v w2=>∃ x2:Bool,v=(.bool x2)∧condK (!x2) (R (.returned (.bool false)) w2) ((inv [.i .i64 (IntKind.i64.wrap (i+(1:Int)))] w2∧mu [.i .i64 (IntKind.i64.wrap (i+(1:Int)))] w2<mu [.i .i64 i] w1)))∧True)))) (R (.returned (.bool true)) w1)))
theorem call88 (a b:Slc) {w:World} {R:Ending→World→Prop} (hden:sh88 a b w R):Calls Tryz.prog 88 #[.slice a.a a.len a.cap,.slice b.a b.len b.cap] w R:=
 calls_of_form (.seq none .z (.seq none (.seq none .z (.cond (.seq none .z .z) .z)) (.seq none (.seq none .z (.block none (.loop [(5,(.i .i64))] (.seq none (.seq none .z (.cond .z .z)) (.seq none (.block none (.seq none (.draw 1 (.take 0 (.take 1 (.take 2 (.take 4 (.take 5 (.take 6 (.take 3 (.take 7 (.all [(8,(.take 9 .done))])))))))))) (.cond (.seq none .z .z) .z))) .z))))) (.seq none .z .z)))) Tryz.func88 (by kernel_rfl) [.sl a,.sl b] (by kernel_rfl) (by kernel_rfl) hden
def sh59 (a b:Slc) (w:World) (R:Ending→World→Prop):Prop:=
 semK Tryz.prog (convert 22 9 (.slice a.a a.len a.cap)) w fun v w1=>∃ x:List UInt8,v=(.string ⟨x.toArray⟩)∧semK Tryz.prog (convert 22 9 (.slice b.a b.len b.cap)) w1 fun v1 w2=>∃ x1:List UInt8,v1=(.string ⟨x1.toArray⟩)∧R (.returned (.bool (x==x1))) w2
theorem call59 (a b:Slc) {w:World} {R:Ending→World→Prop} (hden:sh59 a b w R):Calls Tryz.prog 59 #[.slice a.a a.len a.cap,.slice b.a b.len b.cap] w R:=
 calls_of_form (.seq none .z (.seq none .z .z)) Tryz.func59 (by kernel_rfl) [.sl a,.sl b] (by kernel_rfl) (by kernel_rfl) hden
def sh72 (s:Slc) (w:World) (R:Ending→World→Prop):Prop:=
 pureSem Tryz.prog (do eqGuard .eql 24 (.tmp 3) (.const (.slice none 0 0)) (.slice s.a s.len s.cap) (.slice none 0 0); binOp .eql 24 (.slice s.a s.len s.cap) (.slice none 0 0)) fun v=>∃ x:Bool,v=(.bool x)∧condK x (R (.returned (.slice none 0 0)) w) (semK Tryz.prog (Instr.buildSlice 24 0 #[]) w fun v1 w1=>∃ x1:Slc,v1=(.slice x1.a x1.len x1.cap)∧semK Tryz.prog (Builtin.append_ #[24,24] 24 #[.slice x1.a x1.len x1.cap,.slice s.a s.len s.cap]) w1 fun v2 w2=>∃ x2:Slc,v2=(.slice x2.a x2.len x2.cap)∧R (.returned (.slice x2.a x2.len x2.cap)) w2)
theorem call72 (s:Slc) {w:World} {R:Ending→World→Prop} (hden:sh72 s w R):Calls Tryz.prog 72 #[.slice s.a s.len s.cap] w R:=
 calls_of_form (.seq none .z (.seq none (.seq none .z (.cond (.seq none .z .z) .z)) (.seq none .z .z))) Tryz.func72 (by kernel_rfl) [.sl s] (by kernel_rfl) (by kernel_rfl) hden
def sh57 (b:Slc) (w:World) (R:Ending→World→Prop):Prop:=
 R (.returned (.bool ((b.len:Int) != (32:Int)))) w
theorem call57 (b:Slc) {w:World} {R:Ending→World→Prop} (hden:sh57 b w R):Calls Tryz.prog 57 #[.slice b.a b.len b.cap] w R:=
 calls_of_form (.seq none .z (.seq none .z .z)) Tryz.func57 (by kernel_rfl) [.sl b] (by kernel_rfl) (by kernel_rfl) hden
def sh19 (ca:Int) (cb cc cd:Slc) (w:World) (R:Ending→World→Prop):Prop:=
 semK Tryz.prog (Instr.box 26 (.agg #[.int .i64 ca,.slice cb.a cb.len cb.cap,.slice cc.a cc.len cc.cap,.slice cd.a cd.len cd.cap])) w fun v w1=>∃ c:Option Addr,v=(.pointer c)∧onSome c fun a=>∃ x:Slc,Rd w1 (a.add 2) [.slice x.a x.len x.cap]∧callK Tryz.prog 56 [.slice x.a x.len x.cap,.func (.func 57) #[] #[]] w1 (panR R) fun v1 w2=>∃ x1:Bool,v1=(.bool x1)∧∃ j:List TV→World→Prop,(onSome c fun a1=>∃ x2:Slc,Rd w2 (a1.add 2) [.slice x2.a x2.len x2.cap]∧condK (decide ((x2.len:Int) > (7:Int))) (j [.b true] w2) (onSome c fun a2=>∃ x3:Int,Rd w2 (a2.add 0) [.int .i64 x3]∧condK (decide (x3<(1:Int))) (j [.b true] w2) (onSome c fun a3=>∃ x4:Int,Rd w2 (a3.add 0) [.int .i64 x4]∧onSome c fun a4=>∃ x5:Slc,Rd w2 (a4.add 2) [.slice x5.a x5.len x5.cap]∧condK (decide (x4 > (x5.len:Int))) (j [.b true] w2) (condK (!(!x1)) (j [.b true] w2) (onSome c fun a5=>∃ x6:Slc,Rd w2 (a5.add 3) [.slice x6.a x6.len x6.cap]∧callK Tryz.prog 58 [.slice x6.a x6.len x6.cap] w2 (panR R) fun v2 w3=>∃ x7:Bool,v2=(.bool x7)∧j [.b (!x7)] w3)))))∧(∀ x8:Bool,∀ w4:World,j [.b x8] w4→condK x8 (R (.returned (.bool false)) w4) (∃ sx:World→Prop,sx w4.drew∧onSome c fun a6=>onSome c fun a7=>onSome c fun a8=>∃ x9:Slc,(∀ w',sx w'→Rd w' (a6.add 1) [.slice x9.a x9.len x9.cap])∧∃ x10:Slc,(∀ w',sx w'→Rd w' (a7.add 2) [.slice x10.a x10.len x10.cap])∧∃ x11:Int,(∀ w',sx w'→Rd w' (a8.add 0) [.int .i64 x11])∧((0≤(IntKind.i64.wrap (x11 - (1:Int)))∧(IntKind.i64.wrap (x11 - (1:Int)))<(x10.len:Nat))∧onSome x10.a fun a9=>∃ x12:Slc,(∀ w',sx w'→Rd w' (a9.add (((IntKind.i64.wrap (x11 - (1:Int)))).toNat*1)) [.slice x12.a x12.len x12.cap])∧((callK Tryz.prog 32 [.slice x9.a x9.len x9.cap] w4.drew (panR R) fun v3 w5=>∃ x13:Slc,v3=(.slice x13.a x13.len x13.cap)∧(sx w5∧((callK Tryz.prog 59 [.slice x13.a x13.len x13.cap,.slice x12.a x12.len x12.cap] w5 (panR R) fun v4 w6=>∃ x14:Bool,v4=(.bool x14)∧(sx w6∧R (.returned (.bool x14)) w6))∧True)))∧True))))
theorem call19 (ca:Int) (cb cc cd:Slc) {w:World} {R:Ending→World→Prop} (hden:sh19 ca cb cc cd w R):Calls Tryz.prog 19 #[.agg #[.int .i64 ca,.slice cb.a cb.len cb.cap,.slice cc.a cc.len cc.cap,.slice cd.a cd.len cd.cap]] w R:=
 calls_of_form (.seq none .z (.seq none .z (.seq none (.seq (some [(34,.b)]) .z (.cond (.seq none .z .z) .z)) (.seq none (.draw 1 (.take 0 (.take 3 (.take 5 (.take 1 (.take 4 (.take 6 (.take 7 (.take 8 (.take 9 (.all [(2,(.all [(10,(.take 11 .done))]))]))))))))))) .z)))) Tryz.func19 (by kernel_rfl) [.agg [.i .i64 ca,.sl cb,.sl cc,.sl cd]] (by kernel_rfl) (by kernel_rfl) hden
def sh23 (ca:Int) (cb cc cd:Slc) (w:World) (R:Ending→World→Prop):Prop:=
 semK Tryz.prog (Instr.box 26 (.agg #[.int .i64 ca,.slice cb.a cb.len cb.cap,.slice cc.a cc.len cc.cap,.slice cd.a cd.len cd.cap])) w fun v w1=>∃ c:Option Addr,v=(.pointer c)∧∃ j:List TV→World→Prop,(onSome c fun a=>∃ x:Slc,Rd w1 (a.add 1) [.slice x.a x.len x.cap]∧condK ((x.len:Int) != (32:Int)) (j [.b true] w1) (onSome c fun a1=>∃ x1:Slc,Rd w1 (a1.add 2) [.slice x1.a x1.len x1.cap]∧condK (decide ((x1.len:Int)<(1:Int))) (j [.b true] w1) (onSome c fun a2=>∃ x2:Slc,Rd w1 (a2.add 2) [.slice x2.a x2.len x2.cap]∧condK (decide ((x2.len:Int) > (7:Int))) (j [.b true] w1) (onSome c fun a3=>∃ x3:Int,Rd w1 (a3.add 0) [.int .i64 x3]∧condK (decide (x3<(1:Int))) (j [.b true] w1) (onSome c fun a4=>∃ x4:Int,Rd w1 (a4.add 0) [.int .i64 x4]∧onSome c fun a5=>∃ x5:Slc,Rd w1 (a5.add 2) [.slice x5.a x5.len x5.cap]∧condK (decide (x4 > (x5.len:Int))) (j [.b true] w1) (onSome c fun a6=>∃ x6:Slc,Rd w1 (a6.add 3) [.slice x6.a x6.len x6.cap]∧callK Tryz.prog 73 [.slice x6.a x6.len x6.cap] w1 (panR R) fun v1 w2=>∃ x7:Bool,v1=(.bool x7)∧j [.b (!x7)] w2))))))∧(∀ x8:Bool,∀ w3:World,j [.b x8] w3→condK x8 (R (.returned (.bool false)) w3) (∃ (inv:List TV→World→Prop) (mu:List TV→World→Nat),inv [.i .i64 (0:Int)] w3∧(∀ i:Int,∀ w4:World,inv [.i .i64 i] w4→onSome c fun a7=>∃ x9:Slc,Rd w4 (a7.add 2) [.slice x9.a x9.len x9.cap]∧condK (decide (i<(x9.len:Int))) (onSome c fun a8=>∃ x10:Slc,Rd w4 (a8.add 2) [.slice x10.a x10.len x10.cap]∧((0≤i∧i<(x10.len:Nat))∧onSome x10.a fun a9=>∃ x11:Slc,Rd w4 (a9.add (i.toNat*1)) [.slice x11.a x11.len x11.cap]∧condK ((x11.len:Int) != (32:Int)) (R (.returned (.bool false)) w4) ((inv [.i .i64 (IntKind.i64.wrap (i+(1:Int)))] w4∧mu [.i .i64 (IntKind.i64.wrap (i+(1:Int)))] w4<mu [.i .i64 i] w4)))) (∃ sx:World→Prop,sx w4.drew∧onSome c fun a10=>onSome c fun a11=>onSome c fun a12=>∃ x12:Slc,(∀ w',sx w'→Rd w' (a10.add 2) [.slice x12.a x12.len x12.cap])∧∃ x13:Int,(∀ w',sx w'→Rd w' (a11.add 0) [.int .i64 x13])∧((0≤(IntKind.i64.wrap (x13 - (1:Int)))∧(IntKind.i64.wrap (x13 - (1:Int)))<(x12.len:Nat))∧onSome x12.a fun a13=>∃ x14:Slc,(∀ w',sx w'→Rd w' (a13.add (((IntKind.i64.wrap (x13 - (1:Int)))).toNat*1)) [.slice x14.a x14.len x14.cap])∧∃ x15:Slc,(∀ w',sx w'→Rd w' (a12.add 1) [.slice x15.a x15.len x15.cap])∧((callK Tryz.prog 32 [.slice x15.a x15.len x15.cap] w4.drew (panR R) fun v2 w5=>∃ x16:Slc,v2=(.slice x16.a x16.len x16.cap)∧(sx w5∧((callK Tryz.prog 74 [.slice x14.a x14.len x14.cap,.slice x16.a x16.len x16.cap] w5 (panR R) fun v3 w6=>∃ x17:Bool,v3=(.bool x17)∧(sx w6∧R (.returned (.bool x17)) w6))∧True)))∧True))))))
theorem call23 (ca:Int) (cb cc cd:Slc) {w:World} {R:Ending→World→Prop} (hden:sh23 ca cb cc cd w R):Calls Tryz.prog 23 #[.agg #[.int .i64 ca,.slice cb.a cb.len cb.cap,.slice cc.a cc.len cc.cap,.slice cd.a cd.len cd.cap]] w R:=
 calls_of_form (.seq none .z (.seq none (.seq (some [(38,.b)]) .z (.cond (.seq none .z .z) .z)) (.seq none (.seq none .z (.block none (.loop [(3,(.i .i64))] (.seq none (.seq none .z (.cond .z .z)) (.seq none (.block none (.seq none .z (.cond (.seq none .z .z) .z))) .z))))) (.seq none (.draw 1 (.take 0 (.take 2 (.take 7 (.take 1 (.take 3 (.take 4 (.take 5 (.take 6 (.take 8 (.all [(9,(.all [(10,(.take 11 .done))]))]))))))))))) .z)))) Tryz.func23 (by kernel_rfl) [.agg [.i .i64 ca,.sl cb,.sl cc,.sl cd]] (by kernel_rfl) (by kernel_rfl) hden
def sh22 (ca:Int) (cb cc cd:Slc) (w:World) (R:Ending→World→Prop):Prop:=
 semK Tryz.prog (Instr.box 26 (.agg #[.int .i64 ca,.slice cb.a cb.len cb.cap,.slice cc.a cc.len cc.cap,.slice cd.a cd.len cd.cap])) w fun v w1=>∃ c:Option Addr,v=(.pointer c)∧semK Tryz.prog (Instr.alloc 26 true (.tuple #[])) w1 fun v1 w2=>∃ x:Option Addr,v1=(.pointer x)∧∃ sx:World→Prop,sx w2.drew∧onSome c fun a=>onSome c fun a1=>onSome c fun a2=>∃ x1:Slc,(∀ w',sx w'→Rd w' (a.add 1) [.slice x1.a x1.len x1.cap])∧∃ x2:Slc,(∀ w',sx w'→Rd w' (a1.add 2) [.slice x2.a x2.len x2.cap])∧∃ x3:Slc,(∀ w',sx w'→Rd w' (a2.add 3) [.slice x3.a x3.len x3.cap])∧((callK Tryz.prog 61 [.slice x1.a x1.len x1.cap] w2.drew (panR R) fun v2 w3=>∃ x4:Slc,v2=(.slice x4.a x4.len x4.cap)∧(sx w3∧onSome c fun a3=>((callK Tryz.prog 71 [.slice x2.a x2.len x2.cap] w3 (panR R) fun v3 w4=>∃ x5:Slc,v3=(.slice x5.a x5.len x5.cap)∧(sx w4∧((callK Tryz.prog 72 [.slice x3.a x3.len x3.cap] w4 (panR R) fun v4 w5=>∃ x6:Slc,v4=(.slice x6.a x6.len x6.cap)∧(sx w5∧((semU Tryz.prog (storeVar 22 (a3.add 1) (.slice x4.a x4.len x4.cap)) w5 fun w6=>onSome c fun a4=>((semU Tryz.prog (storeVar 23 (a4.add 2) (.slice x5.a x5.len x5.cap)) w6 fun w7=>onSome c fun a5=>((semU Tryz.prog (storeVar 24 (a5.add 3) (.slice x6.a x6.len x6.cap)) w7 fun w8=>onSome c fun a6=>∃ x7:Slc,Rd w8 (a6.add 2) [.slice x7.a x7.len x7.cap]∧∃ (inv:List TV→World→Prop) (mu:List TV→World→Nat),inv [.i .i64 (0:Int)] w8∧(∀ x8:Int,∀ w9:World,inv [.i .i64 x8] w9→condK (decide (x8<(x7.len:Int))) (∃ sx1:World→Prop,sx1 w9.drew∧onSome c fun a7=>onSome c fun a8=>∃ x9:Slc,(∀ w',sx1 w'→Rd w' (a7.add 2) [.slice x9.a x9.len x9.cap])∧∃ x10:Slc,(∀ w',sx1 w'→Rd w' (a8.add 2) [.slice x10.a x10.len x10.cap])∧((0≤x8∧x8<(x10.len:Nat))∧onSome x10.a fun a9=>∃ x11:Slc,(∀ w',sx1 w'→Rd w' (a9.add (x8.toNat*1)) [.slice x11.a x11.len x11.cap])∧((callK Tryz.prog 61 [.slice x11.a x11.len x11.cap] w9.drew (panR R) fun v5 w10=>∃ x12:Slc,v5=(.slice x12.a x12.len x12.cap)∧(sx1 w10∧((0≤x8∧x8<(x9.len:Nat))∧onSome x9.a fun a10=>((semU Tryz.prog (storeVar 22 (a10.add (x8.toNat*1)) (.slice x12.a x12.len x12.cap)) w10 fun w11=>(inv [.i .i64 (IntKind.i64.wrap (x8+(1:Int)))] w11∧mu [.i .i64 (IntKind.i64.wrap (x8+(1:Int)))] w11<mu [.i .i64 x8] w9))∧True))))∧True))) (onSome c fun a11=>∃ x13:Slc,Rd w9 (a11.add 3) [.slice x13.a x13.len x13.cap]∧∃ (inv1:List TV→World→Prop) (mu1:List TV→World→Nat),inv1 [.i .i64 (0:Int)] w9∧(∀ x14:Int,∀ w12:World,inv1 [.i .i64 x14] w12→condK (decide (x14<(x13.len:Int))) (∃ sx2:World→Prop,sx2 w12.drew∧onSome c fun a12=>onSome c fun a13=>∃ x15:Slc,(∀ w',sx2 w'→Rd w' (a12.add 3) [.slice x15.a x15.len x15.cap])∧∃ x16:Slc,(∀ w',sx2 w'→Rd w' (a13.add 3) [.slice x16.a x16.len x16.cap])∧((0≤x14∧x14<(x16.len:Nat))∧onSome x16.a fun a14=>∃ x17:Slc,(∀ w',sx2 w'→Rd w' ((a14.add (x14.toNat*3)).add 1) [.slice x17.a x17.len x17.cap])∧((callK Tryz.prog 61 [.slice x17.a x17.len x17.cap] w12.drew (panR R) fun v6 w13=>∃ x18:Slc,v6=(.slice x18.a x18.len x18.cap)∧(sx2 w13∧((0≤x14∧x14<(x15.len:Nat))∧onSome x15.a fun a15=>((semU Tryz.prog (storeVar 22 ((a15.add (x14.toNat*3)).add 1) (.slice x18.a x18.len x18.cap)) w13 fun w14=>(inv1 [.i .i64 (IntKind.i64.wrap (x14+(1:Int)))] w14∧mu1 [.i .i64 (IntKind.i64.wrap (x14+(1:Int)))] w14<mu1 [.i .i64 x14] w12))∧True))))∧True))) (onSome c fun a16=>∃ xa:Int,∃ xb xc xd:Slc,Rd w12 a16 [.int .i64 xa,.slice xb.a xb.len xb.cap,.slice xc.a xc.len xc.cap,.slice xd.a xd.len xd.cap]∧onSome x fun a17=>semU Tryz.prog (storeVar 26 a17 (.agg #[.int .i64 xa,.slice xb.a xb.len xb.cap,.slice xc.a xc.len xc.cap,.slice xd.a xd.len xd.cap])) w12 fun w15=>onSome x fun a18=>∃ xa1:Int,∃ xb1 xc1 xd1:Slc,Rd w15 a18 [.int .i64 xa1,.slice xb1.a xb1.len xb1.cap,.slice xc1.a xc1.len xc1.cap,.slice xd1.a xd1.len xd1.cap]∧R (.returned (.agg #[.int .i64 xa1,.slice xb1.a xb1.len xb1.cap,.slice xc1.a xc1.len xc1.cap,.slice xd1.a xd1.len xd1.cap])) w15)))))∧True))∧True))∧True)))∧True)))∧True)))∧True)
theorem call22 (ca:Int) (cb cc cd:Slc) {w:World} {R:Ending→World→Prop} (hden:sh22 ca cb cc cd w R):Calls Tryz.prog 22 #[.agg #[.int .i64 ca,.slice cb.a cb.len cb.cap,.slice cc.a cc.len cc.cap,.slice cd.a cd.len cd.cap]] w R:=
 calls_of_form (.seq none .z (.seq none (.draw 1 (.take 0 (.take 3 (.take 6 (.take 1 (.take 4 (.take 7 (.all [(2,(.take 9 (.all [(5,(.all [(8,(.all [(10,(.take 11 (.all [(12,(.take 13 (.all [(14,.done)])))])))]))]))])))])))))))) (.seq none (.seq none .z (.block none (.loop [(20,(.i .i64))] (.seq none .z (.seq none (.cond .z .z) (.seq none (.block none (.seq none .z (.draw 1 (.take 0 (.take 2 (.take 3 (.take 5 (.take 1 (.take 4 (.take 6 (.take 7 (.all [(8,(.take 9 (.all [(10,.done)])))])))))))))))) .z)))))) (.seq none (.seq none .z (.block none (.loop [(37,(.i .i64))] (.seq none .z (.seq none (.cond .z .z) (.seq none (.block none (.seq none .z (.draw 1 (.take 0 (.take 2 (.take 3 (.take 5 (.take 1 (.take 4 (.take 6 (.take 7 (.take 8 (.all [(9,(.take 10 (.take 11 (.all [(12,.done)]))))]))))))))))))) .z)))))) (.seq none .z .z))))) Tryz.func22 (by kernel_rfl) [.agg [.i .i64 ca,.sl cb,.sl cc,.sl cd]] (by kernel_rfl) (by kernel_rfl) hden
def sh86 (l:Slc) (w:World) (R:Ending→World→Prop):Prop:=
 ∃ (inv:List TV→World→Prop) (mu:List TV→World→Nat),inv [.sl ⟨none,0,0⟩,.i .i64 (0:Int)] w∧(∀ out:Slc,∀ i:Int,∀ w1:World,inv [.sl out,.i .i64 i] w1→condK (decide (i<(l.len:Int))) (((0≤i∧i<(l.len:Nat))∧onSome l.a fun a=>∃ x:Slc,Rd w1 (a.add (i.toNat*1)) [.slice x.a x.len x.cap]∧callK Tryz.prog 85 [.slice x.a x.len x.cap] w1 (panR R) fun v w2=>∃ x1:Slc,v=(.slice x1.a x1.len x1.cap)∧semK Tryz.prog (Instr.buildSlice 23 1 #[(0,(.slice x1.a x1.len x1.cap))]) w2 fun v1 w3=>∃ x2:Slc,v1=(.slice x2.a x2.len x2.cap)∧semK Tryz.prog (Builtin.append_ #[23,23] 23 #[.slice out.a out.len out.cap,.slice x2.a x2.len x2.cap]) w3 fun v2 w4=>∃ x3:Slc,v2=(.slice x3.a x3.len x3.cap)∧(inv [.sl x3,.i .i64 (IntKind.i64.wrap (i+(1:Int)))] w4∧mu [.sl x3,.i .i64 (IntKind.i64.wrap (i+(1:Int)))] w4<mu [.sl out,.i .i64 i] w1))) (R (.returned (.slice out.a out.len out.cap)) w1))
theorem call86 (l:Slc) {w:World} {R:Ending→World→Prop} (hden:sh86 l w R):Calls Tryz.prog 86 #[.slice l.a l.len l.cap] w R:=
 calls_of_form (.seq none .z (.seq none .z (.seq none (.seq none .z (.block none (.loop [(3,.sl),(4,(.i .i64))] (.seq none (.seq none .z (.cond .z .z)) (.seq none (.block none (.seq none .z .z)) .z))))) (.seq none .z .z)))) Tryz.func86 (by kernel_rfl) [.sl l] (by kernel_rfl) (by kernel_rfl) hden
def sh87 (l:Slc) (w:World) (R:Ending→World→Prop):Prop:=
 ∃ (inv:List TV→World→Prop) (mu:List TV→World→Nat),inv [.sl ⟨none,0,0⟩,.i .i64 (0:Int)] w∧(∀ out:Slc,∀ i:Int,∀ w1:World,inv [.sl out,.i .i64 i] w1→condK (decide (i<(l.len:Int))) (((0≤i∧i<(l.len:Nat))∧onSome l.a fun a=>∃ xa:Int,∃ xb:Slc,∃ xc:List UInt8,Rd w1 (a.add (i.toNat*3)) [.int .i64 xa,.slice xb.a xb.len xb.cap,.string ⟨xc.toArray⟩]∧callK Tryz.prog 174 [.agg #[.int .i64 xa,.slice xb.a xb.len xb.cap,.string ⟨xc.toArray⟩]] w1 (panR R) fun v w2=>∃ xa1:Int,∃ xb1:Slc,∃ xc1:List UInt8,v=(.agg #[.int .i64 xa1,.slice xb1.a xb1.len xb1.cap,.string ⟨xc1.toArray⟩])∧semK Tryz.prog (Instr.alloc 29 true (.tuple #[])) w2 fun v1 w3=>∃ x:Option Addr,v1=(.pointer x)∧onSome x fun a1=>semU Tryz.prog (storeVar 29 a1 (.agg #[.int .i64 xa1,.slice xb1.a xb1.len xb1.cap,.string ⟨xc1.toArray⟩])) w3 fun w4=>onSome x fun a2=>∃ xa2:Int,∃ xb2:Slc,∃ xc2:List UInt8,Rd w4 a2 [.int .i64 xa2,.slice xb2.a xb2.len xb2.cap,.string ⟨xc2.toArray⟩]∧semK Tryz.prog (Instr.buildSlice 24 1 #[(0,(.agg #[.int .i64 xa2,.slice xb2.a xb2.len xb2.cap,.string ⟨xc2.toArray⟩]))]) w4 fun v2 w5=>∃ x1:Slc,v2=(.slice x1.a x1.len x1.cap)∧semK Tryz.prog (Builtin.append_ #[24,24] 24 #[.slice out.a out.len out.cap,.slice x1.a x1.len x1.cap]) w5 fun v3 w6=>∃ x2:Slc,v3=(.slice x2.a x2.len x2.cap)∧(inv [.sl x2,.i .i64 (IntKind.i64.wrap (i+(1:Int)))] w6∧mu [.sl x2,.i .i64 (IntKind.i64.wrap (i+(1:Int)))] w6<mu [.sl out,.i .i64 i] w1))) (R (.returned (.slice out.a out.len out.cap)) w1))
theorem call87 (l:Slc) {w:World} {R:Ending→World→Prop} (hden:sh87 l w R):Calls Tryz.prog 87 #[.slice l.a l.len l.cap] w R:=
 calls_of_form (.seq none .z (.seq none .z (.seq none (.seq none .z (.block none (.loop [(3,.sl),(4,(.i .i64))] (.seq none (.seq none .z (.cond .z .z)) (.seq none (.block none (.seq none .z .z)) .z))))) (.seq none .z .z)))) Tryz.func87 (by kernel_rfl) [.sl l] (by kernel_rfl) (by kernel_rfl) hden
def sh25 (xa:Int) (xb xc xd:Slc) (w:World) (R:Ending→World→Prop):Prop:=
 semK Tryz.prog (Instr.box 26 (.agg #[.int .i64 xa,.slice xb.a xb.len xb.cap,.slice xc.a xc.len xc.cap,.slice xd.a xd.len xd.cap])) w fun v w1=>∃ x:Option Addr,v=(.pointer x)∧semK Tryz.prog (Instr.alloc 26 true (.tuple #[])) w1 fun v1 w2=>∃ x1:Option Addr,v1=(.pointer x1)∧onSome x fun a=>∃ x2:Slc,Rd w2 (a.add 1) [.slice x2.a x2.len x2.cap]∧callK Tryz.prog 85 [.slice x2.a x2.len x2.cap] w2 (panR R) fun v2 w3=>∃ x3:Slc,v2=(.slice x3.a x3.len x3.cap)∧onSome x fun a1=>semU Tryz.prog (storeVar 22 (a1.add 1) (.slice x3.a x3.len x3.cap)) w3 fun w4=>onSome x fun a2=>∃ x4:Slc,Rd w4 (a2.add 2) [.slice x4.a x4.len x4.cap]∧callK Tryz.prog 86 [.slice x4.a x4.len x4.cap] w4 (panR R) fun v3 w5=>∃ x5:Slc,v3=(.slice x5.a x5.len x5.cap)∧onSome x fun a3=>semU Tryz.prog (storeVar 23 (a3.add 2) (.slice x5.a x5.len x5.cap)) w5 fun w6=>onSome x fun a4=>∃ x6:Slc,Rd w6 (a4.add 3) [.slice x6.a x6.len x6.cap]∧callK Tryz.prog 87 [.slice x6.a x6.len x6.cap] w6 (panR R) fun v4 w7=>∃ x7:Slc,v4=(.slice x7.a x7.len x7.cap)∧onSome x fun a5=>semU Tryz.prog (storeVar 24 (a5.add 3) (.slice x7.a x7.len x7.cap)) w7 fun w8=>onSome x fun a6=>∃ xa1:Int,∃ xb1 xc1 xd1:Slc,Rd w8 a6 [.int .i64 xa1,.slice xb1.a xb1.len xb1.cap,.slice xc1.a xc1.len xc1.cap,.slice xd1.a xd1.len xd1.cap]∧onSome x1 fun a7=>semU Tryz.prog (storeVar 26 a7 (.agg #[.int .i64 xa1,.slice xb1.a xb1.len xb1.cap,.slice xc1.a xc1.len xc1.cap,.slice xd1.a xd1.len xd1.cap])) w8 fun w9=>onSome x1 fun a8=>∃ xa2:Int,∃ xb2 xc2 xd2:Slc,Rd w9 a8 [.int .i64 xa2,.slice xb2.a xb2.len xb2.cap,.slice xc2.a xc2.len xc2.cap,.slice xd2.a xd2.len xd2.cap]∧R (.returned (.agg #[.int .i64 xa2,.slice xb2.a xb2.len xb2.cap,.slice xc2.a xc2.len xc2.cap,.slice xd2.a xd2.len xd2.cap])) w9
theorem call25 (xa:Int) (xb xc xd:Slc) {w:World} {R:Ending→World→Prop} (hden:sh25 xa xb xc xd w R):Calls Tryz.prog 25 #[.agg #[.int .i64 xa,.slice xb.a xb.len xb.cap,.slice xc.a xc.len xc.cap,.slice xd.a xd.len xd.cap]] w R:=
 calls_of_form (.seq none .z (.seq none .z (.seq none .z (.seq none .z (.seq none .z .z))))) Tryz.func25 (by kernel_rfl) [.agg [.i .i64 xa,.sl xb,.sl xc,.sl xd]] (by kernel_rfl) (by kernel_rfl) hden
def sh5 (xa:Int) (xb xc xd:Slc) (w:World) (R:Ending→World→Prop):Prop:=
 semK Tryz.prog (Instr.box 26 (.agg #[.int .i64 xa,.slice xb.a xb.len xb.cap,.slice xc.a xc.len xc.cap,.slice xd.a xd.len xd.cap])) w fun v w1=>∃ x:Option Addr,v=(.pointer x)∧semK Tryz.prog (Instr.alloc 26 true (.tuple #[])) w1 fun v1 w2=>∃ x1:Option Addr,v1=(.pointer x1)∧onSome x fun a=>∃ x2:Slc,Rd w2 (a.add 1) [.slice x2.a x2.len x2.cap]∧callK Tryz.prog 15 [.slice x2.a x2.len x2.cap] w2 (panR R) fun v2 w3=>∃ x3:Slc,v2=(.slice x3.a x3.len x3.cap)∧onSome x fun a1=>semU Tryz.prog (storeVar 22 (a1.add 1) (.slice x3.a x3.len x3.cap)) w3 fun w4=>onSome x fun a2=>∃ x4:Slc,Rd w4 (a2.add 2) [.slice x4.a x4.len x4.cap]∧callK Tryz.prog 16 [.slice x4.a x4.len x4.cap] w4 (panR R) fun v3 w5=>∃ x5:Slc,v3=(.slice x5.a x5.len x5.cap)∧onSome x fun a3=>semU Tryz.prog (storeVar 23 (a3.add 2) (.slice x5.a x5.len x5.cap)) w5 fun w6=>onSome x fun a4=>∃ x6:Slc,Rd w6 (a4.add 3) [.slice x6.a x6.len x6.cap]∧callK Tryz.prog 17 [.slice x6.a x6.len x6.cap] w6 (panR R) fun v4 w7=>∃ x7:Slc,v4=(.slice x7.a x7.len x7.cap)∧onSome x fun a5=>semU Tryz.prog (storeVar 24 (a5.add 3) (.slice x7.a x7.len x7.cap)) w7 fun w8=>onSome x fun a6=>∃ xa1:Int,∃ xb1 xc1 xd1:Slc,Rd w8 a6 [.int .i64 xa1,.slice xb1.a xb1.len xb1.cap,.slice xc1.a xc1.len xc1.cap,.slice xd1.a xd1.len xd1.cap]∧onSome x1 fun a7=>semU Tryz.prog (storeVar 26 a7 (.agg #[.int .i64 xa1,.slice xb1.a xb1.len xb1.cap,.slice xc1.a xc1.len xc1.cap,.slice xd1.a xd1.len xd1.cap])) w8 fun w9=>onSome x1 fun a8=>∃ xa2:Int,∃ xb2 xc2 xd2:Slc,Rd w9 a8 [.int .i64 xa2,.slice xb2.a xb2.len xb2.cap,.slice xc2.a xc2.len xc2.cap,.slice xd2.a xd2.len xd2.cap]∧R (.returned (.agg #[.int .i64 xa2,.slice xb2.a xb2.len xb2.cap,.slice xc2.a xc2.len xc2.cap,.slice xd2.a xd2.len xd2.cap])) w9
theorem call5 (xa:Int) (xb xc xd:Slc) {w:World} {R:Ending→World→Prop} (hden:sh5 xa xb xc xd w R):Calls Tryz.prog 5 #[.agg #[.int .i64 xa,.slice xb.a xb.len xb.cap,.slice xc.a xc.len xc.cap,.slice xd.a xd.len xd.cap]] w R:=
 calls_of_form (.seq none .z (.seq none .z (.seq none .z (.seq none .z (.seq none .z .z))))) Tryz.func5 (by kernel_rfl) [.agg [.i .i64 xa,.sl xb,.sl xc,.sl xd]] (by kernel_rfl) (by kernel_rfl) hden
def sh27 (aa:Int) (ab ac ad:Slc) (ba:Int) (bb bc bd:Slc) (w:World) (R:Ending→World→Prop):Prop:=
 semK Tryz.prog (Instr.box 26 (.agg #[.int .i64 aa,.slice ab.a ab.len ab.cap,.slice ac.a ac.len ac.cap,.slice ad.a ad.len ad.cap])) w fun v w1=>∃ a:Option Addr,v=(.pointer a)∧semK Tryz.prog (Instr.box 26 (.agg #[.int .i64 ba,.slice bb.a bb.len bb.cap,.slice bc.a bc.len bc.cap,.slice bd.a bd.len bd.cap])) w1 fun v1 w2=>∃ b:Option Addr,v1=(.pointer b)∧onSome a fun a1=>∃ x:Int,Rd w2 (a1.add 0) [.int .i64 x]∧onSome b fun a2=>∃ x1:Int,Rd w2 (a2.add 0) [.int .i64 x1]∧condK (x==x1) (onSome a fun a3=>∃ x2:Slc,Rd w2 (a3.add 1) [.slice x2.a x2.len x2.cap]∧onSome b fun a4=>∃ x3:Slc,Rd w2 (a4.add 1) [.slice x3.a x3.len x3.cap]∧callK Tryz.prog 74 [.slice x2.a x2.len x2.cap,.slice x3.a x3.len x3.cap] w2 (panR R) fun v2 w3=>∃ x4:Bool,v2=(.bool x4)∧condK x4 (onSome a fun a5=>∃ x5:Slc,Rd w3 (a5.add 2) [.slice x5.a x5.len x5.cap]∧onSome b fun a6=>∃ x6:Slc,Rd w3 (a6.add 2) [.slice x6.a x6.len x6.cap]∧callK Tryz.prog 88 [.slice x5.a x5.len x5.cap,.slice x6.a x6.len x6.cap] w3 (panR R) fun v3 w4=>∃ x7:Bool,v3=(.bool x7)∧condK x7 (onSome a fun a7=>∃ x8:Slc,Rd w4 (a7.add 3) [.slice x8.a x8.len x8.cap]∧onSome b fun a8=>∃ x9:Slc,Rd w4 (a8.add 3) [.slice x9.a x9.len x9.cap]∧callK Tryz.prog 89 [.slice x8.a x8.len x8.cap,.slice x9.a x9.len x9.cap] w4 (panR R) fun v4 w5=>∃ x10:Bool,v4=(.bool x10)∧R (.returned (.bool x10)) w5) (R (.returned (.bool false)) w4)) (R (.returned (.bool false)) w3)) (R (.returned (.bool false)) w2)
theorem call27 (aa:Int) (ab ac ad:Slc) (ba:Int) (bb bc bd:Slc) {w:World} {R:Ending→World→Prop} (hden:sh27 aa ab ac ad ba bb bc bd w R):Calls Tryz.prog 27 #[.agg #[.int .i64 aa,.slice ab.a ab.len ab.cap,.slice ac.a ac.len ac.cap,.slice ad.a ad.len ad.cap],.agg #[.int .i64 ba,.slice bb.a bb.len bb.cap,.slice bc.a bc.len bc.cap,.slice bd.a bd.len bd.cap]] w R:=
 calls_of_form (.seq none .z (.seq none .z .z)) Tryz.func27 (by kernel_rfl) [.agg [.i .i64 aa,.sl ab,.sl ac,.sl ad],.agg [.i .i64 ba,.sl bb,.sl bc,.sl bd]] (by kernel_rfl) (by kernel_rfl) hden
def sh10 (xa:Int) (xb xc xd:Slc) (ya:Int) (yb yc yd:Slc) (w:World) (R:Ending→World→Prop):Prop:=
 semK Tryz.prog (Instr.box 26 (.agg #[.int .i64 xa,.slice xb.a xb.len xb.cap,.slice xc.a xc.len xc.cap,.slice xd.a xd.len xd.cap])) w fun v w1=>∃ x:Option Addr,v=(.pointer x)∧semK Tryz.prog (Instr.box 26 (.agg #[.int .i64 ya,.slice yb.a yb.len yb.cap,.slice yc.a yc.len yc.cap,.slice yd.a yd.len yd.cap])) w1 fun v1 w2=>∃ y:Option Addr,v1=(.pointer y)∧onSome x fun a=>∃ xa1:Int,∃ xb1 xc1 xd1:Slc,Rd w2 a [.int .i64 xa1,.slice xb1.a xb1.len xb1.cap,.slice xc1.a xc1.len xc1.cap,.slice xd1.a xd1.len xd1.cap]∧onSome y fun a1=>∃ xa2:Int,∃ xb2 xc2 xd2:Slc,Rd w2 a1 [.int .i64 xa2,.slice xb2.a xb2.len xb2.cap,.slice xc2.a xc2.len xc2.cap,.slice xd2.a xd2.len xd2.cap]∧callK Tryz.prog 27 [.agg #[.int .i64 xa1,.slice xb1.a xb1.len xb1.cap,.slice xc1.a xc1.len xc1.cap,.slice xd1.a xd1.len xd1.cap],.agg #[.int .i64 xa2,.slice xb2.a xb2.len xb2.cap,.slice xc2.a xc2.len xc2.cap,.slice xd2.a xd2.len xd2.cap]] w2 (panR R) fun v2 w3=>∃ x1:Bool,v2=(.bool x1)∧condK x1 (onSome x fun a2=>∃ x2:Slc,Rd w3 (a2.add 1) [.slice x2.a x2.len x2.cap]∧onSome y fun a3=>∃ x3:Slc,Rd w3 (a3.add 1) [.slice x3.a x3.len x3.cap]∧callK Tryz.prog 28 [.slice x2.a x2.len x2.cap,.slice x3.a x3.len x3.cap] w3 (panR R) fun v3 w4=>∃ x4:Bool,v3=(.bool x4)∧condK x4 (onSome x fun a4=>∃ x5:Slc,Rd w4 (a4.add 2) [.slice x5.a x5.len x5.cap]∧onSome y fun a5=>∃ x6:Slc,Rd w4 (a5.add 2) [.slice x6.a x6.len x6.cap]∧callK Tryz.prog 29 [.slice x5.a x5.len x5.cap,.slice x6.a x6.len x6.cap] w4 (panR R) fun v4 w5=>∃ x7:Bool,v4=(.bool x7)∧condK x7 (onSome x fun a6=>∃ x8:Slc,Rd w5 (a6.add 3) [.slice x8.a x8.len x8.cap]∧onSome y fun a7=>∃ x9:Slc,Rd w5 (a7.add 3) [.slice x9.a x9.len x9.cap]∧callK Tryz.prog 30 [.slice x8.a x8.len x8.cap,.slice x9.a x9.len x9.cap] w5 (panR R) fun v5 w6=>∃ x10:Bool,v5=(.bool x10)∧R (.returned (.bool x10)) w6) (R (.returned (.bool false)) w5)) (R (.returned (.bool false)) w4)) (R (.returned (.bool false)) w3)
theorem call10 (xa:Int) (xb xc xd:Slc) (ya:Int) (yb yc yd:Slc) {w:World} {R:Ending→World→Prop} (hden:sh10 xa xb xc xd ya yb yc yd w R):Calls Tryz.prog 10 #[.agg #[.int .i64 xa,.slice xb.a xb.len xb.cap,.slice xc.a xc.len xc.cap,.slice xd.a xd.len xd.cap],.agg #[.int .i64 ya,.slice yb.a yb.len yb.cap,.slice yc.a yc.len yc.cap,.slice yd.a yd.len yd.cap]] w R:=
 calls_of_form (.seq none .z (.seq none .z .z)) Tryz.func10 (by kernel_rfl) [.agg [.i .i64 xa,.sl xb,.sl xc,.sl xd],.agg [.i .i64 ya,.sl yb,.sl yc,.sl yd]] (by kernel_rfl) (by kernel_rfl) hden
def mG (k i:Int):Gt:=⟨mk k i,⟨none,0,0⟩,[]⟩
theorem Gt.len (g:Gt):g.cells.length=3:=rfl
theorem Gt.one (g:Gt) : ∀ y∈g.cells,y.oneCell'=true:=by
 intro y hy
 simp [Gt.cells] at hy
 rcases hy with rfl | rfl | rfl <;> rfl
structure LentGs (w0 w:World) (x:Slc) (l:List Gt) (ks:List (List UInt8)):Prop where
 n:l.length=ks.length
 row:LentC Gt.cells 3 mG w x l
 f:FB w0 x
 h : ∀ i (a:i<l.length) (a':i<ks.length),LentB w l[i].s ks[i]∧FB w0 l[i].s
theorem LentGs.no {w0 w w':World} {x:Slc} {l:List Gt} {ks:List (List UInt8)} (a:LentGs w0 w x l ks) (hm:Mod NoB w w'):LentGs w0 w' x l ks:=
 ⟨a.n,a.row.no hm,a.f,fun i h h'=>⟨(a.h i h h').1.no hm,(a.h i h h').2⟩⟩
theorem LentGs.at {w0 w:World} {x:Slc} {l:List Gt} {ks:List (List UInt8)} (a:LentGs w0 w x l ks):GrAt w x l ks:=
 ⟨(a.row.own Gt.len).rd,fun z hz=>a.row.lt hz,a.n,fun i h h'=>⟨(a.h i h h').1.rd,fun z hz=>(a.h i h h').1.lt hz⟩⟩
section
variable {w:World}
theorem c_lentG {g:Gt} {k:List UInt8} (hs:SlRd w g.s 1 (bys k)) (hn:k.length≤1000000):Calls Tryz.prog 52 #[.agg g.cells.toArray] w (Ret fun v w'=>∃ x:Slc,v = .agg (Gt.cells ⟨g.c,x,g.p⟩).toArray∧LentB w' x k∧FB w x∧Mod NoB w w'):=by
 obtain ⟨ig,i1,i2,i3,i4⟩:=iGrant
 refine call52 g.c g.s g.p ?_
 unfold sh52
 refine sem_box (l:=g.cells) rfl fun p w1 hN1 hb1=>⟨_,rfl,?_⟩
 refine sem_alloc (l:=g0.cells) i1 i2 rfl fun q w2 hN2 hb2=>⟨_,rfl,?_⟩
 have e1:=hN1.at_; have e2:=hN2.at_; have hpl:=hb1.lt; have hql:=hb2.lt
 have hM2:=hN1.mod.tr hN2.mod
 refine ⟨g.s,(hb1.no hN2.mod).rd1 (o:=1) rfl,?_⟩
 refine callK_ret (c_lentBytes (hs.no hM2) (by omega)) ?_
 rintro v w3 ⟨x,rfl,ho3,hf3,hm3⟩
 refine ⟨x,rfl,?_⟩
 have hp3:=(hb1.no hN2.mod).no hm3
 have hs1:=hN1.mod.size; have hs2:=hN2.mod.size; have hs3:=hm3.size
 refine semU_store1 (b:=p) (o:=1) (by kernel_rfl) (by kernel_rfl) rfl hp3 (by simp [Gt.cells]) fun w4 ht4 hp4=>?_
 have hp4:Blk w4 p (Gt.cells ⟨g.c,x,g.p⟩) _:=hp4
 refine ⟨g.c,x,g.p,hp4.rd fun j v hj=>by simpa [Gt.cells,Slc.val] using hj,?_⟩
 have hq4:=((hb2.no hm3).mod ht4.mod (fun e=>by have:q=p:=e; omega))
 refine semU_store (o:=0) (vs:=Gt.cells ⟨g.c,x,g.p⟩) (by kernel_rfl) (by kernel_rfl) rfl hq4 (by simp [Gt.cells,g0]) (Gt.one _) fun w5 ht5 hq5=>?_
 rw [putg] at hq5
 refine ⟨g.c,x,g.p,hq5.rd fun j v hj=>by simpa [Gt.cells,Slc.val] using hj,?_⟩
 have hxp : ∀ z,x.blk=some z→z≠p∧z≠q:=fun z hz=>by have:=hf3 z hz; omega
 have hx5:=(ho3.mod ht4.mod fun z hz e=>(hxp z hz).1 e).mod ht5.mod fun z hz e=>(hxp z hz).2 e
 exact ⟨x,rfl,hx5,hf3.le hM2.size,((hM2.tr hm3).fresh ht4.mod fun z e=>by have:z=p:=e; omega).fresh ht5.mod fun z e=>by have:z=q:=e; omega⟩
theorem c_markG {k i:Int} : Calls Tryz.prog 53 #[.int .i64 k,.int .i64 i] w (Ret fun v w'=>v = .agg (mG k i).cells.toArray∧Mod NoB w w'):=by
 obtain ⟨ig,i1,i2,i3,i4⟩:=iGrant
 refine call53 _ _ ?_
 unfold sh53
 refine sem_alloc (l:=g0.cells) i1 i2 rfl fun q w2 hN2 hb2=>⟨_,rfl,?_⟩
 refine callK_ret c_mark ?_
 rintro v w3 ⟨rfl,rfl⟩
 refine ⟨_,rfl,?_⟩
 refine semU_store (o:=0) (vs:=(mG k i).cells) (by kernel_rfl) (by kernel_rfl) rfl hb2 (by simp [Gt.cells,g0]) (Gt.one _) fun w5 ht5 hq5=>?_
 rw [putg] at hq5
 have e2:=hN2.at_
 exact ⟨(mG k i).c,(mG k i).s,(mG k i).p,hq5.rd fun j v hj=>by simpa [Gt.cells,Slc.val] using hj,rfl,hN2.mod.fresh ht5.mod fun z e=>by have:z=q:=e; omega⟩
theorem c_sameG {a b:Gt} {l m:List UInt8} (ha:SlRd w a.s 1 (bys l)) (hb:SlRd w b.s 1 (bys m)) (hn:l.length≤1000000) (h1:a.c=b.c) (h2:a.p=b.p) (h3:l=m) :
 Calls Tryz.prog 91 #[.agg a.cells.toArray,.agg b.cells.toArray] w (Ret fun v w'=>v = .bool true∧Mod NoB w w'):=by
 refine call91 a.c a.s a.p b.c b.s b.p ?_
 unfold sh91
 refine sem_box (l:=a.cells) rfl fun p w1 hN1 hb1=>⟨_,rfl,?_⟩
 refine sem_box (l:=b.cells) rfl fun q w2 hN2 hb2=>⟨_,rfl,?_⟩
 have hm2:Mod NoB w w2:=hN1.mod.tr hN2.mod
 have p2:=hb1.no hN2.mod
 refine ⟨a.c,p2.rd1 (o:=0) rfl,b.c,hb2.rd1 (o:=0) rfl,condK_i (fun _=>?_) fun e=>by simp [h1] at e⟩
 refine ⟨a.s,p2.rd1 (o:=1) rfl,b.s,hb2.rd1 (o:=1) rfl,?_⟩
 refine callK_ret (c_same (ha.no hm2) (hb.no hm2) (by omega)) ?_
 rintro v w3 ⟨rfl,hm3⟩
 refine ⟨_,rfl,condK_i (fun _=>?_) fun e=>by simp [h3] at e⟩
 exact ⟨a.p,(p2.no hm3).rd1 (o:=2) rfl,b.p,(hb2.no hm3).rd1 (o:=2) rfl,by simp [h2],hm2.tr hm3⟩
theorem c_keptG {a b:Gt} {l:List UInt8} (ha:LentB w a.s l) (hb:SlRd w b.s 1 (bys l)) (hn:l.length≤1000000) (h1:a.c=b.c) (h2:a.p=b.p) :
 Calls Tryz.prog 90 #[.agg a.cells.toArray,.agg b.cells.toArray] w (Ret fun v w'=>v = .bool true∧Mod NoB w w'):=by
 refine call90 a.c a.s a.p b.c b.s b.p ?_
 unfold sh90
 refine sem_box (l:=a.cells) rfl fun p w1 hN1 hb1=>⟨_,rfl,?_⟩
 refine sem_box (l:=b.cells) rfl fun q w2 hN2 hb2=>⟨_,rfl,?_⟩
 have hm2:Mod NoB w w2:=hN1.mod.tr hN2.mod
 have p2:=hb1.no hN2.mod
 refine ⟨a.c,a.s,a.p,p2.rd fun j v hj=>by simpa [Gt.cells,Slc.val] using hj,b.c,b.s,b.p,hb2.rd fun j v hj=>by simpa [Gt.cells,Slc.val] using hj,?_⟩
 refine callK_ret (c_sameG (a:=a) (b:=b) (ha.no hm2).rd (hb.no hm2) hn h1 h2 rfl) ?_
 rintro v w3 ⟨rfl,hm3⟩
 have hM3:=hm2.tr hm3
 refine ⟨_,rfl,condK_i (fun _=>?_) fun e=>by simp at e⟩
 refine ⟨a.s,(p2.no hm3).rd1 (o:=1) rfl,b.s,(hb2.no hm3).rd1 (o:=1) rfl,?_⟩
 refine callK_ret (c_keptBytes (ha.no hM3) (hb.no hM3) (by omega)) ?_
 rintro v w4 ⟨rfl,hm4⟩
 exact ⟨_,rfl,rfl,hM3.tr hm4⟩
def LikeG (l m:List Gt):Prop:=l.length=m.length∧∀ i (h:i<l.length) (h':i<m.length),l[i].c=m[i].c∧l[i].p=m[i].p
theorem LikeG.right {l m:List Gt} (h:LikeG l m) (hs : ∀ i (a:i<l.length) (b:i<m.length),l[i].s.len=m[i].s.len):RGr l↔RGr m:=by
 obtain ⟨h1,h2⟩:=h
 constructor
 ·intro hr i hi
  obtain ⟨a,b,c,d,e⟩:=hr i (by omega)
  obtain ⟨q1,q2⟩:=h2 i (by omega) hi
  refine ⟨by omega,by omega,fun h0=>?_,by rw [← hs i (by omega) hi]; exact d,by rw [← q2]; exact e⟩
  have:=c h0
  have:=(h2 (i - 1) (by omega) (by omega)).1
  omega
 ·intro hr i hi
  obtain ⟨a,b,c,d,e⟩:=hr i (by omega)
  obtain ⟨q1,q2⟩:=h2 i hi (by omega)
  refine ⟨by omega,by omega,fun h0=>?_,by rw [hs i hi (by omega)]; exact d,by rw [q2]; exact e⟩
  have:=c h0
  have:=(h2 (i - 1) (by omega) (by omega)).1
  omega
theorem c_lentGrants {s:Slc} {l:List Gt} {ks:List (List UInt8)} (hg:GrAt w s l ks) (hk : ∀ k∈ks,k.length≤1000000) (hn:l.length≤1000000) :
 Calls Tryz.prog 17 #[.slice s.a s.len s.cap] w (Ret fun v w'=>∃ x l',v=x.val∧LentGs w w' x l' ks∧LikeG l' l∧Mod NoB w w'):=by
 refine call17 _ ?_
 unfold sh17
 obtain ⟨ig,i1,i2,i3,i4⟩:=iGrant
 have hL:=rd_lenG hg.rd
 have hlk:=hg.len
 rw [show IntKind.i64.wrap ((s.len:Int)+12)=((s.len+12:Nat):Int) by rw [wrap_i64 (by omega)]; omega]
 refine sem_makeSliceK (f:=Gt.cells) (z0:=g0) (l:=0) (c:=s.len+12) uGrants i1 i2 i3 rfl rfl (by omega) i4 rfl rfl (by omega) (by omega) (by omega) (by omega) fun b w1 hN1 ho1=>⟨⟨_,_,_⟩,rfl,?_⟩
 have hat:=hN1.at_; have hsz:=hN1.size
 have hbb : ∀ {n:Nat} z,Slc.blk ⟨some ⟨b,0,none⟩,n,s.len+12⟩=some z→z=b:=fun z hz=>by rw [Slc.blk_mk] at hz; split at hz <;> simp_all
 refine ⟨fun l' w'=>match l' with | [.sl q,.i _ i]=>∃ (k:Nat) (hx:List Gt),i=k∧k≤l.length∧q=⟨some ⟨b,0,none⟩,k,s.len+12⟩∧hx.length=k∧Sh.Own w' q 3 (flatC Gt.cells hx)∧(∀ i (h:i<hx.length) (h':i<ks.length) (h'':i<l.length),LentB w' hx[i].s ks[i]∧FB w1 hx[i].s∧hx[i].c=l[i].c∧hx[i].p=l[i].p)∧Mod NoB w w'∧w1.heap.size≤w'.heap.size | _=>False,
  fun l' _=>match l' with | [.sl q,.i _ i]=>(l.length - i).toNat | _=>0,⟨0,[],rfl,by omega,rfl,rfl,ho1,fun i hi=>by simp at hi,hN1.mod,Nat.le_refl _⟩,?_⟩
 rintro q i w2 ⟨k,hx,rfl,hk',rfl,hxl,ho2,hI2,hm2,hz2⟩
 refine condK_i (fun hlt=>?_) fun hge=>?_
 ·have hk2:k<l.length:=by simp at hlt; omega
  obtain ⟨sa,es,hrs⟩:=rd_g hg.rd hk2
  have g4:=(hg.key k hk2 (by omega)).1
  have g5:=hk _ (List.getElem_mem (l:=ks) (n:=k) (by omega))
  refine ⟨⟨by omega,by omega⟩,onSome_of es ⟨l[k].c,l[k].s,l[k].p,hrs.mod hm2 fun h=>h,?_⟩⟩
  refine callK_ret (c_lentG (g:=l[k]) (g4.no hm2) g5) ?_
  rintro v w3 ⟨x3,rfl,L3,F3,hm3⟩
  refine ⟨l[k].c,x3,l[k].p,rfl,?_⟩
  refine sem_alloc (l:=g0.cells) i1 i2 rfl fun p w4 hN4 hb4=>⟨_,rfl,?_⟩
  refine semU_store (o:=0) (vs:=Gt.cells ⟨l[k].c,x3,l[k].p⟩) (by kernel_rfl) (by kernel_rfl) rfl hb4 (by simp [Gt.cells,g0]) (Gt.one _) fun w5 ht5 hb5=>?_
  rw [putg] at hb5
  have hp:=hN4.at_
  have hm35:Mod NoB w3 w5:=hN4.mod.fresh ht5.mod fun z e=>by have e:z=p:=e; omega
  have hm25:=hm3.tr hm35
  refine ⟨l[k].c,x3,l[k].p,hb5.rd fun j v hj=>by simpa [Gt.cells,Slc.val] using hj,?_⟩
  refine sem_elem2 (f:=Gt.cells) (c:=(⟨l[k].c,x3,l[k].p⟩:Gt)) (s:=⟨some ⟨b,0,none⟩,k,s.len+12⟩) uGrants i1 i2 i3 rfl i4 rfl rfl (by omega) (by omega) (Gt.one _) (ho2.no hm25) (by simp only []; omega) (by simp only []; omega) (fun w6 hc6 ho6 hm6=>?_) fun b' cp w6 hc6 hb6 ho6 hcp hm6=>(by simp only [] at hc6; omega)
  rw [wrap_nat (by omega)]
  have hm6b:Mod (fun z=>z=b) w5 w6:=hm6.mono fun z _ hz=>hbb z hz
  have hs6:=hm6.size; have hs25:=hm25.size; have hs3:=hm3.size; have hw2:=hm2.size
  refine ⟨⟨k+1,hx++[⟨l[k].c,x3,l[k].p⟩],rfl,by omega,rfl,by simp [hxl],?_,fun j hj hj' hj''=>?_,(hm2.tr hm25).fresh hm6b fun z e=>by omega,by omega⟩,by (try simp only []); omega⟩
  ·rw [flatC_app]
   simpa [flatC] using ho6
  ·rcases Nat.lt_or_ge j hx.length with h | h
   ·simp only [List.getElem_append_left h]
    obtain ⟨a1,a2,a3⟩:=hI2 j h hj' hj''
    exact ⟨(a1.no hm25).mod hm6b fun z hz e=>by have:=a2 z hz; omega,a2,a3⟩
   ·have:j=k:=by simp at hj; omega
    subst this
    simp only [List.getElem_append_right h,hxl,Nat.sub_self,List.getElem_cons_zero]
    have hge : ∀ z,x3.blk=some z→w2.heap.size≤z:=fun z hz=>F3 z hz
    exact ⟨(L3.no hm35).mod hm6b fun z hz e=>by have:=hge z hz; omega,fun z hz=>by have:=hge z hz; omega,trivial,trivial⟩
 ·have hk2:k=l.length:=by simp at hge; omega
  subst hk2
  refine ⟨fun l' w'=>match l' with | [.sl q,.i _ i]=>∃ (k:Nat),i=k∧k≤12∧q=⟨some ⟨b,0,none⟩,l.length+k,s.len+12⟩∧Sh.Own w' q 3 (flatC Gt.cells (hx++mkg mG 1 k))∧(∀ i (h:i<hx.length) (h':i<ks.length),LentB w' hx[i].s ks[i])∧Mod NoB w w' | _=>False,
   fun l' _=>match l' with | [.sl q,.i _ i]=>(12 - i).toNat | _=>0,⟨0,rfl,by omega,rfl,by simpa [mkg] using ho2,fun i h h'=>(hI2 i h h' (by omega)).1,hm2⟩,?_⟩
  rintro q i w3 ⟨k,rfl,hk3,rfl,ho3,hI3,hm3⟩
  refine condK_i (fun hlt=>?_) fun hge=>?_
  ·have hk4:k<12:=by simp at hlt; omega
   refine callK_ret c_markG ?_
   rintro v w4 ⟨rfl,hm4⟩
   let c:=mG 1 (k:Int)
   refine ⟨c.c,c.s,c.p,rfl,?_⟩
   have happ:flatC Gt.cells (hx++mkg mG 1 k)++Gt.cells (mG 1 k)=flatC Gt.cells (hx++mkg mG 1 (k+1)):=by
    rw [mkg1,← List.append_assoc,flatC_app (hx++mkg mG 1 k)]; simp [flatC]
   refine sem_elem2 (f:=Gt.cells) (c:=mG 1 k) (s:=⟨some ⟨b,0,none⟩,l.length+k,s.len+12⟩) uGrants i1 i2 i3 rfl i4 rfl rfl (by omega) (by omega) (Gt.one _) (ho3.no hm4) (by simp only []; omega) (by simp only []; omega) (fun w6 hc6 ho6 hm6=>?_) fun b' cp w6 hc6 hb6 ho6 hcp hm6=>(by simp only [] at hc6; omega)
   rw [happ] at ho6
   rw [wrap_nat (by omega)]
   have hm6b:Mod (fun z=>z=b) w4 w6:=hm6.mono fun z _ hz=>hbb z hz
   refine ⟨⟨k+1,rfl,by omega,by rw [Nat.add_assoc],ho6,fun j hj hj'=>?_,(hm3.tr hm4).fresh hm6b fun z e=>by omega⟩,by (try simp only []); omega⟩
   obtain ⟨a1,a2,a3⟩:=hI2 j hj hj' (by omega)
   exact ((hI3 j hj hj').no hm4).mod hm6b fun z hz e=>by have:=a2 z hz; omega
  ·have hk4:k=12:=by simp at hge; omega
   subst hk4
   refine ⟨⟨by omega,by simp only []; omega⟩,?_⟩
   rw [Int.toNat_natCast,cutSlK (by simp only []; omega) (by simp only []; omega)]
   refine ⟨_,hx,rfl,⟨by omega,⟨by simp only []; omega,?_⟩,fun z hz=>by have:=hbb z hz; omega,fun j hj hj'=>?_⟩,⟨hxl,fun j hj hj'=>?_⟩,hm3⟩
   ·simp only []
    rw [show s.len+12=l.length+12 by omega]
    rw [show s.len+12=l.length+12 by omega] at ho3
    exact ho3
   ·obtain ⟨a1,a2,a3⟩:=hI2 j hj hj' (by omega)
    exact ⟨hI3 j hj hj',fun z hz=>by have:=a2 z hz; omega⟩
   ·obtain ⟨a1,a2,a3,a4⟩:=hI2 j hj (by omega) hj'
    exact ⟨a3,a4⟩
theorem c_keptGrants {w0:World} {x s:Slc} {l l':List Gt} {ks:List (List UInt8)} (H:LentGs w0 w x l' ks) (hg:GrAt w s l ks) (hL:LikeG l' l) (hk : ∀ k∈ks,k.length≤1000000) (hn:l.length≤1000000) :
 Calls Tryz.prog 30 #[.slice x.a x.len x.cap,.slice s.a s.len s.cap] w (Ret fun v w'=>v = .bool true∧Mod NoB w w'):=by
 refine call30 _ _ ?_
 unfold sh30
 have hLn:=rd_lenG hg.rd
 have hc:=H.row.cap
 have hxl:=H.row.1
 have hnn:=H.n
 have hgl:=hg.len
 obtain ⟨hl1,hl2⟩:=hL
 have hel:x.len=s.len:=by omega
 refine condK_i (fun h=>by simp [hel] at h) fun _=>?_
 rw [show IntKind.i64.wrap ((s.len:Int)+12)=((s.len+12:Nat):Int) by rw [wrap_i64 (by omega)]; omega]
 refine ⟨⟨by omega,by omega⟩,?_⟩
 have e1:cutSl x 3 0 (((s.len+12:Nat):Int)).toNat x.cap=⟨x.a,s.len+12,x.cap⟩:=by rw [Int.toNat_natCast]; exact cutSlK (by omega) (by omega)
 simp only [e1]
 have hall:SlRd w ⟨x.a,s.len+12,x.cap⟩ 3 (flatC Gt.cells (l'++mkg mG 1 12)):=by rw [← hel]; exact H.row.2.rd
 have hal:(l'++mkg mG 1 12).length=s.len+12:=by simp; omega
 refine ⟨fun l' w'=>match l' with | [.i _ i]=>∃ k:Nat,i=k∧k≤s.len+12∧Mod NoB w w' | _=>False,fun l' _=>match l' with | [.i _ i]=>(s.len+12 - i).toNat | _=>0,⟨0,rfl,by omega,Mod.refl _ _⟩,?_⟩
 rintro i w1 ⟨k,rfl,hk',hm1⟩
 refine condK_i (fun hlt=>?_) fun hge=>⟨rfl,hm1⟩
 have hk2:k<s.len+12:=by simp at hlt; omega
 obtain ⟨xa,ea,hra⟩:=rd_flat Gt.len (by omega) hall (i:=k) (by omega)
 have ea':x.a=some xa:=ea
 have hnext : ∀ w',Mod NoB w w'→(∃ k':Nat,IntKind.i64.wrap ((k:Int)+1)=k'∧k'≤s.len+12∧Mod NoB w w')∧(s.len+12 - IntKind.i64.wrap ((k:Int)+1)).toNat<((s.len:Int)+12 - (k:Int)).toNat:=fun w' hm=>by
  rw [wrap_nat (by omega)]
  exact ⟨⟨k+1,rfl,by omega,hm⟩,by omega⟩
 refine ⟨fun w'=>Mod NoB w w',hm1.dr,condK_i (fun h=>?_) fun h=>?_⟩
 ·have hkl:k<s.len:=by simp at h; omega
  obtain ⟨sa,es,hrs⟩:=rd_g hg.rd (i:=k) (by omega)
  simp only [ea',es,Int.toNat_natCast]
  have hv:(l'++mkg mG 1 12)[k]'(by omega)=l'[k]'(by omega):=List.getElem_append_left _
  rw [hv] at hra
  obtain ⟨g1,g2⟩:=H.h k (by omega) (by omega)
  have g3:=(hg.key k (by omega) (by omega)).1
  obtain ⟨g4,g5⟩:=hl2 k (by omega) (by omega)
  have g6:=hk _ (List.getElem_mem (l:=ks) (n:=k) (by omega))
  let a:=l'[k]'(by omega)
  let b:=l[k]'(by omega)
  refine ⟨⟨by omega,by omega⟩,⟨by omega,by omega⟩,a.c,a.s,a.p,fun w' h=>hra.mod h fun h=>h,b.c,b.s,b.p,fun w' h=>hrs.mod h fun h=>h,?_,trivial⟩
  refine callK_ret (c_keptG (a:=a) (b:=b) (g1.no hm1.dr) (g3.no hm1.dr) g6 g4 g5) ?_
  rintro v w2 ⟨rfl,hm2⟩
  have hM2:=hm1.dr.tr hm2
  exact ⟨true,rfl,hM2,condK_i (fun e=>by cases e) fun _=>condK_i (fun e=>by simp at e; omega) fun _=>⟨⟨hM2,⟨⟨hM2,hnext _ hM2⟩,trivial⟩⟩,trivial⟩⟩
 ·have hkl:s.len≤k:=by simp at h; omega
  simp only [ea',Int.toNat_natCast]
  have hv:(l'++mkg mG 1 12)[k]'(by omega)=mG 1 ((k - s.len:Nat):Int):=by
   rw [List.getElem_append_right (by omega)]
   have:=mkg1_at mG (n:=12) (i:=k - l'.length) (by omega)
   rw [List.getElem?_eq_getElem (by simp; omega)] at this
   rw [Option.some.inj this]
   congr 2; omega
  rw [hv] at hra
  let a:=mG 1 ((k - s.len:Nat):Int)
  refine ⟨⟨hm1.dr,condK_i (fun _=>⟨⟨by omega,by omega⟩,a.c,a.s,a.p,fun w' h=>hra.mod h fun h=>h,?_,trivial⟩) fun e=>by simp at e; omega⟩,trivial⟩
  rw [show IntKind.i64.wrap ((k:Int) - (s.len:Int))=((k - s.len:Nat):Int) by rw [wrap_i64 (by omega)]; omega]
  refine callK_ret c_markG ?_
  rintro v w2 ⟨rfl,hm2⟩
  have hM2:=hm1.dr.tr hm2
  refine ⟨a.c,a.s,a.p,rfl,hM2,?_,trivial⟩
  have hnil:SlRd w2 a.s 1 (bys []):=(own_nil w2 1).rd
  refine callK_ret (c_sameG (a:=a) (b:=a) hnil hnil (by simp) rfl rfl rfl) ?_
  rintro v w3 ⟨rfl,hm3⟩
  have hM3:=hM2.tr hm3
  exact ⟨_,rfl,hM3,condK_i (fun e=>by simp at e) fun _=>hnext _ hM3⟩
theorem c_sameGs {a b:Slc} {l m:List Gt} {ks:List (List UInt8)} (ha:GrAt w a l ks) (hb:GrAt w b m ks) (hL:LikeG l m) (hk : ∀ k∈ks,k.length≤1000000) (hn:l.length≤1000000) :
 Calls Tryz.prog 89 #[.slice a.a a.len a.cap,.slice b.a b.len b.cap] w (Ret fun v w'=>v = .bool true∧Mod NoB w w'):=by
 refine call89 _ _ ?_
 unfold sh89
 have h1:=rd_lenG ha.rd
 have h2:=rd_lenG hb.rd
 have h3:=ha.len
 have h4:=hb.len
 obtain ⟨hl1,hl2⟩:=hL
 refine condK_i (fun h=>by simp at h; omega) fun _=>?_
 refine ⟨fun l' w'=>match l' with | [.i _ i]=>∃ k:Nat,i=k∧k≤l.length∧Mod NoB w w' | _=>False,fun l' _=>match l' with | [.i _ i]=>(l.length - i).toNat | _=>0,⟨0,rfl,by omega,Mod.refl _ _⟩,?_⟩
 rintro i w1 ⟨k,rfl,hk',hm1⟩
 refine condK_i (fun hlt=>?_) fun hge=>⟨rfl,hm1⟩
 have hk2:k<l.length:=by simp at hlt; omega
 obtain ⟨xa,ea,hra⟩:=rd_g ha.rd hk2
 obtain ⟨xb,eb,hrb⟩:=rd_g hb.rd (i:=k) (by omega)
 obtain ⟨g4,g5⟩:=hl2 k hk2 (by omega)
 have g6:=hk _ (List.getElem_mem (l:=ks) (n:=k) (by omega))
 have g1:=(ha.key k hk2 (by omega)).1
 have g2:=(hb.key k (by omega) (by omega)).1
 refine ⟨fun w'=>Mod NoB w w',hm1.dr,⟨by omega,by omega⟩,onSome_of ea ⟨⟨by omega,by omega⟩,onSome_of eb ⟨l[k].c,l[k].s,l[k].p,fun w' h=>hra.mod h fun h=>h,m[k].c,m[k].s,m[k].p,fun w' h=>hrb.mod h fun h=>h,?_,trivial⟩⟩⟩
 refine callK_ret (c_sameG (a:=l[k]) (b:=m[k]) (g1.no hm1.dr) (g2.no hm1.dr) g6 g4 g5 rfl) ?_
 rintro v w2 ⟨rfl,hm2⟩
 refine ⟨_,rfl,condK_i (fun e=>by simp at e) fun _=>?_⟩
 rw [wrap_nat (by omega)]
 exact ⟨⟨k+1,rfl,by omega,hm1.dr.tr hm2⟩,by (try simp only []); omega⟩
theorem c_sameRows {a b:Slc} {pl:List (List UInt8)} {X Y:Nat→Prop} (ha:PartsAt w a pl X) (hb:PartsAt w b pl Y) (hk : ∀ p∈pl,p.length≤1000000) (hn:pl.length≤1000000) :
 Calls Tryz.prog 88 #[.slice a.a a.len a.cap,.slice b.a b.len b.cap] w (Ret fun v w'=>v = .bool true∧Mod NoB w w'):=by
 refine call88 _ _ ?_
 unfold sh88
 have h1:=row_blk ha
 have h2:=row_blk hb
 obtain ⟨sa,a1,a2,a3,a4⟩:=ha
 obtain ⟨sb,b1,b2,b3,b4⟩:=hb
 refine condK_i (fun h=>by simp at h; omega) fun _=>?_
 refine ⟨fun l' w'=>match l' with | [.i _ i]=>∃ k:Nat,i=k∧k≤pl.length∧Mod NoB w w' | _=>False,fun l' _=>match l' with | [.i _ i]=>(pl.length - i).toNat | _=>0,⟨0,rfl,by omega,Mod.refl _ _⟩,?_⟩
 rintro i w1 ⟨k,rfl,hk',hm1⟩
 refine condK_i (fun hlt=>?_) fun hge=>⟨rfl,hm1⟩
 have hk2:k<pl.length:=by simp at hlt; omega
 obtain ⟨xa,ea,hra⟩:=rd_slc a1 (i:=k) (by omega)
 obtain ⟨xb,eb,hrb⟩:=rd_slc b1 (i:=k) (by omega)
 have g6:=hk _ (List.getElem_mem (l:=pl) (n:=k) (by omega))
 have g1:=(a4 k (by omega) hk2).1
 have g2:=(b4 k (by omega) hk2).1
 refine ⟨fun w'=>Mod NoB w w',hm1.dr,⟨by omega,by omega⟩,onSome_of ea ⟨⟨by omega,by omega⟩,onSome_of eb ⟨sa[k],fun w' h=>hra.mod h fun h=>h,sb[k],fun w' h=>hrb.mod h fun h=>h,?_,trivial⟩⟩⟩
 refine callK_ret (c_same (g1.no hm1.dr) (g2.no hm1.dr) (by omega)) ?_
 rintro v w2 ⟨rfl,hm2⟩
 refine ⟨_,rfl,condK_i (fun e=>by simp at e) fun _=>?_⟩
 rw [wrap_nat (by omega)]
 exact ⟨⟨k+1,rfl,by omega,hm1.dr.tr hm2⟩,by (try simp only []); omega⟩
end
end Go.Proofs.YtihafpcnhgapdaaGreatDoor
end
