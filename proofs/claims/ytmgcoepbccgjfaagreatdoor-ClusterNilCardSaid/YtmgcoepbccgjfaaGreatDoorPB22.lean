/- The forms of the translated functions,their contracts and the plain laws behind them,put together by a program. -/
import Derived.Test.YtmgcoepbccgjfaaGreatDoorPB21
set_option linter.unusedSimpArgs false
set_option linter.unusedVariables false
set_option maxRecDepth 1000000
set_option maxHeartbeats 8000000
section
namespace Go.Proofs.YtmgcoepbccgjfaaGreatDoor
open Go Go.Sh
section
variable {K:Slc->World->Prop} {w:World}
theorem sem_byte0 {w0:World} {s:Slc} {l:List UInt8} {c:UInt8} (hs:Row0 5 w s (bys l)) (hf:FB w0 s) (hm:Mod NoB w0 w) (hn:l.length<=2000000000)
 (hK : ∀ (s':Slc) w',Row0 5 w' s' (bys (l++[c]))->FB w0 s'->Mod NoB w0 w'->s'.len=s.len+1->K s' w') :
 semK Tryz.prog (Instr.buildSlice 23 1 #[(0,(.int .u8 c.toNat))]) w λv w2=>∃ x1:Slc,v=(.slice x1.a x1.len x1.cap)/\semK Tryz.prog (Builtin.append_ #[23,23] 23 #[(.slice s.a s.len s.cap),(.slice x1.a x1.len x1.cap)]) w2 λv1 w3=>∃ x2:Slc,v1=(.slice x2.a x2.len x2.cap)/\K x2 w3:=by
 obtain ⟨i5',h51,h52,h53,h54⟩:=i5
 have hl:=rd_len8 hs.own.rd
 refine sem_lit (l:=[.int .u8 c.toNat]) [.int .u8 c.toNat] u26 h51 h52 h53 (by decide) rfl (by decide) (by decide) rfl (by simp [Value.cells]) rfl λb w1 hN hb=>⟨⟨_,_,_⟩,rfl,?_⟩
 have hm1:=hm.tr hN.mod
 refine sem_append_row u26 h51 h52 h53 rfl h54 (hs.mod hN.mod λ_ _ h=>h) (own_whole (n:=1) (k:=1) hb rfl).rd (bys_one [c]) (by simp only []; omega) (by simp only []; omega) (by simp only []; omega) λs' w2 ho hlen hblk hm2=>⟨s',rfl,hK s' w2 ?_ (hf.step hm1.size hblk) (hf.mod hm1 hm2) hlen⟩
 rw [bys_app]; exact ho
end
theorem be8_at (x:UInt64) : ∀ k,k<8->(be8 x)[k]? = some (shrU64 x (56 - 8*k)).toUInt8
 | 0,_=>rfl | 1,_=>rfl | 2,_=>rfl | 3,_=>rfl | 4,_=>rfl | 5,_=>rfl | 6,_=>rfl | 7,_=>rfl
 | n+8,h=>by omega
theorem be8_take {x:UInt64} {k:Nat} (h:k<8):(be8 x).take (k+1)=(be8 x).take k++[(shrU64 x (56 - 8*k)).toUInt8]:=by
 have:=be8_at x k h
 rw [take_snoc (by simpa using h)]
 rw [List.getElem?_eq_getElem (by simpa using h)] at this
 rw [Option.some.inj this]
theorem c_sumHW {w:World} {p:Nat} {s:Slc} {b:List UInt8} (h:HashAt w p s b) (hg:Glob w) (hn:b.length<=900000000) :
 Calls Tryz.prog 159 #[.pointer (some ⟨p,0,none⟩)] w (Ret λv w'=>∃ x:Slc,v=x.val/\Row0 5 w' x (bys (sha b))/\FB w x/\Mod NoB w w'):=by
 refine call159 _ ?_
 unfold sh159
 obtain ⟨i5',h51,h52,h53,h54⟩:=i5
 obtain ⟨i26',h261,h262,h263,h264⟩:=i26
 refine callK_ret (c_copy h hg (by omega)) ?_
 rintro v w1 ⟨p',s1,rfl,hh1,hp1,hs1,hm1⟩
 refine ⟨_,rfl,ps_eql_ptr (e:=THash) (by kernel_rfl) ⟨_,rfl,condK_i (λe=>by cases e) λ_=>?_⟩⟩
 have hFs:FB w s1:=FB.of hs1
 have hp1l:=hh1.blk.lt
 have hrl:=rest_len b
 have hleft:(rest b).length=s1.len:=rd_len8 hh1.own.rd
 refine ⟨UInt64.ofNat b.length,hh1.blk.rd1 (o:=9) (hw9 (st_len b)),?_⟩
 refine sem_makeSlice (l:=0) (c:=256) u26 h51 h52 h53 rfl h54 rfl rfl (by omega) (by omega) (by omega) λe0 w2 hN2 hb2 ho2=>⟨⟨_,_,_⟩,rfl,?_⟩
 have hm2:Mod NoB w w2:=hm1.tr hN2.mod
 have hf2:FB w ⟨some ⟨e0,0,none⟩,0,256⟩:=FB.new (by rw [hN2.at_]; exact hm1.size)
 have hsep : ∀ (w':World),Mod NoB w1 w'->HashAt w' p' s1 b:=λw' hm=>hh1.no hm
 have hf2':FB w1 ⟨some ⟨e0,0,none⟩,0,256⟩:=FB.new (by rw [hN2.at_]; exact Nat.le_refl _)
 refine sem_byte (w0:=w1) (l:=[]) (c:=128) (s:=⟨some ⟨e0,0,none⟩,0,256⟩) ho2 hf2' hN2.mod (by simp) λs3 w3 ho3 hf3 hm3 hl3=>?_
 refine ⟨λl w'=>match l with | [.sl q]=>∃ j:Nat,j<=padZ b.length/\Sh.Own w' q 1 (bys ([128]++List.replicate j 0))/\FB w1 q/\Mod NoB w1 w' | _=>False,λl _=>match l with | [.sl q]=>1+padZ b.length - q.len | _=>0,⟨0,by omega,ho3,hf3,hm3⟩,?_⟩
 rintro q w4 ⟨j,hj,hoq,hfq,hm4⟩
 have hql:q.len=1+j:=by have:=rd_len8 hoq.rd; simp at this; omega
 have hh4:=hsep w4 hm4
 have hpz:padZ b.length<128:=Nat.mod_lt _ (by decide)
 have hpz2:padZ b.length=(239 - b.length % 128) % 128:=rfl
 have hw:IntKind.i64.wrap ((s1.len:Int)+(q.len:Int))=((s1.len+q.len:Nat):Int):=by rw [wrap_i64 (by omega)]; omega
 refine ⟨s1,hh4.blk.rd1 (o:=8) (hw8 (st_len b)),by decide,?_⟩
 rw [hw]
 have htm:Int.tmod ((s1.len+q.len:Nat):Int) (128:Int)=((s1.len+q.len) % 128:Nat):=rfl
 rw [htm]
 refine condK_i (λhc=>?_) (λhc=>?_)
 ·have hne:(s1.len+q.len) % 128≠112:=by simp at hc; omega
  have hjlt:j<padZ b.length:=by omega
  refine sem_byte (w0:=w1) (c:=0) hoq hfq hm4 (by simp; omega) λs5 w5 ho5 hf5 hm5 hl5=>⟨⟨j+1,by omega,?_,hf5,hm5⟩,by (try simp only []); omega⟩
  rw [List.append_assoc,<-List.replicate_succ'] at ho5
  exact ho5
 ·have heq:(s1.len+q.len) % 128=112:=by simp at hc; omega
  have hjeq:j=padZ b.length:=by omega
  subst hjeq
  refine sem_append_zeros (t2:=3) (k2:=.i64) (z:=.int .u8 0) (n:=8) (s:=q) u26 (by kernel_rfl) h51 h52 h53 rfl rfl h54 rfl hoq (by omega) (by omega) λs5 w5 ho5 hl5 hblk5 hm5=>⟨s5,rfl,?_⟩
  rw [bys_rep,<-bys_app] at ho5
  have hf5:=hfq.step hm4.size hblk5
  have hm5:=hfq.mod hm4 hm5
  refine ⟨λl w'=>match l with | [.sl q,.i _ s]=>∃ k:Nat,s=56 - 8*(k:Int)/\k<=8/\Sh.Own w' q 1 (bys ([128]++List.replicate (padZ b.length) 0++List.replicate 8 0++(be8 (8*UInt64.ofNat b.length)).take k))/\FB w1 q/\Mod NoB w1 w' | _=>False,
   λl _=>match l with | [.sl q,.i _ s]=>(s+8).toNat | _=>0,⟨0,by omega,by omega,by simpa using ho5,hf5,hm5⟩,?_⟩
  rintro q6 t w6 ⟨k,rfl,hk,ho6,hf6,hm6⟩
  refine condK_i (λhc=>?_) (λhc=>?_)
  ·have hk8:k<8:=by simp at hc; omega
   have hsN:(56 - 8*(k:Int)).toNat=56 - 8*k:=by omega
   rw [hsN]
   refine ⟨by omega,sem_byte (w0:=w1) ho6 hf6 hm6 (by simp; omega) λs7 w7 ho7 hf7 hm7 hl7=>⟨⟨k+1,?_,by omega,?_,hf7,hm7⟩,?_⟩⟩
   ·rw [wrap_i64 (by omega)]; omega
   ·rw [be8_take hk8,<-List.append_assoc]; exact ho7
   ·rw [wrap_i64 (by omega)]; (try simp only []); omega
  ·have hk8:k=8:=by simp at hc; omega
   subst hk8
   rw [List.take_of_length_le (by simp)] at ho6
   have hpe:[128]++List.replicate (padZ b.length) 0++List.replicate 8 0++be8 (8*UInt64.ofNat b.length)=padEnd b.length:=rfl
   rw [hpe] at ho6
   have hq6:=rd_len8 ho6.rd
   have hpel:(padEnd b.length).length<=256:=(pad_len b).2
   refine sem_lit (l:=[q6.val]) [q6.val] u22 h261 h262 h263 (by decide) rfl (by decide) (by decide) rfl (by simp [Slc.val,Value.cells]) rfl λe7 w7 hN7 hb7=>⟨⟨_,_,_⟩,rfl,?_⟩
   have hm7:=hm6.tr hN7.mod
   have hh7:=hsep w7 hm7
   have ho7:=ho6.no hN7.mod
   have he7:=hN7.at_
   have hq6l : ∀ x,q6.blk=some x->w1.heap.size<=x/\x<w6.heap.size:=λx hx=>⟨hf6 x hx,ho6.lt hx⟩
   have hs1l : ∀ x,s1.blk=some x->x<w1.heap.size:=λx hx=>hh1.own.lt hx
   have hm6s:=hm6.size
   have hsz7:=hN7.size
   have hparts:PartsAt w7 ⟨some ⟨e7,0,none⟩,1,1⟩ [padEnd b.length] (λx=>x=e7\/q6.blk=some x):=by
    refine ⟨[q6],(own_whole (n:=1) (k:=1) hb7 rfl).rd,λx hx=>.inl ?_,rfl,λi hi hi'=>?_⟩
    ·simp at hx; omega
    ·have:i=0:=by simp at hi; omega
     subst this
     exact ⟨ho7.rd,λx hx=>.inr hx⟩
   refine callK_ret (c_write hh7 (hg.no (hm1.tr hm7)) hparts (λe=>e.elim (λe=>by omega) λe=>by have:=hq6l _ e; omega) (λx hx e=>e.elim (λe=>by have:=hs1l x hx; omega) λe=>by have:=hq6l _ e; have:=hs1l x hx; omega)
    (λx e=>e.elim (λe=>by omega) λe=>by have:=hq6l _ e; omega) (by simp; omega) (by simp)) ?_
   rintro v w8 ⟨rfl,s8,hh8,hb8,hm8⟩
   have hm8':Mod NoB w w8:=(hm1.tr hm7).fresh hm8 λx e=>e.elim (λe=>by omega) λe=>hFs x e
   have hpad:b++[padEnd b.length].flatten=pad b:=by simp [pad]
   rw [hpad] at hh8
   obtain ⟨k0,k1,k2,k3,k4,k5,k6,k7,hst⟩:=list8 (st_len (pad b))
   have hB8:=hh8.blk
   rw [hst] at hB8
   have hsha:sha b=digest [k0,k1,k2,k3,k4,k5,k6,k7]:=by unfold sha; rw [shaBy_eq,hst]
   refine ⟨_,rfl,k0,k1,k2,k3,k4,k5,k6,k7,hB8.rd (o:=0) (vs:=us [k0,k1,k2,k3,k4,k5,k6,k7]) (λj v hj=>by
    rw [Nat.zero_add]; unfold HW; rw [List.getElem?_append_left (List.getElem?_eq_some_iff.1 hj).1,hj]),?_⟩
   rw [hsha]
   obtain ⟨st,hstd⟩ : ∃ st,st=[k0,k1,k2,k3,k4,k5,k6,k7]:=⟨_,rfl⟩
   have hstl:st.length=8:=by rw [hstd]; rfl
   have htv:([.u64 k0,.u64 k1,.u64 k2,.u64 k3,.u64 k4,.u64 k5,.u64 k6,.u64 k7]:List TV)=st.map TV.u64:=by rw [hstd]; rfl
   rw [htv,<-hstd]
   refine ⟨λl w'=>match l with | [.sl q,.i _ x]=>∃ i:Nat,x=i/\i<=8/\Row0 5 w' q (bys (digest (st.take i)))/\FB w q/\Mod NoB w w' | _=>False,λl _=>match l with | [.sl q,.i _ x]=>(8 - x).toNat | _=>0,
    ⟨0,rfl,by omega,.inl ⟨rfl,rfl⟩,FB.nil _,hm8'⟩,?_⟩
   rintro out x w9 ⟨i,rfl,hi,ho9,hf9,hm9⟩
   have hdl : ∀ (l:List UInt64),(digest l).length=8*l.length:=λl=>by
    induction l with
    | nil=>rfl
    | cons a l ih=>simp [digest] at ih ⊢; omega
   refine condK_i (λhc=>?_) (λhc=>?_)
   ·have hi8:i<8:=by simp at hc; omega
    refine ⟨⟨by omega,by omega⟩,?_,st[i],?_,?_⟩
    ·intro z hz
     obtain ⟨y,_,rfl⟩:=List.mem_map.1 hz
     rfl
    ·rw [Int.toNat_natCast,List.getElem?_map,List.getElem?_eq_getElem (by omega)]; rfl
    refine ⟨λl w'=>match l with | [.sl q,.i _ s]=>∃ k:Nat,s=56 - 8*(k:Int)/\k<=8/\Row0 5 w' q (bys (digest (st.take i)++(be8 st[i]).take k))/\FB w q/\Mod NoB w w' | _=>False,
     λl _=>match l with | [.sl q,.i _ s]=>(s+8).toNat | _=>0,⟨0,by omega,by omega,by simpa using ho9,hf9,hm9⟩,?_⟩
    rintro q10 t w10 ⟨k,rfl,hk,ho10,hf10,hm10⟩
    refine condK_i (λhc=>?_) (λhc=>?_)
    ·have hk8:k<8:=by simp at hc; omega
     have hsN:(56 - 8*(k:Int)).toNat=56 - 8*k:=by omega
     rw [hsN]
     refine ⟨by omega,sem_byte0 (w0:=w) ho10 hf10 hm10 (by simp [hdl]; omega) λs7 w7 ho7 hf7 hm7 hl7=>⟨⟨k+1,?_,by omega,?_,hf7,hm7⟩,?_⟩⟩
     ·rw [wrap_i64 (by omega)]; omega
     ·rw [be8_take hk8,<-List.append_assoc]; exact ho7
     ·rw [wrap_i64 (by omega)]; (try simp only []); omega
    ·have hk8:k=8:=by simp at hc; omega
     subst hk8
     rw [List.take_of_length_le (l:=be8 (st[i]'(by omega))) (by rw [be8_len]; omega)] at ho10
     refine ⟨⟨i+1,wrap_nat (by omega),by omega,?_,hf10,hm10⟩,?_⟩
     ·rw [take_snoc (by omega)]
      have:digest (st.take i++[st[i]])=digest (st.take i)++be8 st[i]:=by simp only [digest,List.flatMap_append,List.flatMap_cons,List.flatMap_nil,List.append_nil]
      rw [this]; exact ho10
     ·rw [wrap_nat (by omega)]; (try simp only []); omega
   ·have hi8:i=8:=by simp at hc; omega
    subst hi8
    rw [List.take_of_length_le (by omega)] at ho9
    exact ⟨out,rfl,ho9,hf9,hm9⟩
theorem c_sumW {w:World} {parts:Slc} {pl:List (List UInt8)} {X:Nat->Prop} (hg:Glob w) (hp:PartsAt w parts pl X) (hXl : ∀ x,X x->x<w.heap.size) (hn:(pl.flatten).length<=900000000) (hm:pl.length<=1000000000) :
 Calls Tryz.prog 94 #[.slice parts.a parts.len parts.cap] w (Ret λv w'=>∃ x:Slc,v=x.val/\Row0 5 w' x (bys (sha pl.flatten))/\FB w x/\Mod NoB w w'):=by
 refine call94 _ ?_
 unfold sh94
 refine callK_ret (c_new hg) ?_
 rintro v w1 ⟨p,rfl,hh1,hp1,hs1,hm1⟩
 refine ⟨_,rfl,?_⟩
 refine callK_ret (c_write hh1 (hg.no hm1) (hp.mod hm1 λ_ _ h=>h) (λe=>by have:=hXl _ e; omega) (λx hx=>by simp at hx) (λx e=>by have:=hXl _ e; omega) (by rw [List.length_nil,Nat.zero_add]; omega) hm) ?_
 rintro v w2 ⟨rfl,s2,hh2,hb2,hm2⟩
 have hm2':Mod NoB w w2:=hm1.fresh hm2 λx e=>e.elim (λe=>by omega) λe=>by simp at e
 refine ⟨_,rfl,callK_ret (c_sumHW hh2 (hg.no hm2') (by simpa using hn)) ?_⟩
 rintro v w3 ⟨x,rfl,ho,hf,hm3⟩
 rw [List.nil_append] at ho
 exact ⟨x,rfl,x,rfl,ho,hf.le hm2'.size,hm2'.tr hm3⟩
theorem c_sum {w:World} {parts:Slc} {pl:List (List UInt8)} {X:Nat->Prop} (hg:Glob w) (hp:PartsAt w parts pl X) (hXl : ∀ x,X x->x<w.heap.size) (hn:(pl.flatten).length<=900000000) (hm:pl.length<=1000000000) :
 Calls Tryz.prog 94 #[.slice parts.a parts.len parts.cap] w (Ret λv w'=>∃ x:Slc,v=x.val/\Sh.Own w' x 1 (bys (sha pl.flatten))/\FB w x/\Mod NoB w w'):=
 Calls.mono (c_sumW hg hp hXl hn hm) λe w' he=>by
  cases e <;> first | exact he.elim | skip
  obtain ⟨x,h1,h2,h3⟩:=he
  exact ⟨x,h1,h2.own,h3⟩
end Go.Proofs.YtmgcoepbccgjfaaGreatDoor
end
section
namespace Go.Proofs.YtmgcoepbccgjfaaGreatDoor
open Go Go.Sh Go.X
structure GS (w:World):Prop where
 sha:Glob w
 ge:GE w
theorem GS.no {w w':World} (h:GS w) (hm:Mod NoB w w'):GS w':=⟨h.sha.no hm,GE_no h.ge _ hm⟩
theorem sha_len' (b:List UInt8):(sha b).length=64:=by rw [sha,shaBy_eq]; exact digest_len (st_len _)
def clampB (D:List UInt8):List UInt8:=(D.set 0 (D.getD 0 0 &&& ~~~(7:UInt8))).set 31 ((D.getD 31 0 &&& 63) ||| 64)
def secB (l:List UInt8):List UInt8:=(clampB (sha l)).take 32
def drwB (l:List UInt8):List UInt8:=(clampB (sha l)).drop 32
noncomputable def keyP (l:List UInt8):P4:=mulB baseP (bitsT (secB l))
noncomputable def pubF (l:List UInt8):List UInt8:=putP (keyP l)
theorem pubF_len (l:List UInt8):(pubF l).length=32:=putP_len _
structure OpenF (w0 w:World) (o:Nat) (l:List UInt8):Prop where
 cells : ∃ (ps:List UInt64) (s d:Slc) (T:TypeId),ps.length=20/\P4.of ps (keyP l)/\Blk w o (us ps++[s.val,d.val]) T/\SlRd w s 1 (bys (secB l))/\SlRd w d 1 (bys (drwB l))/\(∀ z,s.blk=some z->w0.heap.size<=z/\z<w.heap.size)/\(∀ z,d.blk=some z->w0.heap.size<=z/\z<w.heap.size)
 new:w0.heap.size<=o
theorem OpenF.no {w0 w w':World} {o:Nat} {l:List UInt8} (h:OpenF w0 w o l) (hm:Mod NoB w w'):OpenF w0 w' o l:=by
 obtain ⟨⟨ps,s,d,T,h1,h0,h2,h3,h4,h5,h6⟩,hn⟩:=h
 exact ⟨⟨ps,s,d,T,h1,h0,h2.no hm,h3.no hm,h4.no hm,λz hz=>⟨(h5 z hz).1,Nat.lt_of_lt_of_le (h5 z hz).2 hm.size⟩,λz hz=>⟨(h6 z hz).1,Nat.lt_of_lt_of_le (h6 z hz).2 hm.size⟩⟩,hn⟩
theorem c_openF {w:World} {seed:Slc} {l:List UInt8} (hg:GS w) (hs:SlRd w seed 1 (bys l)) (hsl : ∀ z,seed.blk=some z->z<w.heap.size) (hl:l.length=32) :
 Calls Tryz.prog 102 #[.slice seed.a seed.len seed.cap] w (Ret λv w'=>∃ o,v = .tuple #[.pointer (some ⟨o,0,none⟩),.bool true]/\OpenF w w' o l/\Mod NoB w w'):=by
 refine call102 _ ?_
 unfold sh102
 have hlen:=rd_len8 hs
 refine condK_i (λh=>by simp at h; omega) λ_=>?_
 refine sem_rows [seed] rfl rfl (by omega) (by omega) λx vb w1 hN1 ex hB1 hx1=>⟨x,rfl,?_⟩
 subst ex
 refine callK_ret (c_sum (pl:=[l]) (X:=λz=>z<w1.heap.size) (hg.no hN1.mod).sha ⟨[seed],hx1.rd,λz hz=>hx1.lt hz,rfl,rows1 (hs.no hN1.mod) (λz hz=>Nat.lt_of_lt_of_le (hsl z hz) hN1.mod.size)⟩ (λ_ h=>h) (by simp; omega) (by simp)) ?_
 rintro v w2 ⟨d,rfl,ho2,hb2,hm2⟩
 have hM2:=hN1.mod.tr hm2
 have hdl:=rd_len8 ho2.rd
 rw [sha_len'] at hdl
 have hdc:=ho2.2.1
 have hcl:clampB (sha l)=((sha [l].flatten).set 0 ((sha [l].flatten).getD 0 0 &&& ~~~(7:UInt8))).set 31 (((sha [l].flatten).getD 31 0 &&& 63) ||| 64):=by simp [clampB]
 generalize hsh:sha [l].flatten=D at *
 have hD:D.length=64:=by rw [<-hsh]; exact sha_len' _
 rcases ho2.owned with ⟨e1,_,_⟩ | ⟨hz1,db,o,L,E,ea,hB,hfit,hcon⟩
 ·omega
 obtain ⟨da,dl,dc⟩:=d
 simp only [] at hdl hdc ea hz1 hfit hcon
 subst hdl ea
 have hdb:w.heap.size<=db:=Nat.le_trans hN1.mod.size (hb2 db (Slc.blk_of rfl hz1))
 have ec:cutSl ⟨some ⟨db,o,none⟩,64,dc⟩ 1 0 32 32=⟨some ⟨db,o,none⟩,32,32⟩:=by unfold cutSl; rw [if_neg (by omega)]; simp
 have ec2:cutSl ⟨some ⟨db,o,none⟩,64,dc⟩ 1 32 64 dc=⟨some ⟨db,o+32,none⟩,32,dc - 32⟩:=by unfold cutSl; rw [if_neg (by omega)]; simp
 have i32:((32:Int)).toNat=32:=rfl
 have hk : ∀ {w':World} {m:List UInt8} (ho:Sh.Own w' ⟨some ⟨db,o,none⟩,64,dc⟩ 1 (bys m)) {i:Nat} (hi:i<m.length),Rd w' ((⟨db,o,none⟩:Addr).add (i*1)) [.int .u8 m[i].toNat]:=λho i hi=>by
  obtain ⟨a,e,hr⟩:=rd_u8 ho.rd hi
  cases e; exact hr
 refine ⟨⟨_,_,_⟩,rfl,?_⟩
 simp only [i32,ec,ec2]
 refine ⟨⟨by omega,by omega,by omega⟩,⟨by omega,by omega⟩,_,hk ho2 (i:=0) (by omega),⟨by omega,by omega⟩,?_⟩
 refine semU_own1 (by kernel_rfl) (by kernel_rfl) rfl ho2 rfl (i:=0) (by show 0<64; omega) λw3 ho3 hm3 hs3=>?_
 rw [bys_set] at ho3
 refine ⟨⟨by omega,by omega⟩,_,hk ho3 (i:=31) (by simp; omega),⟨by omega,by omega⟩,?_⟩
 refine semU_own1 (by kernel_rfl) (by kernel_rfl) rfl ho3 rfl (i:=31) (by show 31<64; omega) λw4 ho4 hm4 hs4=>?_
 rw [bys_set] at ho4
 have hcD:(D.set 0 (D[0] &&& ~~~(7:UInt8))).set 31 (((D.set 0 (D[0] &&& ~~~(7:UInt8)))[31]'(by simp; omega) &&& 63) ||| 64)=clampB (sha l):=by
  rw [hcl]
  simp [List.getD,hD]
 rw [hcD] at ho4
 have hbd : ∀ z,Slc.blk ⟨some ⟨db,o,none⟩,64,dc⟩=some z->w.heap.size<=z:=λz hz=>by rw [Slc.blk_mk,if_neg (by omega)] at hz; cases hz; exact hdb
 have hM4:Mod NoB w w4:=(hM2.fresh hm3 hbd).fresh hm4 hbd
 have hCl:(clampB (sha l)).length=64:=by simp [clampB,sha_len']
 refine ⟨⟨by omega,by show (32:Int)<=((64:Nat):Int); omega⟩,?_,trivial⟩
 refine callK_ret (c_BaseF (hg.no (hM4.tr (Mod.drew _ _))).ge) ?_
 rintro v w5 ⟨bl,hbl1,hbl2,rfl,hm5⟩
 obtain ⟨x0,x1,x2,x3,x4,x5,x6,x7,x8,x9,x10,x11,x12,x13,x14,x15,x16,x17,x18,x19,rfl⟩:=lst20 hbl1
 refine ⟨x0,x1,x2,x3,x4,x5,x6,x7,x8,x9,x10,x11,x12,x13,x14,x15,x16,x17,x18,x19,rfl,?_,trivial⟩
 have hM5:Mod NoB w w5:=(hM4.tr (Mod.drew _ _)).tr hm5
 have ho5:Sh.Own w5 ⟨some ⟨db,o,none⟩,64,dc⟩ 1 _:=ho4.no ((Mod.drew _ _).tr hm5)
 have hmk : ∀ {m:List UInt8} {w':World} (ho:Sh.Own w' ⟨some ⟨db,o,none⟩,64,dc⟩ 1 (bys m)),m.length=64->SlRd w' ⟨some ⟨db,o,none⟩,32,32⟩ 1 (bys (m.take 32))/\SlRd w' ⟨some ⟨db,o+32,none⟩,32,dc - 32⟩ 1 (bys (m.drop 32)):=λ{m w'} ho hm=>by
  have h1:=ho.rd.cut (l:=0) (n:=32) (m:=32) (by omega) (by simp only []; omega) (by omega) (by simp only []; omega)
  have h2:=ho.rd.cut (l:=32) (n:=64) (m:=dc) (by omega) (by simp only []; omega) (by omega) (by simp only []; omega)
  rw [ec,bys_cut] at h1
  rw [ec2,bys_cut] at h2
  refine ⟨by simpa using h1,?_⟩
  have:(m.drop 32).take (64 - 32)=m.drop 32:=List.take_of_length_le (by simp; omega)
  rw [this] at h2; exact h2
 have hbl:db<w5.heap.size:=ho5.lt (Slc.blk_of rfl hz1)
 have hx1:=(hmk (m:=clampB (sha l)) ho5 hCl).1
 have hmul:=c_eMulF (hg.no hM5).ge hx1 (λz hz=>by rw [Slc.blk_mk] at hz; simp at hz; omega) hbl2
 refine callK_ret hmul ?_
 rintro v w6 ⟨kl,hk1,hk2,rfl,hm6⟩
 obtain ⟨y0,y1,y2,y3,y4,y5,y6,y7,y8,y9,y10,y11,y12,y13,y14,y15,y16,y17,y18,y19,rfl⟩:=lst20 hk1
 refine ⟨y0,y1,y2,y3,y4,y5,y6,y7,y8,y9,y10,y11,y12,y13,y14,y15,y16,y17,y18,y19,rfl,?_,trivial⟩
 have ho6:=ho5.no hm6
 refine sem_box (l:=us [y0,y1,y2,y3,y4,y5,y6,y7,y8,y9,y10,y11,y12,y13,y14,y15,y16,y17,y18,y19]++[Slc.val ⟨some ⟨db,o,none⟩,32,32⟩,Slc.val ⟨some ⟨db,o+32,none⟩,32,dc - 32⟩]) rfl λq w7 hN7 hb7=>⟨_,rfl,q,rfl,⟨⟨_,⟨some ⟨db,o,none⟩,32,32⟩,⟨some ⟨db,o+32,none⟩,32,dc - 32⟩,_,rfl,hk2,hb7,(hmk (ho6.no hN7.mod) hCl).1,(hmk (ho6.no hN7.mod) hCl).2,λz hz=>?_,λz hz=>?_⟩,?_⟩,(hM5.tr hm6).tr hN7.mod⟩
 ·rw [Slc.blk_mk] at hz; simp at hz; have:=hm6.size; have:=hN7.mod.size; omega
 ·rw [Slc.blk_mk] at hz; split at hz
  ·cases hz
  ·simp at hz; have:=hm6.size; have:=hN7.mod.size; omega
 ·have:=hN7.at_; have:=(hM5.tr hm6).size; omega
theorem rd20F {w:World} {o:Nat} {ps:List UInt64} {r:List Value} {T:TypeId} {p:P4} (hB:Blk w o (us ps++r) T) (hp:ps.length=20) (hP:P4.of ps p) {K:UInt64->UInt64->UInt64->UInt64->UInt64->UInt64->UInt64->UInt64->UInt64->UInt64->UInt64->UInt64->UInt64->UInt64->UInt64->UInt64->UInt64->UInt64->UInt64->UInt64->Prop}
 (hK : ∀ x0 x1 x2 x3 x4 x5 x6 x7 x8 x9 x10 x11 x12 x13 x14 x15 x16 x17 x18 x19,P4.of [x0,x1,x2,x3,x4,x5,x6,x7,x8,x9,x10,x11,x12,x13,x14,x15,x16,x17,x18,x19] p->K x0 x1 x2 x3 x4 x5 x6 x7 x8 x9 x10 x11 x12 x13 x14 x15 x16 x17 x18 x19) :
 ∃ xaa xab xac xad xae xba xbb xbc xbd xbe xca xcb xcc xcd xce xda xdb xdc xdd xde:UInt64,Rd w ((⟨o,0,none⟩:Addr).add 0) (l20 xaa xab xac xad xae xba xbb xbc xbd xbe xca xcb xcc xcd xce xda xdb xdc xdd xde)/\K xaa xab xac xad xae xba xbb xbc xbd xbe xca xcb xcc xcd xce xda xdb xdc xdd xde:=by
 obtain ⟨x0,x1,x2,x3,x4,x5,x6,x7,x8,x9,x10,x11,x12,x13,x14,x15,x16,x17,x18,x19,rfl⟩:=lst20 hp
 refine ⟨x0,x1,x2,x3,x4,x5,x6,x7,x8,x9,x10,x11,x12,x13,x14,x15,x16,x17,x18,x19,?_,hK _ _ _ _ _ _ _ _ _ _ _ _ _ _ _ _ _ _ _ _ hP⟩
 rw [addl]
 exact hB.rd λj v hj=>by
  rw [List.getElem?_append_left (by have:=(List.getElem?_eq_some_iff.1 hj).1; simpa [us] using this)]
  simpa [us] using hj
theorem c_publicF {w w0:World} {o:Nat} {l:List UInt8} (hw:GE w) (hO:OpenF w0 w o l):Calls Tryz.prog 103 #[.pointer (some ⟨o,0,none⟩)] w (Ret (RBy (pubF l) w)):=by
 refine call103 _ ?_
 unfold sh103
 obtain ⟨⟨ps,s,d,T,h1,h2,hB,_⟩,_⟩:=hO
 refine rd20F hB h1 h2 λx0 x1 x2 x3 x4 x5 x6 x7 x8 x9 x10 x11 x12 x13 x14 x15 x16 x17 x18 x19 hP=>?_
 refine callK_ret (c_ePutF hw hP) ?_
 rintro v w1 ⟨b,T',rfl,h⟩
 exact ⟨⟨some ⟨b,0,none⟩,_,_⟩,rfl,b,T',rfl,h⟩
theorem c_PublicF {w:World} {seed:Slc} {l:List UInt8} (hg:GS w) (hs:SlRd w seed 1 (bys l)) (hsl : ∀ z,seed.blk=some z->z<w.heap.size) (hl:l.length=32) :
 Calls Tryz.prog 61 #[.slice seed.a seed.len seed.cap] w (Ret (RBy (pubF l) w)):=by
 refine call61 _ ?_
 unfold sh61
 refine callK_ret (c_openF hg hs hsl hl) ?_
 rintro v w1 ⟨o,rfl,hO,hm1⟩
 refine ⟨_,_,rfl,condK_i (λh=>by simp at h) λ_=>?_⟩
 refine callK_ret (c_publicF (hg.no hm1).ge hO) ?_
 rintro v w2 ⟨b,T,rfl,h2,h3,h4⟩
 exact ⟨⟨some ⟨b,0,none⟩,_,_⟩,rfl,b,T,rfl,h2,Nat.le_trans hm1.size h3,hm1.tr h4⟩
end Go.Proofs.YtmgcoepbccgjfaaGreatDoor
end
