/- The forms of the translated functions,their contracts and the plain laws behind them,put together by a program. -/
import Derived.Test.YtmgcoepbccgjfaaGreatDoorPB10
import Derived.Lib.UnsafeStr
import Derived.Lib.Builder
import Derived.Laws.Externs
import Derived.Test.YtmgcoepbccgjfaaGreatDoorProg
set_option linter.unusedSimpArgs false
set_option linter.unusedVariables false
set_option maxRecDepth 1000000
set_option maxHeartbeats 8000000
section
namespace Go.Sh
open Go
def Row0 (T:TypeId) (w:World) (s:Slc) (vs:List Value):Prop:=
 (s=⟨none,0,0⟩/\vs=[])\/∃ g n c l,s=⟨some ⟨g,0,none⟩,n,c⟩/\0<c/\Blk w g l T/\l.length=c/\l.take n=vs/\n<=c
theorem Row0.mod {T:TypeId} {w w':World} {s:Slc} {vs:List Value} {S:Nat->Prop} (h:Row0 T w s vs) (hm:Mod S w w') (hs : ∀ b,s.blk=some b->¬ S b):Row0 T w' s vs:=by
 rcases h with h | ⟨g,n,c,l,rfl,hc,hb,h1,h2,h3⟩
 ·exact .inl h
 ·exact .inr ⟨g,n,c,l,rfl,hc,hb.mod hm (hs g (by rw [Slc.blk_mk,if_neg (by omega)])),h1,h2,h3⟩
theorem Row0.own {T:TypeId} {w:World} {s:Slc} {vs:List Value} (h:Row0 T w s vs):Own w s 1 vs:=by
 rcases h with ⟨rfl,rfl⟩ | ⟨g,n,c,l,rfl,hc,hb,h1,h2,h3⟩
 ·exact own_nil _ _
 ·have:=own_new (n:=n) (c:=c) (k:=1) hb (by omega) h3
  rw [Nat.mul_one,h2] at this
  exact this
section
variable {P:Program} {w:World} {K:Value->World->Prop}
theorem sem_append_newB {t ty e:TypeId} {i:TypeInfo} {z:Value} (ht:P.underlying t=some (.slice e)) (hi:P.info? e=some i) (hz:i.zero=some z) {k:Nat} (hk:i.size=k) (hzk:z.cells.size=k) {bytes:Nat} (hby:i.bytes=bytes)
 {s x:Slc} {vs ys:List Value} (hs:Own w s k vs) (hx:SlRd w x k ys) (h1 : ∀ y∈ys,y.oneCell'=true) (hb:(s.len+x.len)*bytes<=140737488355328) (hm:s.len+x.len<=9223372036854775807) (hcap:s.cap<s.len+x.len)
 (hK : ∀ (c:Nat) (w':World),(∃ l,Blk w' w.heap.size l e/\l.length=c*k/\l.take ((s.len+x.len)*k)=vs++ys)->s.len+x.len<=c->Mod NoB w w'->w'.heap.size=w.heap.size+1->K (.slice (some ⟨w.heap.size,0,none⟩) (s.len+x.len) c) w') :
 semK P (Builtin.append_ #[t,t] ty #[.slice s.a s.len s.cap,.slice x.a x.len x.cap]) w K:=by
 subst hk
 subst hby
 have hfx:=run_firstCells (P:=P) hx
 have hfs:=run_firstCells (P:=P) hs.rd
 have hxl:=hx.1
 have hsl:=hs.1
 have hm' : ¬ ((9223372036854775807:Int)<(s.len:Int)+x.len):=by omega
 have hroom : ¬ s.len+x.len<=s.cap:=by omega
 have h48 : ¬ (281474976710656<Builtin.nextslicecap (s.len+x.len) s.cap*i.bytes):=by
  have:=growslice_fits hcap hb; omega
 have hge:=grownCap_ge w (s.len+x.len) s.cap e
 have hrun:(Builtin.append_ #[t,t] ty #[.slice s.a s.len s.cap,.slice x.a x.len x.cap]).run P w =
  .ok (.slice (some ⟨w.heap.size,0,none⟩) (s.len+x.len) (grownCap w (s.len+x.len) s.cap e)) (w.drew.alloc (.cells (vs.toArray++ys.toArray++Builtin.zeroCells z.cells (grownCap w (s.len+x.len) s.cap e - (s.len+x.len))) e)):=by
  have hfx':=run_firstCells (P:=P) (w:=w.drew) hx.drew
  have hfs':=run_firstCells (P:=P) (w:=w.drew) (hs.rd).drew
  have hn : ¬ (s.len+x.len<=s.cap):=hroom
  simp [Builtin.append_,run_underlying ht,sizeOf,typeInfo,zeroValue,hi,hz,Builtin.lenOf,hn,hm',h48,Question.forced,newRow,grownCap]
  rw [hfs']
  simp only [Result.andThen_ok]
  rw [hfx']
  simp only [Result.andThen_ok]
  congr 3
  apply Array.ext'
  simp [List.append_assoc]
 have hlv:(vs++ys++(Builtin.zeroCells z.cells (grownCap w (s.len+x.len) s.cap e - (s.len+x.len))).toList).length=grownCap w (s.len+x.len) s.cap e*i.size:=by
  simp only [List.length_append,Array.length_toList,size_zeroCells,hzk,hsl,hxl,<-Nat.add_mul]
  congr 1; omega
 have hn:=new_alloc_drew w (.cells (vs.toArray++ys.toArray++Builtin.zeroCells z.cells (grownCap w (s.len+x.len) s.cap e - (s.len+x.len))) e)
 have hblk:Blk (w.drew.alloc (.cells (vs.toArray++ys.toArray++Builtin.zeroCells z.cells (grownCap w (s.len+x.len) s.cap e - (s.len+x.len))) e)) w.heap.size (vs++ys++(Builtin.zeroCells z.cells (grownCap w (s.len+x.len) s.cap e - (s.len+x.len))).toList) e:=by
  refine Blk.mk ?_
  rw [hn.get]
  congr 2
  apply Array.ext'
  simp [List.append_assoc]
 refine ⟨_,_,hrun,hK (grownCap w (s.len+x.len) s.cap e) _ ⟨_,hblk,hlv,?_⟩ hge hn.mod hn.size⟩
 rw [List.take_append_of_le_length (by simp [hsl,hxl,Nat.add_mul]),List.take_of_length_le (by simp [hsl,hxl,Nat.add_mul])]
theorem sem_append_row {t ty e:TypeId} {i:TypeInfo} {z:Value} (ht:P.underlying t=some (.slice e)) (hi:P.info? e=some i) (hz:i.zero=some z) (hk:i.size=1) (hzk:z.cells.size=1) {bytes:Nat} (hby:i.bytes=bytes)
 {s x:Slc} {vs ys:List Value} (hs:Row0 e w s vs) (hx:SlRd w x 1 ys) (h1 : ∀ y∈ys,y.oneCell'=true) (hx0:0<x.len) (hb:(s.len+x.len)*bytes<=140737488355328) (hm:s.len+x.len<=9223372036854775807)
 (hK : ∀ (s':Slc) (w':World),Row0 e w' s' (vs++ys)->s'.len=s.len+x.len->(s'.blk=s.blk\/s'.blk=some w.heap.size)->Mod (λb=>s.blk=some b) w w'->K (.slice s'.a s'.len s'.cap) w') :
 semK P (Builtin.append_ #[t,t] ty #[.slice s.a s.len s.cap,.slice x.a x.len x.cap]) w K:=by
 rcases Nat.lt_or_ge s.cap (s.len+x.len) with hroom | hroom
 ·refine sem_append_newB ht hi hz hk hzk hby hs.own hx h1 hb hm hroom λc w' ⟨l,hb',hl,htk⟩ hc hmod hsz=>hK ⟨some ⟨w.heap.size,0,none⟩,s.len+x.len,c⟩ w' (.inr ⟨_,_,_,l,rfl,by omega,hb',by omega,by rw [Nat.mul_one] at htk; exact htk,hc⟩) rfl (.inr (Slc.blk_of rfl (by simp only []; omega))) (hmod.mono λ_ _ h=>h.elim)
 ·rcases hs with ⟨rfl,rfl⟩ | ⟨g,n,c,l,rfl,hc,hbk,e1,e2,e3⟩
  ·simp only [] at hroom; omega
  ·have hxl:=hx.1
   have hfx:=run_firstCells (P:=P) hx
   have hroom':n+x.len<=c:=hroom
   have hfit:n+ys.length<=l.length:=by omega
   obtain ⟨w',hst,hb',ht'⟩:=store_blk (P:=P) hbk hfit h1
   refine ⟨.slice (some ⟨g,0,none⟩) (n+x.len) c,w',?_,hK ⟨some ⟨g,0,none⟩,n+x.len,c⟩ w' (.inr ⟨g,_,c,_,rfl,hc,hb',by rw [putAt_len hfit]; exact e1,?_,hroom'⟩) rfl (.inl (by rw [Slc.blk_mk,Slc.blk_mk])) (ht'.mod.mono λy _ hy=>by subst hy; rw [Slc.blk_mk,if_neg (by omega)])⟩
   ·skip
    have ea:(⟨g,0,none⟩:Addr).add n=⟨g,n,none⟩:=by rw [addl,Nat.zero_add]
    simp [Builtin.append_,run_underlying ht,sizeOf,typeInfo,hi,hk,Builtin.lenOf,hroom',hfx,ea,hst]
   ·simp only [putAt]
    rw [e2]
    have hvl:vs.length=n:=by rw [<-e2,List.length_take]; omega
    rw [List.take_append_of_le_length (by simp; omega),List.take_of_length_le (by simp; omega)]
end
end Go.Sh
end
section
namespace Go.Proofs.YtmgcoepbccgjfaaGreatDoor
open Go Go.Sh
def us (l:List UInt64):List Value:=l.map λx=>.int .u64 x.toNat
theorem us_one (l:List UInt64) : ∀ y∈us l,y.oneCell'=true:=by
 intro y hy
 obtain ⟨x,_,rfl⟩:=List.mem_map.1 hy
 rfl
theorem us_app (a b:List UInt64):us (a++b)=us a++us b:=by simp [us]
theorem us_at {l:List UInt64} {i:Nat} (h:i<l.length):(us l)[i]? = some (.int .u64 l[i].toNat):=by simp [us,h]
theorem us_getD {l:List UInt64} {i:Nat} (h:i<l.length):(us l)[i]? = some (.int .u64 (l.getD i 0).toNat):=by simp [us,h]
theorem us_set {l:List UInt64} {k:Nat} {x:UInt64} : (us l).set k (.int .u64 x.toNat)=us (l.set k x):=by simp [us,List.map_set]
theorem bys_set {l:List UInt8} {k:Nat} {x:UInt8} : (bys l).set k (.int .u8 x.toNat)=bys (l.set k x):=by simp [bys,List.map_set]
theorem bys_at {l:List UInt8} {i:Nat} (h:i<l.length):(bys l)[i]? = some (.int .u8 l[i].toNat):=by simp [bys,h]
@[simp] theorem us_len (l:List UInt64):(us l).length=l.length:=by simp [us]
theorem rd_u8 {w:World} {s:Slc} {l:List UInt8} (h:SlRd w s 1 (bys l)) {i:Nat} (hi:i<l.length) : ∃ a,s.a=some a/\Rd w (a.add (i*1)) [.int .u8 l[i].toNat]:=
 h.at (by have:=h.1; simp at this; omega) (by omega) λj u hu=>by
  cases j with
  | zero=>simp at hu; subst hu; simp [bys_at hi]
  | succ j=>simp at hu
theorem bys_cut (l:List UInt8) (a n:Nat):((bys l).drop (a*1)).take (n*1)=bys ((l.drop a).take n):=by simp [bys,List.map_drop,List.map_take]
theorem rd_len8 {w:World} {s:Slc} {l:List UInt8} (h:SlRd w s 1 (bys l)):l.length=s.len:=by have:=h.1; simpa using this
def z64:Value:=.int .u64 0
theorem set_mid {α:Type} {l r:List α} {x y:α} {n:Nat} (h:n=l.length):(l++x :: r).set n y=l++y :: r:=by subst h; simp
theorem rep_succ {n:Nat} {z:Value} (h:0<n):List.replicate n z=z :: List.replicate (n - 1) z:=by
 cases n with
 | zero=>omega
 | succ n=>simp [List.replicate_succ]
theorem take_snoc {α:Type} {l:List α} {j:Nat} (h:j<l.length):l.take (j+1)=l.take j++[l[j]]:=by rw [List.take_succ_eq_append_getElem h]
theorem fill_set {α:Type} {L:List α} {z:α} {n k:Nat} (h:k<L.length) (hn:k<n):(L.take k++List.replicate (n - k) z).set k L[k]=L.take (k+1)++List.replicate (n - (k+1)) z:=by
 rw [show n - k=(n - (k+1))+1 by omega,List.replicate_succ,set_mid (by simp; omega),take_snoc h,List.append_assoc]; rfl
theorem rd_lt {w:World} {a:Addr} {vs:List Value} (h:Rd w a vs) (hv:0<vs.length):a.block<w.heap.size:=by
 have h0:=h 0 vs[0] (by simp)
 rw [add0] at h0
 exact World.block_lt_of_cell? w _ h0
theorem semU_at {P:Program} {w:World} {T:TypeId} {b n:Nat} {v:Value} {l:List Value} {E:TypeId} {K:World->Prop} (hi:(P.info? T).isSome=true) (hsz:sizeAt P T=1) (h1:v.oneCell'=true)
 (hb:Blk w b l E) (hl:n<l.length) (hk : ∀ w',Tch w w' b->Blk w' b (l.set n v) E->K w'):semU P (storeVar T ((⟨b,0,none⟩:Addr).add (n*1)) v) w K:=by
 rw [addl,Nat.zero_add,Nat.mul_one]
 exact semU_store1 hi hsz h1 hb hl hk
theorem semU_at0 {P:Program} {w:World} {T:TypeId} {b n:Nat} {v:Value} {l:List Value} {E:TypeId} {K:World->Prop} (hi:(P.info? T).isSome=true) (hsz:sizeAt P T=1) (h1:v.oneCell'=true)
 (hb:Blk w b l E) (hl:n<l.length) (hk : ∀ w',Tch w w' b->Blk w' b (l.set n v) E->K w'):semU P (storeVar T (((⟨b,0,none⟩:Addr).add 0).add (n*1)) v) w K:=by
 rw [addl b 0 0,Nat.zero_add]
 exact semU_at hi hsz h1 hb hl hk
theorem rda {w:World} {b:Nat} {l:List Value} {T:TypeId} (h:Blk w b l T) {n:Nat} {v:Value} (hv:l[n]? = some v):Rd w ((⟨b,0,none⟩:Addr).add (n*1)) [v]:=by
 rw [addl,Nat.zero_add,Nat.mul_one]; exact h.rd1 hv
theorem rda0 {w:World} {b:Nat} {l:List Value} {T:TypeId} (h:Blk w b l T) {n:Nat} {v:Value} (hv:l[n]? = some v):Rd w (((⟨b,0,none⟩:Addr).add 0).add (n*1)) [v]:=by
 rw [addl b 0 0,Nat.zero_add]; exact rda h hv
theorem cellsL_us : ∀ l:List UInt64,cellsL (l.map TV.u64)=us l
 | []=>rfl
 | x :: l=>by simp [cellsL,TV.cells,us,cellsL_us l]
theorem list8 {α:Type} {l:List α} (h:l.length=8) : ∃ a b c d e f g k,l=[a,b,c,d,e,f,g,k]:=by
 match l,h with
 | [a,b,c,d,e,f,g,k],_=>exact ⟨a,b,c,d,e,f,g,k,rfl⟩
theorem u40:Tryz.prog.underlying 520=some (.slice 304):=by kernel_rfl
theorem i44 : ∃ i,Tryz.prog.info? 304=some i/\i.zero=some z64/\i.size=1/\i.bytes=8:=info_of (by kernel_rfl) (by kernel_rfl) (by kernel_rfl)
theorem u26:Tryz.prog.underlying 23=some (.slice 5):=by kernel_rfl
theorem i5 : ∃ i,Tryz.prog.info? 5=some i/\i.zero=some (.int .u8 0)/\i.size=1/\i.bytes=1:=info_of (by kernel_rfl) (by kernel_rfl) (by kernel_rfl)
theorem u22:Tryz.prog.underlying 55=some (.slice 23):=by kernel_rfl
theorem i26 : ∃ i,Tryz.prog.info? 23=some i/\i.zero=some (.slice none 0 0)/\i.size=1/\i.bytes=24:=info_of (by kernel_rfl) (by kernel_rfl) (by kernel_rfl)
def PartsAt (w:World) (parts:Slc) (pl:List (List UInt8)) (X:Nat->Prop):Prop:=
 ∃ ss:List Slc,SlRd w parts 1 (ss.map Slc.val)/\(∀ x,parts.blk=some x->X x)/\ss.length=pl.length/\∀ i (h:i<ss.length) (h':i<pl.length),SlRd w ss[i] 1 (bys pl[i])/\∀ x,ss[i].blk=some x->X x
theorem PartsAt.mod {w w':World} {parts:Slc} {pl:List (List UInt8)} {X S:Nat->Prop} (h:PartsAt w parts pl X) (hm:Mod S w w') (hs : ∀ x,X x->¬ S x):PartsAt w' parts pl X:=by
 obtain ⟨ss,h1,h2,h3,h4⟩:=h
 exact ⟨ss,h1.mod hm λb hb=>hs b (h2 b hb),h2,h3,λi hi hi'=>⟨(h4 i hi hi').1.mod hm λb hb=>hs b ((h4 i hi hi').2 b hb),(h4 i hi hi').2⟩⟩
theorem rd_slc {w:World} {s:Slc} {l:List Slc} (h:SlRd w s 1 (l.map Slc.val)) {i:Nat} (hi:i<l.length) : ∃ a,s.a=some a/\Rd w (a.add (i*1)) [l[i].val]:=
 h.at (by have:=h.1; simp at this; omega) (by omega) λj u hu=>by
  cases j with
  | zero=>simp at hu; subst hu; simp [hi]
  | succ j=>simp at hu
def BO (w0:World) (s0 s:Slc):Prop:=s.blk=s0.blk\/s.blk=none\/∃ x,s.blk=some x/\w0.heap.size<=x
theorem BO.refl (w0:World) (s:Slc):BO w0 s s:=.inl rfl
theorem BO.not {w0:World} {s0 s:Slc} {Y:Nat->Prop} (h:BO w0 s0 s) (h1 : ∀ x,s0.blk=some x->¬ Y x) (h2 : ∀ x,Y x->x<w0.heap.size) : ∀ x,s.blk=some x->¬ Y x:=by
 intro x hx hy
 rcases h with h | h | ⟨z,h,hz⟩
 ·exact h1 x (by rw [<-h]; exact hx) hy
 ·rw [h] at hx; cases hx
 ·rw [h] at hx; cases hx; have:=h2 _ hy; omega
theorem BO.step {w0 w:World} {s0 s s':Slc} (h:BO w0 s0 s) (hsz:w0.heap.size<=w.heap.size) (h':s'.blk=s.blk\/s'.blk=some w.heap.size):BO w0 s0 s':=by
 rcases h' with h' | h'
 ·unfold BO; rw [h']; exact h
 ·exact .inr (.inr ⟨_,h',hsz⟩)
theorem BO.mod {w0 w w':World} {s0 s:Slc} {M:Nat->Prop} (h:BO w0 s0 s) (hm:Mod M w0 w) (hs0 : ∀ x,s0.blk=some x->M x) (hm':Mod (λx=>s.blk=some x) w w'):Mod M w0 w':=
 hm.trans hm' (λ_ _ e=>e) λx hx e=>by
  rcases h with h | h | ⟨z,h,hz⟩
  ·exact hs0 x (by rw [<-h]; exact e)
  ·rw [h] at e; cases e
  ·rw [h] at e; cases e; omega
theorem BO.cut {w0:World} {s0 s:Slc} (h:BO w0 s0 s) {k l n m:Nat} (hm:m<=s.cap):BO w0 s0 (cutSl s k l n m):=by
 cases hb:(cutSl s k l n m).blk with
 | none=>exact .inr (.inl hb)
 | some x=>
   have:=blk_cut hb hm
   rcases h with h | h | ⟨z,h,hz⟩
   ·exact .inl (by rw [hb,<-this,h])
   ·rw [h] at this; cases this
   ·rw [h] at this; cases this; exact .inr (.inr ⟨_,hb,hz⟩)
def FB (w0:World) (s:Slc):Prop:=∀ x,s.blk=some x->w0.heap.size<=x
theorem FB.nil (w0:World):FB w0 ⟨none,0,0⟩:=λx h=>by simp at h
theorem FB.new {w0:World} {b n c:Nat} (h:w0.heap.size<=b):FB w0 ⟨some ⟨b,0,none⟩,n,c⟩:=λx hx=>by
 rw [Slc.blk_mk] at hx; split at hx <;> simp_all
theorem FB.step {w0 w:World} {s s':Slc} (h:FB w0 s) (hsz:w0.heap.size<=w.heap.size) (h':s'.blk=s.blk\/s'.blk=some w.heap.size):FB w0 s':=λx hx=>by
 rcases h' with h' | h'
 ·exact h x (by rw [<-h']; exact hx)
 ·rw [h'] at hx; cases hx; exact hsz
theorem FB.mod {w0 w w':World} {s:Slc} (h:FB w0 s) (hm:Mod NoB w0 w) (hm':Mod (λx=>s.blk=some x) w w'):Mod NoB w0 w':=hm.fresh hm' λx e=>h x e
theorem FB.of {w0:World} {s:Slc} (h:s.blk=none\/∃ x,s.blk=some x/\w0.heap.size<=x):FB w0 s:=λx hx=>by
 rcases h with h | ⟨y,h,hy⟩
 ·rw [h] at hx; cases hx
 ·rw [h] at hx; cases hx; exact hy
theorem FB.le {w0 w1:World} {s:Slc} (h:FB w1 s) (hsz:w0.heap.size<=w1.heap.size):FB w0 s:=λx hx=>Nat.le_trans hsz (h x hx)
section
variable {K:Slc->World->Prop} {w:World}
theorem sem_byte {w0:World} {s:Slc} {l:List UInt8} {c:UInt8} (hs:Sh.Own w s 1 (bys l)) (hf:FB w0 s) (hm:Mod NoB w0 w) (hn:l.length<=2000000000)
 (hK : ∀ (s':Slc) w',Sh.Own w' s' 1 (bys (l++[c]))->FB w0 s'->Mod NoB w0 w'->s'.len=s.len+1->K s' w') :
 semK Tryz.prog (Instr.buildSlice 23 1 #[(0,(.int .u8 c.toNat))]) w λv w2=>∃ x1:Slc,v=(.slice x1.a x1.len x1.cap)/\semK Tryz.prog (Builtin.append_ #[23,23] 23 #[(.slice s.a s.len s.cap),(.slice x1.a x1.len x1.cap)]) w2 λv1 w3=>∃ x2:Slc,v1=(.slice x2.a x2.len x2.cap)/\K x2 w3:=by
 obtain ⟨i5',h51,h52,h53,h54⟩:=i5
 have hl:=rd_len8 hs.rd
 refine sem_lit (l:=[.int .u8 c.toNat]) [.int .u8 c.toNat] u26 h51 h52 h53 (by decide) rfl (by decide) (by decide) rfl (by simp [Value.cells]) rfl λb w1 hN hb=>⟨⟨_,_,_⟩,rfl,?_⟩
 have hm1:=hm.tr hN.mod
 refine sem_append u26 h51 h52 h53 rfl h54 (hs.no hN.mod) (own_whole (n:=1) (k:=1) hb rfl).rd (bys_one [c]) (by simp only []; omega) (by simp only []; omega) λs' w2 ho hlen hblk hm2=>⟨s',rfl,hK s' w2 ?_ (hf.step hm1.size hblk) (hf.mod hm1 hm2) hlen⟩
 rw [bys_app]; exact ho
end
theorem sem_bytes {K:Value->World->Prop} {w:World} (l:List UInt8) {n:Nat} {ps:Array (Nat×Value)} (hps:ps.toList=((bys l).zipIdx 0).map λx=>(x.2,x.1)) (hn:n=l.length) (h0:0<n) (hs:n<=10000)
 (hK : ∀ (x:Slc) b w',New w w' b (.cells (bys l).toArray 5)->x=⟨some ⟨b,0,none⟩,n,n⟩->Blk w' b (bys l) 5->Sh.Own w' x 1 (bys l)->K x.val w'):semK Tryz.prog (Instr.buildSlice 23 n ps) w K:=by
 obtain ⟨i5',h51,h52,h53,h54⟩:=i5
 refine sem_lit (l:=bys l) (bys l) u26 h51 h52 h53 (by decide) (by simpa using hn) h0 (by omega) hps (λv hv=>?_) ?_ λb w' hN hb=>hK _ b w' hN rfl hb (own_whole hb (by simp [hn]))
 ·obtain ⟨y,_,rfl⟩:=List.mem_map.1 hv; rfl
 ·have : ∀ l:List UInt8,(bys l).flatMap (λv=>v.cells.toList)=bys l:=by
   intro l
   induction l with
   | nil=>rfl
   | cons a l ih=>simp only [bys,List.map_cons,List.flatMap_cons] at ih ⊢; rw [ih]; rfl
  exact this l
theorem sem_rows {K:Value->World->Prop} {w:World} (l:List Slc) {n:Nat} {ps:Array (Nat×Value)} (hps:ps.toList=((l.map Slc.val).zipIdx 0).map λx=>(x.2,x.1)) (hn:n=l.length) (h0:0<n) (hs:n<=10000)
 (hK : ∀ (x:Slc) b w',New w w' b (.cells (l.map Slc.val).toArray 23)->x=⟨some ⟨b,0,none⟩,n,n⟩->Blk w' b (l.map Slc.val) 23->Sh.Own w' x 1 (l.map Slc.val)->K x.val w'):semK Tryz.prog (Instr.buildSlice 55 n ps) w K:=by
 obtain ⟨i5',h51,h52,h53,h54⟩:=i26
 refine sem_lit (l:=l.map Slc.val) (l.map Slc.val) u22 h51 h52 h53 (by decide) (by simpa using hn) h0 (by omega) hps (λv hv=>?_) ?_ λb w' hN hb=>hK _ b w' hN rfl hb (own_whole hb (by simp [hn]))
 ·obtain ⟨y,_,rfl⟩:=List.mem_map.1 hv; rfl
 ·have : ∀ l:List Slc,(l.map Slc.val).flatMap (λv=>v.cells.toList)=l.map Slc.val:=by
   intro l
   induction l with
   | nil=>rfl
   | cons a l ih=>simp only [List.map_cons,List.flatMap_cons] at ih ⊢; rw [ih]; rfl
  exact this l
theorem blk_of_eq {x:Slc} {b n:Nat} (h:x=⟨some ⟨b,0,none⟩,n,n⟩) : ∀ y,x.blk=some y->y=b:=by
 subst h; intro y hy; rw [Slc.blk_mk] at hy; split at hy <;> simp_all
theorem parts_of {w:World} {x:Slc} {ss:List Slc} {pl:List (List UInt8)} {X:Nat->Prop} (hx:SlRd w x 1 (ss.map Slc.val)) (hX : ∀ b,x.blk=some b->X b) (hl:ss.length=pl.length)
 (h : ∀ i (h:i<ss.length) (h':i<pl.length),SlRd w ss[i] 1 (bys pl[i])/\∀ x,ss[i].blk=some x->X x):PartsAt w x pl X:=⟨ss,hx,hX,hl,h⟩
theorem rows1 {W:World} {a:Slc} {l:List UInt8} (h:SlRd W a 1 (bys l)) (hl : ∀ x,a.blk=some x->x<W.heap.size) :
 ∀ i (h:i<[a].length) (h':i<[l].length),SlRd W [a][i] 1 (bys [l][i])/\∀ x,[a][i].blk=some x->x<W.heap.size:=by
 intro i hi hi'
 match i,hi with
 | 0,_=>exact ⟨h,hl⟩
theorem rows2 {W:World} {a b:Slc} {l m:List UInt8} (h:SlRd W a 1 (bys l)) (hl : ∀ x,a.blk=some x->x<W.heap.size) (h':SlRd W b 1 (bys m)) (hl' : ∀ x,b.blk=some x->x<W.heap.size) :
 ∀ i (h:i<[a,b].length) (h':i<[l,m].length),SlRd W [a,b][i] 1 (bys [l,m][i])/\∀ x,[a,b][i].blk=some x->x<W.heap.size:=by
 intro i hi hi'
 match i,hi with
 | 0,_=>exact ⟨h,hl⟩
 | 1,_=>exact ⟨h',hl'⟩
def ints (l:List Int):List Value:=l.map (Value.int .i64)
@[simp] theorem ints_len (l:List Int):(ints l).length=l.length:=by simp [ints]
theorem u64_nat {n:Nat} : u64OfInt (n:Int)=UInt64.ofNat n:=by
 apply UInt64.toNat_inj.1
 unfold u64OfInt
 simp only [UInt64.toNat_ofNat']
 omega
theorem Row0.lt {T:TypeId} {w:World} {s:Slc} {vs:List Value} (h:Row0 T w s vs) : ∀ x,s.blk=some x->x<w.heap.size:=by
 intro x hx
 rcases h with ⟨rfl,rfl⟩ | ⟨g,n,c,l,rfl,hc,hb,h1,h2,h3⟩
 ·cases hx
 ·rw [Slc.blk_mk,if_neg (by omega)] at hx
  cases hx
  exact hb.lt
theorem callK_mono {P:Program} {f:FuncId} {args:List Value} {w:World} {pan:List PanicEntry->World->Prop} {K K':Value->World->Prop} (h:callK P f args w pan K) (hk : ∀ v w,K v w->K' v w):callK P f args w pan K':=
 Calls.mono h λe w' he=>by
  cases e with
  | returned v=>exact hk _ _ he
  | panicked c=>exact he
  | outgrown=>exact he
theorem uStr:Tryz.prog.underlying 9=some .string:=by kernel_rfl
theorem uU8:Tryz.prog.underlying 5=some (.int .u8):=by kernel_rfl
theorem put_mod {w:World} {b:Nat} {o:Obj} (hb:b<w.heap.size):Mod (λx=>x=b) w (w.putObj b o)/\(w.putObj b o).heap[b]? = some o/\(w.putObj b o).heap.size=w.heap.size:=by
 have hu:=upd_set (o':=o) (w:=w) (o:=w.heap[b]) (b:=b) (by rw [Array.getElem?_eq_getElem hb])
 exact ⟨hu.mod,hu.get,hu.size⟩
end Go.Proofs.YtmgcoepbccgjfaaGreatDoor
end
