/- The forms of the translated functions,their contracts and the plain laws behind them,put together by a program. -/
import Derived.Test.YthaefcgpbccmbaaGreatDoorPE9
import Derived.Lib.UnsafeStr
import Derived.Lib.Builder
import Derived.Laws.Externs
import Derived.Test.YthaefcgpbccmbaaGreatDoorProg
set_option linter.unusedSimpArgs false
set_option linter.unusedVariables false
set_option maxRecDepth 100000
set_option maxHeartbeats 4000000
section
namespace Go.Proofs.YthaefcgpbccmbaaGreatDoor
open Go Go.Sh
open Go.Proofs.Tryz
def us (l:List UInt64):List Value:=l.map λx=>.int .u64 x.toNat
theorem vD (l:List UInt64) : ∀ y∈us l,y.oneCell'=true:=by
 intro y hy
 obtain ⟨x,_,rfl⟩:=List.mem_map.1 hy
 rfl
theorem rT (a b:List UInt64):us (a++b)=us a++us b:=by simp [us]
theorem pU {l:List UInt64} {i:Nat} (h:i<l.length):(us l)[i]? = some (.int .u64 l[i].toNat):=by simp [us,h]
theorem mC {l:List UInt64} {i:Nat} (h:i<l.length):(us l)[i]? = some (.int .u64 (l.getD i 0).toNat):=by simp [us,h]
theorem qHA {l:List UInt64} {k:Nat} {x:UInt64} : (us l).set k (.int .u64 x.toNat)=us (l.set k x):=by simp [us,List.map_set]
theorem fU {l:zY} {k:Nat} {x:UInt8} : (bys l).set k (.int .u8 x.toNat)=bys (l.set k x):=by simp [bys,List.map_set]
theorem zZ {l:zY} {i:Nat} (h:i<l.length):(bys l)[i]? = some (.int .u8 l[i].toNat):=by simp [bys,h]
@[simp] theorem qBE (l:List UInt64):(us l).length=l.length:=by simp [us]
theorem gL {w:World} {s:Slc} {l:zY} (h:aK w s 1 (bys l)) {i:Nat} (hi:i<l.length) : ∃ a,s.a=some a/\Rd w (a.add (i*1)) [.int .u8 l[i].toNat]:=
 h.at (by have:=h.1; simp at this; omega) (by omega) λj u hu=>by
  cases j with
  | zero=>simp at hu; subst hu; simp [zZ hi]
  | succ j=>simp at hu
theorem fV (l:zY) (a n:Nat):((bys l).drop (a*1)).take (n*1)=bys ((l.drop a).take n):=by simp [bys,List.map_drop,List.map_take]
theorem aV {w:World} {s:Slc} {l:zY} (h:aK w s 1 (bys l)):l.length=s.len:=by have:=h.1; simpa using this
def z64:Value:=.int .u64 0
theorem set_mid {α:Type} {l r:List α} {x y:α} {n:Nat} (h:n=l.length):(l++x :: r).set n y=l++y :: r:=by subst h; simp
theorem yA {n:Nat} {z:Value} (h:0<n):List.replicate n z=z :: List.replicate (n - 1) z:=by
 cases n with
 | zero=>omega
 | succ n=>simp [List.replicate_succ]
theorem aL {α:Type} {l:List α} {j:Nat} (h:j<l.length):l.take (j+1)=l.take j++[l[j]]:=by rw [List.take_succ_eq_append_getElem h]
theorem qIN {w:World} {a:Addr} {vs:List Value} (h:Rd w a vs) (hv:0<vs.length):a.block<w.heap.size:=by
 have h0:=h 0 vs[0] (by simp)
 rw [add0] at h0
 exact World.block_lt_of_cell? w _ h0
theorem iX {P:Program} {w:World} {T:TypeId} {b n:Nat} {v:Value} {l:List Value} {E:TypeId} {K:zP} (hi:(P.info? T).isSome=true) (hsz:bE P T=1) (h1:v.oneCell'=true)
 (hb:Blk w b l E) (hl:n<l.length) (hk : ∀ w',Tch w w' b->Blk w' b (l.set n v) E->K w'):aJ P (storeVar T ((⟨b,0,none⟩:Addr).add (n*1)) v) w K:=by
 rw [aO,Nat.zero_add,Nat.mul_one]
 exact aX hi hsz h1 hb hl hk
theorem rda {w:World} {b:Nat} {l:List Value} {T:TypeId} (h:Blk w b l T) {n:Nat} {v:Value} (hv:l[n]? = some v):Rd w ((⟨b,0,none⟩:Addr).add (n*1)) [v]:=by
 rw [aO,Nat.zero_add,Nat.mul_one]; exact h.rd1 hv
theorem rda0 {w:World} {b:Nat} {l:List Value} {T:TypeId} (h:Blk w b l T) {n:Nat} {v:Value} (hv:l[n]? = some v):Rd w (((⟨b,0,none⟩:Addr).add 0).add (n*1)) [v]:=by
 rw [aO b 0 0,Nat.zero_add]; exact rda h hv
theorem uJ : ∀ l:List UInt64,bR (l.map TV.u64)=us l
 | []=>rfl
 | x :: l=>by simp [bR,TV.cells,us,uJ l]
theorem qCC {α:Type} {l:List α} (h:l.length=8) : ∃ a b c d e f g k,l=[a,b,c,d,e,f,g,k]:=by
 match l,h with
 | [a,b,c,d,e,f,g,k],_=>exact ⟨a,b,c,d,e,f,g,k,rfl⟩
theorem u40:prog.underlying 187=some (.slice 188):=by kernel_rfl
theorem i44 : ∃ i,prog.info? 188=some i/\i.zero=some z64/\i.size=1/\i.bytes=8:=bC (by kernel_rfl) (by kernel_rfl) (by kernel_rfl)
theorem u26:prog.underlying 38=some (.slice 5):=by kernel_rfl
theorem i5 : ∃ i,prog.info? 5=some i/\i.zero=some (.int .u8 0)/\i.size=1/\i.bytes=1:=bC (by kernel_rfl) (by kernel_rfl) (by kernel_rfl)
theorem u22:prog.underlying 77=some (.slice 38):=by kernel_rfl
theorem i26 : ∃ i,prog.info? 38=some i/\i.zero=some (.slice none 0 0)/\i.size=1/\i.bytes=24:=bC (by kernel_rfl) (by kernel_rfl) (by kernel_rfl)
def PartsAt (w:World) (parts:Slc) (pl:List (zY)) (X:Nat->Prop):Prop:=
 ∃ ss:List Slc,aK w parts 1 (ss.map Slc.val)/\(∀ x,parts.blk=some x->X x)/\ss.length=pl.length/\∀ i (h:i<ss.length) (h':i<pl.length),aK w ss[i] 1 (bys pl[i])/\∀ x,ss[i].blk=some x->X x
theorem PartsAt.mod {w w':World} {parts:Slc} {pl:List (zY)} {X S:Nat->Prop} (h:PartsAt w parts pl X) (hm:Mod S w w') (hs : ∀ x,X x->¬ S x):PartsAt w' parts pl X:=by
 obtain ⟨ss,h1,h2,h3,h4⟩:=h
 exact ⟨ss,h1.mod hm λb hb=>hs b (h2 b hb),h2,h3,λi hi h9=>⟨(h4 i hi h9).1.mod hm λb hb=>hs b ((h4 i hi h9).2 b hb),(h4 i hi h9).2⟩⟩
theorem pA {w:World} {s:Slc} {l:List Slc} (h:aK w s 1 (l.map Slc.val)) {i:Nat} (hi:i<l.length) : ∃ a,s.a=some a/\Rd w (a.add (i*1)) [l[i].val]:=
 h.at (by have:=h.1; simp at this; omega) (by omega) λj u hu=>by
  cases j with
  | zero=>simp at hu; subst hu; simp [hi]
  | succ j=>simp at hu
def BO (w0:World) (s0 s:Slc):Prop:=s.blk=s0.blk\/s.blk=none\/∃ x,s.blk=some x/\w0.heap.size<=x
theorem BO.refl (w0:World) (s:Slc):BO w0 s s:=.inl rfl
theorem BO.not {w0:World} {s0 s:Slc} {Y:Nat->Prop} (h:BO w0 s0 s) (h1 : ∀ x,s0.blk=some x->¬ Y x) (h2 : ∀ x,Y x->x<w0.heap.size) : ∀ x,s.blk=some x->¬ Y x:=by
 intro x hx hy
 rcases h with h | h | ⟨z,h,hz⟩
 ·exact h1 x (by rw [<-h]; exact hx) hy
 ·rw [h] at hx; cases hx
 ·rw [h] at hx; cases hx; have:=h2 _ hy; omega
theorem BO.step {w0 w:World} {s0 s s':Slc} (h:BO w0 s0 s) (hsz:w0.heap.size<=w.heap.size) (h':s'.blk=s.blk\/s'.blk=some w.heap.size):BO w0 s0 s':=by
 rcases h' with h' | h'
 ·unfold BO; rw [h']; exact h
 ·exact .inr (.inr ⟨_,h',hsz⟩)
theorem BO.mod {w0 w w':World} {s0 s:Slc} {M:Nat->Prop} (h:BO w0 s0 s) (hm:Mod M w0 w) (hs0 : ∀ x,s0.blk=some x->M x) (h9:Mod (λx=>s.blk=some x) w w'):Mod M w0 w':=
 hm.trans h9 (λ_ _ e=>e) λx hx e=>by
  rcases h with h | h | ⟨z,h,hz⟩
  ·exact hs0 x (by rw [<-h]; exact e)
  ·rw [h] at e; cases e
  ·rw [h] at e; cases e; omega
theorem BO.cut {w0:World} {s0 s:Slc} (h:BO w0 s0 s) {k l n m:Nat} (hm:m<=s.cap):BO w0 s0 (aF s k l n m):=by
 cases hb:(aF s k l n m).blk with
 | none=>exact .inr (.inl hb)
 | some x=>
   have:=nQ hb hm
   rcases h with h | h | ⟨z,h,hz⟩
   ·exact .inl (by rw [hb,<-this,h])
   ·rw [h] at this; cases this
   ·rw [h] at this; cases this; exact .inr (.inr ⟨_,hb,hz⟩)
def FB (w0:World) (s:Slc):Prop:=∀ x,s.blk=some x->w0.heap.size<=x
theorem FB.nil (w0:World):FB w0 ⟨none,0,0⟩:=λx h=>by simp at h
theorem FB.new {w0:World} {b n c:Nat} (h:w0.heap.size<=b):FB w0 ⟨some ⟨b,0,none⟩,n,c⟩:=λx hx=>by
 rw [Slc.blk_mk] at hx; split at hx <;> simp_all
theorem FB.step {w0 w:World} {s s':Slc} (h:FB w0 s) (hsz:w0.heap.size<=w.heap.size) (h':s'.blk=s.blk\/s'.blk=some w.heap.size):FB w0 s':=λx hx=>by
 rcases h' with h' | h'
 ·exact h x (by rw [<-h']; exact hx)
 ·rw [h'] at hx; cases hx; exact hsz
theorem FB.mod {w0 w w':World} {s:Slc} (h:FB w0 s) (hm:Mod NoB w0 w) (h9:Mod (λx=>s.blk=some x) w w'):Mod NoB w0 w':=hm.fresh h9 λx e=>h x e
theorem FB.of {w0:World} {s:Slc} (h:s.blk=none\/∃ x,s.blk=some x/\w0.heap.size<=x):FB w0 s:=λx hx=>by
 rcases h with h | ⟨y,h,hy⟩
 ·rw [h] at hx; cases hx
 ·rw [h] at hx; cases hx; exact hy
theorem FB.le {w0 w1:World} {s:Slc} (h:FB w1 s) (hsz:w0.heap.size<=w1.heap.size):FB w0 s:=λx hx=>Nat.le_trans hsz (h x hx)
section
variable {K:Slc->zP} {w:World}
theorem lC {w0:World} {s:Slc} {l:zY} {c:UInt8} (hs:Sh.Own w s 1 (bys l)) (hf:FB w0 s) (hm:Mod NoB w0 w) (hn:l.length<=2000000000)
 (hK : ∀ (s':Slc) w',Sh.Own w' s' 1 (bys (l++[c]))->FB w0 s'->Mod NoB w0 w'->s'.len=s.len+1->K s' w') :
 aH prog (Instr.buildSlice 38 1 #[(0,(.int .u8 c.toNat))]) w λv w2=>∃ x1:Slc,v=(.slice x1.a x1.len x1.cap)/\aH prog (Builtin.append_ #[38,38] 38 #[(.slice s.a s.len s.cap),(.slice x1.a x1.len x1.cap)]) w2 λv1 w3=>∃ x2:Slc,v1=(.slice x2.a x2.len x2.cap)/\K x2 w3:=by
 obtain ⟨p9,h9,k3,k4,k6⟩:=i5
 have hl:=aV hs.rd
 refine bZ (l:=[.int .u8 c.toNat]) [.int .u8 c.toNat] u26 h9 k3 k4 (by decide) rfl (by decide) (by decide) rfl (by simp [Value.cells]) rfl λb w1 hN hb=>⟨⟨_,_,_⟩,rfl,?_⟩
 have k5:=hm.tr hN.mod
 refine aS u26 h9 k3 k4 rfl k6 (hs.no hN.mod) (aY (n:=1) (k:=1) hb rfl).rd (eX [c]) (by simp only []; omega) (by simp only []; omega) λs' w2 ho hlen hblk p8=>⟨s',rfl,hK s' w2 ?_ (hf.step k5.size hblk) (hf.mod k5 p8) hlen⟩
 rw [gV]; exact ho
end
theorem fQ {K:Value->zP} {w:World} (l:zY) {n:Nat} {ps:Array (Nat×Value)} (hps:ps.toList=((bys l).zipIdx 0).map λx=>(x.2,x.1)) (hn:n=l.length) (h0:0<n) (hs:n<=10000)
 (hK : ∀ (x:Slc) b w',New w w' b (.cells (bys l).toArray 5)->x=⟨some ⟨b,0,none⟩,n,n⟩->Blk w' b (bys l) 5->Sh.Own w' x 1 (bys l)->K x.val w'):aH prog (Instr.buildSlice 38 n ps) w K:=by
 obtain ⟨k5,h9,k3,k4,k6⟩:=i5
 refine bZ (l:=bys l) (bys l) u26 h9 k3 k4 (by decide) (by simpa using hn) h0 (by omega) hps (λv hv=>?_) ?_ λb w' hN hb=>hK _ b w' hN rfl hb (aY hb (by simp [hn]))
 ·obtain ⟨y,_,rfl⟩:=List.mem_map.1 hv; rfl
 ·have : ∀ l:zY,(bys l).flatMap (λv=>v.cells.toList)=bys l:=by
   intro l
   induction l with
   | nil=>rfl
   | cons a l ih=>simp only [bys,List.map_cons,List.flatMap_cons] at ih ⊢; rw [ih]; rfl
  exact this l
theorem iL {K:Value->zP} {w:World} (l:List Slc) {n:Nat} {ps:Array (Nat×Value)} (hps:ps.toList=((l.map Slc.val).zipIdx 0).map λx=>(x.2,x.1)) (hn:n=l.length) (h0:0<n) (hs:n<=10000)
 (hK : ∀ (x:Slc) b w',New w w' b (.cells (l.map Slc.val).toArray 38)->x=⟨some ⟨b,0,none⟩,n,n⟩->Blk w' b (l.map Slc.val) 38->Sh.Own w' x 1 (l.map Slc.val)->K x.val w'):aH prog (Instr.buildSlice 77 n ps) w K:=by
 obtain ⟨k5,h9,k3,k4,k6⟩:=i26
 refine bZ (l:=l.map Slc.val) (l.map Slc.val) u22 h9 k3 k4 (by decide) (by simpa using hn) h0 (by omega) hps (λv hv=>?_) ?_ λb w' hN hb=>hK _ b w' hN rfl hb (aY hb (by simp [hn]))
 ·obtain ⟨y,_,rfl⟩:=List.mem_map.1 hv; rfl
 ·have : ∀ l:List Slc,(l.map Slc.val).flatMap (λv=>v.cells.toList)=l.map Slc.val:=by
   intro l
   induction l with
   | nil=>rfl
   | cons a l ih=>simp only [List.map_cons,List.flatMap_cons] at ih ⊢; rw [ih]; rfl
  exact this l
theorem qEM {x:Slc} {b n:Nat} (h:x=⟨some ⟨b,0,none⟩,n,n⟩) : ∀ y,x.blk=some y->y=b:=by
 subst h; intro y hy; rw [Slc.blk_mk] at hy; split at hy <;> simp_all
theorem qTB {W:World} {a:Slc} {l:zY} (h:aK W a 1 (bys l)) (hl : ∀ x,a.blk=some x->x<W.heap.size) :
 ∀ i (h:i<[a].length) (h':i<[l].length),aK W [a][i] 1 (bys [l][i])/\∀ x,[a][i].blk=some x->x<W.heap.size:=by
 intro i hi h9
 match i,hi with
 | 0,_=>exact ⟨h,hl⟩
theorem uM {W:World} {a b:Slc} {l m:zY} (h:aK W a 1 (bys l)) (hl : ∀ x,a.blk=some x->x<W.heap.size) (h':aK W b 1 (bys m)) (h9 : ∀ x,b.blk=some x->x<W.heap.size) :
 ∀ i (h:i<[a,b].length) (h':i<[l,m].length),aK W [a,b][i] 1 (bys [l,m][i])/\∀ x,[a,b][i].blk=some x->x<W.heap.size:=by
 intro i hi k3
 match i,hi with
 | 0,_=>exact ⟨h,hl⟩
 | 1,_=>exact ⟨h',h9⟩
def ints (l:List Int):List Value:=l.map (Value.int .i64)
@[simp] theorem jET (l:List Int):(ints l).length=l.length:=by simp [ints]
theorem jBG {w:World} {s:Slc} {l:List Int} (h:aK w s 1 (ints l)) {i:Nat} (hi:i<l.length) : ∃ a,s.a=some a/\Rd w (a.add (i*1)) [.int .i64 l[i]]:=
 h.at (by have:=h.1; simp at this; omega) (by omega) λj u hu=>by
  cases j with
  | zero=>simp at hu; subst hu; simp [hi,ints]
  | succ j=>simp at hu
theorem qSI {w:World} {s:Slc} {l:List Int} (h:aK w s 1 (ints l)):l.length=s.len:=by have:=h.1; simp at this; omega
theorem qEW {K:Value->zP} {w:World} (l:List UInt64) {n:Nat} {ps:Array (Nat×Value)} (hps:ps.toList=((us l).zipIdx 0).map λx=>(x.2,x.1)) (hn:n=l.length) (h0:0<n) (hs:n<=10000)
 (hK : ∀ (x:Slc) b w',New w w' b (.cells (us l).toArray 188)->x=⟨some ⟨b,0,none⟩,n,n⟩->Blk w' b (us l) 188->Sh.Own w' x 1 (us l)->K x.val w'):aH prog (Instr.buildSlice 187 n ps) w K:=by
 obtain ⟨k5,h9,k3,k4,k6⟩:=i44
 refine bZ (l:=us l) (us l) u40 h9 k3 k4 (by decide) (by simpa using hn) h0 (by omega) hps (λv hv=>?_) ?_ λb w' hN hb=>hK _ b w' hN rfl hb (aY hb (by simp [hn]))
 ·obtain ⟨y,_,rfl⟩:=List.mem_map.1 hv; rfl
 ·have : ∀ l:List UInt64,(us l).flatMap (λv=>v.cells.toList)=us l:=by
   intro l
   induction l with
   | nil=>rfl
   | cons a l ih=>simp only [us,List.map_cons,List.flatMap_cons] at ih ⊢; rw [ih]; rfl
  exact this l
theorem qLN {n:Nat} : aP (n:Int)=UInt64.ofNat n:=by
 apply UInt64.toNat_inj.1
 unfold aP
 simp only [UInt64.toNat_ofNat']
 omega
theorem qL:prog.underlying 9=some .string:=by kernel_rfl
theorem uU8:prog.underlying 5=some (.int .u8):=by kernel_rfl
theorem eO {w:World} {b:Nat} {o:Obj} (hb:b<w.heap.size):Mod (λx=>x=b) w (w.putObj b o)/\(w.putObj b o).heap[b]? = some o/\(w.putObj b o).heap.size=w.heap.size:=by
 have hu:=qN (o':=o) (w:=w) (o:=w.heap[b]) (b:=b) (by rw [Array.getElem?_eq_getElem hb])
 exact ⟨hu.mod,hu.get,hu.size⟩
end Go.Proofs.YthaefcgpbccmbaaGreatDoor
end
section
namespace Go.Sh
open Go Go.Proofs Go.Proofs.YthaefcgpbccmbaaGreatDoor
def TB (w:World) (q:Nat×Nat):Prop:=∃ (l:List UInt64) (E:TypeId),l.length=q.2/\Blk w q.1 (us l) E
theorem TB.mod {w w':World} {q:Nat×Nat} {S:Nat->Prop} (h:TB w q) (hm:Mod S w w') (hs : ¬ S q.1):TB w' q:=by
 obtain ⟨l,E,h1,h2⟩:=h
 exact ⟨l,E,h1,h2.mod hm hs⟩
def TR (w:World) (q:Nat×Nat):Prop:=q.1<w.heap.size/\∃ l:List UInt64,l.length=q.2/\Rd w ⟨q.1,0,none⟩ (us l)
theorem TB.r {w:World} {q:Nat×Nat} (h:TB w q):TR w q:=by
 obtain ⟨l,E,h1,h2⟩:=h
 exact ⟨h2.lt,l,h1,h2.rd λj v hj=>by simpa using hj⟩
theorem TR.mod {w w':World} {q:Nat×Nat} {S:Nat->Prop} (h:TR w q) (hm:Mod S w w') (hs : ¬ S q.1):TR w' q:=by
 obtain ⟨h0,l,h1,h2⟩:=h
 exact ⟨Nat.lt_of_lt_of_le h0 hm.size,l,h1,h2.mod hm hs⟩
def J (Z:Nat->Prop) (w0:World) (L:List (Nat×Nat×Bool)) (w:World):Prop:=Mod Z w0 w/\∀ q∈L,(q.2.2=true->(Z q.1\/w0.heap.size<=q.1)/\TB w (q.1,q.2.1))/\TR w (q.1,q.2.1)
theorem J.start (w:World):J NoB w [] w:=⟨Mod.refl _ _,λq h=>by cases h⟩
section
variable {Z:Nat->Prop} {w0 w w':World} {L:List (Nat×Nat×Bool)} {P:Program} {f:Bool}
theorem J.m (h:J Z w0 L w):Mod Z w0 w:=h.1
theorem J.tb {p n:Nat} (h:J Z w0 L w) (hp:(p,n,true)∈L):TB w (p,n):=((h.2 _ hp).1 rfl).2
theorem J.tr {p n:Nat} (h:J Z w0 L w) (hp:(p,n,f)∈L):TR w (p,n):=(h.2 _ hp).2
theorem J.mod (h:J Z w0 L w) (hm:Mod NoB w w'):J Z w0 L w':=⟨h.1.no' hm,λq hq=>⟨λe=>⟨((h.2 q hq).1 e).1,((h.2 q hq).1 e).2.mod hm λh=>h⟩,(h.2 q hq).2.mod hm λh=>h⟩⟩
theorem J.drew (h:J Z w0 L w):J Z w0 L w.drew:=h.mod (Mod.drew _ _)
theorem J.cons {q:Nat×Nat×Bool} (h:J Z w0 L w) (h1:q.2.2=true->Z q.1\/w0.heap.size<=q.1) (h2:TB w (q.1,q.2.1)):J Z w0 (q :: L) w:=
 ⟨h.1,λx hx=>by rcases List.mem_cons.1 hx with rfl | hx; exact ⟨λe=>⟨h1 e,h2⟩,h2.r⟩; exact h.2 x hx⟩
theorem J.sub {L':List (Nat×Nat×Bool)} (h:J Z w0 L w) (hs : ∀ q∈L',q∈L):J Z w0 L' w:=⟨h.1,λq hq=>h.2 q (hs q hq)⟩
theorem J.new {b:Nat} {o:Obj} {l:List UInt64} {T:TypeId} (h:J Z w0 L w) (hN:New w w' b o) (hb:Blk w' b (us l) T) {n:Nat} (hn:l.length=n):J Z w0 ((b,n,true) :: L) w':=
 (h.mod hN.mod).cons (λ_=>.inr (by have:=hN.at_; have:=h.1.size; show w0.heap.size<=b; omega)) ⟨l,T,hn,hb⟩
theorem J.turn {p n:Nat} (h:J Z w0 L w) (hp:(p,n,true)∈L) (hm:Mod (λx=>x=p) w w') (hT:TB w' (p,n)):J Z w0 L w':=
 ⟨h.1.trans hm (λ_ _ e=>e) (λx hx e=>by
  have e:x=p:=e
  subst e
  rcases ((h.2 _ hp).1 rfl).1 with h1 | h1
  ·exact h1
  ·exact absurd hx (Nat.not_lt.2 h1)),λq hq=>by
  have hp2:=((h.2 _ hp).1 rfl).2
  by_cases e:q.1=p
  ·obtain ⟨l2,E2,a2,b2⟩:=hp2
   refine ⟨λhq2=>⟨((h.2 q hq).1 hq2).1,?_⟩,?_⟩
   ·obtain ⟨l1,E1,a1,b1⟩:=((h.2 q hq).1 hq2).2
    simp only [] at a1 b1 a2 b2
    rw [e] at b1
    have:=congrArg List.length (b1.uniq b2)
    simp only [qBE] at this
    rw [e,show q.2.1=n by omega]
    exact hT
   ·obtain ⟨g0,l1,a1,b1⟩:=(h.2 q hq).2
    simp only [] at g0 a1 b1 a2 b2
    have hle:q.2.1<=n:=by
     rcases Nat.lt_or_ge n q.2.1 with hlt | hge
     ·have hv:(us l1)[n]? = some (.int .u64 (l1[n]'(by omega)).toNat):=by simp [us,List.getElem?_eq_getElem (show n<l1.length by omega)]
      have g1:=b1 n _ hv
      rw [e,aO,b2.cell,List.getElem?_eq_none (by simp; omega)] at g1
      cases g1
     ·exact hge
    obtain ⟨g0,l3,a3,b3⟩:=hT.r
    simp only [] at g0 a3 b3
    rw [e]
    exact ⟨g0,l3.take q.2.1,by simp; omega,λj v hj=>b3 j v (by
     simp only [us,List.getElem?_map,List.getElem?_take] at hj ⊢
     split at hj
     ·exact hj
     ·simp at hj)⟩
  ·exact ⟨λhq2=>⟨((h.2 q hq).1 hq2).1,((h.2 q hq).1 hq2).2.mod hm λhx=>e hx⟩,(h.2 q hq).2.mod hm λhx=>e hx⟩⟩
theorem J.put {p n:Nat} (h:J Z w0 L w) (hp:(p,n,true)∈L) (ht:Tch w w' p) {l:List UInt64} {E:TypeId} (hl:l.length=n) (hb:Blk w' p (us l) E):J Z w0 L w':=h.turn hp ht.mod ⟨l,E,hl,hb⟩
theorem J.rd {p n:Nat} (h:J Z w0 L w) (hp:(p,n,f)∈L) {o k:Nat} (ho:o+k<=n) : ∃ m:List UInt64,m.length=k/\∀ w',Mod NoB w w'->Rd w' ⟨p,o,none⟩ (us m):=by
 obtain ⟨h0,l,h1,h2⟩:=(h.2 _ hp).2
 simp only [] at h0 h1 h2
 refine ⟨(l.drop o).take k,by simp; omega,λw' hm j v hj=>?_⟩
 have:=(h2.mod hm λh=>h) (o+j) v (by
  simp only [us,List.getElem?_map,List.getElem?_take,List.getElem?_drop] at hj ⊢
  split at hj
  ·exact hj
  ·cases hj)
 rw [aO] at this ⊢
 rwa [Nat.zero_add] at this
theorem jEG {l:List UInt64} (h:l.length=1) : ∃ a,l=[a]:=by
 match l,h with
 | [a],_=>exact ⟨a,rfl⟩
theorem lst2 {l:List UInt64} (h:l.length=2) : ∃ a b,l=[a,b]:=by
 match l,h with
 | [a,b],_=>exact ⟨a,b,rfl⟩
theorem jDM {l:List UInt64} (h:l.length=5) : ∃ a b c d e,l=[a,b,c,d,e]:=by
 match l,h with
 | [a,b,c,d,e],_=>exact ⟨a,b,c,d,e,rfl⟩
theorem qHN {p n:Nat} {A:Addr} (h:J Z w0 L w) {o:Nat} (hA:A=⟨p,o,none⟩) (hp:(p,n,f)∈L) (ho:o+1<=n) {K:UInt64->Prop} (hK : ∀ x,K x) : ∃ x:UInt64,Rd w A [.int .u64 x.toNat]/\K x:=by
 obtain ⟨m,h1,h2⟩:=h.rd hp (k:=1) ho
 obtain ⟨a,rfl⟩:=jEG h1
 subst hA
 exact ⟨a,h2 w (Mod.refl _ _),hK a⟩
theorem qFJ {p n:Nat} {x:Int} (h:J Z w0 L w) (hp:(p,n,f)∈L) (ho:0<=x/\x<n) {K:UInt64->Prop} (hK : ∀ x,K x) : ∃ y:UInt64,Rd w ((⟨p,0,none⟩:Addr).add (x.toNat*1)) [.int .u64 y.toNat]/\K y:=
 qHN h (o:=x.toNat) (by rw [aO,Nat.zero_add,Nat.mul_one]) hp (by omega) hK
theorem iH {p n:Nat} {x:Int} (h:J Z w0 L w) (hp:(p,n,f)∈L) (ho:0<=x/\x<n) {K:UInt64->Prop} (hK : ∀ x,K x) : ∃ y:UInt64,(∀ w',Mod NoB w w'->Rd w' ((⟨p,0,none⟩:Addr).add (x.toNat*1)) [.int .u64 y.toNat])/\K y:=by
 obtain ⟨m,h1,h2⟩:=h.rd hp (k:=1) (o:=x.toNat) (by omega)
 obtain ⟨a,rfl⟩:=jEG h1
 rw [aO,Nat.zero_add,Nat.mul_one]
 exact ⟨a,h2,hK a⟩
theorem jEU {p n:Nat} {A:Addr} (h:J Z w0 L w) {o:Nat} (hA:A=⟨p,o,none⟩) (hp:(p,n,f)∈L) (ho:o+2<=n) {K:UInt64->UInt64->Prop} (hK : ∀ x y,K x y) : ∃ x:UInt64,∃ y:UInt64,Rd w A [.int .u64 x.toNat,.int .u64 y.toNat]/\K x y:=by
 obtain ⟨m,h1,h2⟩:=h.rd hp (k:=2) ho
 obtain ⟨a,b,rfl⟩:=lst2 h1
 subst hA
 exact ⟨a,b,h2 w (Mod.refl _ _),hK a b⟩
theorem iZ {p n:Nat} {A:Addr} (h:J Z w0 L w) {o:Nat} (hA:A=⟨p,o,none⟩) (hp:(p,n,f)∈L) (ho:o+5<=n) {K:UInt64->UInt64->UInt64->UInt64->UInt64->Prop} (hK : ∀ a b c d e,K a b c d e) :
 ∃ a:UInt64,∃ b:UInt64,∃ c:UInt64,∃ d:UInt64,∃ e:UInt64,Rd w A (l5 a b c d e)/\K a b c d e:=by
 obtain ⟨m,h1,h2⟩:=h.rd hp (k:=5) ho
 obtain ⟨a,b,c,d,e,rfl⟩:=jDM h1
 subst hA
 exact ⟨a,b,c,d,e,h2 w (Mod.refl _ _),hK a b c d e⟩
theorem oG {p n:Nat} {A:Addr} (h:J Z w0 L w) {o:Nat} (hA:A=⟨p,o,none⟩) (hp:(p,n,f)∈L) (ho:o+5<=n) {K:UInt64->UInt64->UInt64->UInt64->UInt64->Prop} (hK : ∀ a b c d e,K a b c d e) :
 ∃ a:UInt64,∃ b:UInt64,∃ c:UInt64,∃ d:UInt64,∃ e:UInt64,(∀ w',Mod NoB w w'->Rd w' A (l5 a b c d e))/\K a b c d e:=by
 obtain ⟨m,h1,h2⟩:=h.rd hp (k:=5) ho
 obtain ⟨a,b,c,d,e,rfl⟩:=jDM h1
 subst hA
 exact ⟨a,b,c,d,e,h2,hK a b c d e⟩
theorem stJ {p n:Nat} {A:Addr} {v:Value} {T:TypeId} (l:List UInt64) (h:J Z w0 L w) {o:Nat} (hA:A=⟨p,o,none⟩) (hp:(p,n,true)∈L) (hi:(P.info? T).isSome=true) (hsz:bE P T=l.length) (hv:v.cells=(us l).toArray) (ho:o+l.length<=n) {K:zP} (hK : ∀ w',J Z w0 L w'->Mod (λx=>x=p) w w'->K w'):aJ P (storeVar T A v) w K:=by
 obtain ⟨m,E,h1,h2⟩:=((h.2 _ hp).1 rfl).2
 simp only [] at h1 h2
 subst hA
 refine bU (vs:=us l) hi (by simpa using hsz) hv h2 (by simp; omega) (vD _) λw' ht hb=>hK w' (h.put hp ht (l:=m.take o++l++m.drop (o+l.length)) (E:=E) (by simp; omega) ?_) ht.mod
 simpa [putAt,us,List.map_take,List.map_drop] using hb
theorem pN {p n:Nat} {x:Int} {y:UInt64} {T:TypeId} (h:J Z w0 L w) (hp:(p,n,true)∈L) (ho:0<=x/\x<n) (hi:(P.info? T).isSome=true) (hsz:bE P T=1) {K:zP} (hK : ∀ w',J Z w0 L w'->Mod (λx=>x=p) w w'->K w'):aJ P (storeVar T ((⟨p,0,none⟩:Addr).add (x.toNat*1)) (.int .u64 y.toNat)) w K:=
 stJ [y] h (o:=x.toNat) (by rw [aO,Nat.zero_add,Nat.mul_one]) hp hi hsz rfl (by simp; omega) hK
theorem jH {p n:Nat} {A:Addr} {T:TypeId} {a b c d e:UInt64} (h:J Z w0 L w) {o:Nat} (hA:A=⟨p,o,none⟩) (hp:(p,n,true)∈L) (hi:(P.info? T).isSome=true) (hsz:bE P T=5) (ho:o+5<=n) {K:zP} (hK : ∀ w',J Z w0 L w'->Mod (λx=>x=p) w w'->K w') :
 aJ P (storeVar T A (e5 a b c d e)) w K:=
 stJ [a,b,c,d,e] h hA hp hi hsz rfl ho hK
theorem jFV {p n:Nat} {A:Addr} {T:TypeId} {a b:UInt64} (h:J Z w0 L w) {o:Nat} (hA:A=⟨p,o,none⟩) (hp:(p,n,true)∈L) (hi:(P.info? T).isSome=true) (hsz:bE P T=2) (ho:o+2<=n) {K:zP} (hK : ∀ w',J Z w0 L w'->Mod (λx=>x=p) w w'->K w') :
 aJ P (storeVar T A (.agg #[.int .u64 a.toNat,.int .u64 b.toNat])) w K:=
 stJ [a,b] h hA hp hi hsz rfl ho hK
theorem jGI {p n:Nat} {A:Addr} {T:TypeId} {a:UInt64} (h:J Z w0 L w) {o:Nat} (hA:A=⟨p,o,none⟩) (hp:(p,n,true)∈L) (hi:(P.info? T).isSome=true) (hsz:bE P T=1) (ho:o+1<=n) {K:zP} (hK : ∀ w',J Z w0 L w'->Mod (λx=>x=p) w w'->K w') :
 aJ P (storeVar T A (.int .u64 a.toNat)) w K:=
 stJ [a] h hA hp hi hsz rfl ho hK
theorem qOM {T:TypeId} {v:Value} {n:Nat} (l:List UInt64) (h:J Z w0 L w) (hv:v.cells=(us l).toArray) (hn:l.length=n) {K:zO->zP} (hK : ∀ p w',J Z w0 ((p,n,true) :: L) w'->Mod NoB w w'->K (some ⟨p,0,none⟩) w'):aH P (Instr.box T v) w λv w'=>∃ a:zO,v = .pointer a/\K a w':=
 aQ (l:=us l) hv λp w1 hN hb=>⟨_,rfl,hK p w1 (h.new hN hb hn) hN.mod⟩
theorem gF {T:TypeId} {a b c d e:UInt64} (h:J Z w0 L w) {K:zO->zP} (hK : ∀ p w',J Z w0 ((p,5,true) :: L) w'->Mod NoB w w'->K (some ⟨p,0,none⟩) w') :
 aH P (Instr.box T (e5 a b c d e)) w λv w'=>∃ a:zO,v = .pointer a/\K a w':=qOM [a,b,c,d,e] h rfl rfl hK
theorem jHH {T:TypeId} {a b:UInt64} (h:J Z w0 L w) {K:zO->zP} (hK : ∀ p w',J Z w0 ((p,2,true) :: L) w'->Mod NoB w w'->K (some ⟨p,0,none⟩) w') :
 aH P (Instr.box T (.agg #[.int .u64 a.toNat,.int .u64 b.toNat])) w λv w'=>∃ a:zO,v = .pointer a/\K a w':=qOM [a,b] h rfl rfl hK
theorem jDN {T:TypeId} {a:UInt64} (h:J Z w0 L w) {K:zO->zP} (hK : ∀ p w',J Z w0 ((p,1,true) :: L) w'->Mod NoB w w'->K (some ⟨p,0,none⟩) w') :
 aH P (Instr.box T (.int .u64 a.toNat)) w λv w'=>∃ a:zO,v = .pointer a/\K a w':=qOM [a] h rfl rfl hK
def ZI (P:Program) (T:TypeId) (n:Nat):Prop:=∃ (i:TypeInfo) (z:Value),P.info? T=some i/\i.zero=some z/\z.cells=(us (List.replicate n 0)).toArray
theorem cF {T:TypeId} {old:Value} {n:Nat} (hz:ZI P T n) (h:J Z w0 L w) {K:zO->zP} (hK : ∀ p w',J Z w0 ((p,n,true) :: L) w'->Mod NoB w w'->K (some ⟨p,0,none⟩) w'):aH P (Instr.alloc T true old) w λv w'=>∃ a:zO,v = .pointer a/\K a w':=by
 obtain ⟨i,z,h1,h2,h3⟩:=hz
 exact aN (l:=us (List.replicate n 0)) h1 h2 h3 λp w1 hN hb=>⟨_,rfl,hK p w1 (h.new hN hb (by simp)) hN.mod⟩
def RE (w:World) (v:Value) (w':World):Prop:=∃ a b c d e:UInt64,v=e5 a b c d e/\Mod NoB w w'
def RT (w:World) (v:Value) (w':World):Prop:=∃ a b:UInt64,v = .tuple #[.int .u64 a.toNat,.int .u64 b.toNat]/\Mod NoB w w'
def RA (w:World) (v:Value) (w':World):Prop:=∃ a b:UInt64,v = .agg #[.int .u64 a.toNat,.int .u64 b.toNat]/\Mod NoB w w'
def RB1 (w:World) (v:Value) (w':World):Prop:=∃ b:Bool,v = .bool b/\Mod NoB w w'
section
variable {g:FuncId} {args:List Value} {pan:List PanicEntry->zP}
theorem cN {K:UInt64->UInt64->UInt64->UInt64->UInt64->zP} (hc:Calls P g args.toArray w (Ret (RE w))) (h:J Z w0 L w) (hK : ∀ a b c d e w',J Z w0 L w'->Mod NoB w w'->K a b c d e w') :
 aD P g args w pan λv w'=>∃ a:UInt64,∃ b:UInt64,∃ c:UInt64,∃ d:UInt64,∃ e:UInt64,v=e5 a b c d e/\K a b c d e w':=
 aB hc λv w' ⟨a,b,c,d,e,hv,hm⟩=>⟨a,b,c,d,e,hv,hK _ _ _ _ _ _ (h.mod hm) hm⟩
theorem qJI {K:UInt64->UInt64->zP} (hc:Calls P g args.toArray w (Ret (RT w))) (h:J Z w0 L w) (hK : ∀ a b w',J Z w0 L w'->Mod NoB w w'->K a b w') :
 aD P g args w pan λv w'=>∃ a:UInt64,∃ b:UInt64,v = .tuple #[.int .u64 a.toNat,.int .u64 b.toNat]/\K a b w':=
 aB hc λv w' ⟨a,b,hv,hm⟩=>⟨a,b,hv,hK _ _ _ (h.mod hm) hm⟩
theorem jGF {K:UInt64->UInt64->zP} (hc:Calls P g args.toArray w (Ret (RA w))) (h:J Z w0 L w) (hK : ∀ a b w',J Z w0 L w'->Mod NoB w w'->K a b w') :
 aD P g args w pan λv w'=>∃ a:UInt64,∃ b:UInt64,v = .agg #[.int .u64 a.toNat,.int .u64 b.toNat]/\K a b w':=
 aB hc λv w' ⟨a,b,hv,hm⟩=>⟨a,b,hv,hK _ _ _ (h.mod hm) hm⟩
theorem qDH {K:Bool->zP} (hc:Calls P g args.toArray w (Ret (RB1 w))) (h:J Z w0 L w) (hK : ∀ b w',J Z w0 L w'->Mod NoB w w'->K b w') :
 aD P g args w pan λv w'=>∃ b:Bool,v = .bool b/\K b w':=
 aB hc λv w' ⟨b,hv,hm⟩=>⟨b,hv,hK _ _ (h.mod hm) hm⟩
def RU (p n:Nat) (w:World) (v:Value) (w':World):Prop:=v = .tuple #[]/\Mod (λx=>x=p) w w'/\TB w' (p,n)
theorem qHX {p n:Nat} {K:zP} (hc:Calls P g args.toArray w (Ret (RU p n w))) (h:J Z w0 L w) (hp:(p,n,true)∈L) (hK : ∀ w',J Z w0 L w'->Mod (λx=>x=p) w w'->K w'):aD P g args w pan λv w'=>v = .tuple #[]/\K w':=
 aB hc λv w' ⟨hv,hm,hT⟩=>⟨hv,hK _ (h.turn hp hm hT) hm⟩
end
theorem dT {K:(zP)->Prop} (h:J Z w0 L w) (hK:J Z w0 L w.drew->K (Mod NoB w.drew)) : ∃ sx:zP,sx w.drew/\K sx:=⟨_,Mod.refl _ _,hK h.drew⟩
theorem qHE {A B:(zT)->Prop} (h:J Z w0 L w) (hA:A λ_ w'=>J Z w0 L w') (hB:B λ_ w'=>J Z w0 L w') : ∃ j:zT,A j/\B j:=⟨_,hA,hB⟩
def TS (w0:World) (n:Nat) (_:Nat) (v:Value) (w:World):Prop:=match v with
 | .slice a k c=>k=n/\c=n/\∃ b,a=some ⟨b,0,none⟩/\w0.heap.size<=b/\TB w (b,n)
 | .pointer a=>∃ b,a=some ⟨b,0,none⟩/\w0.heap.size<=b/\TB w (b,n)
 | _=>True
theorem TS.stable (w0:World) (n:Nat) : ∀ i v w1 w2,Mod NoB w1 w2->TS w0 n i v w1->TS w0 n i v w2:=by
 intro i v w1 w2 hm h
 unfold TS at *
 split at h
 ·obtain ⟨h1,h2,b,h3,h4,h5⟩:=h; exact ⟨h1,h2,b,h3,h4,h5.mod hm λh=>h⟩
 ·obtain ⟨b,h3,h4,h5⟩:=h; exact ⟨b,h3,h4,h5.mod hm λh=>h⟩
 ·trivial
def JP (Z:Nat->Prop) (w0:World) (L:List (Nat×Nat×Bool)) (l:List TV) (w:World):Prop:=match l with
 | [.p x,.b _]=>∃ b,x=some ⟨b,0,none⟩/\J Z w0 ((b,5,true) :: L) w
 | [.p x]=>∃ b,x=some ⟨b,0,none⟩/\J Z w0 ((b,5,true) :: L) w
 | _=>False
theorem jGU {A:(zT)->Prop} {B:zO->Bool->zP} (h:J Z w0 L w) (hA:A (JP Z w0 L)) (hB : ∀ b t w',J Z w0 ((b,5,true) :: L) w'->B (some ⟨b,0,none⟩) t w') :
 ∃ j:zT,A j/\(∀ x:zO,∀ t:Bool,∀ w':World,j [.p x,.b t] w'->B x t w'):=
 ⟨JP Z w0 L,hA,λx t w' hj=>by obtain ⟨b,rfl,hj⟩:=hj; exact hB b t w' hj⟩
theorem jBQ {A:(zT)->Prop} {B:zO->zP} (h:J Z w0 L w) (hA:A (JP Z w0 L)) (hB : ∀ b w',J Z w0 ((b,5,true) :: L) w'->B (some ⟨b,0,none⟩) w') :
 ∃ j:zT,A j/\(∀ x:zO,∀ w':World,j [.p x] w'->B x w'):=
 ⟨JP Z w0 L,hA,λx w' hj=>by obtain ⟨b,rfl,hj⟩:=hj; exact hB b w' hj⟩
def IV (Z:Nat->Prop) (w0:World) (L:List (Nat×Nat×Bool)) (lo N:Int) (l:List TV) (w:World):Prop:=match l with
 | [.i _ x]=>(lo<=x/\x<=N)/\J Z w0 L w
 | [.u64 _,.i _ x]=>(lo<=x/\x<=N)/\J Z w0 L w
 | _=>False
def MUp (N:Int) (l:List TV) (_:World):Nat:=match l with
 | [.i _ x]=>(N - x).toNat
 | [.u64 _,.i _ x]=>(N - x).toNat
 | _=>0
def MDn (l:List TV) (_:World):Nat:=match l with
 | [.i _ x]=>(x+1).toNat
 | _=>0
theorem qAU (N:Int) (h:J Z w0 L w) {lo:Int} (h0:0<=lo/\lo<=N) {Q:(zT)->(zU)->Int->zP} (hK : ∀ x w',(0<=x/\x<=N)->J Z w0 L w'->Q (IV Z w0 L 0 N) (MUp N) x w') :
 ∃ (inv:zT) (mu:zU),inv [.i .i64 lo] w/\(∀ x:Int,∀ w':World,inv [.i .i64 x] w'->Q inv mu x w'):=
 ⟨IV Z w0 L 0 N,MUp N,⟨h0,h⟩,λx w' hi=>hK x w' hi.1 hi.2⟩
theorem qPM (N:Int) (h:J Z w0 L w) {lo:Int} {q:UInt64} (h0:0<=lo/\lo<=N) {Q:(zT)->(zU)->UInt64->Int->zP} (hK : ∀ q x w',(0<=x/\x<=N)->J Z w0 L w'->Q (IV Z w0 L 0 N) (MUp N) q x w') :
 ∃ (inv:zT) (mu:zU),inv [.u64 q,.i .i64 lo] w/\(∀ q:UInt64,∀ x:Int,∀ w':World,inv [.u64 q,.i .i64 x] w'->Q inv mu q x w'):=
 ⟨IV Z w0 L 0 N,MUp N,⟨h0,h⟩,λq x w' hi=>hK q x w' hi.1 hi.2⟩
theorem jBP (N:Int) (h:J Z w0 L w) {lo:Int} (h0 : -1<=lo/\lo<=N) {Q:(zT)->(zU)->Int->zP} (hK : ∀ x w',(-1<=x/\x<=N)->J Z w0 L w'->Q (IV Z w0 L (-1) N) MDn x w') :
 ∃ (inv:zT) (mu:zU),inv [.i .i64 lo] w/\(∀ x:Int,∀ w':World,inv [.i .i64 x] w'->Q inv mu x w'):=
 ⟨IV Z w0 L (-1) N,MDn,⟨h0,h⟩,λx w' hi=>hK x w' hi.1 hi.2⟩
theorem qHM {L':List (Nat×Nat×Bool)} {N x y:Int} {k k':IntKind} {w'':World} (h:J Z w0 L' w') (hs : ∀ q∈L,q∈L') (hx:0<=y/\y<=N) (hy:x<y):IV Z w0 L 0 N [.i k y] w'/\MUp N [.i k y] w'<MUp N [.i k' x] w'':=
 ⟨⟨hx,h.sub hs⟩,by show (N - y).toNat<(N - x).toNat; omega⟩
theorem jAA {L':List (Nat×Nat×Bool)} {N x y:Int} {k k':IntKind} {q q':UInt64} {w'':World} (h:J Z w0 L' w') (hs : ∀ q∈L,q∈L') (hx:0<=y/\y<=N) (hy:x<y):IV Z w0 L 0 N [.u64 q,.i k y] w'/\MUp N [.u64 q,.i k y] w'<MUp N [.u64 q',.i k' x] w'':=
 ⟨⟨hx,h.sub hs⟩,by show (N - y).toNat<(N - x).toNat; omega⟩
theorem jEF {L':List (Nat×Nat×Bool)} {N x y:Int} {k k':IntKind} {w'':World} (h:J Z w0 L' w') (hs : ∀ q∈L,q∈L') (hx : -1<=y/\y<=N) (hy:y<x):IV Z w0 L (-1) N [.i k y] w'/\MDn [.i k y] w'<MDn [.i k' x] w'':=
 ⟨⟨hx,h.sub hs⟩,by show (y+1).toNat<(x+1).toNat; omega⟩
theorem qCD (n:Nat) {K:(Nat->Value->zP)->Prop} (h:J Z w0 L w) (hK:K (TS w n)) : ∃ ts:Nat->Value->zP,(∀ i v w1 w2,Mod NoB w1 w2->ts i v w1->ts i v w2)/\Mod NoB w w/\K ts:=⟨TS w n,TS.stable _ _,Mod.refl _ _,hK⟩
theorem qCF {wb:World} {A:zP} {B:Prop} (h:J Z w0 L wb) (hA : ∀ w,J NoB wb [] w->Mod NoB wb w->A w) (hB:B):(∀ w,Mod NoB wb w->Mod NoB wb w->A w)/\B:=⟨λw hm _=>hA w ((J.start wb).mod hm) hm,hB⟩
theorem qRT {wb:World} {n i:Nat} {A:zO->zP} (h:J Z w0 L wb) (hA : ∀ b w,J Z w0 ((b,n,true) :: L) w->wb.heap.size<=b->Mod NoB wb w->A (some ⟨b,0,none⟩) w) : ∀ p:zO,∀ w,Mod NoB wb w->Mod NoB wb w->TS wb n i (.pointer p) w->A p w:=by
 rintro p w hm _ ⟨b,rfl,hb,hT⟩
 exact hA b w ((h.mod hm).cons (λ_=>.inr (Nat.le_trans h.m.size hb)) hT) hb hm
theorem TS.add {wb:World} {n b:Nat} (hT:TB w (b,n)) (hN:wb.heap.size<=b) {Z':Nat->Prop} {L':List (Nat×Nat×Bool)} (h:J Z w0 L w) (hw:J Z' w0 L' wb):J Z w0 ((b,n,true) :: L) w:=h.cons (λ_=>.inr (Nat.le_trans hw.m.size hN)) hT
theorem TS.slc {b n i:Nat} (h:J NoB w0 ((b,n,true) :: L) w):TS w0 n i (.slice (some ⟨b,0,none⟩) n n) w:=⟨rfl,rfl,b,rfl,((h.2 _ List.mem_cons_self).1 rfl).1.elim (λh=>h.elim) λh=>h,((h.2 _ List.mem_cons_self).1 rfl).2⟩
theorem TS.ptr {b n i:Nat} (h:J NoB w0 ((b,n,true) :: L) w):TS w0 n i (.pointer (some ⟨b,0,none⟩)) w:=⟨b,rfl,((h.2 _ List.mem_cons_self).1 rfl).1.elim (λh=>h.elim) λh=>h,((h.2 _ List.mem_cons_self).1 rfl).2⟩
theorem qHU {x0 x1 x2 x3 x4 x5 x6 x7 x8 x9:UInt64} (h:J Z w0 L w) {K:Slc->zP} (hK : ∀ b w',J Z w0 ((b,10,true) :: L) w'->Mod NoB w w'->K ⟨some ⟨b,0,none⟩,10,10⟩ w') :
 aH Tryz.prog (Instr.buildSlice 187 10 #[(0,.int .u64 x0.toNat),(1,.int .u64 x1.toNat),(2,.int .u64 x2.toNat),(3,.int .u64 x3.toNat),(4,.int .u64 x4.toNat),(5,.int .u64 x5.toNat),(6,.int .u64 x6.toNat),(7,.int .u64 x7.toNat),(8,.int .u64 x8.toNat),(9,.int .u64 x9.toNat)]) w λv w'=>∃ x:Slc,v = .slice x.a x.len x.cap/\K x w':=
 qEW [x0,x1,x2,x3,x4,x5,x6,x7,x8,x9] rfl rfl (by simp) (by simp) λx b w' hN e hb ho=>by subst e; exact ⟨_,rfl,hK b w' (h.new hN hb rfl) hN.mod⟩
theorem jFN {x:Int} (hx:0<=x/\x<5) {a0 b0 a1 b1 a2 b2 a3 b3 a4 b4:UInt64} {K:UInt64->UInt64->Prop} (hK : ∀ a b,K a b) :
 ∃ a:UInt64,∃ b:UInt64,([.agg [.agg [.u64 a0,.u64 b0]],.agg [.agg [.u64 a1,.u64 b1]],.agg [.agg [.u64 a2,.u64 b2]],.agg [.agg [.u64 a3,.u64 b3]],.agg [.agg [.u64 a4,.u64 b4]]]:List TV)[x.toNat]? = some (.agg [.agg [.u64 a,.u64 b]])/\K a b:=by
 have:x=0\/x=1\/x=2\/x=3\/x=4:=by omega
 rcases this with rfl | rfl | rfl | rfl | rfl
 ·exact ⟨a0,b0,rfl,hK _ _⟩
 ·exact ⟨a1,b1,rfl,hK _ _⟩
 ·exact ⟨a2,b2,rfl,hK _ _⟩
 ·exact ⟨a3,b3,rfl,hK _ _⟩
 ·exact ⟨a4,b4,rfl,hK _ _⟩
theorem J.other {S:Nat->Prop} (h:J Z w0 L w) (hm:Mod S w w') (h1 : ∀ x,S x->w0.heap.size<=x) (h2 : ∀ q∈L,¬ S q.1):J Z w0 L w':=⟨h.1.fresh hm h1,λq hq=>⟨λe=>⟨((h.2 q hq).1 e).1,((h.2 q hq).1 e).2.mod hm (h2 q hq)⟩,(h.2 q hq).2.mod hm (h2 q hq)⟩⟩
end
end Go.Sh
end
